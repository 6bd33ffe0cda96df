/-
  StandBound answers true: the plain law.
  Conditions: none; lemmas.
-/
import Derived.Test.YtcdhajbhpnbdkaaDoorLaw9
import Derived.Test.YtcdhajbhpnbdkaaDoorOutLaw3
import Derived.Test.YtcdhajbhpnbdkaaDoorCmpLaw
set_option linter.unusedSimpArgs false
set_option linter.unusedVariables false
namespace Go.Proofs.YtcdhajbhpnbdkaaDoor
open Go.Abs Go.Pur
set_option maxRecDepth 100000
theorem errT_ok {n : Nat} : ∀ {l : List Int} {f : Nat} {last : Int}, incF n f l → last < f → errT n last l = 0
 | [], _, _, _, _ => rfl
 | a :: l, f, last, ⟨t, e, h1, h2, h3⟩, h => by
  subst e
  simp only [errT]
  rw [if_neg (by omega), if_neg (by omega)]
  exact errT_ok h3 (by omega)
theorem bef_irr1 {a b : List Int} (h1 : bef a b = true) (h2 : bef b a = true) : False := by
 have := bef_trans h1 h2
 rw [bef_irr] at this; cases this
theorem Best.only {P : Nat → Prop} {M : Nat} {v v' : List Int} {b b' : Bool} (h : Best P M v b) (h' : Best P M v' b') (hex : ∃ s, s < M ∧ P s) : b = true ∧ v = v' ∧ ∃ s, s < M ∧ v = bitsL s ∧ P s := by
 obtain ⟨s, hs, hP⟩ := hex
 rcases h with ⟨_, _, h⟩ | ⟨hb, s0, h1, rfl, h2, h3⟩
 ·exact absurd hP (h s hs)
 ·rcases h' with ⟨_, _, h'⟩ | ⟨hb', s1, h4, rfl, h5, h6⟩
  ·exact absurd hP (h' s hs)
  ·refine ⟨hb, ?_, s0, h1, rfl, h2⟩
   rcases h3 s1 h4 h5 with e | e
   ·exact e.symm
   ·rcases h6 s0 h1 h2 with e' | e'
    ·exact e'
    ·exact (bef_irr1 e e').elim
theorem shl64_tab : (List.range 13).all (fun t => decide (shlI .i64 1 (t : Int) = ((2 ^ t : Nat) : Int))) = true := by kernel_rfl
section
variable {pages : List Int} {room : Int} {F : Nat}
theorem f41_eq {s : Nat} (hr1 : 1 ≤ room) (hr2 : room ≤ 5) (hn : pages.length ≤ 12) (hc : chk room pages = 0) (hs : s < 2 ^ pages.length) (hF : 1000 < F) : f41S F room pages (bitsL s) = some (bndT room pages (bitsL s), 0) := by
 have hl : (bitsL s).length ≤ 12 := by rw [bitsL_len, ← bitsN_len]; exact bitsN_le
 obtain ⟨r, e86, e86a, e86b, e86c⟩ := @f86_eq pages (bitsL s) room F (by omega) (by omega) hF
 have he : errA room pages (bitsL s) = 0 := by
  unfold errA
  rw [if_pos hc]
  exact errT_ok (bitsL_inc hs) (by decide)
 obtain ⟨S, s1, s2, s3⟩ := e86c (by rw [e86a, he])
 unfold f41S
 rw [bindS e86]
 obtain ⟨r1, r2⟩ := r
 simp only at e86a s2
 subst e86a s2
 dsimp only
 simp only [he, obind, decide_true]
 rw [bindS (f87_eq hr1 hr2 hn s1 hF), s3]
end
end Go.Proofs.YtcdhajbhpnbdkaaDoor
