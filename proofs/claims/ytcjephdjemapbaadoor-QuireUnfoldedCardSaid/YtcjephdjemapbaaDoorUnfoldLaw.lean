/-
  QuireUnfolded answers true.
  Conditions: none; lemmas.
-/
import Derived.Test.YtcjephdjemapbaaDoorUnfold14
import Derived.Test.YtcjephdjemapbaaDoorPilesB
import Derived.Test.YtcjephdjemapbaaDoorStripTab0
import Derived.Test.YtcjephdjemapbaaDoorAdapt2
set_option linter.unusedSimpArgs false
set_option linter.unusedVariables false
namespace Go.Proofs.YtcjephdjemapbaaDoor
open Go.Abs Go.Pur
set_option maxRecDepth 100000
def cmpU : List (Ck × List Int) → Nat → Bool
 | [], _ => true
 | p :: r, i => (match p.2 with
  | [x] => decide (x = (i : Int))
  | _ => false) && cmpU r (i + 1)
theorem cmpU_ok : ∀ {l : List (Ck × List Int)} {i : Nat}, cmpU l i = true → l.map (·.2) = (List.range' i l.length).map fun (j : Nat) => [(j : Int)]
 | [], i, _ => rfl
 | (c, p) :: r, i, h => by
  unfold cmpU at h
  rw [Bool.and_eq_true] at h
  have h2 := cmpU_ok h.2
  have h1 := h.1
  simp only [List.map_cons, List.length_cons, List.range'_succ, h2]
  match p, h1 with
  | [x], h1 =>
   have : x = (i : Int) := of_decide_eq_true h1
   rw [this]
def okU (s : List UInt8) : Bool := match pilesL (pileL s) s.length, unf s s.length [(pileC s, pileL s)] with
 | (r, e), cols => beqS r s && decide (e = 0) && Nat.beq cols.length (2 ^ s.length) && cmpU cols 0
theorem un_0 : (strs 0).all okU = true := by kernel_rfl
theorem un_1 : (strs 1).all okU = true := by kernel_rfl
theorem un_2 : (strs 2).all okU = true := by kernel_rfl
theorem un_3 : (strs 3).all okU = true := by kernel_rfl
theorem un_4 : (strs 4).all okU = true := by kernel_rfl
theorem un_5 : (((strs 5).drop 0).take 32).all okU = true := by kernel_rfl
theorem un_6a : (((strs 6).drop 0).take 32).all okU = true := by kernel_rfl
theorem un_6b : (((strs 6).drop 32).take 32).all okU = true := by kernel_rfl
theorem un_6 : (((strs 6).drop 0).take 64).all okU = true := all_join (a := 0) (b := 32) (c := 32) un_6a un_6b
theorem unfold_all {l : List UInt8} (h : checkE l = 0) : okU l = true := all_of un_0 un_1 un_2 un_3 un_4 un_5 un_6 h
theorem check_fol2 {k y : Nat} (hk : k ≤ 6) : checkE (foldedL k y) = 0 := by
 unfold checkE lettersE
 rw [if_neg (by simp [foldedL]; omega), if_pos]
 rw [List.all_eq_true]
 intro c hc
 obtain ⟨i, _, rfl⟩ := List.mem_map.1 hc
 split <;> rfl
theorem quireUnfolded_is {m y : Nat} (hm : m < 256) (hy : y < 256) : E Tryd.prog Y0 14 [.v (.int .u8 m), .v (.int .u8 y)] [] = some (.v (.bool true), [], none) := by
 have hk : m % 7 < 7 := Nat.mod_lt _ (by decide)
 have e42 : ∀ hp, E Tryd.prog Y0 42 [kv .u8 m, kv .u8 y] hp = some (.v (.string (bs (foldedL (m % 7) y))), hp, none) := fun hp => f42_is (foldedO_at hm hy)
 have hch : checkE (foldedL (m % 7) y) = 0 := check_fol2 (by omega)
 revert e42 hch
 generalize foldedL (m % 7) y = s
 intro e42 hch
 have hd := unfold_all hch
 have hs6 := (of_check hch).1
 have hpl := pileL_len s
 unfold okU at hd
 simp only [Bool.and_eq_true, decide_eq_true_eq] at hd
 obtain ⟨⟨⟨d1, d2⟩, d3⟩, d4⟩ := hd
 have d1 := beqS_ok d1
 have d3 := Nat.eq_of_beq_eq_true d3
 have q18 : f18S fuel s = some ((pileC s, pileL s), 0) := by
  unfold f18S pileO
  rw [if_pos hs6, hch]
  rfl
 have h4 : andI .i64 ((pileL s).length : Int) (IntKind.i64.wrap (((pileL s).length : Int) - 1)) = 0 := by
  have : ∀ k, k ≤ 6 → andI .i64 ((2 ^ k : Nat) : Int) (IntKind.i64.wrap (((2 ^ k : Nat) : Int) - 1)) = 0 := by decide +kernel
  rw [hpl]
  exact this _ hs6
 have q40 : f40S fuel (pileL s) = some (s, 0) := by
  rw [f40_ok (k := s.length) (by rw [fuel_eq]; omega) hs6 hpl h4]
  congr 1
  exact Prod.ext d1 d2
 have hshl : shlI .i64 1 (s.length : Int) = ((2 ^ s.length : Nat) : Int) := by
  have : ∀ k, k ≤ 6 → shlI .i64 1 (k : Nat) = ((2 ^ k : Nat) : Int) := by decide
  exact this _ hs6
 have e18 : ∀ hp, E Tryd.prog Y0 18 [.v (.string (bs s))] hp = some (.t [.l .fz (pileC s) (2 ^ s.length) ((pileL s).map iv), iv 0], hp, none) := fun hp => by
  have := @f18_is s hp fuel _ q18
  rw [hpl] at this
  exact this
 have e40 : ∀ hp, E Tryd.prog Y0 40 [.l .fz (pileC s) (2 ^ s.length) ((pileL s).map iv)] hp = some (.t [.v (.string (bs s)), iv 0], hp, none) := fun hp => by
  have := @f40_is false (pileC s) (pileL s) hp fuel _ q40
  rw [hpl] at this
  exact this
 exact f14_walk (N := 2 ^ s.length) e42 e18 hshl hs6 rfl hpl e40 (fun hp => f17_is works_true) (by
  rw [cmpU_ok d4, d3, List.range_eq_range'])
end Go.Proofs.YtcjephdjemapbaaDoor
