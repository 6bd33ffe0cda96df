/-
  Jobs by numbers: what is made; run, members, again: the plain laws.
  Conditions: none; lemmas.
-/
import Derived.Test.YtcdhajbhpnbdkaaDoorOut1
import Derived.Test.YtcdhajbhpnbdkaaDoorWays
import Derived.Test.YtcdhajbhpnbdkaaDoorSteps
set_option linter.unusedSimpArgs false
set_option linter.unusedVariables false
namespace Go.Proofs.YtcdhajbhpnbdkaaDoor
open Go.Abs Go.Pur
set_option maxRecDepth 100000
def byte (x : Int) : Prop := 0 ≤ x ∧ x ≤ 255
theorem tmod_range {x m : Int} (hx : 0 ≤ x) (hm : 0 < m) : 0 ≤ Int.tmod x m ∧ Int.tmod x m < m :=
 ⟨Int.tmod_nonneg m hx, Int.tmod_lt_of_pos x hm⟩
theorem madeL_range {ps : List Int} {n : Nat} (hps : ∀ p ∈ ps, byte p) : ∀ q ∈ madeL ps n, 0 ≤ q ∧ q ≤ 5 := fun q hq => by
 unfold madeL at hq
 obtain ⟨p, hp, rfl⟩ := List.mem_map.1 hq
 have hb := hps p (List.mem_of_mem_take hp)
 unfold byte at hb
 rw [wrapN (by omega) (by omega)]
 have := tmod_range (x := p) (m := 6) hb.1 (by decide)
 omega
theorem made_ok {room times r a : Int} {ps : List Int} (h1 : 1 ≤ room) (h2 : room ≤ 5) (h3 : 0 ≤ times) (h4 : times ≤ 12) (hr : byte r) (ha : byte a) (hps : ∀ p ∈ ps, byte p) :
  ∃ (k : Int) (pages : List Int), madeS room times r a ps = some (k, pages) ∧ 1 ≤ k ∧ k ≤ room ∧ (pages.length : Int) ≤ times ∧ ∀ q ∈ pages, 0 ≤ q ∧ q ≤ 5 := by
 unfold byte at hr ha
 have e1 := tmod_range (x := r) (m := room) hr.1 (by omega)
 have e2 := tmod_range (x := a) (m := times + 1) ha.1 (by omega)
 unfold madeS
 rw [wrapN (z := times + 1) (by omega) (by omega), wrapN (z := a) (by omega) (by omega), wrapN (z := r) (by omega) (by omega), decide_eq_false (show ¬ room = 0 by omega), decide_eq_false (show ¬ times + 1 = 0 by omega)]
 obtain ⟨n, hn⟩ := Int.eq_ofNat_of_zero_le e2.1
 rw [hn]
 have hn12 : n ≤ 12 := by omega
 refine ⟨IntKind.i64.wrap (1 + Int.tmod r room), madeL ps n, ?_, ?_, ?_, ?_, madeL_range hps⟩
 ·show (match Nat.ble n 12 with | true => _ | false => none) = _
  rw [ble_true hn12]
 ·rw [wrapN (by omega) (by omega)]; omega
 ·rw [wrapN (by omega) (by omega)]; omega
 ·unfold madeL; simp; omega
theorem chk_intro {k : Int} {pages : List Int} (h1 : 1 ≤ k) (h2 : k ≤ 5) (h3 : pages.length ≤ 12) (h4 : ∀ q ∈ pages, 0 ≤ q ∧ q ≤ 5) : chk k pages = 0 := by
 unfold chk
 rw [if_pos ⟨h1, h2⟩, if_pos h3, if_pos h4]
end Go.Proofs.YtcdhajbhpnbdkaaDoor
