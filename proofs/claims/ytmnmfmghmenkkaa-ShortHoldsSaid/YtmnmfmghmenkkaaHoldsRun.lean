/-
  ShortHolds: the law, for any two texts.
  Conditions: none; lemmas.
-/
import Derived.Test.YtmnmfmghmenkkaaLaw3c
import Derived.Test.YtmnmfmghmenkkaaLaw3e
set_option linter.unusedSimpArgs false
set_option linter.unusedVariables false
namespace Go.Proofs.Ytmnmfmghmenkkaa
open Go.Abs Go.Pur
set_option maxRecDepth 100000
theorem checkW_short {l : List UInt8} (h : checkW l = 0) : l.length ≤ 10 := by
 unfold checkW at h
 split at h
 ·cases h
 ·omega
theorem leftO_is {w p : List UInt8} (h : w.length ≤ 60) : leftO w p = some (leftW w p) := by
 unfold leftO
 rw [show Nat.ble w.length 1000 = true from Nat.ble_eq_true_of_le (by omega)]
theorem holds_run {w p : List UInt8} : E Try.prog Y0 3 [.v (.string (bs w)), .v (.string (bs p))] [] = some (.v (.bool true), [], none) := by
 have e16 : ∀ (l : List UInt8) hp, E Try.prog Y0 16 [.v (.string (bs l))] hp = some (.v (.bool (decide (60 < l.length))), hp, none) := fun l hp => f16_is f16_law
 by_cases hl : 60 < w.length ∨ 60 < p.length
 ·exact f3_long (e16 w) (e16 p) (by simpa using hl)
 have hw : ¬ 60 < w.length := fun h => hl (.inl h)
 have hp : ¬ 60 < p.length := fun h => hl (.inr h)
 have e16w := e16 w
 have e16p := e16 p
 rw [decide_eq_false hw] at e16w
 rw [decide_eq_false hp] at e16p
 have e58 : ∀ hp, E Try.prog Y0 58 [.v (.string (bs w)), .v (.string (bs p))] hp = some (iv (bothW w p), hp, none) := fun hp => f58_is f58_law
 have e25 : ∀ hp, E Try.prog Y0 25 [.v (.string (bs w))] hp = some (iv (checkW w), hp, none) := fun hp => f25_is rfl
 have e26 : ∀ hp, E Try.prog Y0 26 [.v (.string (bs w))] hp = some (iv (checkW w), hp, none) := fun hp => f26_is f26_law
 have e27 : ∀ hp, E Try.prog Y0 27 [.v (.string (bs w)), .v (.string (bs p))] hp = some (.v (.bool (leftW w p)), hp, none) := fun hp => left_is (by omega) rfl
 have e28 : ∀ hp, E Try.prog Y0 28 [.v (.string (bs w)), .v (.string (bs p))] hp = some (.v (.bool (leftW w p)), hp, none) := fun hp => f28_is (f28_law (by omega) (by omega))
 obtain ⟨F, hF⟩ : ∃ F, F = 100 := ⟨_, rfl⟩
 have h57 : f57S F [w, p] = some (bothW w p) := by rw [hF]; exact f57_law
 have h58 : f58S F w p = some (bothW w p) := by rw [hF]; exact f58_law
 have h28 : f28S F w p = some (leftW w p) := by rw [hF]; exact f28_law (by omega) (by omega)
 have h27 : leftO w p = some (leftW w p) := leftO_is (by omega)
 have hF' : 12 ≤ F := by omega
 clear hF
 generalize hx : bothW w p = x at *
 by_cases hc : x = 0
 ·subst hc
  have hcw : checkW w = 0 := by
   unfold bothW at hx
   split at hx <;> assumption
  have hcp : checkW p = 0 := by
   unfold bothW at hx
   rwa [if_pos hcw] at hx
  have hw10 := checkW_short hcw
  have hp10 := checkW_short hcp
  have h18 : f18S F w p = some (leftW w p, 0) := by
   unfold f18S
   rw [h57, h27]
   simp only [Option.bind_some, decide_true]
  have h19 : f19S F w p = some (leftW w p, 0) := by
   unfold f19S
   rw [h58, h28]
   simp only [Option.bind_some, decide_true]
  have hn := plW_cntW (w := w) w.length p 0 (by omega)
  rw [List.drop_zero] at hn
  have h22 := f22_law (p := p) (by omega) hw10 h57
  have e20 : ∀ hp, E Try.prog Y0 20 [.v (.string (bs w)), .v (.string (bs p))] hp = some (.t [iv (cnt w p), iv 0], hp, none) := fun hp => f20_is (f20_law hF' hw10 hp10 h57)
  have e21 : ∀ hp, E Try.prog Y0 21 [.v (.string (bs w)), .v (.string (bs p))] hp = some (.t [iv (cnt w p), iv 0], hp, none) := fun hp => by
   rw [← hn]
   exact f21_good e58 hw10 hp10
  unfold firstW at h22
  cases hq : plW w p 0 with
  | nil =>
   rw [hq] at h22
   exact f3_walk e16w e16p (fun hp => f18_is h18) (fun hp => f19_is h19) e20 e21 (l := []) (fun hp => f22_is h22) (fun hp => f23_none e58 hw10 hp10 hq) (fun hp => f24_is (a0 := false) (a1 := false) (f24_law (by simp))) e25 e26 e27 e28
  | cons q L =>
   rw [hq] at h22
   have hl : q.2.length = p.length := plW_len (w := w) (f := 0) (by rw [hq]; exact List.mem_cons_self)
   exact f3_walk e16w e16p (fun hp => f18_is h18) (fun hp => f19_is h19) e20 e21 (l := q.2) (fun hp => f22_is h22) (fun hp => f23_some e58 hw10 hp10 hq) (fun hp => f24_is (a0 := false) (a1 := false) (f24_law (by omega))) e25 e26 e27 e28
 ·have h18 : f18S F w p = some (false, x) := by
   unfold f18S
   rw [h57]
   simp only [Option.bind_some, decide_eq_false hc]
  have h19 : f19S F w p = some (false, x) := by
   unfold f19S
   rw [h58]
   simp only [Option.bind_some, decide_eq_false hc]
  exact f3_walk e16w e16p (fun hp => f18_is h18) (fun hp => f19_is h19) (fun hp => f20_is (f20_err h57 hc)) (fun hp => f21_bad e58 hc) (l := []) (fun hp => f22_is (f22_err h57 hc)) (fun hp => f23_bad e58 hc) (fun hp => f24_is (a0 := false) (a1 := false) (f24_law (by simp))) e25 e26 e27 e28
end Go.Proofs.Ytmnmfmghmenkkaa
