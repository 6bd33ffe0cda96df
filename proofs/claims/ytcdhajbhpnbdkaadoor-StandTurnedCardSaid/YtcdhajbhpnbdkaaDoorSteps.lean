/-
  Steps of plain functions.
  Conditions: none; lemmas.
-/
import Derived.Test.YtcdhajbhpnbdkaaDoorAdapt
import Derived.Test.YtcdhajbhpnbdkaaDoorWays
set_option linter.unusedSimpArgs false
set_option linter.unusedVariables false
namespace Go.Proofs.YtcdhajbhpnbdkaaDoor
open Go.Abs Go.Pur
set_option maxRecDepth 100000
theorem app1_at {α : Type} {l : List α} {v : α} (h : l.length ≤ 1000000) : app1 l v = some (l ++ [v]) := by
 unfold app1
 rw [show Nat.ble l.length 1000000 = true from ble_true h]
theorem gI_at {α : Type} {l : List α} {i : Nat} (h : i < l.length) : gI l (i : Int) = some l[i] := by
 show l[i]? = some l[i]
 rw [List.getElem?_eq_getElem h]
theorem onS_at {α : Type} {l : List Int} {x : α} (h : l.length < 1000000000) : onS l x = some x := by
 unfold onS short
 rw [show Nat.ble (l.length + 1) 1000000000 = true from ble_true h]
theorem onT_at {α : Type} {l : List Int} {t : Nat} {f : Nat → α} (h : l.length < 1000000000) (ht : t ≤ l.length) : onT l (t : Int) f = some (f t) := by
 show (match short l, Nat.ble t l.length with | true, true => some (f t) | _, _ => none) = some (f t)
 unfold short
 rw [show Nat.ble (l.length + 1) 1000000000 = true from ble_true h, show Nat.ble t l.length = true from ble_true ht]
theorem onB_at {α : Type} {s : Nat} {f : Nat → α} (h : s < 4096) : onB (s : Int) f = some (f s) := by
 show (match Nat.ble (s + 1) 4096 with | true => some (f s) | false => none) = some (f s)
 rw [show Nat.ble (s + 1) 4096 = true from ble_true h]
theorem wrapN {z : Int} (h1 : -1000000000000 ≤ z) (h2 : z ≤ 1000000000000) : IntKind.i64.wrap z = z := wrap64 (by omega) (by omega)
section
variable {pages : List Int}
theorem getD_at {i : Nat} (h : i < pages.length) : pages.getD i 0 = pages[i] := by simp [List.getD_eq_getElem?_getD, List.getElem?_eq_getElem h]
end
theorem mul_small {a b : Int} (h1 : 0 ≤ a) (h2 : a ≤ 5) (h3 : 0 ≤ b) (h4 : b ≤ 1000) : 0 ≤ a * b ∧ a * b ≤ 5000 :=
 ⟨Int.mul_nonneg h1 h3, Int.le_trans (Int.mul_le_mul_of_nonneg_right h2 h3) (by omega)⟩
theorem bindS {α β : Type} {o : Option α} {a : α} {f : α → Option β} (h : o = some a) : o.bind f = f a := by subst h; rfl
theorem obind {α β : Type} (a : α) (f : α → Option β) : (some a).bind f = f a := bindS (Eq.refl (some a))
theorem bitsL_mem {s : Nat} {t : Int} : t ∈ bitsL s ↔ ∃ n : Nat, t = (n : Int) ∧ n < 12 ∧ s.testBit n = true := by
 unfold bitsL bitsN
 rw [List.mem_map]
 constructor
 ·rintro ⟨n, h, rfl⟩
  rw [List.mem_filter, List.mem_range] at h
  exact ⟨n, rfl, h.1, h.2⟩
 ·rintro ⟨n, rfl, h1, h2⟩
  exact ⟨n, List.mem_filter.2 ⟨List.mem_range.2 h1, h2⟩, rfl⟩
theorem bitsL_len {s : Nat} : (bitsL s).length = cnt s := by simp [bitsL, bitsN_len]
end Go.Proofs.YtcdhajbhpnbdkaaDoor
