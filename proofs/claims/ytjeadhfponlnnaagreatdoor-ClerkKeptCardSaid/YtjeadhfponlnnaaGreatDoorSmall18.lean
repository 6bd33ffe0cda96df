/-
  Parts of Tell: invalid, Clip, the deferred closure.
  Conditions: none; lemmas.
-/
import Derived.Test.YtjeadhfponlnnaaGreatDoorClone51
import Derived.Defers
set_option linter.unusedSimpArgs false
set_option linter.unusedVariables false
namespace Go.Proofs.YtjeadhfponlnnaaGreatDoor
open Go.RowKit Go.Pur Go.Clerk
open Go.Abs
set_option maxRecDepth 1000000
set_option maxHeartbeats 8000000
theorem invalid_calls (o now : Nat) (w : World) (h0 : w.cell? ⟨o, 0, none⟩ = some (ptrV now)) : Calls Tryz.prog 49 #[ptrV o] w fun e w' => e = .returned (.bool false) ∧ w' = w := by
 have mixed : Tryz.prog.follows .mixedOrders = true := by kernel_rfl
 go_enter Tryz.func49, Tryz.ntmps49
 go_wp2
 all_goals go_ret
 all_goals exact ⟨rfl, rfl⟩
theorem clip53_calls (ao : Option Addr) (n c : Nat) (w : World) (hc : n ≤ c) : Calls Tryz.prog 53 #[.slice ao n c] w fun e w' => e = .returned (.slice ao n n) ∧ w' = w := by
 have mixed : Tryz.prog.follows .mixedOrders = true := by kernel_rfl
 have h1 : (0 : Int) ≤ n := by omega
 have h2 : (n : Int) ≤ c := by omega
 have h3 : n ≤ n := Nat.le_refl _
 go_enter Tryz.func53, Tryz.ntmps53
 go_wp2
 go_ret
 exact ⟨rfl, rfl⟩
theorem clip54_calls (ao : Option Addr) (n c : Nat) (w : World) (hc : n ≤ c) : Calls Tryz.prog 54 #[.slice ao n c] w fun e w' => e = .returned (.slice ao n n) ∧ w' = w := by
 have mixed : Tryz.prog.follows .mixedOrders = true := by kernel_rfl
 have h1 : (0 : Int) ≤ n := by omega
 have h2 : (n : Int) ≤ c := by omega
 have h3 : n ≤ n := Nat.le_refl _
 go_enter Tryz.func54, Tryz.ntmps54
 go_wp2
 go_ret
 exact ⟨rfl, rfl⟩
theorem tail52_ok (t4 t7 t2 : Nat) (w : World) (h4 : w.cell? ⟨t4, 0, none⟩ = some (nV 0)) :
  CallsD Tryz.prog 52 #[.pointer (some ⟨t4, 0, none⟩), .pointer (some ⟨t7, 0, none⟩), .pointer (some ⟨t2, 0, none⟩)] .returning w fun e u' w' => u' = .returning ∧ e = .returned (.tuple #[]) ∧ w' = w := by
 have mixed : Tryz.prog.follows .mixedOrders = true := by kernel_rfl
 have hz : (((0 : Nat) : Int) != 0) = false := rfl
 go_enter_d Tryz.func52, Tryz.ntmps52
 go_wp2
 go_end0
 exact ⟨rfl, rfl⟩
theorem tail52_err (t4 t7 t2 o now0 r : Nat) (x : Value) (w : World) (h4 : w.cell? ⟨t4, 0, none⟩ = some (nV (r + 1))) (h7 : w.cell? ⟨t7, 0, none⟩ = some (ptrV now0)) (h2 : w.cell? ⟨t2, 0, none⟩ = some (ptrV o)) (ho : w.cell? ⟨o, 0, none⟩ = some x) (hz : w.frozen? ⟨o, 0, none⟩ = false) :
  CallsD Tryz.prog 52 #[.pointer (some ⟨t4, 0, none⟩), .pointer (some ⟨t7, 0, none⟩), .pointer (some ⟨t2, 0, none⟩)] .returning w fun e u' w' => u' = .returning ∧ e = .returned (.tuple #[]) ∧ w' = w.setCell ⟨o, 0, none⟩ (ptrV now0) := by
 have mixed : Tryz.prog.follows .mixedOrders = true := by kernel_rfl
 have hne : (((r + 1 : Nat) : Int) != 0) = true := bne_iff_ne.2 (by omega)
 go_enter_d Tryz.func52, Tryz.ntmps52
 go_wp2
 go_end0
 exact ⟨rfl, rfl⟩
end Go.Proofs.YtjeadhfponlnnaaGreatDoor
