/-
  short.Left.
  Conditions: none; lemmas.
-/
import Derived.Test.YtjeadhfponlnnaaGreatDoorDo1
import Derived.LoopTactic
set_option linter.unusedSimpArgs false
set_option linter.unusedVariables false
namespace Go.Proofs.YtjeadhfponlnnaaGreatDoor
open Go.RowKit Go.Pur Go.Clerk
open Go.Abs
set_option maxRecDepth 1000000
set_option maxHeartbeats 8000000
def Drew (W W' : World) : Prop := W'.heap = W.heap ∧ W'.os = W.os ∧ W'.tape = W.tape ∧ W'.output = W.output
theorem Drew.refl (W : World) : Drew W W := ⟨rfl, rfl, rfl, rfl⟩
theorem Drew.drew {W W' : World} (h : Drew W W') : Drew W W'.drew := h
theorem Drew.trans {W W' W'' : World} (h : Drew W W') (h' : Drew W' W'') : Drew W W'' := ⟨h'.1.trans h.1, h'.2.1.trans h.2.1, h'.2.2.1.trans h.2.2.1, h'.2.2.2.trans h.2.2.2⟩
theorem Drew.below {W W' : World} (h : Drew W W') (n : Nat) : Below n W W' := ⟨h.2.1, h.2.2.1, h.2.2.2, by rw [h.1]; exact Nat.le_refl _, fun k _ => by rw [h.1]⟩
def LP (w : World) (b : Bool) (e : Ending) (w' : World) : Prop := e = .returned (.bool b) ∧ Drew w w'
theorem leftC_cons {x c : UInt8} {w p : Tx} : leftC (x :: w) (c :: p) = if x = c then leftC w p else leftC w (c :: p) := by
 conv => lhs; unfold leftC
 by_cases h : x = c
 ·rw [decide_eq_true h, if_pos h]
 ·rw [decide_eq_false h, if_neg h]
theorem leftC_nil {w : Tx} : leftC w [] = true := by unfold leftC; rfl
theorem leftC_nilw {c : UInt8} {p : Tx} : leftC [] (c :: p) = false := by unfold leftC; rfl
theorem drop_cons {α : Type} [Inhabited α] {l : List α} {i : Nat} (h : i < l.length) : l.drop i = l[i] :: l.drop (i + 1) := by rw [List.drop_eq_getElem_cons h]
theorem bs_at {l : Tx} {i : Nat} (h : i < l.length) (h' : i < (bs l).size) : (bs l)[i]'h' = l[i] := by
 show (bs l).data[i] = _
 simp [bs]
theorem left_calls (wd pt : Tx) (w : World) (hl : wd.length ≤ 100000) : Calls Tryz.prog 238 #[sV wd, sV pt] w fun e w' => LP w (leftC wd pt) e w' := by
 have mixed : Tryz.prog.follows .mixedOrders = true := by kernel_rfl
 obtain ⟨T, hT⟩ : ∃ T, leftC wd pt = T := ⟨_, rfl⟩
 rw [hT]
 have HT := hidC hT
 clear hT
 go_enter Tryz.func238, Tryz.ntmps238
 go_wp2_with fail
 go_loopg [1, 5] (wd.length + 1) (fun gk s1 s5 wx => ∃ (i : Nat) (q : Tx), s1 = sV q ∧ s5 = .int .i64 i ∧ i ≤ wd.length ∧ leftC (wd.drop i) q = T ∧ Drew w wx ∧ wd.length - i < gk)
 case atStart => exact ⟨0, pt, rfl, rfl, Nat.zero_le _, HT.out, Drew.refl _, by omega⟩
 case round =>
  obtain ⟨i, q, rfl, rfl, hi, hq, hD, hg⟩ := hrel
  obtain ⟨g', rfl⟩ : ∃ g', gk = g' + 1 := ⟨gk - 1, by omega⟩
  have HD := hidC hD
  clear hD
  by_cases hlt : i < wd.length
  ·cases q with
   | nil =>
    rw [leftC_nil] at hq
    have HQ := hidC hq
    clear hq
    have hlt' : decide ((i : Int) < (wd.length : Int)) = true := decide_eq_true (by omega)
    go_wp2
    go_ret
    exact ⟨by rw [← HQ.out]; rfl, HD.out⟩
   | cons c q =>
    have hlt' : decide ((i : Int) < (wd.length : Int)) = true := decide_eq_true (by omega)
    have hex : (bs (c :: q)).extract 1 (q.length + 1) = bs q := by rw [bs_extract]; simp
    have hii : ((i + 1 : Nat) : Int) = (i : Int) + 1 := by omega
    have Hii := hidC hii
    clear hii
    have hlt2 : (i : Int) < (wd.length : Int) := by omega
    rw [drop_cons hlt, leftC_cons] at hq
    have HQ := hidC hq
    clear hq
    have hx1 := bs_at (l := wd) (i := i) hlt (by rw [bs_size]; exact hlt)
    obtain ⟨x, hx⟩ : ∃ x, wd[i] = x := ⟨_, rfl⟩
    rw [hx] at hx1 HQ
    have hc1 := bs_at (l := c :: q) (i := 0) (by simp) (by rw [bs_size]; simp)
    rw [List.getElem_cons_zero] at hc1
    clear hx
    by_cases hxc : x = c
    ·subst hxc
     rw [if_pos rfl] at HQ
     have hxe : (((x.toNat : Nat) : Int) == ((x.toNat : Nat) : Int)) = true := by simp
     go_wp2_with fail
     go_upto_region 4 with fail
     go_region
     go_wp2
     go_roundg g'
     case measure => omega
     case rel => exact ⟨i + 1, q, by first | rfl | rw [hex], by rw [Hii.out], by omega, HQ.out, HD.out.drew, by omega⟩
    ·rw [if_neg hxc] at HQ
     have hxe : (((x.toNat : Nat) : Int) == ((c.toNat : Nat) : Int)) = false := by
      rw [beq_eq_false_iff_ne]
      intro h
      exact hxc (UInt8.toNat_inj.1 (by omega))
     have Hxc := hidC hxc
     clear hxc
     go_wp2_with fail
     go_upto_region 4 with fail
     go_region
     go_wp2
     go_roundg g'
     case measure => omega
     case rel => exact ⟨i + 1, c :: q, rfl, by rw [Hii.out], by omega, HQ.out, HD.out.drew, by omega⟩
  ·have hi2 : wd.drop i = [] := List.drop_eq_nil_of_le (by omega)
   have hlt' : decide ((i : Int) < (wd.length : Int)) = false := decide_eq_false (by omega)
   rw [hi2] at hq
   cases q with
   | nil =>
    rw [leftC_nil] at hq
    have HQ := hidC hq
    clear hq
    go_wp2
    go_ret
    exact ⟨by rw [← HQ.out]; rfl, HD.out⟩
   | cons c q =>
    rw [leftC_nilw] at hq
    have HQ := hidC hq
    clear hq
    go_wp2
    go_ret
    exact ⟨by rw [← HQ.out]; rfl, HD.out⟩
end Go.Proofs.YtjeadhfponlnnaaGreatDoor
