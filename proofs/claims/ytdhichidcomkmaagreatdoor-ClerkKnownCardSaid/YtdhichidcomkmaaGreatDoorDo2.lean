/-
  Orders of subscribers: paying.
  Conditions: none; lemmas.
-/
import Derived.Test.YtdhichidcomkmaaGreatDoorDo1
set_option linter.unusedSimpArgs false
set_option linter.unusedVariables false
namespace Go.Proofs.YtdhichidcomkmaaGreatDoor
open Go.RowKit Go.Pur Go.Clerk
open Go.Abs
set_option maxRecDepth 1000000
set_option maxHeartbeats 8000000
theorem box2 {W : World} {b : Nat} {x0 x1 : Value} {t : TypeId} (h : W.heap[b]? = some (.cells #[x0, x1] t (0, 0))) : W.cell? ⟨b, 0, none⟩ = some x0 ∧ W.cell? ⟨b, 1, none⟩ = some x1 := by
 simp [World.cell?, h]
theorem pay_do (n p : Nat) (who : Tx) (m : Nat) (d : Desk) (w : World) (hd : DeskAt w n p d) (hm : m ≤ 9999) (hpn : ∀ a, getA who d.accs = some a → a.pence ≤ 9999) :
  Calls Tryz.prog 246 #[.agg #[sV who, nV m], ptrV p] w fun e w' => DoP w n p (doPay who m d) e w' := by
 have mixed : Tryz.prog.follows .mixedOrders = true := by kernel_rfl
 obtain ⟨me, ma, vv, h1, h2, h3, h4, h5, h6, h7, h8⟩ := hd
 have hp : p < w.heap.size := (Array.getElem?_eq_some_iff.1 h1).1
 have hma : ma < w.heap.size := h7.lt
 have hb1 : Below w.heap.size w ((w.alloc (.cells #[sV who, nV m] 214)).drew) := ((Below.refl _ _).alloc (Nat.le_refl _) _).drew
 have hb2 : Below w.heap.size w (((w.alloc (.cells #[sV who, nV m] 214)).alloc (.cells #[.string ⟨#[]⟩, .int .i64 0, .int .i64 0, .bool false] 46)).drew) := (((Below.refl _ _).alloc (Nat.le_refl _) _).alloc (by simp) _).drew
 have a1 := (desk_cells ((hb1.block p hp).trans h1)).2.1
 have a2 := (desk_cells ((hb2.block p hp).trans h1)).2.1
 have k1 := lookA (h7.below hb1 hma) who
 have k2 := lookA (h7.below hb2 hma) who
 have H1 := hidC h1
 have H6 := hidC h6
 have H7 := hidC h7
 have H8 := hidC h8
 clear hb1 hb2 h1 h6 h7 h8
 obtain ⟨a0, ha0⟩ : ∃ a0, (getA who d.accs).getD ⟨[], 0, 0, false⟩ = a0 := ⟨_, rfl⟩
 obtain ⟨b0, hb0⟩ : ∃ b0, (getA who d.accs).isSome = b0 := ⟨_, rfl⟩
 have hpn' : a0.pence ≤ 9999 := by
  rw [← ha0]
  cases hg : getA who d.accs with
  | none => exact Nat.zero_le _
  | some a => exact hpn a hg
 rw [ha0, hb0] at k1 k2
 have Ha0 := hidC ha0
 have Hb0 := hidC hb0
 clear ha0 hb0 hpn
 have hR : doPay who m d = match decide (m = 0), !b0 && decide (d.accs.length = 12), decide (9999 < a0.pence + m) with
  | true, _, _ => (1, d)
  | false, true, _ => (3, d)
  | false, false, true => (16, d)
  | false, false, false => (0, { d with accs := putA ⟨who, a0.pence + m, a0.vols, false⟩ d.accs }) := by
  unfold doPay
  simp only [Ha0.out]
  have : (getA who d.accs).isNone = !b0 := by rw [← Hb0.out]; cases getA who d.accs <;> rfl
  rw [this]
  rfl
 have HR := hidC hR
 clear hR
 go_enter Tryz.func246, Tryz.ntmps246
 go_wp2_with fail
 go_cut [2, 5, 6] (fun s2 s5 s6 wx => s2 = ptrV w.heap.size ∧ s5 = ptrV (w.heap.size + 1) ∧ s6 = .bool b0 ∧ Below w.heap.size w wx ∧ wx.heap[w.heap.size]? = some (.cells #[sV who, nV m] 214 (0, 0)) ∧ wx.heap[w.heap.size + 1]? = some (.cells #[sV a0.who, nV a0.pence, nV a0.vols, .bool a0.stop] 46 (0, 0)) ∧ wx.heap.size = w.heap.size + 2)
 case first =>
  go_region
  all_goals go_wp2_with fail
  all_goals go_meet
  all_goals exact ⟨rfl, rfl, rfl, two_new w _ _⟩
 case rest =>
  obtain ⟨rfl, rfl, rfl, hB, q0, q1, hsz⟩ := hcut
  obtain ⟨e0, e1, e2, e3⟩ := desk_cells ((hB.block p hp).trans H1.out)
  have hln := (H7.out.below hB hma).lenRun (P := Tryz.prog) Tryz.underlying96 3
  rw [show (accL d.accs).length = d.accs.length by simp [accL]] at hln
  obtain ⟨g0, g1⟩ := box2 q0
  obtain ⟨f0, f1, f2, f3⟩ := box4 q1
  have z0 := boxF q1 0
  have z1 := boxF q1 1
  have z3 := boxF q1 3
  have HB := hidC hB
  have Hq := hidC q1
  clear hB q0 q1 e0 e2 e3 a1 a2 k1 k2
  by_cases hm0 : m = 0
  ·have hmi : ((m : Int) == 0) = true := by simp [hm0]
   go_wp2
   go_ret
   rw [HR.out, decide_eq_true hm0]
   exact ⟨rfl, HB.out.mono (by omega), fun h => by cases h⟩
  ·have hmi : ((m : Int) == 0) = false := by simp [hm0]
   cases hb12 : !b0 && decide (d.accs.length = 12) with
   | true =>
    obtain rfl : b0 = false := by cases b0 <;> simp_all
    have h12 : d.accs.length = 12 := by simpa using hb12
    have h12' : ((d.accs.length : Int) == 12) = true := by rw [h12]; rfl
    clear h12
    go_wp2
    go_ret
    rw [HR.out, decide_eq_false hm0, hb12]
    exact ⟨rfl, HB.out.mono (by omega), fun h => by cases h⟩
   | false =>
    have h12' : b0 = false → ((d.accs.length : Int) == 12) = false := fun h => by
     subst h
     have h9 : ¬ d.accs.length = 12 := by simpa using hb12
     rw [beq_eq_false_iff_ne]
     omega
    have Hb12 := hidC hb12
    clear hb12
    by_cases hs : 9999 < a0.pence + m
    ·have hsi : decide ((9999 : Int) < (a0.pence : Int) + (m : Int)) = true := decide_eq_true (by omega)
     cases b0 with
     | true =>
      clear h12'
      go_wp2
      go_ret
      rw [HR.out, decide_eq_false hm0, Hb12.out, decide_eq_true hs]
      exact ⟨rfl, HB.out.mono (by omega), fun h => by cases h⟩
     | false =>
      have h12'' := h12' rfl
      clear h12'
      go_wp2
      go_ret
      rw [HR.out, decide_eq_false hm0, Hb12.out, decide_eq_true hs]
      exact ⟨rfl, HB.out.mono (by omega), fun h => by cases h⟩
    ·have hsi : decide ((9999 : Int) < (a0.pence : Int) + (m : Int)) = false := decide_eq_false (by omega)
     have hm3 : Below w.heap.size w (((wc.setCell ⟨w.heap.size + 1, 0, none⟩ (sV who)).setCell ⟨w.heap.size + 1, 1, none⟩ (.int .i64 ((a0.pence : Int) + (m : Int)))).setCell ⟨w.heap.size + 1, 3, none⟩ (.bool false)).drew :=
      (((HB.out.setCell (p := ⟨w.heap.size + 1, 0, none⟩) (Nat.le_succ _) _).setCell (p := ⟨w.heap.size + 1, 1, none⟩) (Nat.le_succ _) _).setCell (p := ⟨w.heap.size + 1, 3, none⟩) (Nat.le_succ _) _).drew
     have e1' := (desk_cells ((hm3.block p hp).trans H1.out)).2.1
     obtain ⟨o, hu0, hM⟩ := updA (H7.out.below hm3 hma) ⟨who, a0.pence + m, a0.vols, false⟩
     have hu : (Instr.mapUpdate 96 (.map (some ma)) (sV who) (.agg #[sV who, .int .i64 ((a0.pence : Int) + (m : Int)), nV a0.vols, .bool false])).run Tryz.prog _ = _ := hu0
     clear hu0
     have Hm3 := hidC hm3
     have HM := hidC hM
     clear hm3 hM
     cases b0 with
     | true =>
      clear h12'
      go_wp2
      go_region
      go_wp2
      go_ret
      rw [HR.out, decide_eq_false hm0, Hb12.out, decide_eq_false hs]
      exact accs_end H1.out h2 h3 h4 h5 H6.out H7.out H8.out Hm3.out HM.out
     | false =>
      have h12'' := h12' rfl
      clear h12'
      go_wp2
      go_region
      go_wp2
      go_ret
      rw [HR.out, decide_eq_false hm0, Hb12.out, decide_eq_false hs]
      exact accs_end H1.out h2 h3 h4 h5 H6.out H7.out H8.out Hm3.out HM.out
end Go.Proofs.YtdhichidcomkmaaGreatDoor
