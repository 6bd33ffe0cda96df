/-
  Orders of subscribers.
  Orders of subscribers: paying.
  Orders of headwords: giving, coming.
  Orders of headwords: coming.
  Conditions: none; definitions and lemmas.
-/
import Derived.Test.YtjeadhfponlnnaaGreatDoorDesk14
import Derived.Test.YtjeadhfponlnnaaGreatDoorChecked
import Derived.WalkKit
import Derived.Deep.LoopGhost
import Derived.Deep.DeepMust
import Derived.Deep.RegionHeld3
import Derived.Deep.DeepCutAuto
import Derived.Deep.QuietTactic
import Derived.BigQuiet
import Derived.BigRegion
import Derived.StillTailTactics
import Derived.RegionTactic
import Derived.Sort.AtCall
set_option linter.unusedSimpArgs false
set_option linter.unusedVariables false
namespace Go.Proofs.YtjeadhfponlnnaaGreatDoor
open Go.RowKit Go.Pur Go.Clerk
open Go.Abs
set_option maxRecDepth 1000000
set_option maxHeartbeats 8000000
def DoP (w : World) (n p : Nat) (r : Nat × Desk) (e : Ending) (w' : World) : Prop := e = .returned (nV r.1) ∧ Below n w w' ∧ (r.1 = 0 → DeskAt w' n p r.2)
theorem getA_kv {k : Tx} : ∀ {l : List Acc}, kGet k (accL l) = getA k l
 | [] => rfl
 | e :: l => by
  unfold getA
  show (match decide (e.who = k) with | true => some e | false => kGet k (accL l)) = _
  rw [getA_kv]
  cases decide (e.who = k) <;> rfl
theorem putA_kv {a : Acc} : ∀ {l : List Acc}, kSet a.who a (accL l) = accL (putA a l)
 | [] => rfl
 | e :: l => by
  unfold putA
  show (match decide (e.who = a.who) with | true => (a.who, a) :: accL l | false => (e.who, e) :: kSet a.who a (accL l)) = _
  rw [putA_kv]
  cases decide (e.who = a.who) <;> rfl
theorem getE_kv {k : Tx} : ∀ {l : List Ent}, kGet k (entL l) = getE k l
 | [] => rfl
 | e :: l => by
  unfold getE
  show (match decide (e.word = k) with | true => some e | false => kGet k (entL l)) = _
  rw [getE_kv]
  cases decide (e.word = k) <;> rfl
theorem putE_kv {a : Ent} : ∀ {l : List Ent}, kSet a.word a (entL l) = entL (putE a l)
 | [] => rfl
 | e :: l => by
  unfold putE
  show (match decide (e.word = a.word) with | true => (a.word, a) :: entL l | false => (e.word, e) :: kSet a.word a (entL l)) = _
  rw [putE_kv]
  cases decide (e.word = a.word) <;> rfl
theorem getA_who {k : Tx} {a : Acc} : ∀ {l : List Acc}, getA k l = some a → a.who = k
 | [], h => by cases h
 | e :: l, h => by
  unfold getA at h
  split at h
  ·rename_i he; cases h; exact of_decide_eq_true he
  ·exact getA_who h
theorem getE_word {k : Tx} {a : Ent} : ∀ {l : List Ent}, getE k l = some a → a.word = k
 | [], h => by cases h
 | e :: l, h => by
  unfold getE at h
  split at h
  ·rename_i he; cases h; exact of_decide_eq_true he
  ·exact getE_word h
theorem desk_cells {W : World} {p me ma : Nat} {vv : Value} {c : UInt8} (h1 : W.heap[p]? = some (.cells #[.map (some me), .map (some ma), vv, .int .u8 c.toNat] 98 (0, 0))) :
  W.cell? ⟨p, 0, none⟩ = some (.map (some me)) ∧ W.cell? ⟨p, 1, none⟩ = some (.map (some ma)) ∧ W.cell? ⟨p, 2, none⟩ = some vv ∧ W.cell? ⟨p, 3, none⟩ = some (.int .u8 c.toNat) := by
 simp [World.cell?, h1]
theorem lookA {W : World} {ma : Nat} {l : List Acc} (h : MapAt W ma accV (accL l)) (who : Tx) : (Instr.lookup 96 (.map (some ma)) (sV who) true).run Tryz.prog W = .ok (.tuple #[accV ((getA who l).getD ⟨[], 0, 0, false⟩), .bool (getA who l).isSome]) W := by
 have := h.look (P := Tryz.prog) (t := 96) (kt := 9) (et := 46) (d := ⟨[], 0, 0, false⟩) (by kernel_rfl) Tryz.underlying9 (by kernel_rfl) (fun _ => rfl) who true
 rw [getA_kv] at this
 exact this
theorem updA {W : World} {ma : Nat} {l : List Acc} (h : MapAt W ma accV (accL l)) (a : Acc) : ∃ o, (Instr.mapUpdate 96 (.map (some ma)) (sV a.who) (accV a)).run Tryz.prog W = .ok () (itSet W ma o) ∧ MapAt (itSet W ma o) ma accV (accL (putA a l)) := by
 obtain ⟨o, h1, h2⟩ := h.upd (P := Tryz.prog) (t := 96) (kt := 9) (et := 46) (by kernel_rfl) Tryz.underlying9 a.who a
 rw [putA_kv] at h2
 exact ⟨o, h1, h2⟩
theorem two_new (w : World) (A B : Obj) : Below w.heap.size w ((w.alloc A).alloc B).drew ∧ ((w.alloc A).alloc B).drew.heap[w.heap.size]? = some A ∧ ((w.alloc A).alloc B).drew.heap[w.heap.size + 1]? = some B ∧ ((w.alloc A).alloc B).drew.heap.size = w.heap.size + 2 := by
 refine ⟨(((Below.refl _ _).alloc (Nat.le_refl _) _).alloc (by simp) _).drew, ?_, ?_, ?_⟩
 ·show ((w.heap.push A).push B)[w.heap.size]? = _
  rw [Array.getElem?_push, if_neg (by simp), Array.getElem?_push, if_pos rfl]
 ·show ((w.heap.push A).push B)[w.heap.size + 1]? = _
  rw [Array.getElem?_push, if_pos (by simp)]
 ·show ((w.heap.push A).push B).size = _
  simp
theorem box4 {W : World} {b : Nat} {x0 x1 x2 x3 : Value} {t : TypeId} (h : W.heap[b]? = some (.cells #[x0, x1, x2, x3] t (0, 0))) : W.cell? ⟨b, 0, none⟩ = some x0 ∧ W.cell? ⟨b, 1, none⟩ = some x1 ∧ W.cell? ⟨b, 2, none⟩ = some x2 ∧ W.cell? ⟨b, 3, none⟩ = some x3 := by
 simp [World.cell?, h]
theorem box1 {W : World} {b : Nat} {x0 : Value} {t : TypeId} (h : W.heap[b]? = some (.cells #[x0] t (0, 0))) : W.cell? ⟨b, 0, none⟩ = some x0 := by
 simp [World.cell?, h]
theorem boxF {W : World} {b : Nat} {cs : Array Value} {t : TypeId} (h : W.heap[b]? = some (.cells cs t (0, 0))) (i : Nat) : W.frozen? ⟨b, i, none⟩ = false := by
 simp [World.frozen?, h]
theorem accs_end {w W : World} {n p me ma : Nat} {vv : Value} {d : Desk} {o : Obj} {l : List Acc} (h1 : w.heap[p]? = some (.cells #[.map (some me), .map (some ma), vv, .int .u8 d.closed.toNat] 98 (0, 0))) (h2 : n ≤ p) (h3 : n ≤ me) (h4 : n ≤ ma) (h5 : me ≠ ma)
  (h6 : MapAt w me entV (entL d.ents)) (h7 : MapAt w ma accV (accL d.accs)) (h8 : VolsAt w n vv d.vols) (hb : Below w.heap.size w W) (hM : MapAt (itSet W ma o) ma accV (accL l)) : DoP w n p (0, { d with accs := l }) (.returned (.int .i64 0)) (itSet W ma o) := by
 have hp : p < w.heap.size := (Array.getElem?_eq_some_iff.1 h1).1
 have hpm : p ≠ ma := fun e => by
  obtain ⟨es, c, hm, _⟩ := h7.len
  rw [← e, h1] at hm
  cases hm
 have h8' := h8.but (X := fun _ => False) (But.of hb) (Nat.le_refl _) (fun _ h => h.elim)
 obtain ⟨es, c, hm, _⟩ := h7.len
 have hm' : W.heap[ma]? = some (.map es c) := (hb.block ma h7.lt).trans hm
 have hX : But (· = ma) W.heap.size W (itSet W ma o) := ⟨rfl, rfl, rfl, by simp [itSet], fun k _ hk => itSet_other hk⟩
 refine ⟨rfl, itSet_below (hb.mono (by omega)) h4, fun _ => ⟨me, ma, vv, ?_, h2, h3, h4, h5, ?_, hM, h8'.but hX (Nat.le_refl _) (far_map hm')⟩⟩
 ·rw [itSet_other hpm, hb.block p hp]
  exact h1
 ·exact (h6.below hb h6.lt).eqb (itSet_other h5)
theorem stop_do (n p : Nat) (who : Tx) (d : Desk) (w : World) (hd : DeskAt w n p d) : Calls Tryz.prog 247 #[.agg #[sV who], ptrV p] w fun e w' => DoP w n p (doStop who d) e w' := by
 have mixed : Tryz.prog.follows .mixedOrders = true := by kernel_rfl
 obtain ⟨me, ma, vv, h1, h2, h3, h4, h5, h6, h7, h8⟩ := hd
 have hp : p < w.heap.size := (Array.getElem?_eq_some_iff.1 h1).1
 have hma : ma < w.heap.size := h7.lt
 have hb1 : Below w.heap.size w ((w.alloc (.cells #[sV who] 216)).drew) := ((Below.refl _ _).alloc (Nat.le_refl _) _).drew
 have hb2 : Below w.heap.size w (((w.alloc (.cells #[sV who] 216)).alloc (.cells #[.string ⟨#[]⟩, .int .i64 0, .int .i64 0, .bool false] 46)).drew) := (((Below.refl _ _).alloc (Nat.le_refl _) _).alloc (by simp) _).drew
 have a1 := (desk_cells ((hb1.block p hp).trans h1)).2.1
 have a2 := (desk_cells ((hb2.block p hp).trans h1)).2.1
 have k1 := lookA (h7.below hb1 hma) who
 have k2 := lookA (h7.below hb2 hma) who
 have H1 := hidC h1
 have H6 := hidC h6
 have H7 := hidC h7
 have H8 := hidC h8
 clear hb1 hb2 h1 h6 h7 h8
 obtain ⟨a0, ha0⟩ : ∃ a0, (getA who d.accs).getD ⟨[], 0, 0, false⟩ = a0 := ⟨_, rfl⟩
 obtain ⟨b0, hb0⟩ : ∃ b0, (getA who d.accs).isSome = b0 := ⟨_, rfl⟩
 rw [ha0, hb0] at k1 k2
 have Ha0 := hidC ha0
 have Hb0 := hidC hb0
 clear ha0 hb0
 go_enter Tryz.func247, Tryz.ntmps247
 go_wp2_with fail
 go_cut [2, 5, 6] (fun s2 s5 s6 wx => s2 = ptrV w.heap.size ∧ s5 = ptrV (w.heap.size + 1) ∧ s6 = .bool b0 ∧ Below w.heap.size w wx ∧ wx.heap[w.heap.size]? = some (.cells #[sV who] 216 (0, 0)) ∧ wx.heap[w.heap.size + 1]? = some (.cells #[sV a0.who, nV a0.pence, nV a0.vols, .bool a0.stop] 46 (0, 0)) ∧ wx.heap.size = w.heap.size + 2)
 case first =>
  go_region
  all_goals go_wp2_with fail
  all_goals go_meet
  all_goals exact ⟨rfl, rfl, rfl, two_new w _ _⟩
 case rest =>
  obtain ⟨rfl, rfl, rfl, hB, q0, q1, hsz⟩ := hcut
  obtain ⟨e0, e1, e2, e3⟩ := desk_cells ((hB.block p hp).trans H1.out)
  have g0 := box1 q0
  obtain ⟨f0, f1, f2, f3⟩ := box4 q1
  have f4 := boxF q1 3
  have HB := hidC hB
  have Hq := hidC q1
  clear hB q0 q1 e0 e2 e3 a1 a2 k1 k2
  cases b0 with
  | false =>
   go_wp2
   go_ret
   have hR : doStop who d = (2, d) := by
    unfold doStop
    cases hg : getA who d.accs with
    | none => rfl
    | some a => rw [hg] at Hb0; exact absurd Hb0.out (by simp)
   rw [hR]
   exact ⟨rfl, HB.out.mono (by omega), fun h => by cases h⟩
  | true =>
   obtain ⟨a, hg⟩ : ∃ a, getA who d.accs = some a := Option.isSome_iff_exists.1 Hb0.out
   obtain rfl : a = a0 := by rw [← Ha0.out, hg]; rfl
   have hw := getA_who hg
   obtain ⟨aw, apn, av, ast⟩ := a
   obtain rfl : aw = who := hw
   cases ast with
   | true =>
    have hR : doStop aw d = (6, d) := by
     unfold doStop
     rw [hg]
    have HR := hidC hR
    have Hg := hidC hg
    clear hR hg
    go_wp2
    go_ret
    rw [HR.out]
    exact ⟨rfl, HB.out.mono (by omega), fun h => by cases h⟩
   | false =>
    have hR : doStop aw d = (0, { d with accs := putA ⟨aw, apn, av, true⟩ d.accs }) := by
     unfold doStop
     rw [hg]
    have hm3 : Below w.heap.size w (wc.setCell ⟨w.heap.size + 1, 3, none⟩ (.bool true)).drew := (HB.out.setCell (Nat.le_succ _) _).drew
    have e1' := (desk_cells ((hm3.block p hp).trans H1.out)).2.1
    obtain ⟨o, hu, hM⟩ := updA (H7.out.below hm3 hma) ⟨aw, apn, av, true⟩
    have HR := hidC hR
    have Hg := hidC hg
    have Hm3 := hidC hm3
    have HM := hidC hM
    clear hR hg hm3 hM
    go_wp2
    go_region
    go_wp2
    go_ret
    rw [HR.out]
    exact accs_end H1.out h2 h3 h4 h5 H6.out H7.out H8.out Hm3.out HM.out
end Go.Proofs.YtjeadhfponlnnaaGreatDoor
set_option linter.unusedSimpArgs false
set_option linter.unusedVariables false
namespace Go.Proofs.YtjeadhfponlnnaaGreatDoor
open Go.RowKit Go.Pur Go.Clerk
open Go.Abs
set_option maxRecDepth 1000000
set_option maxHeartbeats 8000000
theorem box2 {W : World} {b : Nat} {x0 x1 : Value} {t : TypeId} (h : W.heap[b]? = some (.cells #[x0, x1] t (0, 0))) : W.cell? ⟨b, 0, none⟩ = some x0 ∧ W.cell? ⟨b, 1, none⟩ = some x1 := by
 simp [World.cell?, h]
theorem pay_do (n p : Nat) (who : Tx) (m : Nat) (d : Desk) (w : World) (hd : DeskAt w n p d) (hm : m ≤ 9999) (hpn : ∀ a, getA who d.accs = some a → a.pence ≤ 9999) :
  Calls Tryz.prog 246 #[.agg #[sV who, nV m], ptrV p] w fun e w' => DoP w n p (doPay who m d) e w' := by
 have mixed : Tryz.prog.follows .mixedOrders = true := by kernel_rfl
 obtain ⟨me, ma, vv, h1, h2, h3, h4, h5, h6, h7, h8⟩ := hd
 have hp : p < w.heap.size := (Array.getElem?_eq_some_iff.1 h1).1
 have hma : ma < w.heap.size := h7.lt
 have hb1 : Below w.heap.size w ((w.alloc (.cells #[sV who, nV m] 214)).drew) := ((Below.refl _ _).alloc (Nat.le_refl _) _).drew
 have hb2 : Below w.heap.size w (((w.alloc (.cells #[sV who, nV m] 214)).alloc (.cells #[.string ⟨#[]⟩, .int .i64 0, .int .i64 0, .bool false] 46)).drew) := (((Below.refl _ _).alloc (Nat.le_refl _) _).alloc (by simp) _).drew
 have a1 := (desk_cells ((hb1.block p hp).trans h1)).2.1
 have a2 := (desk_cells ((hb2.block p hp).trans h1)).2.1
 have k1 := lookA (h7.below hb1 hma) who
 have k2 := lookA (h7.below hb2 hma) who
 have H1 := hidC h1
 have H6 := hidC h6
 have H7 := hidC h7
 have H8 := hidC h8
 clear hb1 hb2 h1 h6 h7 h8
 obtain ⟨a0, ha0⟩ : ∃ a0, (getA who d.accs).getD ⟨[], 0, 0, false⟩ = a0 := ⟨_, rfl⟩
 obtain ⟨b0, hb0⟩ : ∃ b0, (getA who d.accs).isSome = b0 := ⟨_, rfl⟩
 have hpn' : a0.pence ≤ 9999 := by
  rw [← ha0]
  cases hg : getA who d.accs with
  | none => exact Nat.zero_le _
  | some a => exact hpn a hg
 rw [ha0, hb0] at k1 k2
 have Ha0 := hidC ha0
 have Hb0 := hidC hb0
 clear ha0 hb0 hpn
 have hR : doPay who m d = match decide (m = 0), !b0 && decide (d.accs.length = 12), decide (9999 < a0.pence + m) with
  | true, _, _ => (1, d)
  | false, true, _ => (3, d)
  | false, false, true => (16, d)
  | false, false, false => (0, { d with accs := putA ⟨who, a0.pence + m, a0.vols, false⟩ d.accs }) := by
  unfold doPay
  simp only [Ha0.out]
  have : (getA who d.accs).isNone = !b0 := by rw [← Hb0.out]; cases getA who d.accs <;> rfl
  rw [this]
  rfl
 have HR := hidC hR
 clear hR
 go_enter Tryz.func246, Tryz.ntmps246
 go_wp2_with fail
 go_cut [2, 5, 6] (fun s2 s5 s6 wx => s2 = ptrV w.heap.size ∧ s5 = ptrV (w.heap.size + 1) ∧ s6 = .bool b0 ∧ Below w.heap.size w wx ∧ wx.heap[w.heap.size]? = some (.cells #[sV who, nV m] 214 (0, 0)) ∧ wx.heap[w.heap.size + 1]? = some (.cells #[sV a0.who, nV a0.pence, nV a0.vols, .bool a0.stop] 46 (0, 0)) ∧ wx.heap.size = w.heap.size + 2)
 case first =>
  go_region
  all_goals go_wp2_with fail
  all_goals go_meet
  all_goals exact ⟨rfl, rfl, rfl, two_new w _ _⟩
 case rest =>
  obtain ⟨rfl, rfl, rfl, hB, q0, q1, hsz⟩ := hcut
  obtain ⟨e0, e1, e2, e3⟩ := desk_cells ((hB.block p hp).trans H1.out)
  have hln := (H7.out.below hB hma).lenRun (P := Tryz.prog) Tryz.underlying96 3
  rw [show (accL d.accs).length = d.accs.length by simp [accL]] at hln
  obtain ⟨g0, g1⟩ := box2 q0
  obtain ⟨f0, f1, f2, f3⟩ := box4 q1
  have z0 := boxF q1 0
  have z1 := boxF q1 1
  have z3 := boxF q1 3
  have HB := hidC hB
  have Hq := hidC q1
  clear hB q0 q1 e0 e2 e3 a1 a2 k1 k2
  by_cases hm0 : m = 0
  ·have hmi : ((m : Int) == 0) = true := by simp [hm0]
   go_wp2
   go_ret
   rw [HR.out, decide_eq_true hm0]
   exact ⟨rfl, HB.out.mono (by omega), fun h => by cases h⟩
  ·have hmi : ((m : Int) == 0) = false := by simp [hm0]
   cases hb12 : !b0 && decide (d.accs.length = 12) with
   | true =>
    obtain rfl : b0 = false := by cases b0 <;> simp_all
    have h12 : d.accs.length = 12 := by simpa using hb12
    have h12' : ((d.accs.length : Int) == 12) = true := by rw [h12]; rfl
    clear h12
    go_wp2
    go_ret
    rw [HR.out, decide_eq_false hm0, hb12]
    exact ⟨rfl, HB.out.mono (by omega), fun h => by cases h⟩
   | false =>
    have h12' : b0 = false → ((d.accs.length : Int) == 12) = false := fun h => by
     subst h
     have h9 : ¬ d.accs.length = 12 := by simpa using hb12
     rw [beq_eq_false_iff_ne]
     omega
    have Hb12 := hidC hb12
    clear hb12
    by_cases hs : 9999 < a0.pence + m
    ·have hsi : decide ((9999 : Int) < (a0.pence : Int) + (m : Int)) = true := decide_eq_true (by omega)
     cases b0 with
     | true =>
      clear h12'
      go_wp2
      go_ret
      rw [HR.out, decide_eq_false hm0, Hb12.out, decide_eq_true hs]
      exact ⟨rfl, HB.out.mono (by omega), fun h => by cases h⟩
     | false =>
      have h12'' := h12' rfl
      clear h12'
      go_wp2
      go_ret
      rw [HR.out, decide_eq_false hm0, Hb12.out, decide_eq_true hs]
      exact ⟨rfl, HB.out.mono (by omega), fun h => by cases h⟩
    ·have hsi : decide ((9999 : Int) < (a0.pence : Int) + (m : Int)) = false := decide_eq_false (by omega)
     have hm3 : Below w.heap.size w (((wc.setCell ⟨w.heap.size + 1, 0, none⟩ (sV who)).setCell ⟨w.heap.size + 1, 1, none⟩ (.int .i64 ((a0.pence : Int) + (m : Int)))).setCell ⟨w.heap.size + 1, 3, none⟩ (.bool false)).drew :=
      (((HB.out.setCell (p := ⟨w.heap.size + 1, 0, none⟩) (Nat.le_succ _) _).setCell (p := ⟨w.heap.size + 1, 1, none⟩) (Nat.le_succ _) _).setCell (p := ⟨w.heap.size + 1, 3, none⟩) (Nat.le_succ _) _).drew
     have e1' := (desk_cells ((hm3.block p hp).trans H1.out)).2.1
     obtain ⟨o, hu0, hM⟩ := updA (H7.out.below hm3 hma) ⟨who, a0.pence + m, a0.vols, false⟩
     have hu : (Instr.mapUpdate 96 (.map (some ma)) (sV who) (.agg #[sV who, .int .i64 ((a0.pence : Int) + (m : Int)), nV a0.vols, .bool false])).run Tryz.prog _ = _ := hu0
     clear hu0
     have Hm3 := hidC hm3
     have HM := hidC hM
     clear hm3 hM
     cases b0 with
     | true =>
      clear h12'
      go_wp2
      go_region
      go_wp2
      go_ret
      rw [HR.out, decide_eq_false hm0, Hb12.out, decide_eq_false hs]
      exact accs_end H1.out h2 h3 h4 h5 H6.out H7.out H8.out Hm3.out HM.out
     | false =>
      have h12'' := h12' rfl
      clear h12'
      go_wp2
      go_region
      go_wp2
      go_ret
      rw [HR.out, decide_eq_false hm0, Hb12.out, decide_eq_false hs]
      exact accs_end H1.out h2 h3 h4 h5 H6.out H7.out H8.out Hm3.out HM.out
end Go.Proofs.YtjeadhfponlnnaaGreatDoor
set_option linter.unusedSimpArgs false
set_option linter.unusedVariables false
namespace Go.Proofs.YtjeadhfponlnnaaGreatDoor
open Go.RowKit Go.Pur Go.Clerk
open Go.Abs
set_option maxRecDepth 1000000
set_option maxHeartbeats 8000000
abbrev ent0 : Ent := ⟨[], [], [], [], 0, 0, 0⟩
theorem lookE {W : World} {me : Nat} {l : List Ent} (h : MapAt W me entV (entL l)) (w : Tx) : (Instr.lookup 95 (.map (some me)) (sV w) true).run Tryz.prog W = .ok (.tuple #[entV ((getE w l).getD ent0), .bool (getE w l).isSome]) W := by
 have := h.look (P := Tryz.prog) (t := 95) (kt := 9) (et := 79) (d := ent0) (by kernel_rfl) Tryz.underlying9 (by kernel_rfl) (fun _ => rfl) w true
 rw [getE_kv] at this
 exact this
theorem updE {W : World} {me : Nat} {l : List Ent} (h : MapAt W me entV (entL l)) (a : Ent) : ∃ o, (Instr.mapUpdate 95 (.map (some me)) (sV a.word) (entV a)).run Tryz.prog W = .ok () (itSet W me o) ∧ MapAt (itSet W me o) me entV (entL (putE a l)) := by
 obtain ⟨o, h1, h2⟩ := h.upd (P := Tryz.prog) (t := 95) (kt := 9) (et := 79) (by kernel_rfl) Tryz.underlying9 a.word a
 rw [putE_kv] at h2
 exact ⟨o, h1, h2⟩
theorem ents_end {w W : World} {n p me ma : Nat} {vv : Value} {d : Desk} {o : Obj} {l : List Ent} (h1 : w.heap[p]? = some (.cells #[.map (some me), .map (some ma), vv, .int .u8 d.closed.toNat] 98 (0, 0))) (h2 : n ≤ p) (h3 : n ≤ me) (h4 : n ≤ ma) (h5 : me ≠ ma)
  (h6 : MapAt w me entV (entL d.ents)) (h7 : MapAt w ma accV (accL d.accs)) (h8 : VolsAt w n vv d.vols) (hb : Below w.heap.size w W) (hM : MapAt (itSet W me o) me entV (entL l)) : DoP w n p (0, { d with ents := l }) (.returned (.int .i64 0)) (itSet W me o) := by
 have hp : p < w.heap.size := (Array.getElem?_eq_some_iff.1 h1).1
 obtain ⟨es, c, hm, _⟩ := h6.len
 have hpm : p ≠ me := fun e => by
  rw [← e, h1] at hm
  cases hm
 have h8' := h8.but (X := fun _ => False) (But.of hb) (Nat.le_refl _) (fun _ h => h.elim)
 have hm' : W.heap[me]? = some (.map es c) := (hb.block me h6.lt).trans hm
 have hX : But (· = me) W.heap.size W (itSet W me o) := ⟨rfl, rfl, rfl, by simp [itSet], fun k _ hk => itSet_other hk⟩
 refine ⟨rfl, itSet_below (hb.mono (by omega)) h3, fun _ => ⟨me, ma, vv, ?_, h2, h3, h4, h5, hM, ?_, h8'.but hX (Nat.le_refl _) (far_map hm')⟩⟩
 ·rw [itSet_other hpm, hb.block p hp]
  exact h1
 ·exact (h7.below hb h7.lt).eqb (itSet_other (Ne.symm h5))
theorem box3 {W : World} {b : Nat} {x0 x1 x2 : Value} {t : TypeId} (h : W.heap[b]? = some (.cells #[x0, x1, x2] t (0, 0))) : W.cell? ⟨b, 0, none⟩ = some x0 ∧ W.cell? ⟨b, 1, none⟩ = some x1 ∧ W.cell? ⟨b, 2, none⟩ = some x2 := by
 simp [World.cell?, h]
theorem box7 {W : World} {b : Nat} {x0 x1 x2 x3 x4 x5 x6 : Value} {t : TypeId} (h : W.heap[b]? = some (.cells #[x0, x1, x2, x3, x4, x5, x6] t (0, 0))) : W.cell? ⟨b, 0, none⟩ = some x0 ∧ W.cell? ⟨b, 1, none⟩ = some x1 ∧ W.cell? ⟨b, 2, none⟩ = some x2 ∧ W.cell? ⟨b, 3, none⟩ = some x3 ∧
  W.cell? ⟨b, 4, none⟩ = some x4 ∧ W.cell? ⟨b, 5, none⟩ = some x5 ∧ W.cell? ⟨b, 6, none⟩ = some x6 := by
 simp [World.cell?, h]
theorem shut_calls (p : Nat) (w : Tx) (d : Desk) (W : World) (me ma : Nat) (vv : Value) (h1 : W.heap[p]? = some (.cells #[.map (some me), .map (some ma), vv, .int .u8 d.closed.toNat] 98 (0, 0))) (hw : w ≠ []) :
  Calls Tryz.prog 86 #[ptrV p, sV w] W fun e W' => e = .returned (.bool (d.shut w)) ∧ W' = W.drew := by
 have mixed : Tryz.prog.follows .mixedOrders = true := by kernel_rfl
 obtain ⟨c, l, rfl⟩ : ∃ c l, w = c :: l := List.exists_cons_of_ne_nil hw
 obtain ⟨e0, e1, e2, e3⟩ := desk_cells (W := W.drew) h1
 have hR : d.shut (c :: l) = decide (c.toNat ≤ d.closed.toNat) := rfl
 have HR := hidC hR
 obtain ⟨k, hk⟩ : ∃ k, d.closed.toNat = k := ⟨_, rfl⟩
 rw [hk] at e3 HR
 clear hR e0 e1 e2 h1 hk
 go_enter Tryz.func86, Tryz.ntmps86
 go_wp2
 go_region
 all_goals go_wp2
 all_goals go_ret
 all_goals refine ⟨?_, rfl⟩
 all_goals rw [HR.out]
 all_goals rfl
theorem give_do (n p : Nat) (wd pw : Tx) (m : Nat) (d : Desk) (w : World) (hd : DeskAt w n p d) (hne : wd ≠ []) :
  Calls Tryz.prog 240 #[.agg #[sV wd, sV pw, nV m], ptrV p] w fun e w' => DoP w n p (doGive wd pw m d) e w' := by
 have mixed : Tryz.prog.follows .mixedOrders = true := by kernel_rfl
 obtain ⟨me, ma, vv, h1, h2, h3, h4, h5, h6, h7, h8⟩ := hd
 have hp : p < w.heap.size := (Array.getElem?_eq_some_iff.1 h1).1
 have hme : me < w.heap.size := h6.lt
 have hb1 : Below w.heap.size w ((w.alloc (.cells #[sV wd, sV pw, nV m] 163)).drew) := ((Below.refl _ _).alloc (Nat.le_refl _) _).drew
 have hb2 : Below w.heap.size w (((w.alloc (.cells #[sV wd, sV pw, nV m] 163)).alloc (.cells #[.string ⟨#[]⟩, .string ⟨#[]⟩, .string ⟨#[]⟩, .string ⟨#[]⟩, .int .i64 0, .int .i64 0, .int .i64 0] 79)).drew) := (((Below.refl _ _).alloc (Nat.le_refl _) _).alloc (by simp) _).drew
 have a1 := (desk_cells ((hb1.block p hp).trans h1)).1
 have a2 := (desk_cells ((hb2.block p hp).trans h1)).1
 have k1 := lookE (h6.below hb1 hme) wd
 have k2 := lookE (h6.below hb2 hme) wd
 have H1 := hidC h1
 have H6 := hidC h6
 have H7 := hidC h7
 have H8 := hidC h8
 clear hb1 hb2 h1 h6 h7 h8
 obtain ⟨a0, ha0⟩ : ∃ a0, (getE wd d.ents).getD ent0 = a0 := ⟨_, rfl⟩
 obtain ⟨b0, hb0⟩ : ∃ b0, (getE wd d.ents).isSome = b0 := ⟨_, rfl⟩
 rw [ha0, hb0] at k1 k2
 have Ha0 := hidC ha0
 have Hb0 := hidC hb0
 have Hne := hidC hne
 clear ha0 hb0 hne
 go_enter Tryz.func240, Tryz.ntmps240
 go_wp2_with fail
 go_cut [2, 5, 6] (fun s2 s5 s6 wx => s2 = ptrV w.heap.size ∧ s5 = ptrV (w.heap.size + 1) ∧ s6 = .bool b0 ∧ Below w.heap.size w wx ∧ wx.heap[w.heap.size]? = some (.cells #[sV wd, sV pw, nV m] 163 (0, 0)) ∧ wx.heap[w.heap.size + 1]? = some (.cells #[sV a0.word, sV a0.form, sV a0.see, sV a0.writer, nV a0.asked, nV a0.came, nV a0.vol] 79 (0, 0)) ∧ wx.heap.size = w.heap.size + 2)
 case first =>
  go_region
  all_goals go_wp2_with fail
  all_goals go_meet
  all_goals exact ⟨rfl, rfl, rfl, two_new w _ _⟩
 case rest =>
  obtain ⟨rfl, rfl, rfl, hB, q0, q1, hsz⟩ := hcut
  have hpw := (hB.block p hp).trans H1.out
  obtain ⟨e0, e1, e2, e3⟩ := desk_cells hpw
  have Hsh := hidC (shut_calls p wd d wc me ma vv hpw Hne.out)
  obtain ⟨g0, g1, g2⟩ := box3 q0
  obtain ⟨f0, f1, f2, f3, f4, f5, f6⟩ := box7 q1
  have z3 := boxF q1 3
  have z4 := boxF q1 4
  have HB := hidC hB
  have Hq := hidC q1
  clear hB q0 q1 e1 e2 e3 a1 a2 k1 k2 hpw
  cases b0 with
  | false =>
   have hR : doGive wd pw m d = (2, d) := by
    unfold doGive
    cases hg : getE wd d.ents with
    | none => rfl
    | some a => rw [hg] at Hb0; exact absurd Hb0.out (by simp)
   have HR := hidC hR
   clear hR
   go_wp2
   go_ret
   rw [HR.out]
   exact ⟨rfl, HB.out.mono (by omega), fun h => by cases h⟩
  | true =>
   obtain ⟨a, hg⟩ : ∃ a, getE wd d.ents = some a := Option.isSome_iff_exists.1 Hb0.out
   obtain rfl : a = a0 := by rw [← Ha0.out, hg]; rfl
   have hw := getE_word hg
   obtain ⟨aw, af, ase, awr, aas, aca, avo⟩ := a
   obtain rfl : aw = wd := hw
   have Hg := hidC hg
   clear hg
   cases awr with
   | cons c1 l1 =>
    have hR : doGive aw pw m d = (6, d) := by
     unfold doGive
     rw [Hg.out]
     simp only [List.isEmpty_cons, Bool.not_false]
    have HR := hidC hR
    clear hR
    go_wp2
    go_ret
    rw [HR.out]
    exact ⟨rfl, HB.out.mono (by omega), fun h => by cases h⟩
   | nil =>
    cases ase with
    | cons c1 l1 =>
     have hR : doGive aw pw m d = (13, d) := by
      unfold doGive
      rw [Hg.out]
      simp only [List.isEmpty_cons, List.isEmpty_nil, Bool.not_false, Bool.not_true]
     have HR := hidC hR
     clear hR
     go_wp2
     go_ret
     rw [HR.out]
     exact ⟨rfl, HB.out.mono (by omega), fun h => by cases h⟩
    | nil =>
     cases hsh : d.shut aw with
     | true =>
      rw [hsh] at Hsh
      have HS := hidC hsh
      clear hsh
      have hR : doGive aw pw m d = (20, d) := by
       unfold doGive
       rw [Hg.out]
       simp only [List.isEmpty_nil, Bool.not_true, HS.out]
      have HR := hidC hR
      clear hR
      go_wp2_with (go_at_call 86; refine Hsh.out.mono ?_; rintro e w' ⟨rfl, rfl⟩)
      go_ret
      rw [HR.out]
      exact ⟨rfl, HB.out.drew.mono (by omega), fun h => by cases h⟩
     | false =>
      rw [hsh] at Hsh
      have HS := hidC hsh
      clear hsh
      by_cases hm0 : m = 0
      ·have hmi : ((m : Int) == 0) = true := by simp [hm0]
       have Hm0 := hidC hm0
       clear hm0
       have hR : doGive aw pw m d = (1, d) := by
        unfold doGive
        rw [Hg.out]
        simp only [List.isEmpty_nil, Bool.not_true, HS.out, decide_eq_true Hm0.out]
       have HR := hidC hR
       clear hR
       go_wp2_with (go_at_call 86; refine Hsh.out.mono ?_; rintro e w' ⟨rfl, rfl⟩)
       go_ret
       rw [HR.out]
       exact ⟨rfl, HB.out.drew.mono (by omega), fun h => by cases h⟩
      ·have hmi : ((m : Int) == 0) = false := by simp [hm0]
       have hR : doGive aw pw m d = (0, { d with ents := putE ⟨aw, af, [], pw, m, aca, avo⟩ d.ents }) := by
        unfold doGive
        rw [Hg.out]
        simp only [List.isEmpty_nil, Bool.not_true, HS.out, decide_eq_false hm0]
       have HR := hidC hR
       have hm3 : Below w.heap.size w ((wc.setCell ⟨w.heap.size + 1, 3, none⟩ (sV pw)).setCell ⟨w.heap.size + 1, 4, none⟩ (nV m)).drew.drew.drew :=
        ((HB.out.setCell (p := ⟨w.heap.size + 1, 3, none⟩) (Nat.le_succ _) _).setCell (p := ⟨w.heap.size + 1, 4, none⟩) (Nat.le_succ _) _).drew.drew.drew
       have e0' := (desk_cells ((hm3.block p hp).trans H1.out)).1
       obtain ⟨o, hu, hM⟩ := updE (H6.out.below hm3 hme) ⟨aw, af, [], pw, m, aca, avo⟩
       have Hm3 := hidC hm3
       have HM := hidC hM
       clear hR hm0 hm3 hM
       go_wp2_with (go_at_call 86; refine Hsh.out.mono ?_; rintro e w' ⟨rfl, rfl⟩)
       go_region
       go_wp2
       go_region
       go_wp2
       go_ret
       rw [HR.out]
       exact ents_end H1.out h2 h3 h4 h5 H6.out H7.out H8.out Hm3.out HM.out
end Go.Proofs.YtjeadhfponlnnaaGreatDoor
set_option linter.unusedSimpArgs false
set_option linter.unusedVariables false
namespace Go.Proofs.YtjeadhfponlnnaaGreatDoor
open Go.RowKit Go.Pur Go.Clerk
open Go.Abs
set_option maxRecDepth 1000000
set_option maxHeartbeats 8000000
theorem come_do (n p : Nat) (wd : Tx) (m : Nat) (d : Desk) (w : World) (hd : DeskAt w n p d) (hne : wd ≠ []) (hm : m ≤ 9999) (has : ∀ e, getE wd d.ents = some e → e.asked ≤ 9999) :
  Calls Tryz.prog 241 #[.agg #[sV wd, nV m], ptrV p] w fun e w' => DoP w n p (doCome wd m d) e w' := by
 have mixed : Tryz.prog.follows .mixedOrders = true := by kernel_rfl
 obtain ⟨me, ma, vv, h1, h2, h3, h4, h5, h6, h7, h8⟩ := hd
 have hp : p < w.heap.size := (Array.getElem?_eq_some_iff.1 h1).1
 have hme : me < w.heap.size := h6.lt
 have hb1 : Below w.heap.size w ((w.alloc (.cells #[sV wd, nV m] 165)).drew) := ((Below.refl _ _).alloc (Nat.le_refl _) _).drew
 have hb2 : Below w.heap.size w (((w.alloc (.cells #[sV wd, nV m] 165)).alloc (.cells #[.string ⟨#[]⟩, .string ⟨#[]⟩, .string ⟨#[]⟩, .string ⟨#[]⟩, .int .i64 0, .int .i64 0, .int .i64 0] 79)).drew) := (((Below.refl _ _).alloc (Nat.le_refl _) _).alloc (by simp) _).drew
 have a1 := (desk_cells ((hb1.block p hp).trans h1)).1
 have a2 := (desk_cells ((hb2.block p hp).trans h1)).1
 have k1 := lookE (h6.below hb1 hme) wd
 have k2 := lookE (h6.below hb2 hme) wd
 have H1 := hidC h1
 have H6 := hidC h6
 have H7 := hidC h7
 have H8 := hidC h8
 clear hb1 hb2 h1 h6 h7 h8
 obtain ⟨a0, ha0⟩ : ∃ a0, (getE wd d.ents).getD ent0 = a0 := ⟨_, rfl⟩
 obtain ⟨b0, hb0⟩ : ∃ b0, (getE wd d.ents).isSome = b0 := ⟨_, rfl⟩
 rw [ha0, hb0] at k1 k2
 have Ha0 := hidC ha0
 have Hb0 := hidC hb0
 have Hne := hidC hne
 clear ha0 hb0 hne
 go_enter Tryz.func241, Tryz.ntmps241
 go_wp2_with fail
 go_cut [2, 5, 6] (fun s2 s5 s6 wx => s2 = ptrV w.heap.size ∧ s5 = ptrV (w.heap.size + 1) ∧ s6 = .bool b0 ∧ Below w.heap.size w wx ∧ wx.heap[w.heap.size]? = some (.cells #[sV wd, nV m] 165 (0, 0)) ∧ wx.heap[w.heap.size + 1]? = some (.cells #[sV a0.word, sV a0.form, sV a0.see, sV a0.writer, nV a0.asked, nV a0.came, nV a0.vol] 79 (0, 0)) ∧ wx.heap.size = w.heap.size + 2)
 case first =>
  go_region
  all_goals go_wp2_with fail
  all_goals go_meet
  all_goals exact ⟨rfl, rfl, rfl, two_new w _ _⟩
 case rest =>
  obtain ⟨rfl, rfl, rfl, hB, q0, q1, hsz⟩ := hcut
  have hpw := (hB.block p hp).trans H1.out
  obtain ⟨e0, e1, e2, e3⟩ := desk_cells hpw
  have Hsh := hidC (shut_calls p wd d wc me ma vv hpw Hne.out)
  obtain ⟨g0, g1⟩ := box2 q0
  obtain ⟨f0, f1, f2, f3, f4, f5, f6⟩ := box7 q1
  have z5 := boxF q1 5
  have HB := hidC hB
  have Hq := hidC q1
  clear hB q0 q1 e1 e2 e3 a1 a2 k1 k2 hpw
  cases b0 with
  | false =>
   have hR : doCome wd m d = (2, d) := by
    unfold doCome
    cases hg : getE wd d.ents with
    | none => rfl
    | some a => rw [hg] at Hb0; exact absurd Hb0.out (by simp)
   have HR := hidC hR
   clear hR
   go_wp2
   go_ret
   rw [HR.out]
   exact ⟨rfl, HB.out.mono (by omega), fun h => by cases h⟩
  | true =>
   obtain ⟨a, hg⟩ : ∃ a, getE wd d.ents = some a := Option.isSome_iff_exists.1 Hb0.out
   obtain rfl : a = a0 := by rw [← Ha0.out, hg]; rfl
   have hw := getE_word hg
   obtain ⟨aw, af, ase, awr, aas, aca, avo⟩ := a
   obtain rfl : aw = wd := hw
   have Hg := hidC hg
   have hask : aas ≤ 9999 := has _ hg
   clear hg has
   cases awr with
   | nil =>
    have hR : doCome aw m d = (21, d) := by
     unfold doCome
     rw [Hg.out]
     simp only [List.isEmpty_nil]
    have HR := hidC hR
    clear hR
    go_wp2
    go_ret
    rw [HR.out]
    exact ⟨rfl, HB.out.mono (by omega), fun h => by cases h⟩
   | cons c1 l1 =>
    by_cases hc0 : 0 < aca
    ·have hci : decide ((0 : Int) < (aca : Int)) = true := decide_eq_true (by omega)
     have Hc0 := hidC hc0
     clear hc0
     have hR : doCome aw m d = (6, d) := by
      unfold doCome
      rw [Hg.out]
      simp only [List.isEmpty_cons, decide_eq_true Hc0.out]
     have HR := hidC hR
     clear hR
     go_wp2
     go_ret
     rw [HR.out]
     exact ⟨rfl, HB.out.mono (by omega), fun h => by cases h⟩
    ·have hci : decide ((0 : Int) < (aca : Int)) = false := decide_eq_false (by omega)
     have Hc0 := hidC hc0
     obtain rfl : aca = 0 := by omega
     clear hc0
     cases hsh : d.shut aw with
     | true =>
      rw [hsh] at Hsh
      have HS := hidC hsh
      clear hsh
      have hR : doCome aw m d = (20, d) := by
       unfold doCome
       rw [Hg.out]
       simp only [List.isEmpty_cons, decide_eq_false Hc0.out, HS.out]
      have HR := hidC hR
      clear hR
      go_wp2_with (go_at_call 86; refine Hsh.out.mono ?_; rintro e w' ⟨rfl, rfl⟩)
      go_ret
      rw [HR.out]
      exact ⟨rfl, HB.out.drew.mono (by omega), fun h => by cases h⟩
     | false =>
      rw [hsh] at Hsh
      have HS := hidC hsh
      clear hsh
      by_cases hm0 : m = 0
      ·have hmi : ((m : Int) == 0) = true := by simp [hm0]
       have Hm0 := hidC hm0
       clear hm0
       have hR : doCome aw m d = (1, d) := by
        unfold doCome
        rw [Hg.out]
        simp only [List.isEmpty_cons, decide_eq_false Hc0.out, HS.out, decide_eq_true Hm0.out]
       have HR := hidC hR
       clear hR
       go_wp2_with (go_at_call 86; refine Hsh.out.mono ?_; rintro e w' ⟨rfl, rfl⟩)
       go_ret
       rw [HR.out]
       exact ⟨rfl, HB.out.drew.mono (by omega), fun h => by cases h⟩
      ·have hmi : ((m : Int) == 0) = false := by simp [hm0]
       have Hm0 := hidC hm0
       clear hm0
       by_cases hov : 2 * aas < m
       ·have hoi : decide ((2 : Int) * (aas : Int) < (m : Int)) = true := decide_eq_true (by omega)
        have Hov := hidC hov
        clear hov
        have hR : doCome aw m d = (15, d) := by
         unfold doCome
         rw [Hg.out]
         simp only [List.isEmpty_cons, decide_eq_false Hc0.out, HS.out, decide_eq_false Hm0.out, decide_eq_true Hov.out]
        have HR := hidC hR
        clear hR
        go_wp2_with (go_at_call 86; refine Hsh.out.mono ?_; rintro e w' ⟨rfl, rfl⟩)
        go_ret
        rw [HR.out]
        exact ⟨rfl, HB.out.drew.mono (by omega), fun h => by cases h⟩
       ·have hoi : decide ((2 : Int) * (aas : Int) < (m : Int)) = false := decide_eq_false (by omega)
        have hR : doCome aw m d = (0, { d with ents := putE ⟨aw, af, ase, c1 :: l1, aas, m, avo⟩ d.ents }) := by
         unfold doCome
         rw [Hg.out]
         simp only [List.isEmpty_cons, decide_eq_false Hc0.out, HS.out, decide_eq_false Hm0.out, decide_eq_false hov]
        have HR := hidC hR
        have hm3 : Below w.heap.size w (wc.setCell ⟨w.heap.size + 1, 5, none⟩ (nV m)).drew.drew :=
         (HB.out.setCell (p := ⟨w.heap.size + 1, 5, none⟩) (Nat.le_succ _) _).drew.drew
        have e0' := (desk_cells ((hm3.block p hp).trans H1.out)).1
        obtain ⟨o, hu, hM⟩ := updE (H6.out.below hm3 hme) ⟨aw, af, ase, c1 :: l1, aas, m, avo⟩
        have Hm3 := hidC hm3
        have HM := hidC hM
        clear hR hov hm3 hM
        go_wp2_with (go_at_call 86; refine Hsh.out.mono ?_; rintro e w' ⟨rfl, rfl⟩)
        go_region
        go_wp2
        go_ret
        rw [HR.out]
        exact ents_end H1.out h2 h3 h4 h5 H6.out H7.out H8.out Hm3.out HM.out
end Go.Proofs.YtjeadhfponlnnaaGreatDoor
