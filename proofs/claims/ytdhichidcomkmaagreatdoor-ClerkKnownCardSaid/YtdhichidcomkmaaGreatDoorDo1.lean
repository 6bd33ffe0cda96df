/-
  Orders of subscribers.
  Conditions: none; lemmas.
-/
import Derived.Test.YtdhichidcomkmaaGreatDoorDesk14
import Derived.Test.YtdhichidcomkmaaGreatDoorChecked
import Derived.WalkKit
import Derived.Deep.LoopGhost
import Derived.Deep.DeepMust
import Derived.Deep.RegionHeld3
import Derived.Deep.DeepCutAuto
import Derived.Deep.QuietTactic
import Derived.BigQuiet
import Derived.BigRegion
import Derived.StillTailTactics
import Derived.RegionTactic
import Derived.Sort.AtCall
set_option linter.unusedSimpArgs false
set_option linter.unusedVariables false
namespace Go.Proofs.YtdhichidcomkmaaGreatDoor
open Go.RowKit Go.Pur Go.Clerk
open Go.Abs
set_option maxRecDepth 1000000
set_option maxHeartbeats 8000000
def DoP (w : World) (n p : Nat) (r : Nat × Desk) (e : Ending) (w' : World) : Prop := e = .returned (nV r.1) ∧ Below n w w' ∧ (r.1 = 0 → DeskAt w' n p r.2)
theorem getA_kv {k : Tx} : ∀ {l : List Acc}, kGet k (accL l) = getA k l
 | [] => rfl
 | e :: l => by
  unfold getA
  show (match decide (e.who = k) with | true => some e | false => kGet k (accL l)) = _
  rw [getA_kv]
  cases decide (e.who = k) <;> rfl
theorem putA_kv {a : Acc} : ∀ {l : List Acc}, kSet a.who a (accL l) = accL (putA a l)
 | [] => rfl
 | e :: l => by
  unfold putA
  show (match decide (e.who = a.who) with | true => (a.who, a) :: accL l | false => (e.who, e) :: kSet a.who a (accL l)) = _
  rw [putA_kv]
  cases decide (e.who = a.who) <;> rfl
theorem getE_kv {k : Tx} : ∀ {l : List Ent}, kGet k (entL l) = getE k l
 | [] => rfl
 | e :: l => by
  unfold getE
  show (match decide (e.word = k) with | true => some e | false => kGet k (entL l)) = _
  rw [getE_kv]
  cases decide (e.word = k) <;> rfl
theorem putE_kv {a : Ent} : ∀ {l : List Ent}, kSet a.word a (entL l) = entL (putE a l)
 | [] => rfl
 | e :: l => by
  unfold putE
  show (match decide (e.word = a.word) with | true => (a.word, a) :: entL l | false => (e.word, e) :: kSet a.word a (entL l)) = _
  rw [putE_kv]
  cases decide (e.word = a.word) <;> rfl
theorem getA_who {k : Tx} {a : Acc} : ∀ {l : List Acc}, getA k l = some a → a.who = k
 | [], h => by cases h
 | e :: l, h => by
  unfold getA at h
  split at h
  ·rename_i he; cases h; exact of_decide_eq_true he
  ·exact getA_who h
theorem getE_word {k : Tx} {a : Ent} : ∀ {l : List Ent}, getE k l = some a → a.word = k
 | [], h => by cases h
 | e :: l, h => by
  unfold getE at h
  split at h
  ·rename_i he; cases h; exact of_decide_eq_true he
  ·exact getE_word h
theorem desk_cells {W : World} {p me ma : Nat} {vv : Value} {c : UInt8} (h1 : W.heap[p]? = some (.cells #[.map (some me), .map (some ma), vv, .int .u8 c.toNat] 98 (0, 0))) :
  W.cell? ⟨p, 0, none⟩ = some (.map (some me)) ∧ W.cell? ⟨p, 1, none⟩ = some (.map (some ma)) ∧ W.cell? ⟨p, 2, none⟩ = some vv ∧ W.cell? ⟨p, 3, none⟩ = some (.int .u8 c.toNat) := by
 simp [World.cell?, h1]
theorem lookA {W : World} {ma : Nat} {l : List Acc} (h : MapAt W ma accV (accL l)) (who : Tx) : (Instr.lookup 96 (.map (some ma)) (sV who) true).run Tryz.prog W = .ok (.tuple #[accV ((getA who l).getD ⟨[], 0, 0, false⟩), .bool (getA who l).isSome]) W := by
 have := h.look (P := Tryz.prog) (t := 96) (kt := 9) (et := 46) (d := ⟨[], 0, 0, false⟩) (by kernel_rfl) Tryz.underlying9 (by kernel_rfl) (fun _ => rfl) who true
 rw [getA_kv] at this
 exact this
theorem updA {W : World} {ma : Nat} {l : List Acc} (h : MapAt W ma accV (accL l)) (a : Acc) : ∃ o, (Instr.mapUpdate 96 (.map (some ma)) (sV a.who) (accV a)).run Tryz.prog W = .ok () (itSet W ma o) ∧ MapAt (itSet W ma o) ma accV (accL (putA a l)) := by
 obtain ⟨o, h1, h2⟩ := h.upd (P := Tryz.prog) (t := 96) (kt := 9) (et := 46) (by kernel_rfl) Tryz.underlying9 a.who a
 rw [putA_kv] at h2
 exact ⟨o, h1, h2⟩
theorem two_new (w : World) (A B : Obj) : Below w.heap.size w ((w.alloc A).alloc B).drew ∧ ((w.alloc A).alloc B).drew.heap[w.heap.size]? = some A ∧ ((w.alloc A).alloc B).drew.heap[w.heap.size + 1]? = some B ∧ ((w.alloc A).alloc B).drew.heap.size = w.heap.size + 2 := by
 refine ⟨(((Below.refl _ _).alloc (Nat.le_refl _) _).alloc (by simp) _).drew, ?_, ?_, ?_⟩
 ·show ((w.heap.push A).push B)[w.heap.size]? = _
  rw [Array.getElem?_push, if_neg (by simp), Array.getElem?_push, if_pos rfl]
 ·show ((w.heap.push A).push B)[w.heap.size + 1]? = _
  rw [Array.getElem?_push, if_pos (by simp)]
 ·show ((w.heap.push A).push B).size = _
  simp
theorem box4 {W : World} {b : Nat} {x0 x1 x2 x3 : Value} {t : TypeId} (h : W.heap[b]? = some (.cells #[x0, x1, x2, x3] t (0, 0))) : W.cell? ⟨b, 0, none⟩ = some x0 ∧ W.cell? ⟨b, 1, none⟩ = some x1 ∧ W.cell? ⟨b, 2, none⟩ = some x2 ∧ W.cell? ⟨b, 3, none⟩ = some x3 := by
 simp [World.cell?, h]
theorem box1 {W : World} {b : Nat} {x0 : Value} {t : TypeId} (h : W.heap[b]? = some (.cells #[x0] t (0, 0))) : W.cell? ⟨b, 0, none⟩ = some x0 := by
 simp [World.cell?, h]
theorem boxF {W : World} {b : Nat} {cs : Array Value} {t : TypeId} (h : W.heap[b]? = some (.cells cs t (0, 0))) (i : Nat) : W.frozen? ⟨b, i, none⟩ = false := by
 simp [World.frozen?, h]
theorem accs_end {w W : World} {n p me ma : Nat} {vv : Value} {d : Desk} {o : Obj} {l : List Acc} (h1 : w.heap[p]? = some (.cells #[.map (some me), .map (some ma), vv, .int .u8 d.closed.toNat] 98 (0, 0))) (h2 : n ≤ p) (h3 : n ≤ me) (h4 : n ≤ ma) (h5 : me ≠ ma)
  (h6 : MapAt w me entV (entL d.ents)) (h7 : MapAt w ma accV (accL d.accs)) (h8 : VolsAt w n vv d.vols) (hb : Below w.heap.size w W) (hM : MapAt (itSet W ma o) ma accV (accL l)) : DoP w n p (0, { d with accs := l }) (.returned (.int .i64 0)) (itSet W ma o) := by
 have hp : p < w.heap.size := (Array.getElem?_eq_some_iff.1 h1).1
 have hpm : p ≠ ma := fun e => by
  obtain ⟨es, c, hm, _⟩ := h7.len
  rw [← e, h1] at hm
  cases hm
 have h8' := h8.but (X := fun _ => False) (But.of hb) (Nat.le_refl _) (fun _ h => h.elim)
 obtain ⟨es, c, hm, _⟩ := h7.len
 have hm' : W.heap[ma]? = some (.map es c) := (hb.block ma h7.lt).trans hm
 have hX : But (· = ma) W.heap.size W (itSet W ma o) := ⟨rfl, rfl, rfl, by simp [itSet], fun k _ hk => itSet_other hk⟩
 refine ⟨rfl, itSet_below (hb.mono (by omega)) h4, fun _ => ⟨me, ma, vv, ?_, h2, h3, h4, h5, ?_, hM, h8'.but hX (Nat.le_refl _) (far_map hm')⟩⟩
 ·rw [itSet_other hpm, hb.block p hp]
  exact h1
 ·exact (h6.below hb h6.lt).eqb (itSet_other h5)
theorem stop_do (n p : Nat) (who : Tx) (d : Desk) (w : World) (hd : DeskAt w n p d) : Calls Tryz.prog 247 #[.agg #[sV who], ptrV p] w fun e w' => DoP w n p (doStop who d) e w' := by
 have mixed : Tryz.prog.follows .mixedOrders = true := by kernel_rfl
 obtain ⟨me, ma, vv, h1, h2, h3, h4, h5, h6, h7, h8⟩ := hd
 have hp : p < w.heap.size := (Array.getElem?_eq_some_iff.1 h1).1
 have hma : ma < w.heap.size := h7.lt
 have hb1 : Below w.heap.size w ((w.alloc (.cells #[sV who] 216)).drew) := ((Below.refl _ _).alloc (Nat.le_refl _) _).drew
 have hb2 : Below w.heap.size w (((w.alloc (.cells #[sV who] 216)).alloc (.cells #[.string ⟨#[]⟩, .int .i64 0, .int .i64 0, .bool false] 46)).drew) := (((Below.refl _ _).alloc (Nat.le_refl _) _).alloc (by simp) _).drew
 have a1 := (desk_cells ((hb1.block p hp).trans h1)).2.1
 have a2 := (desk_cells ((hb2.block p hp).trans h1)).2.1
 have k1 := lookA (h7.below hb1 hma) who
 have k2 := lookA (h7.below hb2 hma) who
 have H1 := hidC h1
 have H6 := hidC h6
 have H7 := hidC h7
 have H8 := hidC h8
 clear hb1 hb2 h1 h6 h7 h8
 obtain ⟨a0, ha0⟩ : ∃ a0, (getA who d.accs).getD ⟨[], 0, 0, false⟩ = a0 := ⟨_, rfl⟩
 obtain ⟨b0, hb0⟩ : ∃ b0, (getA who d.accs).isSome = b0 := ⟨_, rfl⟩
 rw [ha0, hb0] at k1 k2
 have Ha0 := hidC ha0
 have Hb0 := hidC hb0
 clear ha0 hb0
 go_enter Tryz.func247, Tryz.ntmps247
 go_wp2_with fail
 go_cut [2, 5, 6] (fun s2 s5 s6 wx => s2 = ptrV w.heap.size ∧ s5 = ptrV (w.heap.size + 1) ∧ s6 = .bool b0 ∧ Below w.heap.size w wx ∧ wx.heap[w.heap.size]? = some (.cells #[sV who] 216 (0, 0)) ∧ wx.heap[w.heap.size + 1]? = some (.cells #[sV a0.who, nV a0.pence, nV a0.vols, .bool a0.stop] 46 (0, 0)) ∧ wx.heap.size = w.heap.size + 2)
 case first =>
  go_region
  all_goals go_wp2_with fail
  all_goals go_meet
  all_goals exact ⟨rfl, rfl, rfl, two_new w _ _⟩
 case rest =>
  obtain ⟨rfl, rfl, rfl, hB, q0, q1, hsz⟩ := hcut
  obtain ⟨e0, e1, e2, e3⟩ := desk_cells ((hB.block p hp).trans H1.out)
  have g0 := box1 q0
  obtain ⟨f0, f1, f2, f3⟩ := box4 q1
  have f4 := boxF q1 3
  have HB := hidC hB
  have Hq := hidC q1
  clear hB q0 q1 e0 e2 e3 a1 a2 k1 k2
  cases b0 with
  | false =>
   go_wp2
   go_ret
   have hR : doStop who d = (2, d) := by
    unfold doStop
    cases hg : getA who d.accs with
    | none => rfl
    | some a => rw [hg] at Hb0; exact absurd Hb0.out (by simp)
   rw [hR]
   exact ⟨rfl, HB.out.mono (by omega), fun h => by cases h⟩
  | true =>
   obtain ⟨a, hg⟩ : ∃ a, getA who d.accs = some a := Option.isSome_iff_exists.1 Hb0.out
   obtain rfl : a = a0 := by rw [← Ha0.out, hg]; rfl
   have hw := getA_who hg
   obtain ⟨aw, apn, av, ast⟩ := a
   obtain rfl : aw = who := hw
   cases ast with
   | true =>
    have hR : doStop aw d = (6, d) := by
     unfold doStop
     rw [hg]
    have HR := hidC hR
    have Hg := hidC hg
    clear hR hg
    go_wp2
    go_ret
    rw [HR.out]
    exact ⟨rfl, HB.out.mono (by omega), fun h => by cases h⟩
   | false =>
    have hR : doStop aw d = (0, { d with accs := putA ⟨aw, apn, av, true⟩ d.accs }) := by
     unfold doStop
     rw [hg]
    have hm3 : Below w.heap.size w (wc.setCell ⟨w.heap.size + 1, 3, none⟩ (.bool true)).drew := (HB.out.setCell (Nat.le_succ _) _).drew
    have e1' := (desk_cells ((hm3.block p hp).trans H1.out)).2.1
    obtain ⟨o, hu, hM⟩ := updA (H7.out.below hm3 hma) ⟨aw, apn, av, true⟩
    have HR := hidC hR
    have Hg := hidC hg
    have Hm3 := hidC hm3
    have HM := hidC hM
    clear hR hg hm3 hM
    go_wp2
    go_region
    go_wp2
    go_ret
    rw [HR.out]
    exact accs_end H1.out h2 h3 h4 h5 H6.out H7.out H8.out Hm3.out HM.out
end Go.Proofs.YtdhichidcomkmaaGreatDoor
