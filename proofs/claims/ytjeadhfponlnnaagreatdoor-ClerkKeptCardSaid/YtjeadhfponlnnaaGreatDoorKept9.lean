/-
  ClerkKept in the model.
  Conditions: none; lemmas.
-/
import Derived.Test.YtjeadhfponlnnaaGreatDoorForms8
import Derived.Test.YtjeadhfponlnnaaGreatDoorKeptLaw
import Derived.Deep.CutBlock
set_option linter.unusedSimpArgs false
set_option linter.unusedVariables false
namespace Go.Proofs.YtjeadhfponlnnaaGreatDoor
open Go.RowKit Go.Pur Go.Clerk
open Go.Abs
set_option maxRecDepth 1000000
set_option maxHeartbeats 8000000
theorem updN {W : World} {m : Nat} {l : List (Tx × Nat)} (h : MapAt W m nV l) (k : Tx) (x : Nat) : ∃ o, (Instr.mapUpdate 68 (.map (some m)) (sV k) (nV x)).run Tryz.prog W = .ok () (itSet W m o) ∧ MapAt (itSet W m o) m nV (kSet k x l) :=
 h.upd (P := Tryz.prog) (t := 68) (kt := 9) (et := 3) (by kernel_rfl) Tryz.underlying9 k x
theorem lookN {W : World} {m : Nat} {l : List (Tx × Nat)} (h : MapAt W m nV l) (k : Tx) : (Instr.lookup 68 (.map (some m)) (sV k) true).run Tryz.prog W = .ok (.tuple #[nV ((kGet k l).getD 0), .bool (kGet k l).isSome]) W :=
 h.look (P := Tryz.prog) (t := 68) (kt := 9) (et := 3) (d := 0) (by kernel_rfl) Tryz.underlying9 (by kernel_rfl) (fun _ => rfl) k true
theorem lookN1 {W : World} {m : Nat} {l : List (Tx × Nat)} (h : MapAt W m nV l) (k : Tx) : (Instr.lookup 68 (.map (some m)) (sV k) false).run Tryz.prog W = .ok (nV ((kGet k l).getD 0)) W :=
 h.look (P := Tryz.prog) (t := 68) (kt := 9) (et := 3) (d := 0) (by kernel_rfl) Tryz.underlying9 (by kernel_rfl) (fun _ => rfl) k false
def KB (b : Nat) (K : KSt) : Prop := K.came ≤ b ∧ (∀ x ∈ K.paid, x.2 ≤ b) ∧ ∀ x ∈ K.wr, x.2 ≤ b
theorem getD_le {M : List (Tx × Nat)} {b : Nat} (h : ∀ x ∈ M, x.2 ≤ b) (p : Tx) : (kGet p M).getD 0 ≤ b := by
 cases hq : kGet p M with
 | none => exact Nat.zero_le _
 | some v => exact h _ (kGet_memW hq)
theorem KB.mono {b c : Nat} {K : KSt} (h : KB b K) (hbc : b ≤ c) : KB c K := ⟨Nat.le_trans h.1 hbc, fun x hx => Nat.le_trans (h.2.1 x hx) hbc, fun x hx => Nat.le_trans (h.2.2 x hx) hbc⟩
theorem KB.step {b : Nat} {K : KSt} {x : Ord} (h : KB b K) (hx : OrdOK x) : KB (b + 9999) (keptO K x) := by
 have hm := h.mono (Nat.le_add_right b 9999)
 cases x with
 | give w p n => exact ⟨hm.1, hm.2.1, fun y hy => by
   rcases kSet_mem hy with rfl | hy
   ·exact getD_le hm.2.2 p
   ·exact hm.2.2 y hy⟩
 | come w n => exact ⟨Nat.add_le_add h.1 hx.2, hm.2.1, fun y hy => by
   rcases kSet_mem hy with rfl | hy
   ·exact Nat.add_le_add (getD_le h.2.2 _) hx.2
   ·exact hm.2.2 y hy⟩
 | pay p n => exact ⟨hm.1, fun y hy => by
   rcases kSet_mem hy with rfl | hy
   ·exact Nat.add_le_add (getD_le h.2.1 _) hx.2
   ·exact hm.2.1 y hy, hm.2.2⟩
 | _ => exact hm
theorem kept_b {T : List Tx} (ho : ∀ l ∈ T, ∃ x, parse l = (some x, 0)) : ∀ i, i ≤ T.length → KB (9999 * i) (keptM (T.take i))
 | 0, _ => ⟨Nat.le_refl _, fun x h => (by cases h), fun x h => (by cases h)⟩
 | i + 1, hi => by
  obtain ⟨l, hl⟩ : ∃ l, T[i]? = some l := ⟨_, List.getElem?_eq_getElem (by omega)⟩
  obtain ⟨x, hx⟩ := ho l (List.mem_of_getElem? hl)
  have ih := (kept_b ho i (by omega)).step (parse_ok hx)
  rw [List.take_add_one, hl]
  show KB _ (keptM (T.take i ++ [l]))
  rw [keptM_snoc]
  unfold keptL
  rw [hx]
  exact ih.mono (by omega)
theorem kept_case {l : Tx} {x : Ord} (h : parse l = (some x, 0)) :
  (∃ w p t n, Lib.fields l = [kGive, w, p, t] ∧ x = .give w p n) ∨ (∃ w t n, Lib.fields l = [kCome, w, t] ∧ numb t = some n ∧ n ≤ 9999 ∧ x = .come w n) ∨ (∃ p t n, Lib.fields l = [kPay, p, t] ∧ numb t = some n ∧ n ≤ 9999 ∧ x = .pay p n) ∨
   (∃ f fs, Lib.fields l = f :: fs ∧ f ≠ kGive ∧ f ≠ kCome ∧ f ≠ kPay ∧ ∀ K, keptO K x = K) := by
 obtain ⟨-, hs, -, -⟩ := line_fields h
 have hx := parse_ok h
 cases x with
 | give w p n => obtain ⟨t, h1, h2⟩ := hs; exact .inl ⟨w, p, t, n, h1, rfl⟩
 | come w n => obtain ⟨t, h1, h2⟩ := hs; exact .inr (.inl ⟨w, t, n, h1, h2, hx.2, rfl⟩)
 | pay p n => obtain ⟨t, h1, h2⟩ := hs; exact .inr (.inr (.inl ⟨p, t, n, h1, h2, hx.2, rfl⟩))
 | word w => exact .inr (.inr (.inr ⟨_, _, hs, by decide, by decide, by decide, fun K => rfl⟩))
 | short w f => exact .inr (.inr (.inr ⟨_, _, hs, by decide, by decide, by decide, fun K => rfl⟩))
 | see w o => exact .inr (.inr (.inr ⟨_, _, hs, by decide, by decide, by decide, fun K => rfl⟩))
 | close c => obtain ⟨t, h1, _⟩ := hs; exact .inr (.inr (.inr ⟨_, _, h1, by decide, by decide, by decide, fun K => rfl⟩))
 | stop p => exact .inr (.inr (.inr ⟨_, _, hs, by decide, by decide, by decide, fun K => rfl⟩))
def A43 (w : World) (wd : Tx) (e : Ending) (w' : World) : Prop := ∃ z ev, e = .returned (.tuple #[.int .i64 z, ev]) ∧ (∀ n, numb wd = some n → z = (n : Int)) ∧ Below w.heap.size w w'
theorem atoi2_calls (wd : Tx) (w : World) (hE : Env w) (hl : wd.length ≤ 1000000) : Calls Tryz.prog 43 #[sV wd] w fun e w' => A43 w wd e w' := by
 refine (atoi_calls wd w hE hl).mono ?_
 rintro e w' ⟨hb, h⟩
 have hs := numb_spec (w := wd)
 cases hq : Lib.atoiAll wd with
 | ok v =>
  rw [hq] at h hs
  refine ⟨v, _, h, fun n hn => ?_, hb⟩
  rw [hn] at hs
  dsimp only at hs
  split at hs
  ·rename_i hc
   have := Option.some.inj hs
   omega
  ·cases hs
 | _ =>
  rw [hq] at h hs
  obtain ⟨z, t, q, h⟩ := h
  exact ⟨z, _, h, fun n hn => (by rw [hn] at hs; cases hs), hb⟩
theorem _root_.Go.Clerk.MapAt.al {V : Type} {W : World} {b : Nat} {vf : V → Value} {l : List (Tx × V)} (h : MapAt W b vf l) (o : Obj) : MapAt (W.alloc o) b vf l := h.below ((Below.refl W.heap.size W).alloc (Nat.le_refl _) o) h.lt
def K9 (w2 : World) (mp ma mw : Nat) (K : KSt) (wx : World) : Prop := But (fun b => b = mp ∨ b = ma ∨ b = mw) w2.heap.size w2 wx ∧ MapAt wx mp nV K.paid ∧ MapAt wx ma sV K.asked ∧ MapAt wx mw nV K.wr
theorem K9.below {w2 : World} {mp ma mw : Nat} {K : KSt} {wx wy : World} (h : K9 w2 mp ma mw K wx) (hb : Below wx.heap.size wx wy) : K9 w2 mp ma mw K wy :=
 ⟨h.1.trans (But.of (hb.mono h.1.size)), h.2.1.below hb h.2.1.lt, h.2.2.1.below hb h.2.2.1.lt, h.2.2.2.below hb h.2.2.2.lt⟩
theorem but_it {w2 wx : World} {X : Nat → Prop} {b : Nat} {o : Obj} (h : But X w2.heap.size w2 wx) (hx : X b) : But X w2.heap.size w2 (itSet wx b o) :=
 h.trans (But.mono (itSet_but (W := wx) (b := b) (o := o) (n := w2.heap.size)) (Nat.le_refl _) (fun k _ e => by subst e; exact hx))
theorem K9.paid {w2 : World} {mp ma mw : Nat} {K : KSt} {wx : World} {o : Obj} {v : List (Tx × Nat)} (h : K9 w2 mp ma mw K wx) (hm : MapAt (itSet wx mp o) mp nV v) (h1 : ma ≠ mp) (h2 : mw ≠ mp) : K9 w2 mp ma mw { K with paid := v } (itSet wx mp o) :=
 ⟨but_it h.1 (.inl rfl), hm, h.2.2.1.eqb (itSet_other h1), h.2.2.2.eqb (itSet_other h2)⟩
theorem K9.asked {w2 : World} {mp ma mw : Nat} {K : KSt} {wx : World} {o : Obj} {v : List (Tx × Tx)} (h : K9 w2 mp ma mw K wx) (hm : MapAt (itSet wx ma o) ma sV v) (h1 : mp ≠ ma) (h2 : mw ≠ ma) : K9 w2 mp ma mw { K with asked := v } (itSet wx ma o) :=
 ⟨but_it h.1 (.inr (.inl rfl)), h.2.1.eqb (itSet_other h1), hm, h.2.2.2.eqb (itSet_other h2)⟩
theorem K9.wr {w2 : World} {mp ma mw : Nat} {K : KSt} {wx : World} {o : Obj} {v : List (Tx × Nat)} (h : K9 w2 mp ma mw K wx) (hm : MapAt (itSet wx mw o) mw nV v) (h1 : mp ≠ mw) (h2 : ma ≠ mw) : K9 w2 mp ma mw { K with wr := v } (itSet wx mw o) :=
 ⟨but_it h.1 (.inr (.inr rfl)), h.2.1.eqb (itSet_other h1), h.2.2.1.eqb (itSet_other h2), hm⟩
theorem sum_take {α : Type} {f : α → Nat} {l : List α} {k : Nat} {x : α} (h : l[k]? = some x) : sumN ((l.take (k + 1)).map f) = sumN ((l.take k).map f) + f x := by
 rw [List.take_add_one, h, List.map_append]
 exact sumN_snoc _ _
theorem sum_le {α : Type} {f : α → Nat} {l : List α} {b : Nat} (h : ∀ x ∈ l, f x ≤ b) (k : Nat) : sumN ((l.take k).map f) ≤ l.length * b := by
 have h1 := sumN_le (k := b) (l := (l.take k).map f) (fun n hn => by
  obtain ⟨x, hx, rfl⟩ := List.mem_map.1 hn
  exact h x (List.mem_of_mem_take hx))
 refine Nat.le_trans h1 (Nat.mul_le_mul_right _ ?_)
 rw [List.length_map, List.length_take]
 omega
theorem cellsV_at : ∀ {l : List Vol} {ws : List Value} {i j : Nat} {x : Vol} {u : Value}, ws.length = l.length → l[i]? = some x → ws[i]? = some u → j < 4 → (cellsV l ws)[i * 4 + j]? = [sV x.letter, u, nV x.lines, nV x.sent][j]?
 | y :: l, w :: ws, 0, j, x, u, _, h1, h2, hj => by
  cases h1
  cases h2
  unfold cellsV
  rw [Nat.zero_mul, Nat.zero_add]
  show (([sV y.letter, w, nV y.lines, nV y.sent] : List Value) ++ cellsV l ws)[j]? = _
  rw [List.getElem?_append_left (by simpa using hj)]
 | y :: l, w :: ws, i + 1, j, x, u, hl, h1, h2, hj => by
  have ih := cellsV_at (l := l) (ws := ws) (i := i) (j := j) (x := x) (u := u) (by simpa using hl) h1 h2 hj
  unfold cellsV
  show (([sV y.letter, w, nV y.lines, nV y.sent] : List Value) ++ cellsV l ws)[(i + 1) * 4 + j]? = _
  rw [List.getElem?_append_right (by simp; omega), ← ih]
  congr 1
  simp
  omega
 | [], _, _, _, _, _, _, h1, _, _ => by cases h1
 | _ :: _, [], _, _, _, _, hl, _, _, _ => by cases hl
theorem vol_at {W : World} {B g cap : Nat} {l : List Vol} {ws : List Value} (hw : ws.length = l.length) (h : W.ownsRow B 76 4 (.slice (some ⟨g, 0, none⟩) l.length cap) l.length (cellsV l ws)) {i : Nat} {x : Vol} {u : Value} (hx : l[i]? = some x) (hu : ws[i]? = some u) : W.rangeAt g (i * 4) [sV x.letter, u, nV x.lines, nV x.sent] := fun j v hj => by
 have hj2 : j < 4 := (List.getElem?_eq_some_iff.1 hj).1
 have hi : i < l.length := (List.getElem?_eq_some_iff.1 hx).1
 rw [(row_get h (k := i * 4 + j) (by omega)).1, cellsV_at hw hx hu hj2]
 exact hj
theorem kept9_calls (W : World) (ad : Option Addr) (cap : Nat) (l : List ActT) (hv : ActsAt W (.slice ad l.length cap) l) (hcap : l.length ≤ cap) (hE : EnvS W) (hok : ∀ a ∈ l, a.ok) (hn : l.length ≤ maxLen) :
  Calls Tryz.prog 9 #[.slice ad l.length cap] W fun e W' => e = .returned (.bool true) ∧ Below W.heap.size W W' := by
 have mixed : Tryz.prog.follows .mixedOrders = true := by kernel_rfl
 obtain ⟨N, hN⟩ : ∃ N, l.length = N := ⟨_, rfl⟩
 have hT : Hid (Calls Tryz.prog 41 #[.slice ad (min (N : Int) 60).toNat cap] W fun e W' => ∃ r, KInv r ∧ TdP W r e W') := hidC (by
  have hm : (min (N : Int) 60).toNat ≤ l.length := by omega
  have h1 := cut_acts hv hm
  refine (told_all W _ (l.take (min (N : Int) 60).toNat) h1 hE (fun a ha => hok a (List.mem_of_mem_take ha)) (by rw [List.length_take]; omega)).mono fun e W' h => ⟨_, kept_inv fun x hx => ?_, h⟩
  obtain ⟨a, _, rfl⟩ := List.mem_map.1 hx
  exact (act_line a).1)
 have HE := hidC hE
 rw [hN] at hcap hn ⊢
 clear hv hE hok hN
 have hm1 : ∀ w, (Instr.makeMap 83 none).run Tryz.prog w = .ok (.map (some w.heap.size)) (w.alloc (.map #[] 0)) := fun _ => rfl
 have hm2 : ∀ w, (Instr.makeMap 68 none).run Tryz.prog w = .ok (.map (some w.heap.size)) (w.alloc (.map #[] 0)) := fun _ => rfl
 go_enter Tryz.func9, Tryz.ntmps9
 go_upto_region 2 with (go_at_call 41; refine hT.out.mono ?_; rintro e w1 ⟨r, hF, o, tv, rfl, ho, hok, hln, hrl, htv, hoW, hb1⟩; have HF := hidC hF; have Ho1 := hidC ho; have Hk := hidC hok; have Htv1 := hidC htv; have HoW := hidC hoW; have Hb1 := hidC hb1; have Hrl := hidC hrl; have Hln := hidC hln; clear hF ho hok htv hoW hb1 hrl hln)
 obtain ⟨ta, tc, rfl⟩ := row_slice Htv1.out
 have HLi := hidC (lines_calls o r.1 w1 Ho1.out (by have := Hk.out.few; omega))
 go_upto_region 4 with (first
  | (go_at_call 24; refine HSm.out.mono ?_; rintro e wo ⟨rfl, hdc⟩; have Hdc := hidC (hdc.below wb.heap.size); clear hdc)
  | (go_at_call 30; refine HLi.out.mono ?_; rintro e wb ⟨vl, rfl, hvl, hbb⟩; have Hbb := hidC hbb; have HSm : Hid (Calls Tryz.prog 24 #[vl, .slice ta r.2.length tc] wb fun e w' => LP wb true e w') := (by have h := same_calls wb vl (.slice ta r.2.length tc) r.1.lines r.2 hvl (row_mono (row_below Htv1.out hbb) (Nat.zero_le _)) (by have := Hk.out.few; omega); rw [decide_eq_true Hrl.out] at h; exact hidC h); clear hvl hbb))
 obtain ⟨mp, hmp⟩ : ∃ mp, wo.heap.size = mp := ⟨_, rfl⟩
 obtain ⟨w2, hw2⟩ : ∃ w2, ((wo.alloc (.map #[] 0)).alloc (.map #[] 0)).alloc (.map #[] 0) = w2 := ⟨_, rfl⟩
 have hb2 : Below mp wo w2 := by rw [← hw2, ← hmp]; exact (((Below.refl _ _).alloc (Nat.le_refl _) _).alloc (by simp) _).alloc (by simp; omega) _
 have hs2 : w2.heap.size = mp + 3 := by rw [← hw2, ← hmp]; simp
 have e1 : mp + 1 = (wo.alloc (.map #[] 0)).heap.size := by rw [← hmp]; simp
 have e2 : mp + 2 = ((wo.alloc (.map #[] 0)).alloc (.map #[] 0)).heap.size := by rw [← hmp]; simp
 have hP0 : MapAt w2 mp nV ([] : List (Tx × Nat)) := by rw [← hw2, ← hmp]; exact (MapAt.new.al _).al _
 have hA0 : MapAt w2 (mp + 1) sV ([] : List (Tx × Tx)) := by rw [← hw2, e1]; exact MapAt.new.al _
 have hR0 : MapAt w2 (mp + 2) nV ([] : List (Tx × Nat)) := by rw [← hw2, e2]; exact MapAt.new
 have hbc : Below W.heap.size W wo := Hb1.out.trans ((Hbb.out.trans (Hdc.out.mono Hbb.out.size)).mono Hb1.out.size)
 have hbw1 : Below w1.heap.size w1 wo := Hbb.out.trans (Hdc.out.mono Hbb.out.size)
 have hW2 : W.heap.size ≤ mp := by rw [← hmp]; exact hbc.size
 have HK0 : Hid (K9 w2 mp (mp + 1) (mp + 2) ⟨0, [], [], []⟩ w2) := hidC ⟨But.refl _ _ _, hP0, hA0, hR0⟩
 have HWb : Hid (∀ wx, But (fun b => b = mp ∨ b = mp + 1 ∨ b = mp + 2) w2.heap.size w2 wx → Below mp wo wx) := hidC fun wx h => hb2.trans (h.below (by omega) (fun k hk => by omega))
 have HWw : Hid (∀ wx, Below mp wo wx → Below W.heap.size W wx) := hidC fun wx h => hbc.trans (h.mono hW2)
 have HW1 : Hid (∀ wx, Below mp wo wx → Below w1.heap.size w1 wx) := hidC fun wx h => hbw1.trans (h.mono (by rw [← hmp]; exact hbw1.size))
 obtain ⟨nt, hnt⟩ : ∃ nt, r.2.length = nt := ⟨_, rfl⟩
 have hnt150 : nt ≤ 150 := by rw [← hnt, ← Hrl.out]; exact Hk.out.few
 have HKb := hidC (kept_b HF.out.ords)
 clear hT HLi HSm Hbb Hdc hb2 hP0 hA0 hR0 hbc hbw1 hW2 e1 e2
 have hmp1 : (wo.alloc (.map #[] 0)).heap.size = mp + 1 := by rw [← hmp]; simp
 have hmp2 : ((wo.alloc (.map #[] 0)).alloc (.map #[] 0)).heap.size = mp + 2 := by rw [← hmp]; simp
 rw [hnt]
 go_upto_block 0 with fail
 clear hmp1 hmp2
 go_cut [5] (fun s5 wx => s5 = nV (keptM r.2).came ∧ K9 w2 mp (mp + 1) (mp + 2) (keptM r.2) wx)
 case first =>
  go_wp2_with fail
  go_loopg [5, 55] (nt + 1) (fun gk s5 s55 wx => ∃ i : Nat, s55 = .int .i64 (i : Int) ∧ i ≤ nt ∧ nt < i + gk ∧ s5 = nV (keptM (r.2.take i)).came ∧ K9 w2 mp (mp + 1) (mp + 2) (keptM (r.2.take i)) wx)
  case atStart => exact ⟨0, rfl, by omega, by omega, rfl, HK0.out⟩
  case round =>
   obtain ⟨i, rfl, hi, hg, rfl, hK⟩ := hrel
   have hbx := HWb.out wr hK.1
   by_cases hlt : i < nt
   ·obtain ⟨g', rfl⟩ : ∃ g', gk = g' + 1 := ⟨gk - 1, by omega⟩
    obtain ⟨x, hx⟩ : ∃ x, r.2[i]? = some x := ⟨_, List.getElem?_eq_getElem (by omega)⟩
    obtain ⟨xo, hxp⟩ := HF.out.ords x (List.mem_of_getElem? hx)
    obtain ⟨hf1, hf2, hf3, hf4⟩ := line_fields hxp
    have hrow : wr.ownsRow W.heap.size 9 1 (.slice ta r.2.length tc) r.2.length (r.2.map sV) := row_below Htv1.out (HW1.out wr hbx)
    obtain ⟨tg, rfl⟩ := row_none hrow (by omega)
    have hc := (row_get hrow (k := i) (by omega)).1
    rw [List.getElem?_map, hx] at hc
    have hlen : x.length ≤ 100000 := Hk.out.lines x (by rw [Hrl.out]; exact List.mem_of_getElem? hx)
    have hEr : EnvS wr := HE.out.below (HWw.out wr hbx) HE.out.env.size
    obtain ⟨K, hKK⟩ : ∃ K, keptM (r.2.take i) = K := ⟨_, rfl⟩
    have hKbi := HKb.out i (by omega)
    rw [hKK] at hK hKbi
    have hsn : keptM (r.2.take (i + 1)) = keptO K xo := by
     rw [List.take_add_one, hx]
     show keptM (r.2.take i ++ [x]) = _
     rw [keptM_snoc, hKK]
     unfold keptL
     rw [hxp]
    obtain ⟨ws, hws⟩ : ∃ ws, Lib.fields x = ws := ⟨_, rfl⟩
    have hwne : ws ≠ [] := by rw [← hws, hf1]; exact split_ne 32 x
    obtain ⟨q, hq⟩ : ∃ q, ws.length = q + 1 := ⟨ws.length - 1, by have := List.length_pos_iff.2 hwne; omega⟩
    obtain ⟨y, hyq⟩ : ∃ y, ws[q]? = some y := ⟨_, List.getElem?_eq_getElem (by omega)⟩
    have hyl : y.length ≤ 1000000 := by
     have h1 : y ∈ splitC 32 x := by rw [← hf1, hws]; exact List.mem_of_getElem? hyq
     have := (splitC_bound (c := 32) (l := x)).2 y h1
     omega
    have hql : q ≤ 100000 := by
     have := (splitC_bound (c := 32) (l := x)).1
     rw [← hf1, hws] at this
     omega
    obtain ⟨bw, hbw⟩ : ∃ bw, wr.heap.size = bw := ⟨_, rfl⟩
    obtain ⟨wA, hwA⟩ : ∃ wA, wr.alloc (.cells (ws.map sV).toArray 9) = wA := ⟨_, rfl⟩
    have hFi : Calls Tryz.prog 42 #[sV x] wr fun e w' => e = .returned (.slice (some ⟨bw, 0, none⟩) (q + 1) (q + 1)) ∧ w' = wA := by rw [← hwA, ← hq, ← hbw]; exact fields_calls x wr hEr hlen hf4 ws hws
    have hbA : Below wr.heap.size wr wA := by rw [← hwA]; exact (Below.refl _ _).alloc (Nat.le_refl _) _
    have hcA : ∀ (k : Nat) w, ws[k]? = some w → wA.cell? ⟨bw, k, none⟩ = some (sV w) := fun k w hk => by
     rw [← hwA, ← hbw]
     unfold World.cell?
     rw [heap_alloc_new]
     simp [hk]
    have hlA : bw < wA.heap.size := by rw [← hwA, ← hbw]; simp
    have hc3 := hcA q y hyq
    have hbwm : mp + 3 ≤ bw := by have := hK.1.size; omega
    have hAt := atoi2_calls y wA (hEr.below hbA (by have := HE.out.env.size; have := (HWw.out wr hbx).size; omega)).env hyl
    have HAt := hidC hAt
    have HFi := hidC hFi
    have HcA := hidC hcA
    have HKA := hidC (hK.below hbA)
    have Hsn := hidC hsn
    have hi1 : (0 : Int) ≤ (i : Int) := by omega
    have hi2 : (i : Int) < (nt : Int) := by omega
    have hq1 : (0 : Int) ≤ (q : Int) := by omega
    have hq2 : (q : Int) < (q : Int) + 1 := by omega
    have hq0 : Hid (IntKind.i64.wrap (q : Int) = (q : Int)) := hidC (IntWalk.i64_in _ (by omega))
    have Hcase := hidC (kept_case hxp)
    rw [hws] at Hcase
    rw [hKK]
    clear hf1 hf2 hf3 hf4 hrow hlen hEr hAt hFi hcA hK hbx hsn hxp hwA hbw hKK hx hbA hyl hwne
    have hq0' := hq0.out
    go_upto_region 11 with (first
     | (go_at_call 43; refine HAt.out.mono ?_; rintro e wB ⟨z, zv, rfl, hnum, hbB⟩; have HbB := hidC hbB; clear hbB)
     | (go_at_call 42; refine HFi.out.mono ?_; rintro e wf ⟨rfl, hwf⟩; subst wf))
    have HKB := hidC (HKA.out.below HbB.out)
    have hcB : ∀ (k : Nat) w, ws[k]? = some w → wB.cell? ⟨bw, k, none⟩ = some (sV w) := fun k w hk => (HbB.out.cell (p := ⟨bw, k, none⟩) hlA).trans (HcA.out k w hk)
    clear hq0' hc3 hc HKA HcA HAt HFi
    rcases Hcase.out with ⟨a, b, t, n, hws, hxo⟩ | ⟨a, t, n, hws, hnb, hn9, hxo⟩ | ⟨a, t, n, hws, hnb, hn9, hxo⟩ | ⟨f1, fs, hws, h1, h2, h3, hk⟩
    ·subst hxo
     have hxs : q = 3 := by rw [hws] at hq; simpa using hq.symm
     subst hxs
     rw [hws] at hcB
     have c0 := hcB 0 _ rfl
     have c1 := hcB 1 _ rfl
     have c2 := hcB 2 _ rfl
     obtain ⟨f1, hf1⟩ : ∃ f1, kGive = f1 := ⟨_, rfl⟩
     rw [hf1] at c0
     have k1 : (f1 == [103, 105, 118, 101]) = true := by rw [← hf1]; decide
     obtain ⟨ob, hu, hMu⟩ := updT (W := wB.drew) (HKB.out.2.2.1.eqb rfl) a b
     have hK2 : K9 w2 mp (mp + 1) (mp + 2) { K with asked := kSet a b K.asked } (itSet wB.drew (mp + 1) ob) := (HKB.out.below ((Below.refl _ _).drew)).asked hMu (by omega) (by omega)
     obtain ⟨wC, hwC⟩ : ∃ wC, itSet wB.drew (mp + 1) ob = wC := ⟨_, rfl⟩
     have c2' : wC.cell? ⟨bw, 2, none⟩ = some (sV b) := by rw [← hwC]; unfold World.cell? at c2 ⊢; rw [itSet_other (k := bw) (b := mp + 1) (by omega)]; exact c2
     rw [hwC] at hu hK2
     obtain ⟨v, hvv⟩ : ∃ v, (kGet b K.wr).getD 0 = v := ⟨_, rfl⟩
     have hvb : v ≤ 9999 * 150 := by rw [← hvv]; exact Nat.le_trans (getD_le hKbi.2.2 b) (Nat.mul_le_mul_left _ (by omega))
     have hlk := lookN1 hK2.2.2.2 b
     rw [hvv] at hlk
     obtain ⟨ob2, hu2, hMu2⟩ := updN hK2.2.2.2 b v
     have HKe := hidC (hK2.wr hMu2 (by omega) (by omega))
     have Hv := hidC hvv
     clear hMu hMu2 hK2 hf1 hcB hwC hvv hws hq hnum
     go_upto_region 13 with fail
     go_region
     all_goals go_wp2_with fail
     all_goals go_roundg g'
     case measure => omega
     case rel => exact ⟨i + 1, by simp, by omega, by omega, by rw [Hsn.out]; rfl, by rw [Hsn.out]; have h9 := Hv.out; subst h9; exact HKe.out⟩
    ·subst hxo
     have hxs : q = 2 := by rw [hws] at hq; simpa using hq.symm
     subst hxs
     rw [hws] at hcB
     have hyt : y = t := by have := hyq; rw [hws] at this; exact (Option.some.inj this).symm
     obtain rfl : z = (n : Int) := hnum n (by rw [hyt]; exact hnb)
     have c0 := hcB 0 _ rfl
     have c1 := hcB 1 _ rfl
     obtain ⟨f1, hf1⟩ : ∃ f1, kCome = f1 := ⟨_, rfl⟩
     rw [hf1] at c0
     have k1 : (f1 == [103, 105, 118, 101]) = false := by rw [← hf1]; decide
     have k2 : (f1 == [99, 111, 109, 101]) = true := by rw [← hf1]; decide
     obtain ⟨p, hpp⟩ : ∃ p, (kGet a K.asked).getD [] = p := ⟨_, rfl⟩
     have hl1 := lookT1 HKB.out.2.2.1 a
     rw [hpp] at hl1
     obtain ⟨v, hvv⟩ : ∃ v, (kGet p K.wr).getD 0 = v := ⟨_, rfl⟩
     have hvb : v ≤ 9999 * 150 := by rw [← hvv]; exact Nat.le_trans (getD_le hKbi.2.2 p) (Nat.mul_le_mul_left _ (by omega))
     have hl2 := lookN1 HKB.out.2.2.2 p
     rw [hvv] at hl2
     obtain ⟨ob2, hu0, hMu2⟩ := updN HKB.out.2.2.2 p (v + n)
     have hu2 : (Instr.mapUpdate 68 (.map (some (mp + 2))) (sV p) (.int .i64 ((v : Int) + (n : Int)))).run Tryz.prog wB = .ok () (itSet wB (mp + 2) ob2) := by rw [← Int.natCast_add]; exact hu0
     have hcb : K.came ≤ 9999 * 150 := Nat.le_trans hKbi.1 (Nat.mul_le_mul_left _ (by omega))
     obtain ⟨kc, hkc⟩ : ∃ kc, K.came = kc := ⟨_, rfl⟩
     rw [hkc] at hcb ⊢
     have hs1 : kc + n ≤ 1000000000 := by omega
     have hs2 : v + n ≤ 1000000000 := by omega
     have HKe := hidC (HKB.out.wr hMu2 (by omega) (by omega))
     have Hv := hidC hvv
     have Hp := hidC hpp
     have Hkc := hidC hkc
     clear hMu2 hu0 hf1 hcB hvv hpp hws hq hnum hnb hyt hkc
     go_wp2_with fail
     go_roundg g'
     case measure => omega
     case rel => exact ⟨i + 1, by simp, by omega, by omega, by rw [Hsn.out]; show _ = nV (keptO K (.come a n)).came; unfold keptO; rw [Hkc.out]; simp, by rw [Hsn.out]; have h8 := Hp.out; subst h8; have h9 := Hv.out; subst h9; exact HKe.out⟩
    ·subst hxo
     have hxs : q = 2 := by rw [hws] at hq; simpa using hq.symm
     subst hxs
     rw [hws] at hcB
     have hyt : y = t := by have := hyq; rw [hws] at this; exact (Option.some.inj this).symm
     obtain rfl : z = (n : Int) := hnum n (by rw [hyt]; exact hnb)
     have c0 := hcB 0 _ rfl
     have c1 := hcB 1 _ rfl
     obtain ⟨f1, hf1⟩ : ∃ f1, kPay = f1 := ⟨_, rfl⟩
     rw [hf1] at c0
     have k1 : (f1 == [103, 105, 118, 101]) = false := by rw [← hf1]; decide
     have k2 : (f1 == [99, 111, 109, 101]) = false := by rw [← hf1]; decide
     have k3 : (f1 == [112, 97, 121]) = true := by rw [← hf1]; decide
     obtain ⟨v, hvv⟩ : ∃ v, (kGet a K.paid).getD 0 = v := ⟨_, rfl⟩
     have hvb : v ≤ 9999 * 150 := by rw [← hvv]; exact Nat.le_trans (getD_le hKbi.2.1 a) (Nat.mul_le_mul_left _ (by omega))
     have hl2 := lookN1 HKB.out.2.1 a
     rw [hvv] at hl2
     obtain ⟨ob2, hu0, hMu2⟩ := updN HKB.out.2.1 a (v + n)
     have hu2 : (Instr.mapUpdate 68 (.map (some mp)) (sV a) (.int .i64 ((v : Int) + (n : Int)))).run Tryz.prog wB = .ok () (itSet wB mp ob2) := by rw [← Int.natCast_add]; exact hu0
     have hs2 : v + n ≤ 1000000000 := by omega
     have HKe := hidC (HKB.out.paid hMu2 (by omega) (by omega))
     have Hv := hidC hvv
     clear hMu2 hu0 hf1 hcB hvv hws hq hnum hnb hyt
     go_wp2_with fail
     go_roundg g'
     case measure => omega
     case rel => exact ⟨i + 1, by simp, by omega, by omega, by rw [Hsn.out]; rfl, by rw [Hsn.out]; have h9 := Hv.out; subst h9; exact HKe.out⟩
    ·rw [hws] at hcB
     have c0 := hcB 0 _ rfl
     have k1 : (f1 == [103, 105, 118, 101]) = false := beq_eq_false_iff_ne.2 h1
     have k2 : (f1 == [99, 111, 109, 101]) = false := beq_eq_false_iff_ne.2 h2
     have k3 : (f1 == [112, 97, 121]) = false := beq_eq_false_iff_ne.2 h3
     have Hk9 := hidC hk
     clear h1 h2 h3 hcB hws hq hnum hk
     go_wp2_with fail
     go_roundg g'
     case measure => omega
     case rel => exact ⟨i + 1, by simp, by omega, by omega, by rw [Hsn.out, Hk9.out], by rw [Hsn.out, Hk9.out]; exact HKB.out⟩
   ·obtain rfl : i = nt := by omega
    rw [List.take_of_length_le (by omega)] at hK ⊢
    have HK := hidC hK
    clear hK hbx
    go_wp2_with fail
    go_meet
    exact ⟨rfl, HK.out⟩
 case rest =>
  obtain ⟨rfl, hK⟩ := hcut
  obtain ⟨w3, hw3⟩ : ∃ w3, wc = w3 := ⟨_, rfl⟩
  rw [hw3] at hK
  rw [hw3]
  obtain ⟨d, hd⟩ : ∃ d, r.1.now = d := ⟨_, rfl⟩
  have hD : DeskOK d := by rw [← hd]; exact Hk.out.now
  have hb3 := HWb.out w3 hK.1
  obtain ⟨K, hKK⟩ : ∃ K, keptM r.2 = K := ⟨_, rfl⟩
  have hKD : KDesk K d := by rw [← hKK, ← hd]; exact HF.out.desk
  rw [hKK] at hK ⊢
  have HW3 : Hid (∀ wx, Below w3.heap.size w3 wx → Below W.heap.size W wx) := hidC fun wx h => HWw.out wx (hb3.trans (h.mono (by have := hb3.size; have := hK.1.size; omega)))
  have HO3 : Hid (∀ wx, Below w3.heap.size w3 wx → OffAt wx o r.1) := hidC fun wx h => Ho1.out.below (HW1.out wx (hb3.trans (h.mono (by have := hb3.size; have := hK.1.size; omega))))
  have HK3 : Hid (∀ wx, Below w3.heap.size w3 wx → MapAt wx mp nV K.paid ∧ MapAt wx (mp + 2) nV K.wr) := hidC fun wx h => ⟨hK.2.1.below h hK.2.1.lt, hK.2.2.2.below h hK.2.2.2.lt⟩
  have HE3 : Hid (∀ wx, Below w3.heap.size w3 wx → EnvS wx) := hidC fun wx h => HE.out.below (HW3.out wx h) HE.out.env.size
  obtain ⟨n, hn2⟩ : ∃ n, d.entries.length = n := ⟨_, rfl⟩
  have hn40 : n ≤ 40 := by rw [← hn2, (entries_perm d).length_eq]; exact hD.few
  have HX : Hid (∀ x ∈ d.entries, x.came ≤ 9999) := hidC fun x hx => (hD.ent x ((entries_perm d).mem_iff.1 hx)).came
  have HEn : Hid (∀ wx, Below w3.heap.size w3 wx → Calls Tryz.prog 29 #[ptrV o] wx fun e w' => RowP wx 79 7 d.entries.length (d.entries.flatMap cellsE) e w') := hidC fun wx h => by
   have := entries_calls o r.1 wx (HO3.out wx h) Hk.out.now
   rw [hd] at this
   exact this
  have Hd := hidC hd
  have HD := hidC hD
  have HKD := hidC hKD
  have Hsz : Hid ((Tryz.prog.info? 79).map (·.size) = some 7) := hidC (by kernel_rfl)
  have Hsz4 : Hid ((Tryz.prog.info? 76).map (·.size) = some 4) := hidC (by kernel_rfl)
  clear hK hd hD hb3 hKK hKD hw3 HK0 HKb
  go_upto_block 3 with (go_at_call 29; refine (HEn.out w3 (Below.refl _ _)).mono ?_; rintro e w4 ⟨ev, rfl, hev, hb4⟩; obtain ⟨ea, ec, rfl⟩ := row_slice hev; have Hev := hidC hev; have Hb4 := hidC hb4; clear hev hb4)
  go_cut [14] (fun s14 wx => s14 = nV K.came ∧ Below w3.heap.size w3 wx)
  case first =>
   go_wp2_with fail
   go_loopg [14, 116] (n + 1) (fun gk s14 s116 wx => ∃ k : Nat, s116 = .int .i64 (k : Int) ∧ k ≤ n ∧ n < k + gk ∧ s14 = nV (sumN ((d.entries.take k).map (·.came))) ∧ Below w4.heap.size w4 wx)
   case atStart => exact ⟨0, rfl, by omega, by omega, rfl, Below.refl _ _⟩
   case round =>
    obtain ⟨k, rfl, hk, hgk, rfl, hB5⟩ := hrel
    by_cases hlk : k < n
    ·obtain ⟨g', rfl⟩ : ∃ g', gk = g' + 1 := ⟨gk - 1, by omega⟩
     obtain ⟨x, hx⟩ : ∃ x, d.entries[k]? = some x := ⟨_, List.getElem?_eq_getElem (by omega)⟩
     obtain ⟨g, rfl⟩ := row_none Hev.out (by omega)
     have hgl : g < w4.heap.size := (row_get Hev.out (k := 0) (by omega)).2.2.1
     have Hra : Hid (wr.rangeAt g (k * 7) [sV x.word, sV x.form, sV x.see, sV x.writer, nV x.asked, nV x.came, nV x.vol]) := hidC (range_but (X := fun _ => False) (ent_at Hev.out hx) (But.of hB5) hgl (fun h => h))
     have hsn := sum_take (f := fun e : Ent => e.came) hx
     have hsb := sum_le (f := fun e : Ent => e.came) HX.out k
     have hxc := HX.out x (List.mem_of_getElem? hx)
     obtain ⟨q, hq⟩ : ∃ q, sumN ((d.entries.take k).map (·.came)) = q := ⟨_, rfl⟩
     rw [hq] at hsn hsb ⊢
     have hadd : q + x.came ≤ 1000000000 := by rw [hn2] at hsb; have := Nat.mul_le_mul_right 9999 hn40; omega
     have hk1 : (0 : Int) ≤ (k : Int) := by omega
     have hk2 : (k : Int) < (n : Int) := by omega
     have Hsn := hidC hsn
     have HB5 : Hid (∀ o, Below w4.heap.size w4 (wr.alloc o)) := hidC fun o => hB5.alloc hB5.size _
     clear hsn hsb hxc hq hB5 hx
     go_wp2_with (refine wpList_load_mid rfl 79 _ rfl g (k * 7) rfl [sV x.word, sV x.form, sV x.see, sV x.writer, nV x.asked, nV x.came, nV x.vol] _ Hra.out Tryz.underlying79 rfl Hsz.out ?_)
     go_roundg g'
     case measure => omega
     case rel => exact ⟨k + 1, by simp, by omega, by omega, by rw [Hsn.out]; simp, HB5.out _⟩
    ·obtain rfl : k = n := by omega
     rw [List.take_of_length_le (by omega)]
     have hs : sumN (d.entries.map (·.came)) = K.came := (sum_entries _ d).trans HKD.out.came.symm
     rw [hs]
     have HB5 := hidC (Hb4.out.trans (hB5.mono Hb4.out.size))
     clear hB5 hs
     go_wp2_with fail
     go_meet
     exact ⟨rfl, HB5.out⟩
  case rest =>
   obtain ⟨rfl, hc3⟩ := hcut
   obtain ⟨w5, hw5⟩ : ∃ w5, wc = w5 := ⟨_, rfl⟩
   rw [hw5] at hc3
   rw [hw5]
   have hVo := volumes_calls o r.1 w5 (HO3.out w5 hc3) Hk.out.now
   rw [Hd.out] at hVo
   have HVo := hidC hVo
   have Hc5 := hidC hc3
   obtain ⟨nv, hnv⟩ : ∃ nv, d.vols.length = nv := ⟨_, rfl⟩
   have hnv40 : nv ≤ 40 := by have h1 := HD.out.shut; rw [hnv] at h1; omega
   have HV : Hid (∀ v ∈ d.vols, v.lines ≤ 399960 ∧ v.sent ≤ 12) := hidC fun v hv => ⟨(HD.out.vol v hv).lines, (HD.out.vol v hv).sent⟩
   clear hw5 hc3 hVo
   go_upto_block 5 with (go_at_call 38; refine HVo.out.mono ?_; rintro e w6 ⟨vv, vws, rfl, hvl, hvr, hvt, hb6⟩; obtain ⟨va, vc, rfl⟩ := row_slice hvr; have Hvl := hidC hvl; have Hvr := hidC hvr; have Hvt := hidC hvt; have Hb6 := hidC hb6; clear hvl hvr hvt hb6)
   go_cut [15, 16] (fun s15 s16 wx => s15 = nV (sumN (d.vols.map (·.lines))) ∧ s16 = nV (sumN (d.vols.map (·.sent))) ∧ Below w3.heap.size w3 wx)
   case first =>
    go_wp2_with fail
    go_loopg [15, 16, 128] (nv + 1) (fun gk s15 s16 s128 wx => ∃ k : Nat, s128 = .int .i64 (k : Int) ∧ k ≤ nv ∧ nv < k + gk ∧ s15 = nV (sumN ((d.vols.take k).map (·.lines))) ∧ s16 = nV (sumN ((d.vols.take k).map (·.sent))) ∧ Below w6.heap.size w6 wx)
    case atStart => exact ⟨0, rfl, by omega, by omega, rfl, rfl, Below.refl _ _⟩
    case round =>
     obtain ⟨k, rfl, hk, hgk, rfl, rfl, hB5⟩ := hrel
     by_cases hlk : k < nv
     ·obtain ⟨g', rfl⟩ : ∃ g', gk = g' + 1 := ⟨gk - 1, by omega⟩
      obtain ⟨x, hx⟩ : ∃ x, d.vols[k]? = some x := ⟨_, List.getElem?_eq_getElem (by omega)⟩
      obtain ⟨u, hu⟩ : ∃ u, vws[k]? = some u := ⟨_, List.getElem?_eq_getElem (by have := Hvl.out; omega)⟩
      obtain ⟨ua, uc, rfl⟩ := row_slice (Hvt.out k u x hu hx)
      obtain ⟨g, rfl⟩ := row_none Hvr.out (by omega)
      have hgl : g < w6.heap.size := (row_get Hvr.out (k := 0) (by omega)).2.2.1
      have Hra : Hid (wr.rangeAt g (k * 4) [sV x.letter, .slice ua x.words.length uc, nV x.lines, nV x.sent]) := hidC (range_but (X := fun _ => False) (vol_at Hvl.out Hvr.out hx hu) (But.of hB5) hgl (fun h => h))
      have hsn := sum_take (f := fun e : Vol => e.lines) hx
      have hsb := sum_le (f := fun e : Vol => e.lines) (fun v hv => (HV.out v hv).1) k
      have hsn2 := sum_take (f := fun e : Vol => e.sent) hx
      have hsb2 := sum_le (f := fun e : Vol => e.sent) (fun v hv => (HV.out v hv).2) k
      obtain ⟨hx1, hx2⟩ := HV.out x (List.mem_of_getElem? hx)
      obtain ⟨q, hq⟩ : ∃ q, sumN ((d.vols.take k).map (·.lines)) = q := ⟨_, rfl⟩
      obtain ⟨q2, hq2⟩ : ∃ q2, sumN ((d.vols.take k).map (·.sent)) = q2 := ⟨_, rfl⟩
      rw [hq] at hsn hsb
      rw [hq2] at hsn2 hsb2
      rw [hq, hq2]
      have hadd : q + x.lines ≤ 1000000000 := by rw [hnv] at hsb; have := Nat.mul_le_mul_right 399960 hnv40; omega
      have hadd2 : q2 + x.sent ≤ 1000000000 := by rw [hnv] at hsb2; have := Nat.mul_le_mul_right 12 hnv40; omega
      have hk1 : (0 : Int) ≤ (k : Int) := by omega
      have hk2 : (k : Int) < (nv : Int) := by omega
      have Hsn := hidC hsn
      have Hsn2 := hidC hsn2
      have HB5 : Hid (∀ o, Below w6.heap.size w6 (wr.alloc o)) := hidC fun o => hB5.alloc hB5.size _
      clear hsn hsb hsn2 hsb2 hx1 hx2 hq hq2 hB5 hx hu
      go_wp2_with (refine wpList_load_mid rfl 76 _ rfl g (k * 4) rfl [sV x.letter, .slice ua x.words.length uc, nV x.lines, nV x.sent] _ Hra.out Tryz.underlying76 rfl Hsz4.out ?_)
      go_roundg g'
      case measure => omega
      case rel => exact ⟨k + 1, by simp, by omega, by omega, by rw [Hsn.out]; simp, by rw [Hsn2.out]; simp, HB5.out _⟩
     ·obtain rfl : k = nv := by omega
      rw [List.take_of_length_le (by omega)]
      have HB5 := hidC (Hc5.out.trans ((Hb6.out.trans (hB5.mono Hb6.out.size)).mono Hc5.out.size))
      clear hB5
      go_wp2_with fail
      go_meet
      exact ⟨rfl, rfl, HB5.out⟩
   case rest =>
    obtain ⟨rfl, rfl, hc6⟩ := hcut
    obtain ⟨w7, hw7⟩ : ∃ w7, wc = w7 := ⟨_, rfl⟩
    rw [hw7] at hc6
    rw [hw7, HKD.out.lines]
    have Hc7 := hidC hc6
    have HEn7 := hidC (HEn.out w7 hc6)
    have hPb : sumN (d.ents.map inVol) ≤ 400000 := by
     have h1 := sumN_le (k := 9999) (l := d.ents.map inVol) (fun m hm => by
      obtain ⟨e, he, rfl⟩ := List.mem_map.1 hm
      unfold inVol
      split
      ·exact (HD.out.ent e he).came
      ·exact Nat.zero_le _)
     rw [List.length_map] at h1
     have h2 := HD.out.few
     have := Nat.mul_le_mul_right 9999 h2
     omega
    obtain ⟨P0, hP0⟩ : ∃ P0, sumN (d.ents.map inVol) = P0 := ⟨_, rfl⟩
    have HP0 : Hid (sumN (d.entries.map inVol) = P0) := hidC ((sum_entries _ d).trans hP0)
    rw [hP0] at hPb
    rw [hP0]
    clear hw7 hc6 hP0
    go_upto_block 7 with (go_at_call 29; refine HEn7.out.mono ?_; rintro e w8 ⟨ev7, rfl, hev, hb8⟩; obtain ⟨ea7, ec7, rfl⟩ := row_slice hev; have Hev7 := hidC hev; have Hb8 := hidC hb8; clear hev hb8)
    go_cut [15] (fun s15 wx => s15 = nV 0 ∧ Below w3.heap.size w3 wx)
    case first =>
     go_wp2_with fail
     go_loopg [15, 144] (n + 1) (fun gk s15 s144 wx => ∃ k a : Nat, s144 = .int .i64 (k : Int) ∧ k ≤ n ∧ n < k + gk ∧ s15 = nV a ∧ a + sumN ((d.entries.take k).map inVol) = P0 ∧ Below w8.heap.size w8 wx)
     case atStart => exact ⟨0, P0, rfl, by omega, by omega, rfl, rfl, Below.refl _ _⟩
     case round =>
      obtain ⟨k, a, rfl, hk, hgk, rfl, hap, hB5⟩ := hrel
      by_cases hlk : k < n
      ·obtain ⟨g', rfl⟩ : ∃ g', gk = g' + 1 := ⟨gk - 1, by omega⟩
       obtain ⟨x, hx⟩ : ∃ x, d.entries[k]? = some x := ⟨_, List.getElem?_eq_getElem (by omega)⟩
       obtain ⟨g, rfl⟩ := row_none Hev7.out (by omega)
       have hgl : g < w8.heap.size := (row_get Hev7.out (k := 0) (by omega)).2.2.1
       have Hra : Hid (wr.rangeAt g (k * 7) [sV x.word, sV x.form, sV x.see, sV x.writer, nV x.asked, nV x.came, nV x.vol]) := hidC (range_but (X := fun _ => False) (ent_at Hev7.out hx) (But.of hB5) hgl (fun h => h))
       have hsn := sum_take (f := inVol) hx
       have hle : sumN ((d.entries.take (k + 1)).map inVol) ≤ P0 := by
        rw [← HP0.out]
        have h1 := List.take_append_drop (k + 1) d.entries
        have h2 : sumN (d.entries.map inVol) = sumN ((d.entries.take (k + 1)).map inVol) + sumN ((d.entries.drop (k + 1)).map inVol) := by
         rw [← sumN_app, ← List.map_append, h1]
        omega
       have hk1 : (0 : Int) ≤ (k : Int) := by omega
       have hk2 : (k : Int) < (n : Int) := by omega
       have HB5 : Hid (∀ o, Below w8.heap.size w8 (wr.alloc o)) := hidC fun o => hB5.alloc hB5.size _
       by_cases hv0 : 0 < x.vol
       ·have hiv : inVol x = x.came := if_pos hv0
        obtain ⟨b, rfl⟩ : ∃ b, a = b + x.came := ⟨a - x.came, by omega⟩
        have hv0' : decide (0 < x.vol) = true := decide_eq_true hv0
        have Hap : Hid (b + sumN ((d.entries.take (k + 1)).map inVol) = P0) := hidC (by omega)
        have hbb : b ≤ 400000 := by omega
        have hw0 : Hid (IntKind.i64.wrap (b : Int) = (b : Int)) := hidC (IntWalk.i64_in _ (by omega))
        clear hsn hle hB5 hx hap hiv hv0
        have hw0' := hw0.out
        go_wp2_with (refine wpList_load_mid rfl 79 _ rfl g (k * 7) rfl [sV x.word, sV x.form, sV x.see, sV x.writer, nV x.asked, nV x.came, nV x.vol] _ Hra.out Tryz.underlying79 rfl Hsz.out ?_)
        clear hw0'
        go_roundg g'
        case measure => omega
        case rel => exact ⟨k + 1, b, by simp, by omega, by omega, by simp, Hap.out, HB5.out _⟩
       ·have hiv : inVol x = 0 := if_neg hv0
        have hv0' : decide (0 < x.vol) = false := decide_eq_false hv0
        have Hap : Hid (a + sumN ((d.entries.take (k + 1)).map inVol) = P0) := hidC (by omega)
        clear hsn hle hB5 hx hap hiv hv0
        go_wp2_with (refine wpList_load_mid rfl 79 _ rfl g (k * 7) rfl [sV x.word, sV x.form, sV x.see, sV x.writer, nV x.asked, nV x.came, nV x.vol] _ Hra.out Tryz.underlying79 rfl Hsz.out ?_)
        go_roundg g'
        case measure => omega
        case rel => exact ⟨k + 1, a, by simp, by omega, by omega, rfl, Hap.out, HB5.out _⟩
      ·obtain rfl : k = n := by omega
       rw [List.take_of_length_le (by omega), HP0.out] at hap
       obtain rfl : a = 0 := by omega
       have HB5 := hidC (Hc7.out.trans ((Hb8.out.trans (hB5.mono Hb8.out.size)).mono Hc7.out.size))
       clear hB5
       go_wp2_with fail
       go_meet
       exact ⟨rfl, HB5.out⟩
    case rest =>
     obtain ⟨rfl, hc8⟩ := hcut
     obtain ⟨w9, hw9⟩ : ∃ w9, wc = w9 := ⟨_, rfl⟩
     rw [hw9] at hc8
     rw [hw9, HKD.out.sent]
     have Hc9 := hidC hc8
     have hAc := accounts_calls o r.1 w9 (HO3.out w9 hc8) Hk.out.now
     rw [Hd.out] at hAc
     have HAc := hidC hAc
     obtain ⟨na, hna⟩ : ∃ na, d.accounts.length = na := ⟨_, rfl⟩
     have hna12 : na ≤ 12 := by rw [← hna, (accounts_perm d).length_eq]; exact HD.out.fewa
     have HA : Hid (∀ a ∈ d.accounts, a.pence ≤ 9999 ∧ a.vols ≤ 40) := hidC fun a ha => by
      obtain ⟨_, h1, h2⟩ := HD.out.acc a ((accounts_perm d).mem_iff.1 ha)
      exact ⟨h1, by have := hnv40; omega⟩
     have HSa : Hid (sumN (d.accounts.map (·.vols)) = sumN (d.accs.map (·.vols))) := hidC (sum_accounts _ d)
     have Hsz5 : Hid ((Tryz.prog.info? 46).map (·.size) = some 4) := hidC (by kernel_rfl)
     clear hw9 hc8 hAc
     go_upto_block 9 with (go_at_call 28; refine HAc.out.mono ?_; rintro e w10 ⟨av, rfl, hav, hb10⟩; obtain ⟨aa, ac, rfl⟩ := row_slice hav; have Hav := hidC hav; have Hb10 := hidC hb10; clear hav hb10)
     have HMp : Hid (∀ wx, Below w10.heap.size w10 wx → MapAt wx mp nV K.paid) := hidC fun wx h => (HK3.out wx (Hc9.out.trans ((Hb10.out.trans (h.mono Hb10.out.size)).mono Hc9.out.size))).1
     go_cut [17] (fun s17 wx => s17 = nV (sumN (d.accs.map (·.vols))) ∧ Below w10.heap.size w10 wx)
     case first =>
      go_wp2_with fail
      go_loopg [17, 160] (na + 1) (fun gk s17 s160 wx => ∃ k : Nat, s160 = .int .i64 (k : Int) ∧ k ≤ na ∧ na < k + gk ∧ s17 = nV (sumN ((d.accounts.take k).map (·.vols))) ∧ Below w10.heap.size w10 wx)
      case atStart => exact ⟨0, rfl, by omega, by omega, rfl, Below.refl _ _⟩
      case round =>
       obtain ⟨k, rfl, hk, hgk, rfl, hB5⟩ := hrel
       by_cases hlk : k < na
       ·obtain ⟨g', rfl⟩ : ∃ g', gk = g' + 1 := ⟨gk - 1, by omega⟩
        obtain ⟨x, hx⟩ : ∃ x, d.accounts[k]? = some x := ⟨_, List.getElem?_eq_getElem (by omega)⟩
        obtain ⟨g, rfl⟩ := row_none Hav.out (by omega)
        have hgl : g < w10.heap.size := (row_get Hav.out (k := 0) (by omega)).2.2.1
        have Hra : Hid (wr.rangeAt g (k * 4) [sV x.who, nV x.pence, nV x.vols, .bool x.stop]) := hidC (range_but (X := fun _ => False) (acc_at Hav.out hx) (But.of hB5) hgl (fun h => h))
        have hsn := sum_take (f := fun a : Clerk.Acc => a.vols) hx
        have hsb := sum_le (f := fun a : Clerk.Acc => a.vols) (fun a ha => (HA.out a ha).2) k
        obtain ⟨hx1, hx2⟩ := HA.out x (List.mem_of_getElem? hx)
        obtain ⟨q, hq⟩ : ∃ q, sumN ((d.accounts.take k).map (·.vols)) = q := ⟨_, rfl⟩
        rw [hq] at hsn hsb ⊢
        have hadd : q + x.vols ≤ 1000000000 := by rw [hna] at hsb; have := Nat.mul_le_mul_right 40 hna12; omega
        have hk1 : (0 : Int) ≤ (k : Int) := by omega
        have hk2 : (k : Int) < (na : Int) := by omega
        obtain ⟨wa, hwa⟩ : ∃ wa, wr.alloc (.cells #[sV x.who, nV x.pence, nV x.vols, .bool x.stop] 46) = wa := ⟨_, rfl⟩
        have hBa : Below w10.heap.size w10 wa := by rw [← hwa]; exact hB5.alloc hB5.size _
        have hbox : wa.heap[wr.heap.size]? = some (.cells #[sV x.who, nV x.pence, nV x.vols, .bool x.stop] 46 (0, 0)) := by rw [← hwa]; exact heap_alloc_new _ _
        have b0 : wa.cell? ⟨wr.heap.size, 0, none⟩ = some (sV x.who) := by simp [World.cell?, hbox]
        have b1 : wa.cell? ⟨wr.heap.size, 1, none⟩ = some (nV x.pence) := by simp [World.cell?, hbox]
        have b2 : wa.cell? ⟨wr.heap.size, 2, none⟩ = some (nV x.vols) := by simp [World.cell?, hbox]
        have hpg := paid_get HKD.out HD.out (List.mem_of_getElem? hx)
        have HL : Hid (∀ q, (Instr.lookup 68 (.map (some mp)) (sV x.who) false).run Tryz.prog (wa.drewN q) = .ok (.int .i64 ((x.pence : Int) + 20 * (x.vols : Int))) (wa.drewN q)) := hidC fun q => by
         have h9 := lookN1 (W := wa.drewN q) ((HMp.out wa hBa).eqb rfl) x.who
         rw [hpg] at h9
         rw [h9]
         congr 2
        have Hsn := hidC hsn
        have Hxx := hidC hx
        have HBa := hidC hBa
        have Hbb := hidC (And.intro b0 (And.intro b1 b2))
        obtain ⟨bx, hbx⟩ : ∃ bx, wr.heap.size = bx := ⟨_, rfl⟩
        rw [hbx] at Hbb
        have hs2 : (0 : Int) ≤ (q : Int) := by omega
        clear hsn hsb hq hB5 hx hBa hbox b0 b1 b2 hpg
        go_upto_region 43 with (refine wpList_load_mid rfl 46 _ rfl g (k * 4) rfl [sV x.who, nV x.pence, nV x.vols, .bool x.stop] _ Hra.out Tryz.underlying46 rfl Hsz5.out ?_)
        obtain ⟨b0, b1, b2⟩ := Hbb.out
        clear hwa hbx
        go_cut [205] (fun s205 wx => s205 = .bool false ∧ ∃ q, wx = wa.drewN q)
        case first =>
         have hlk := HL.out
         have hp0 : decide ((x.pence : Int) < 0) = false := decide_eq_false (by omega)
         have hv0 : decide ((x.vols : Int) < 0) = false := decide_eq_false (by omega)
         have hv1 : decide (150 < x.vols) = false := decide_eq_false (by omega)
         have hv2 : decide ((150 : Int) < (x.vols : Int)) = false := decide_eq_false (by omega)
         by_cases h0 : 0 < k
         ·have h0' : decide (0 < k) = true := decide_eq_true h0
          obtain ⟨j, rfl⟩ : ∃ j, k = j + 1 := ⟨k - 1, by omega⟩
          obtain ⟨y, hy⟩ : ∃ y, d.accounts[j]? = some y := ⟨_, List.getElem?_eq_getElem (by omega)⟩
          have hlt2 := geq_no (accounts_lt HD.out hy Hxx.out)
          have hcy : wa.cell? ⟨g, j * 4, none⟩ = some (sV y.who) := (range_but (X := fun _ => False) (acc_at Hav.out hy) (But.of HBa.out) hgl (fun h => h)) 0 _ rfl
          have hj1 : (0 : Int) ≤ (j : Int) := by omega
          have hj2 : (j : Int) < (na : Int) := by omega
          have hj0 : Hid (IntKind.i64.wrap (j : Int) = (j : Int)) := hidC (IntWalk.i64_in _ (by omega))
          have hw1 : Hid (IntKind.i64.wrap (20 * (x.vols : Int)) = 20 * (x.vols : Int)) := hidC (IntWalk.i64_in _ (by omega))
          have hw2 : Hid (IntKind.i64.wrap ((x.pence : Int) + 20 * (x.vols : Int)) = (x.pence : Int) + 20 * (x.vols : Int)) := hidC (IntWalk.i64_in _ (by omega))
          have hj0' := hj0.out
          have hw1' := hw1.out
          have hw2' := hw2.out
          go_quiet (fail)
          go_wp2_with fail
          go_meet
          exact ⟨rfl, _, rfl⟩
         ·have h0' : decide (0 < k) = false := decide_eq_false h0
          have hw1 : Hid (IntKind.i64.wrap (20 * (x.vols : Int)) = 20 * (x.vols : Int)) := hidC (IntWalk.i64_in _ (by omega))
          have hw2 : Hid (IntKind.i64.wrap ((x.pence : Int) + 20 * (x.vols : Int)) = (x.pence : Int) + 20 * (x.vols : Int)) := hidC (IntWalk.i64_in _ (by omega))
          have hw1' := hw1.out
          have hw2' := hw2.out
          go_quiet (fail)
          go_wp2_with fail
          go_meet
          exact ⟨rfl, _, rfl⟩
        case rest =>
         obtain ⟨rfl, q9, rfl⟩ := hcut
         have b2' : (wa.drewN q9).cell? ⟨bx, 2, none⟩ = some (nV x.vols) := b2
         have HB9 : Hid (Below w10.heap.size w10 (wa.drewN q9)) := hidC ⟨HBa.out.os, HBa.out.tape, HBa.out.output, HBa.out.size, HBa.out.block⟩
         clear b0 b1 b2
         go_wp2_with fail
         go_roundg g'
         case measure => omega
         case rel => exact ⟨k + 1, by simp, by omega, by omega, by rw [Hsn.out]; simp, HB9.out⟩
       ·obtain rfl : k = na := by omega
        rw [List.take_of_length_le (by omega), HSa.out]
        have HB5 := hidC hB5
        clear hB5
        go_wp2_with fail
        go_meet
        exact ⟨rfl, HB5.out⟩
     case rest =>
      obtain ⟨rfl, hc10⟩ := hcut
      obtain ⟨w11, hw11⟩ : ∃ w11, wc = w11 := ⟨_, rfl⟩
      rw [hw11] at hc10
      rw [hw11]
      have hc11 : Below w3.heap.size w3 w11 := Hc9.out.trans ((Hb10.out.trans (hc10.mono Hb10.out.size)).mono Hc9.out.size)
      have Hc11 := hidC hc11
      have hWr := writers_calls o r.1 w11 (HO3.out w11 hc11) Hk.out.now
      rw [Hd.out] at hWr
      have HWr := hidC hWr
      obtain ⟨nw, hnw⟩ : ∃ nw, d.writers.length = nw := ⟨_, rfl⟩
      have hnw40 : nw ≤ 40 := by
       obtain ⟨h1, h2⟩ := wrs_spec d
       have h3 := nodup_le h1 fun p hp => ((h2 p).1 hp).2
       rw [List.length_map] at h3
       have h4 := HD.out.few
       rw [← hnw, writers_is, List.length_map, List.length_mergeSort]
       omega
      obtain ⟨X, hX⟩ : ∃ X, sumN (d.accs.map (·.vols)) = X := ⟨_, rfl⟩
      rw [hX]
      have Hsz2 : Hid ((Tryz.prog.info? 87).map (·.size) = some 2) := hidC (by kernel_rfl)
      clear hw11 hc11 hc10 hWr hX
      go_upto_block 11 with (go_at_call 39; refine HWr.out.mono ?_; rintro e w12 ⟨wv, rfl, hwv, hb12⟩; obtain ⟨wwa, wwc, rfl⟩ := row_slice hwv; have Hwv := hidC hwv; have Hb12 := hidC hb12; clear hwv hb12)
      have HMw : Hid (∀ wx, Below w12.heap.size w12 wx → Below w3.heap.size w3 wx) := hidC fun wx h => Hc11.out.trans ((Hb12.out.trans (h.mono Hb12.out.size)).mono Hc11.out.size)
      go_cut [] (fun wx => Below w12.heap.size w12 wx)
      case first =>
       go_wp2_with fail
       go_loopg [215] (nw + 1) (fun gk s215 wx => ∃ k : Nat, s215 = .int .i64 (k : Int) ∧ k ≤ nw ∧ nw < k + gk ∧ Below w12.heap.size w12 wx)
       case atStart => exact ⟨0, rfl, by omega, by omega, Below.refl _ _⟩
       case round =>
        obtain ⟨k, rfl, hk, hgk, hB5⟩ := hrel
        by_cases hlk : k < nw
        ·obtain ⟨g', rfl⟩ : ∃ g', gk = g' + 1 := ⟨gk - 1, by omega⟩
         obtain ⟨x, hx⟩ : ∃ x, d.writers[k]? = some x := ⟨_, List.getElem?_eq_getElem (by omega)⟩
         obtain ⟨g, rfl⟩ := row_none Hwv.out (by omega)
         have hgl : g < w12.heap.size := (row_get Hwv.out (k := 0) (by omega)).2.2.1
         have Hra : Hid (wr.rangeAt g (k * 2) [sV x.1, nV x.2]) := hidC (range_but (X := fun _ => False) (flat_at (f := cellsC) (fun _ => rfl) Hwv.out hx) (But.of hB5) hgl (fun h => h))
         have hk1 : (0 : Int) ≤ (k : Int) := by omega
         have hk2 : (k : Int) < (nw : Int) := by omega
         obtain ⟨wa, hwa⟩ : ∃ wa, wr.alloc (.cells #[sV x.1, nV x.2] 87) = wa := ⟨_, rfl⟩
         have hBa : Below w12.heap.size w12 wa := by rw [← hwa]; exact hB5.alloc hB5.size _
         have hbox : wa.heap[wr.heap.size]? = some (.cells #[sV x.1, nV x.2] 87 (0, 0)) := by rw [← hwa]; exact heap_alloc_new _ _
         have b0 : wa.cell? ⟨wr.heap.size, 0, none⟩ = some (sV x.1) := by simp [World.cell?, hbox]
         have b1 : wa.cell? ⟨wr.heap.size, 1, none⟩ = some (nV x.2) := by simp [World.cell?, hbox]
         have hlk := lookN (HK3.out wa (HMw.out wa hBa)).2 x.1
         rw [wr_get HKD.out (List.mem_of_getElem? hx)] at hlk
         have Hlk : Hid ((Instr.lookup 68 (.map (some (mp + 2))) (sV x.1) true).run Tryz.prog wa = .ok (.tuple #[nV x.2, .bool true]) wa) := hlk
         have Hxx := hidC hx
         have HBa := hidC hBa
         have Hbb := hidC (And.intro b0 b1)
         obtain ⟨bx, hbx⟩ : ∃ bx, wr.heap.size = bx := ⟨_, rfl⟩
         rw [hbx] at Hbb
         clear hB5 hx hBa hbox b0 b1 hlk
         go_upto_region 51 with (refine wpList_load_mid rfl 87 _ rfl g (k * 2) rfl [sV x.1, nV x.2] _ Hra.out Tryz.underlying87 rfl Hsz2.out ?_)
         obtain ⟨b0, b1⟩ := Hbb.out
         clear hwa hbx
         have hlk' := Hlk.out
         go_upto_region 52 with fail
         clear hlk'
         go_cut [249] (fun s249 wx => s249 = .bool false ∧ ∃ q, wx = wa.drewN q)
         case first =>
          by_cases h0 : 0 < k
          ·have h0' : decide (0 < k) = true := decide_eq_true h0
           obtain ⟨j, rfl⟩ : ∃ j, k = j + 1 := ⟨k - 1, by omega⟩
           obtain ⟨y, hy⟩ : ∃ y, d.writers[j]? = some y := ⟨_, List.getElem?_eq_getElem (by omega)⟩
           have hlt2 := geq_no (writers_lt hy Hxx.out)
           have hcy : wa.cell? ⟨g, j * 2, none⟩ = some (sV y.1) := (range_but (X := fun _ => False) (flat_at (f := cellsC) (fun _ => rfl) Hwv.out hy) (But.of HBa.out) hgl (fun h => h)) 0 _ rfl
           have hj1 : (0 : Int) ≤ (j : Int) := by omega
           have hj2 : (j : Int) < (nw : Int) := by omega
           have hj0 : IntKind.i64.wrap (j : Int) = (j : Int) := IntWalk.i64_in _ (by omega)
           go_quiet (fail)
           go_wp2_with fail
           go_meet
           exact ⟨rfl, _, rfl⟩
          ·have h0' : decide (0 < k) = false := decide_eq_false h0
           go_quiet (fail)
           go_wp2_with fail
           go_meet
           exact ⟨rfl, _, rfl⟩
         case rest =>
          obtain ⟨rfl, q9, rfl⟩ := hcut
          have HB9 : Hid (Below w12.heap.size w12 (wa.drewN q9)) := hidC ⟨HBa.out.os, HBa.out.tape, HBa.out.output, HBa.out.size, HBa.out.block⟩
          clear b0 b1
          go_wp2_with fail
          go_roundg g'
          case measure => omega
          case rel => exact ⟨k + 1, by simp, by omega, by omega, HB9.out⟩
        ·obtain rfl : k = nw := by omega
         have HB5 := hidC hB5
         clear hB5
         go_wp2_with fail
         go_meet
         exact HB5.out
      case rest =>
       have hc13 := HMw.out wc hcut
       obtain ⟨w13, hw13⟩ : ∃ w13, wc = w13 := ⟨_, rfl⟩
       rw [hw13] at hc13
       rw [hw13]
       have hl1 : K.paid.length = na := (paid_len HKD.out HD.out).trans hna
       have hl2 : K.wr.length = nw := (wr_len HKD.out).trans hnw
       have HLn : Hid (∀ w', Below w13.heap.size w13 w' → (Builtin.len_ #[68] 3 #[.map (some mp)]).run Tryz.prog w' = .ok (nV na) w' ∧ (Builtin.len_ #[68] 3 #[.map (some (mp + 2))]).run Tryz.prog w' = .ok (nV nw) w') := hidC fun w' h => by
        obtain ⟨h1, h2⟩ := HK3.out w' (hc13.trans (h.mono hc13.size))
        have e1 := h1.lenRun (P := Tryz.prog) Tryz.underlying68 3
        have e2 := h2.lenRun (P := Tryz.prog) Tryz.underlying68 3
        rw [hl1] at e1
        rw [hl2] at e2
        exact ⟨e1, e2⟩
       have HWk : Hid (∀ w', Below w13.heap.size w13 w' → Calls Tryz.prog 15 #[] w' fun e w'' => e = .returned (.bool true) ∧ Below w'.heap.size w' w'') := hidC fun w' h => works_calls w' (HE3.out w' (hc13.trans (h.mono hc13.size))).env
       have Hc13 := hidC hc13
       clear hw13 hc13 hcut hl1 hl2
       obtain ⟨hln1, hln2⟩ := HLn.out w13 (Below.refl _ _)
       go_wp2_with (go_at_call 15; refine (HWk.out w13 (Below.refl _ _)).mono ?_; rintro e wz ⟨rfl, hbz⟩; have Hz := hidC (Hc13.out.trans (hbz.mono Hc13.out.size)); clear hbz)
       go_ret
       exact ⟨rfl, HW3.out _ Hz.out⟩
end Go.Proofs.YtjeadhfponlnnaaGreatDoor
