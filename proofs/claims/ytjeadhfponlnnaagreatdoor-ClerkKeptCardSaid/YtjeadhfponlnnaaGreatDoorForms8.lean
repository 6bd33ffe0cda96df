/-
  ClerkForms in the model.
  Conditions: none; lemmas.
-/
import Derived.Test.YtjeadhfponlnnaaGreatDoorPart45
import Derived.Test.YtjeadhfponlnnaaGreatDoorVolumes38
import Derived.Test.YtjeadhfponlnnaaGreatDoorTold41
import Derived.Test.YtjeadhfponlnnaaGreatDoorWorks15
import Derived.Deep.QuietTactic
import Derived.BigQuiet
set_option linter.unusedSimpArgs false
set_option linter.unusedVariables false
namespace Go.Proofs.YtjeadhfponlnnaaGreatDoor
open Go.RowKit Go.Pur Go.Clerk
open Go.Abs
set_option maxRecDepth 1000000
set_option maxHeartbeats 8000000
theorem cut_acts {W : World} {ad : Option Addr} {cap m : Nat} {l : List ActT} (h : ActsAt W (.slice ad l.length cap) l) (hm : m ≤ l.length) : ActsAt W (.slice ad m cap) (l.take m) := by
 obtain ⟨ad', cap', e, h2⟩ := h
 cases e
 refine ⟨ad, cap, by rw [List.length_take, Nat.min_eq_left hm], ?_⟩
 rcases h2 with rfl | ⟨g, off, e1, e2, e3⟩
 ·exact .inl (by simp)
 ·exact .inr ⟨g, off, e1, e2, fun i a ha => by
   refine e3 i a ?_
   rw [List.getElem?_take] at ha
   split at ha
   ·exact ha
   ·cases ha⟩
theorem less_of {a b : Tx} (h : ¬ b ≤ a) : Op.bytesLess a b = true := by
 have h2 : a < b := Decidable.byContradiction fun h2 => h h2
 clear h
 induction a generalizing b with
 | nil =>
  cases b with
  | nil => exact absurd h2 (List.lt_irrefl _)
  | cons y b => rfl
 | cons x a ih =>
  cases b with
  | nil => exact absurd h2 (List.not_lt_nil _)
  | cons y b =>
   unfold Op.bytesLess
   rcases List.cons_lt_cons_iff.1 h2 with h | ⟨rfl, h⟩
   ·simp [h]
   ·simp [ih h]
theorem geq_no {a b : Tx} (h : ¬ b ≤ a) (W : World) : (binOp .geq 9 (sV a) (sV b)).run Tryz.prog W = .ok (.bool false) W := by
 have h2 : Op.bytesLess a b = true := less_of h
 have e1 : (bs a).toList = a := by rw [ByteArray.toList_eq]
 have e2 : (bs b).toList = b := by rw [ByteArray.toList_eq]
 simp [binOp, Op.stringOp, e1, e2, h2, Sem.run, go_sem]
def F8 (w2 : World) (mb : Nat) (d : Desk) (i : Nat) (wx : World) : Prop := ∃ M, But (· = mb) w2.heap.size w2 wx ∧ MapAt wx mb sV M ∧ WantOK d (d.entries.take i) M
theorem forms8_calls (W : World) (ad : Option Addr) (cap : Nat) (l : List ActT) (other : Tx) (hv : ActsAt W (.slice ad l.length cap) l) (hcap : l.length ≤ cap) (hE : EnvS W) (hok : ∀ a ∈ l, a.ok) (hn : l.length ≤ maxLen) :
  Calls Tryz.prog 8 #[.slice ad l.length cap, sV other] W fun e W' => e = .returned (.bool true) ∧ Below W.heap.size W W' := by
 have mixed : Tryz.prog.follows .mixedOrders = true := by kernel_rfl
 obtain ⟨N, hN⟩ : ∃ N, l.length = N := ⟨_, rfl⟩
 have hT : Hid (Calls Tryz.prog 41 #[.slice ad (min (N : Int) 60).toNat cap] W fun e W' => ∃ r, (FormInv r) ∧ TdP W r e W') := hidC (by
  have hm : (min (N : Int) 60).toNat ≤ l.length := by omega
  have h1 := cut_acts hv hm
  refine (told_all W _ (l.take (min (N : Int) 60).toNat) h1 hE (fun a ha => hok a (List.mem_of_mem_take ha)) (by rw [List.length_take]; omega)).mono fun e W' h => ⟨_, form_inv fun x hx => ?_, h⟩
  obtain ⟨a, _, rfl⟩ := List.mem_map.1 hx
  exact (act_line a).1)
 have HE := hidC hE
 rw [hN] at hcap hn ⊢
 clear hv hE hok hN
 have hm1 : ∀ w, (Instr.makeMap 83 none).run Tryz.prog w = .ok (.map (some w.heap.size)) (w.alloc (.map #[] 0)) := fun _ => rfl
 go_enter Tryz.func8, Tryz.ntmps8
 go_upto_region 6 with (go_at_call 41; refine hT.out.mono ?_; rintro e w1 ⟨r, hF, o, tv, rfl, ho, hok, hln, hrl, htv, hoW, hb1⟩; have HF := hidC hF; have Ho1 := hidC ho; have Hk := hidC hok; have Htv1 := hidC htv; have HoW := hidC hoW; have Hb1 := hidC hb1; have Hrl := hidC hrl; have Hln := hidC hln; clear hF ho hok htv hoW hb1 hrl hln)
 have hbm : Below w1.heap.size w1 (w1.alloc (.map #[] 0)) := (Below.refl _ _).alloc (Nat.le_refl _) _
 have HM0 : Hid (MapAt (w1.alloc (.map #[] 0)) w1.heap.size sV ([] : List (Tx × Tx))) := hidC MapAt.new
 have HEn := hidC (entries_calls o r.1 (w1.alloc (.map #[] 0)) (Ho1.out.below hbm) Hk.out.now)
 have Hbm := hidC hbm
 clear hbm
 obtain ⟨d, hd⟩ : ∃ d, r.1.now = d := ⟨_, rfl⟩
 obtain ⟨mb, hmb⟩ : ∃ mb, w1.heap.size = mb := ⟨_, rfl⟩
 have hsm : (w1.alloc (.map #[] 0)).heap.size = mb + 1 := by rw [← hmb]; simp
 rw [hd] at HEn
 rw [hmb] at HM0
 go_wp2_with (go_at_call 29; refine HEn.out.mono ?_; rintro e w2 ⟨ev, rfl, hev, hb2⟩; obtain ⟨ea, ec, rfl⟩ := row_slice hev; have Hev := hidC hev; have Hb2 := hidC hb2; clear hev hb2)
 obtain ⟨n, hn2⟩ : ∃ n, d.entries.length = n := ⟨_, rfl⟩
 have hn40 : n ≤ 40 := by rw [← hn2]; have := Hk.out.now.few; rw [hd] at this; rw [(entries_perm d).length_eq]; exact this
 have Hd := hidC hd
 have HD : Hid (DeskOK d) := hidC (by rw [← hd]; exact Hk.out.now)
 have hb12 : Below mb w1 w2 := by
  have h1 := Hbm.out
  rw [hmb] at h1
  have h2 := Hb2.out
  rw [hsm] at h2
  exact h1.trans (h2.mono (by omega))
 have hM2 : MapAt w2 mb sV ([] : List (Tx × Tx)) := HM0.out.below Hb2.out (by rw [hsm]; omega)
 have hmb2 : mb < w2.heap.size := hM2.lt
 have HW : Hid (∀ wx, But (· = mb) w2.heap.size w2 wx → Below w1.heap.size w1 wx) := hidC fun wx h => by
  rw [hmb]
  exact hb12.trans (h.below (by omega) (fun k hk => by omega))
 have Hev2 : Hid (w2.ownsRow (mb + 1) 79 7 (.slice ea d.entries.length ec) d.entries.length (d.entries.flatMap cellsE)) := hidC (by have := Hev.out; rw [hsm] at this; exact this)
 have HM2 := hidC hM2
 have Hmb := hidC hmb
 clear hd hb12 hM2 hsm HM0 Hb2 Hev HEn Hbm hmb hT
 rw [hn2]
 go_loopg [40] (n + 1) (fun gk s40 wx => ∃ i : Nat, s40 = .int .i64 (i : Int) ∧ i ≤ n ∧ n < i + gk ∧ F8 w2 mb d i wx)
 case atStart => exact ⟨0, rfl, by omega, by omega, [], But.refl _ _ _, HM2.out, WantOK.nil⟩
 case round =>
  obtain ⟨i, rfl, hi, hg, M, hB, hM, hWt⟩ := hrel
  by_cases hlt : i < n
  ·obtain ⟨g', rfl⟩ : ∃ g', gk = g' + 1 := ⟨gk - 1, by omega⟩
   obtain ⟨x, hx⟩ : ∃ x, d.entries[i]? = some x := ⟨_, List.getElem?_eq_getElem (by omega)⟩
   have hrow := Hev2.out
   obtain ⟨g, rfl⟩ := row_none hrow (by omega)
   have hgl : g < w2.heap.size := (row_get hrow (k := 0) (by omega)).2.2.1
   have hgm : g ≠ mb := by have := (row_get hrow (k := 0) (by omega)).2.2.2.1; omega
   have Hra : Hid (wr.rangeAt g (i * 7) [sV x.word, sV x.form, sV x.see, sV x.writer, nV x.asked, nV x.came, nV x.vol]) := hidC (range_but (ent_at hrow hx) hB hgl hgm)
   have hxm : x ∈ d.ents := (entries_perm d).mem_iff.1 (List.mem_of_getElem? hx)
   have hi1 : (0 : Int) ≤ (i : Int) := by omega
   have hi2 : (i : Int) < (n : Int) := by omega
   have Hsz : Hid ((Tryz.prog.info? 79).map (·.size) = some 7) := hidC (by kernel_rfl)
   have HB := hidC hB
   have HM := hidC hM
   have HWt := hidC hWt
   have Hrow := hidC hrow
   clear hB hM hWt hrow
   go_upto_region 3 with (refine wpList_load_mid rfl 79 _ rfl g (i * 7) rfl [sV x.word, sV x.form, sV x.see, sV x.writer, nV x.asked, nV x.came, nV x.vol] _ Hra.out Tryz.underlying79 rfl Hsz.out ?_)
   obtain ⟨wa, hwa⟩ : ∃ wa, wr.alloc (.cells #[sV x.word, sV x.form, sV x.see, sV x.writer, nV x.asked, nV x.came, nV x.vol] 79) = wa := ⟨_, rfl⟩
   have hba : Below wr.heap.size wr wa := by rw [← hwa]; exact (Below.refl _ _).alloc (Nat.le_refl _) _
   have hbox : wa.heap[wr.heap.size]? = some (.cells #[sV x.word, sV x.form, sV x.see, sV x.writer, nV x.asked, nV x.came, nV x.vol] 79 (0, 0)) := by rw [← hwa]; exact heap_alloc_new _ _
   have hwz : wr.heap.size < wa.heap.size := (Array.getElem?_eq_some_iff.1 hbox).1
   have hwr2 : w2.heap.size ≤ wr.heap.size := HB.out.size
   have hBa : But (· = mb) w2.heap.size w2 wa := HB.out.trans (But.of (hba.mono hwr2))
   have HBa := hidC hBa
   have hMa : MapAt wa mb sV M := HM.out.below hba (by omega)
   have HMa := hidC hMa
   have hxok := HD.out.ent x hxm
   have hFx : lnWord x.word ∈ r.2 ∧ (x.form ≠ [] → lnShort x.word x.form ∈ r.2) := HF.out x (by rw [Hd.out]; exact hxm)
   have Hrl2 : Hid (r.2.length ≤ 1000) := hidC (by rw [← Hrl.out]; have := Hk.out.few; omega)
   have htva : TextsAt wa tv r.2 := row_mono (row_below Htv1.out (HW.out wa hBa)) (Nat.zero_le _)
   have HC : Hid (∀ q b, (b = (⟨#[119, 111, 114, 100, 32]⟩ : ByteArray) ++ bs x.word ∨ x.form ≠ [] ∧ b = (⟨#[115, 104, 111, 114, 116, 32]⟩ : ByteArray) ++ bs x.word ++ (⟨#[32]⟩ : ByteArray) ++ bs x.form) →
     Calls Tryz.prog 46 #[tv, .string b] (wa.drewN q) fun e W'' => e = .returned (.bool true) ∧ W'' = wa.drewN q) := hidC fun q b hb => by
    have ht : TextsAt (wa.drewN q) tv r.2 := row_eqb htva fun k hk => rfl
    rcases hb with rfl | ⟨hf, rfl⟩
    ·have := contains_calls (wa.drewN q) tv r.2 (lnWord x.word) ht Hrl2.out
     rw [show r.2.contains (lnWord x.word) = true from List.elem_eq_true_of_mem hFx.1] at this
     have e : bs (lnWord x.word) = (⟨#[119, 111, 114, 100, 32]⟩ : ByteArray) ++ bs x.word := bs_app [119, 111, 114, 100, 32] x.word
     rw [← e]
     exact this
    ·have := contains_calls (wa.drewN q) tv r.2 (lnShort x.word x.form) ht Hrl2.out
     rw [show r.2.contains (lnShort x.word x.form) = true from List.elem_eq_true_of_mem (hFx.2 hf)] at this
     have e : bs (lnShort x.word x.form) = (⟨#[115, 104, 111, 114, 116, 32]⟩ : ByteArray) ++ bs x.word ++ (⟨#[32]⟩ : ByteArray) ++ bs x.form := by
      have h1 : lnShort x.word x.form = (([115, 104, 111, 114, 116, 32] ++ x.word) ++ [32]) ++ x.form := by unfold lnShort kShort; simp
      rw [h1, bs_app, bs_app, bs_app]; try rfl
     rw [← e]
     exact this
   obtain ⟨b0, b1, -⟩ := box7 hbox
   have s1 : x.word.length ≤ 10 := (NameT.spec hxok.word).2.1
   have s2 : x.form.length ≤ 10 := by
    rcases hxok.form with h | h
    ·rw [h]; decide
    ·exact (NameT.spec h).2.1
   have Hba := hidC hba
   have Hxm := hidC hxm
   have Hxx := hidC hx
   have Hwz := hidC hwz
   have Hwr2 := hidC hwr2
   clear hba hbox hwr2 hBa hMa hFx htva hxok hxm hx hwz
   rw [hwa]
   obtain ⟨xw, xf, xs, xr, xa, xc, xv⟩ := x
   go_cut [82] (fun s82 wx => s82 = .bool false ∧ ∃ q, wx = wa.drewN q)
   case first =>
    have s1 : xw.length ≤ 10 := s1
    have s2 : xf.length ≤ 10 := s2
    by_cases h0 : 0 < i
    ·have h0' : decide (0 < i) = true := decide_eq_true h0
     obtain ⟨j, rfl⟩ : ∃ j, i = j + 1 := ⟨i - 1, by omega⟩
     obtain ⟨y, hy⟩ : ∃ y, d.entries[j]? = some y := ⟨_, List.getElem?_eq_getElem (by omega)⟩
     have hlt2 := geq_no (entries_lt HD.out hy Hxx.out)
     have hcy : wa.cell? ⟨g, j * 7, none⟩ = some (sV y.word) := (range_but (ent_at Hrow.out hy) HBa.out hgl hgm) 0 _ rfl
     have hj1 : (0 : Int) ≤ (j : Int) := by omega
     have hj2 : (j : Int) < (n : Int) := by omega
     have hj0 : IntKind.i64.wrap (j : Int) = (j : Int) := IntWalk.i64_in _ (by omega)
     by_cases hf : xf = []
     ·have hf1 : xf.isEmpty = true := by rw [hf]; rfl
      have hf2 : (xf == []) = true := by rw [hf]; rfl
      have hf3 : (xf != []) = false := by rw [hf]; rfl
      clear hf
      go_quiet (first | (go_at_call 46; refine Calls.quiet_of_same (HC.out _ _ ?_); left; with_reducible rfl))
      go_wp2_with fail
      go_meet
      exact ⟨rfl, _, rfl⟩
     ·have hf1 : xf.isEmpty = false := by cases xf with
       | nil => exact absurd rfl hf
       | cons a b => rfl
      have hf2 : (xf == []) = false := beq_eq_false_iff_ne.2 hf
      have hf3 : (xf != []) = true := bne_iff_ne.2 hf
      have Hf := hidC hf
      clear hf
      go_quiet (first | (go_at_call 46; refine Calls.quiet_of_same (HC.out _ _ ?_); first | (left; with_reducible rfl) | (right; refine ⟨Hf.out, ?_⟩; with_reducible rfl)))
      go_wp2_with fail
      go_meet
      exact ⟨rfl, _, rfl⟩
    ·have h0' : decide (0 < i) = false := decide_eq_false h0
     by_cases hf : xf = []
     ·have hf1 : xf.isEmpty = true := by rw [hf]; rfl
      have hf2 : (xf == []) = true := by rw [hf]; rfl
      have hf3 : (xf != []) = false := by rw [hf]; rfl
      clear hf
      go_quiet (first | (go_at_call 46; refine Calls.quiet_of_same (HC.out _ _ ?_); left; with_reducible rfl))
      go_wp2_with fail
      go_meet
      exact ⟨rfl, _, rfl⟩
     ·have hf1 : xf.isEmpty = false := by cases xf with
       | nil => exact absurd rfl hf
       | cons a b => rfl
      have hf2 : (xf == []) = false := beq_eq_false_iff_ne.2 hf
      have hf3 : (xf != []) = true := bne_iff_ne.2 hf
      have Hf := hidC hf
      clear hf
      go_quiet (first | (go_at_call 46; refine Calls.quiet_of_same (HC.out _ _ ?_); first | (left; with_reducible rfl) | (right; refine ⟨Hf.out, ?_⟩; with_reducible rfl)))
      go_wp2_with fail
      go_meet
      exact ⟨rfl, _, rfl⟩
   case rest =>
    obtain ⟨rfl, q, rfl⟩ := hcut
    have hMb : MapAt (wa.drewN q) mb sV M := HMa.out.eqb rfl
    have hBb : But (· = mb) w2.heap.size w2 (wa.drewN q) := ⟨HBa.out.os, HBa.out.tape, HBa.out.output, HBa.out.size, HBa.out.block⟩
    obtain ⟨wb, hwb⟩ : ∃ wb, wa.drewN q = wb := ⟨_, rfl⟩
    have hsb : wb.heap.size = wa.heap.size := by rw [← hwb]; rfl
    have b0' : wb.cell? ⟨wr.heap.size, 0, none⟩ = some (sV xw) := by rw [← hwb]; exact b0
    have b1' : wb.cell? ⟨wr.heap.size, 1, none⟩ = some (sV xf) := by rw [← hwb]; exact b1
    rw [hwb] at hMb hBb
    rw [hwb]
    obtain ⟨ob, hu, hMu⟩ := updT hMb xw xw
    have hne : wr.heap.size ≠ mb := by have := Hwr2.out; omega
    obtain ⟨wu, hwu⟩ : ∃ wu, itSet wb mb ob = wu := ⟨_, rfl⟩
    have b0u : wu.cell? ⟨wr.heap.size, 0, none⟩ = some (sV xw) := by rw [← hwu]; unfold World.cell? at b0' ⊢; rw [itSet_other hne]; exact b0'
    have b1u : wu.cell? ⟨wr.heap.size, 1, none⟩ = some (sV xf) := by rw [← hwu]; unfold World.cell? at b1' ⊢; rw [itSet_other hne]; exact b1'
    have hsu : wu.heap.size = wa.heap.size := by rw [← hwu, itSet_size, hsb]
    have hBu : But (· = mb) w2.heap.size w2 wu := by rw [← hwu]; exact hBb.trans itSet_but
    rw [hwu] at hu hMu
    have HBu := hidC hBu
    have HMu := hidC hMu
    have hlu : wr.heap.size < wu.heap.size := by rw [hsu]; exact Hwz.out
    have htk : d.entries.take (i + 1) = d.entries.take i ++ [⟨xw, xf, xs, xr, xa, xc, xv⟩] := by rw [List.take_add_one, Hxx.out]; rfl
    have Htk := hidC htk
    have Hsu := hidC hsu
    clear b0 b1 hwb hwu hMb hBb hBu hMu htk hsb hsu HC Hra
    by_cases hf : xf = []
    ·subst hf
     have hWn : Hid (WantOK d (d.entries.take (i + 1)) (kSet xw xw M)) := hidC (by rw [Htk.out]; exact HWt.out.word HD.out Hxm.out rfl)
     go_wp2_with fail
     go_roundg g'
     case measure => omega
     case rel => exact ⟨i + 1, by simp, by omega, by omega, _, HBu.out, HMu.out, hWn.out⟩
    ·have hf1 : xf.isEmpty = false := by cases xf with
      | nil => exact absurd rfl hf
      | cons a b => rfl
     have hf2 : (xf == []) = false := beq_eq_false_iff_ne.2 hf
     have hf3 : (xf != []) = true := bne_iff_ne.2 hf
     have hWn : Hid (WantOK d (d.entries.take (i + 1)) (kSet xf xw (kSet xw xw M))) := hidC (by rw [Htk.out]; exact HWt.out.form HD.out Hxm.out hf)
     have Hown : Hid (∀ y ∈ d.ents, leftC y.word xf = decide (y.word = xw)) := hidC fun y hy => own_eq HD.out Hxm.out hy hf
     have Hf := hidC hf
     clear hf
     obtain ⟨bx, hbx⟩ : ∃ bx, wr.heap.size = bx := ⟨_, rfl⟩
     rw [hbx] at b0u b1u hlu hne b0' b1' ⊢
     clear HB HM Hba Hwz Hwr2 HMa HBa hbx
     have Hlu := hidC hlu
     go_wp2_with fail
     go_loopg [93] (n + 1) (fun gk s93 wx => ∃ k : Nat, s93 = .int .i64 (k : Int) ∧ k ≤ n ∧ n < k + gk ∧ Below wu.heap.size wu wx)
     case atStart => exact ⟨0, rfl, by omega, by omega, Below.refl _ _⟩
     case round =>
      obtain ⟨k, rfl, hk, hgk, hBx⟩ := hrel
      have hux : wu.heap.size ≤ wr.heap.size := hBx.size
      have hw2u : w2.heap.size ≤ wu.heap.size := HBu.out.size
      by_cases hlk : k < n
      ·obtain ⟨g'', rfl⟩ : ∃ g'', gk = g'' + 1 := ⟨gk - 1, by omega⟩
       obtain ⟨y, hy⟩ : ∃ y, d.entries[k]? = some y := ⟨_, List.getElem?_eq_getElem (by omega)⟩
       have hBk : But (· = mb) w2.heap.size w2 wr := HBu.out.trans (But.of (hBx.mono hw2u))
       have Hra : Hid (wr.rangeAt g (k * 7) [sV y.word, sV y.form, sV y.see, sV y.writer, nV y.asked, nV y.came, nV y.vol]) := hidC (range_but (ent_at Hrow.out hy) hBk hgl hgm)
       have hym : y ∈ d.ents := (entries_perm d).mem_iff.1 (List.mem_of_getElem? hy)
       obtain ⟨wv, hwv⟩ : ∃ wv, wr.alloc (.cells #[sV y.word, sV y.form, sV y.see, sV y.writer, nV y.asked, nV y.came, nV y.vol] 79) = wv := ⟨_, rfl⟩
       have hbv : Below wr.heap.size wr wv := by rw [← hwv]; exact (Below.refl _ _).alloc (Nat.le_refl _) _
       have hbox : wv.heap[wr.heap.size]? = some (.cells #[sV y.word, sV y.form, sV y.see, sV y.writer, nV y.asked, nV y.came, nV y.vol] 79 (0, 0)) := by rw [← hwv]; exact heap_alloc_new _ _
       have hlv : wr.heap.size < wv.heap.size := (Array.getElem?_eq_some_iff.1 hbox).1
       have hBv : Below wu.heap.size wu wv := hBx.trans (hbv.mono hux)
       obtain ⟨c0, -⟩ := box7 hbox
       have hyn : y.word.length ≤ 100000 := Nat.le_trans (NameT.spec (HD.out.ent y hym).word).2.1 (by decide)
       have HP : Hid (∀ w', Calls Tryz.prog 45 #[sV y.word, sV xf] w' fun e w'' => RP w' (.bool (decide (y.word = xw))) e w'') := hidC fun w' => by
        have := part_calls y.word xf w' hyn
        rw [Hown.out y hym] at this
        exact this
       obtain ⟨by_, hby⟩ : ∃ by_, wr.heap.size = by_ := ⟨_, rfl⟩
       have HK : Hid (∀ w', Below wv.heap.size wv w' → w'.cell? ⟨by_, 0, none⟩ = some (sV y.word) ∧ w'.cell? ⟨bx, 1, none⟩ = some (sV xf) ∧ w'.cell? ⟨bx, 0, none⟩ = some (sV xw)) := hidC fun w' h => by
        rw [← hby]
        refine ⟨(h.cell (p := ⟨wr.heap.size, 0, none⟩) hlv).trans c0, ?_, ?_⟩
        ·exact ((hBv.trans (h.mono hBv.size)).cell (p := ⟨bx, 1, none⟩) Hlu.out).trans b1u
        ·exact ((hBv.trans (h.mono hBv.size)).cell (p := ⟨bx, 0, none⟩) Hlu.out).trans b0u
       have hk1 : (0 : Int) ≤ (k : Int) := by omega
       have hk2 : (k : Int) < (n : Int) := by omega
       have HBv := hidC hBv
       clear hbv hbox hlv hBv c0 hyn hBk hym hy hBx hux hw2u
       go_upto_region 3 with (refine wpList_load_mid rfl 79 _ rfl g (k * 7) rfl [sV y.word, sV y.form, sV y.see, sV y.writer, nV y.asked, nV y.came, nV y.vol] _ Hra.out Tryz.underlying79 rfl Hsz.out ?_)
       clear hwv hby
       by_cases hyx : y.word = xw
       ·have e1 : (y.word == xw) = true := beq_iff_eq.2 hyx
        rw [decide_eq_true hyx] at HP
        clear hyx
        go_region_held3 (fun w' => w'.cell? ⟨by_, 0, none⟩ = some (sV y.word) ∧ w'.cell? ⟨bx, 1, none⟩ = some (sV xf) ∧ w'.cell? ⟨bx, 0, none⟩ = some (sV xw))
         (first | exact HK.out _ (Below.refl _ _).drew | exact HK.out _ hz1 | go_keep)
         (first | (go_at_call 45; refine (HP.out _).mono ?_; rintro e wz ⟨rfl, hz⟩; have hz1 : Below wv.heap.size wv wz := (Below.refl _ _).drew.trans hz))
        have Hz := hidC (HBv.out.trans (hz1.mono HBv.out.size))
        clear hz1
        go_wp2_with fail
        go_roundg g''
        case measure => omega
        case rel => exact ⟨k + 1, by simp, by omega, by omega, Hz.out⟩
       ·have e1 : (y.word == xw) = false := beq_eq_false_iff_ne.2 hyx
        rw [decide_eq_false hyx] at HP
        clear hyx
        go_region_held3 (fun w' => w'.cell? ⟨by_, 0, none⟩ = some (sV y.word) ∧ w'.cell? ⟨bx, 1, none⟩ = some (sV xf) ∧ w'.cell? ⟨bx, 0, none⟩ = some (sV xw))
         (first | exact HK.out _ (Below.refl _ _).drew | exact HK.out _ hz1 | go_keep)
         (first | (go_at_call 45; refine (HP.out _).mono ?_; rintro e wz ⟨rfl, hz⟩; have hz1 : Below wv.heap.size wv wz := (Below.refl _ _).drew.trans hz))
        have Hz := hidC (HBv.out.trans (hz1.mono HBv.out.size))
        clear hz1
        go_wp2_with fail
        go_roundg g''
        case measure => omega
        case rel => exact ⟨k + 1, by simp, by omega, by omega, Hz.out⟩
      ·obtain rfl : k = n := by omega
       have hmu : mb < wu.heap.size := HMu.out.lt
       have hMx : MapAt wr mb sV (kSet xw xw M) := HMu.out.below hBx hmu
       have hBk : But (· = mb) w2.heap.size w2 wr := HBu.out.trans (But.of (hBx.mono hw2u))
       have c0x : wr.cell? ⟨bx, 0, none⟩ = some (sV xw) := (hBx.cell (p := ⟨bx, 0, none⟩) Hlu.out).trans b0u
       have c1x : wr.cell? ⟨bx, 1, none⟩ = some (sV xf) := (hBx.cell (p := ⟨bx, 1, none⟩) Hlu.out).trans b1u
       obtain ⟨ob2, hu2, hMu2⟩ := updT hMx xf xw
       have HBy : Hid (But (· = mb) w2.heap.size w2 (itSet wr mb ob2)) := hidC (hBk.trans itSet_but)
       have HMy := hidC hMu2
       clear hBk hMu2 hMx hBx b0u b1u
       go_wp2_with fail
       go_roundg g'
       case measure => omega
       case rel => exact ⟨i + 1, by simp, by omega, by omega, _, HBy.out, HMy.out, hWn.out⟩
  ·obtain rfl : i = n := by omega
   rw [List.take_of_length_le (by omega)] at hWt
   have hbr : Below w1.heap.size w1 wr := HW.out wr hB
   obtain ⟨ob3, hrg, hit⟩ := range_start (P := Tryz.prog) hM Tryz.underlying83
   have hmr : mb < wr.heap.size := hM.lt
   obtain ⟨wi, hwi⟩ : ∃ x, wr.alloc ob3 = x := ⟨_, rfl⟩
   have hbi : Below w1.heap.size w1 wi := by rw [← hwi]; exact hbr.trans (((Below.refl _ _).alloc (Nat.le_refl _) _).mono hbr.size)
   obtain ⟨rg, hrgs⟩ : ∃ rg, wr.heap.size = rg := ⟨_, rfl⟩
   rw [hwi, hrgs] at hit hrg
   have hlm : M.length ≤ 2 * d.entries.length := hWt.len
   rw [hn2] at hlm
   have HWt := hidC hWt
   have Hit := hidC hit
   have Hbi := hidC hbi
   have hmg : mb < rg := by omega
   have hall : ∀ e ∈ d.ents, e ∈ d.entries := fun e he => (entries_perm d).mem_iff.2 he
   have Hall := hidC hall
   have Hr1 : Hid (r.1.now.ents.length ≤ 1000) := hidC (by have := Hk.out.now.few; omega)
   clear hWt hM hB hit hbr hbi hmr hwi hall hg
   go_wp2_with fail
   go_loopg [14, 15, 16, 17] (M.length + 1) (fun gk s14 s15 s16 s17 wx => ∃ rest, IterAt wx rg mb sV M rest ∧ Below w1.heap.size w1 wx ∧ rest.length < gk ∧ ∀ x ∈ rest, x ∈ M)
   case atStart => exact ⟨M, Hit.out, Hbi.out, by omega, fun x hx => hx⟩
   case round =>
    obtain ⟨rest, q1, q2, q3, q4⟩ := hrel
    have hrm : rg ≠ mb := by omega
    rcases next_step (P := Tryz.prog) q1 hrm 0 with ⟨rfl, hrun⟩ | ⟨k, v, rest', W1, hpm, hrun, hit1, hT1, hent⟩
    ·have hOx := Ho1.out.below q2
     have hFi := find_calls o r.1 other wr hOx (by rw [Hd.out]; exact HD.out)
     rw [Hd.out] at hFi
     have HMx := hidC q1.map
     have hmx : mb < wr.heap.size := q1.map.lt
     have Q2 := hidC q2
     have hWk : Hid (∀ w', Below w1.heap.size w1 w' → Calls Tryz.prog 15 #[] w' fun e w'' => e = .returned (.bool true) ∧ Below w'.heap.size w' w'') := hidC fun w' h => works_calls w' (HE.out.below (Hb1.out.trans (h.mono Hb1.out.size)) HE.out.env.size).env
     clear q1 q2 q4 hOx
     cases hkg : kGet other M with
     | some v =>
      rw [HWt.out.some hkg] at hFi
      have HFi := hidC hFi
      clear hFi
      go_wp2_with (first
       | (go_at_call 15; refine (hWk.out _ Hbf.out).mono ?_; rintro e wg ⟨rfl, hbg⟩; have Hbg := hidC (Hbf.out.trans (hbg.mono Hbf.out.size)); clear hbg)
       | (go_at_call 20; refine HFi.out.mono ?_; rintro e wf ⟨rfl, hbf⟩; have hlk : (Instr.lookup 83 (.map (some mb)) (sV other) true).run Tryz.prog wf = .ok (.tuple #[sV v, .bool true]) wf := (by have := lookT (HMx.out.below hbf hmx) other; rw [hkg] at this; exact this); have Hbf := hidC (Q2.out.trans (hbf.mono Q2.out.size)); clear hbf))
      go_ret
      exact ⟨rfl, Hb1.out.trans (Hbg.out.mono Hb1.out.size)⟩
     | none =>
      obtain ⟨hf1, hf2⟩ := HWt.out.none Hall.out hkg
      rw [hf1] at hFi
      have HFi := hidC hFi
      have HWy : Hid (∀ w', Below w1.heap.size w1 w' → Calls Tryz.prog 22 #[ptrV o, sV other] w' fun e w'' => ∃ v, e = .returned (.tuple #[v, nV 2]) ∧ Below w'.heap.size w' w'') := hidC fun w' h => by
       have h2 := way22_calls o r.1 other w' (Ho1.out.below h) Hr1.out
       rw [Hd.out, hf2] at h2
       exact h2.mono fun e w'' ⟨v, h3, _, h4⟩ => ⟨v, h3, h4⟩
      clear hFi hf1 hf2
      go_wp2_with (first
       | (go_at_call 15; refine (hWk.out _ Hbh.out).mono ?_; rintro e wg ⟨rfl, hbg⟩; have Hbg := hidC (Hbh.out.trans (hbg.mono Hbh.out.size)); clear hbg)
       | (go_at_call 22; refine (HWy.out _ Hbf.out).mono ?_; rintro e wh ⟨vw, rfl, hbh⟩; have Hbh := hidC (Hbf.out.trans (hbh.mono Hbf.out.size)); clear hbh)
       | (go_at_call 20; refine HFi.out.mono ?_; rintro e wf ⟨rfl, hbf⟩; have hlk : (Instr.lookup 83 (.map (some mb)) (sV other) true).run Tryz.prog wf = .ok (.tuple #[sV [], .bool false]) wf := (by have := lookT (HMx.out.below hbf hmx) other; rw [hkg] at this; exact this); have Hbf := hidC (Q2.out.trans (hbf.mono Q2.out.size)); clear hbf))
      go_ret
      exact ⟨rfl, Hb1.out.trans (Hbg.out.mono Hb1.out.size)⟩
    ·obtain ⟨g', rfl⟩ : ∃ g', gk = g' + 1 := ⟨gk - 1, by omega⟩
     have hlen : rest.length = rest'.length + 1 := by rw [hpm.length_eq]; rfl
     have hkm : (k, v) ∈ M := q4 _ (hpm.mem_iff.2 List.mem_cons_self)
     have hq4 : Hid (∀ x ∈ rest', x ∈ M) := hidC fun x hx => q4 x (hpm.mem_iff.2 (List.mem_cons_of_mem _ hx))
     have hb1 : Below w1.heap.size w1 W1 := hT1.below q2 (by rw [Hmb.out]; omega)
     have hfk : d.find k = (v, 0) := HWt.out.ok _ hkm
     have hFi := find_calls o r.1 k W1 (Ho1.out.below hb1) (by rw [Hd.out]; exact HD.out)
     rw [Hd.out, hfk] at hFi
     have HFi := hidC hFi
     have Hit1 := hidC hit1
     have Hb1x := hidC hb1
     have hrl1 : rg < W1.heap.size := hit1.lt
     clear q1 q2 q4 hpm hit1 hT1 hfk hkm hb1 hFi
     go_wp2_with (go_at_call 20; refine HFi.out.mono ?_; rintro e wz ⟨rfl, hbz⟩; have Hbz := hidC hbz; clear hbz)
     go_roundg g'
     case measure => omega
     case rel => exact ⟨rest', Hit1.out.below Hbz.out hrl1 (by omega), Hb1x.out.trans (Hbz.out.mono Hb1x.out.size), by omega, hq4.out⟩
end Go.Proofs.YtjeadhfponlnnaaGreatDoor
