/-
  ClerkWays in the model.
  Conditions: none; lemmas.
-/
import Derived.Test.YtjeadhfponlnnaaGreatDoorForms8
import Derived.Test.YtjeadhfponlnnaaGreatDoorCopy37
set_option linter.unusedSimpArgs false
set_option linter.unusedVariables false
namespace Go.Proofs.YtjeadhfponlnnaaGreatDoor
open Go.RowKit Go.Pur Go.Clerk
open Go.Abs
set_option maxRecDepth 1000000
set_option maxHeartbeats 8000000
theorem path_at {f : Tx → Tx} : ∀ {r : List Tx} {w : Tx} {j : Nat}, Path f w r → j < r.length + 1 → f ((w :: r).getD j []) = (w :: r).getD (j + 1) []
 | [], w, 0, h, _ => h
 | [], w, j + 1, h, hj => absurd hj (by simp)
 | x :: r, w, 0, h, _ => h.1
 | x :: r, w, j + 1, h, hj => path_at (r := r) (w := x) (j := j) h.2.2 (by simpa using hj)
theorem getE_of {x : Ent} {d : Desk} (hD : DeskOK d) (hx : x ∈ d.ents) : getE x.word d.ents = some x := by
 obtain ⟨y, h1, h2, h3⟩ := getE_some (List.mem_map_of_mem (f := (·.word)) hx : x.word ∈ keysE d.ents)
 rw [h1, key_inj (f := fun e : Ent => e.word) (show (d.ents.map fun e => e.word).Nodup from hD.keys) h2 hx h3]
def L10 (w2 : World) (mb : Nat) (T : List Tx) (i : Nat) (wx : World) : Prop := But (· = mb) w2.heap.size w2 wx ∧ MapAt wx mb sV (seeM (T.take i))
theorem ways_ok {ls : List Tx} (hu : ∀ l ∈ ls, parse l ≠ (.none, 0)) : WInv (toldL ls) := ways_inv hu
theorem ways10_calls (W : World) (ad : Option Addr) (cap : Nat) (l : List ActT) (hv : ActsAt W (.slice ad l.length cap) l) (hcap : l.length ≤ cap) (hE : EnvS W) (hok : ∀ a ∈ l, a.ok) (hn : l.length ≤ maxLen) :
  Calls Tryz.prog 10 #[.slice ad l.length cap] W fun e W' => e = .returned (.bool true) ∧ Below W.heap.size W W' := by
 have mixed : Tryz.prog.follows .mixedOrders = true := by kernel_rfl
 obtain ⟨N, hN⟩ : ∃ N, l.length = N := ⟨_, rfl⟩
 have hT : Hid (Calls Tryz.prog 41 #[.slice ad (min (N : Int) 60).toNat cap] W fun e W' => ∃ r, WInv r ∧ TdP W r e W') := hidC (by
  have hm : (min (N : Int) 60).toNat ≤ l.length := by omega
  have h1 := cut_acts hv hm
  refine (told_all W _ (l.take (min (N : Int) 60).toNat) h1 hE (fun a ha => hok a (List.mem_of_mem_take ha)) (by rw [List.length_take]; omega)).mono fun e W' h => ⟨_, ways_inv fun x hx => ?_, h⟩
  obtain ⟨a, _, rfl⟩ := List.mem_map.1 hx
  exact (act_line a).1)
 have HE := hidC hE
 rw [hN] at hcap hn ⊢
 clear hv hE hok hN
 have hm1 : ∀ w, (Instr.makeMap 83 none).run Tryz.prog w = .ok (.map (some w.heap.size)) (w.alloc (.map #[] 0)) := fun _ => rfl
 go_enter Tryz.func10, Tryz.ntmps10
 go_upto_region 5 with (go_at_call 41; refine hT.out.mono ?_; rintro e w1 ⟨r, hF, o, tv, rfl, ho, hok, hln, hrl, htv, hoW, hb1⟩; have HF := hidC hF; have Ho1 := hidC ho; have Hk := hidC hok; have Htv1 := hidC htv; have HoW := hidC hoW; have Hb1 := hidC hb1; have Hrl := hidC hrl; have Hln := hidC hln; clear hF ho hok htv hoW hb1 hrl hln)
 obtain ⟨ta, tc, rfl⟩ := row_slice Htv1.out
 obtain ⟨mb, hmb⟩ : ∃ mb, w1.heap.size = mb := ⟨_, rfl⟩
 obtain ⟨w2, hw2⟩ : ∃ w2, w1.alloc (.map #[] 0) = w2 := ⟨_, rfl⟩
 have hbm : Below mb w1 w2 := by rw [← hw2, ← hmb]; exact (Below.refl _ _).alloc (Nat.le_refl _) _
 have hM2 : MapAt w2 mb sV ([] : List (Tx × Tx)) := by rw [← hw2, ← hmb]; exact MapAt.new
 have hmb2 : mb < w2.heap.size := hM2.lt
 have HW : Hid (∀ wx, But (· = mb) w2.heap.size w2 wx → Below mb w1 wx) := hidC fun wx h => hbm.trans (h.below (by omega) (fun k hk => by omega))
 obtain ⟨nt, hnt⟩ : ∃ nt, r.2.length = nt := ⟨_, rfl⟩
 have hnt150 : nt ≤ 150 := by rw [← hnt, ← Hrl.out]; exact Hk.out.few
 have HM2 := hidC hM2
 have Hmb := hidC hmb
 rw [hw2, hmb]
 clear hT hbm hM2 hw2 hmb
 rw [hnt]
 go_wp2_with fail
 go_loopg [31] (nt + 1) (fun gk s31 wx => ∃ i : Nat, s31 = .int .i64 (i : Int) ∧ i ≤ nt ∧ nt < i + gk ∧ L10 w2 mb r.2 i wx)
 case atStart => exact ⟨0, rfl, by omega, by omega, But.refl _ _ _, HM2.out⟩
 case round =>
  obtain ⟨i, rfl, hi, hg, hB, hM⟩ := hrel
  have hbx := HW.out wr hB
  by_cases hlt : i < nt
  ·obtain ⟨g', rfl⟩ : ∃ g', gk = g' + 1 := ⟨gk - 1, by omega⟩
   obtain ⟨x, hx⟩ : ∃ x, r.2[i]? = some x := ⟨_, List.getElem?_eq_getElem (by omega)⟩
   have hWl := HF.out.lines i x hx
   have hrow : wr.ownsRow W.heap.size 9 1 (.slice ta r.2.length tc) r.2.length (r.2.map sV) := row_below Htv1.out (by rw [Hmb.out]; exact hbx)
   obtain ⟨tg, rfl⟩ := row_none hrow (by omega)
   have hc := (row_get hrow (k := i) (by omega)).1
   rw [List.getElem?_map, hx] at hc
   have hlen : x.length ≤ 100000 := Hk.out.lines x (by rw [Hrl.out]; exact List.mem_of_getElem? hx)
   have hEr : EnvS wr := HE.out.below (Hb1.out.trans (hbx.mono (by have := Hb1.out.size; rw [Hmb.out] at this; exact this))) HE.out.env.size
   have hsn : seeM (r.2.take (i + 1)) = seeF (seeM (r.2.take i)) x := by rw [List.take_add_one, hx]; exact seeM_snoc _ _
   obtain ⟨ws, hws⟩ : ∃ ws, Lib.fields x = ws := ⟨_, rfl⟩
   obtain ⟨wA, hwA⟩ : ∃ wA, wr.alloc (.cells (ws.map sV).toArray 9) = wA := ⟨_, rfl⟩
   have hFi : Calls Tryz.prog 42 #[sV x] wr fun e w' => e = .returned (.slice (some ⟨wr.heap.size, 0, none⟩) ws.length ws.length) ∧ w' = wA := by rw [← hwA]; exact fields_calls x wr hEr hlen hWl.ascii ws hws
   have hbA : Below wr.heap.size wr wA := by rw [← hwA]; exact (Below.refl _ _).alloc (Nat.le_refl _) _
   have hcA : ∀ (k : Nat) w, ws[k]? = some w → wA.cell? ⟨wr.heap.size, k, none⟩ = some (sV w) := fun k w hk => by
    rw [← hwA]
    unfold World.cell?
    rw [heap_alloc_new]
    simp [hk]
   have hBA : But (· = mb) w2.heap.size w2 wA := hB.trans (But.of (hbA.mono hB.size))
   have hMA : MapAt wA mb sV (seeM (r.2.take i)) := hM.below hbA hM.lt
   have hne := hWl.ne
   have hse := hWl.see
   unfold seeF at hsn
   rw [hws] at hne hse hsn
   obtain ⟨f1, fs, rfl⟩ := List.exists_cons_of_ne_nil hne
   have hc0 := hcA 0 f1 rfl
   have HcA := hidC hcA
   have Hsn := hidC hsn
   have Hse := hidC hse
   have HFi := hidC hFi
   have HBA := hidC hBA
   have HMA := hidC hMA
   have hi1 : (0 : Int) ≤ (i : Int) := by omega
   have hi2 : (i : Int) < (nt : Int) := by omega
   clear hWl hrow hlen hEr hsn hFi hne hse hB hM hbx hx hws hwA hbA hcA hBA hMA
   by_cases hk : f1 = kSee
   ·obtain ⟨hl3, hg0⟩ := Hse.out hk
    have hl3 : fs.length = 2 := by simpa using hl3
    obtain ⟨a, b, rfl⟩ : ∃ a b, fs = [a, b] := by
     match fs, hl3 with
     | [a, b], _ => exact ⟨a, b, rfl⟩
    have hg0 : (kGet a (seeM (r.2.take i))).getD [] = [] := hg0
    have hsn2 : seeM (r.2.take (i + 1)) = kSet a b (seeM (r.2.take i)) := Hsn.out.trans (if_pos hk)
    have Hsn2 := hidC hsn2
    have hc1 := HcA.out 1 a rfl
    have hc2 := HcA.out 2 b rfl
    have hlk := lookT1 HMA.out a
    rw [hg0] at hlk
    obtain ⟨ob, hu, hMu⟩ := updT (W := wA.drew) (HMA.out.eqb rfl) a b
    have hBu : But (· = mb) w2.heap.size w2 (itSet wA.drew mb ob) := HBA.out.trans (But.trans (b := wA.drew) ⟨rfl, rfl, rfl, Nat.le_refl _, fun _ _ _ => rfl⟩ itSet_but)
    have HBu := hidC hBu
    clear hBu
    have HMu := hidC hMu
    have hk2 : (f1 == [115, 101, 101]) = true := beq_iff_eq.2 hk
    clear hk hsn2 Hse hl3 hg0 hMu
    go_upto_region 5 with (go_at_call 42; refine HFi.out.mono ?_; rintro e wf ⟨rfl, hwf⟩; subst wf)
    go_region
    all_goals go_wp2_with fail
    all_goals go_roundg g'
    case measure => omega
    case rel => exact ⟨i + 1, by simp, by omega, by omega, HBu.out, by rw [Hsn2.out]; exact HMu.out⟩
   ·have hk2 : (f1 == [115, 101, 101]) = false := beq_eq_false_iff_ne.2 hk
    have hsn2 : seeM (r.2.take (i + 1)) = seeM (r.2.take i) := Hsn.out.trans (if_neg hk)
    have Hsn2 := hidC hsn2
    clear hk hsn2 Hse
    go_wp2_with (go_at_call 42; refine HFi.out.mono ?_; rintro e wf ⟨rfl, hwf⟩; subst wf)
    go_roundg g'
    case measure => omega
    case rel => exact ⟨i + 1, by simp, by omega, by omega, HBA.out, by rw [Hsn2.out]; exact HMA.out⟩
  ·obtain rfl : i = nt := by omega
   rw [List.take_of_length_le (by omega)] at hM
   obtain ⟨d, hd⟩ : ∃ d, r.1.now = d := ⟨_, rfl⟩
   have hD : DeskOK d := by rw [← hd]; exact Hk.out.now
   have hOx := Ho1.out.below (by rw [Hmb.out]; exact hbx)
   have hEn := entries_calls o r.1 wr hOx Hk.out.now
   rw [hd] at hEn
   have HEn := hidC hEn
   obtain ⟨n, hn2⟩ : ∃ n, d.entries.length = n := ⟨_, rfl⟩
   have hn40 : n ≤ 40 := by rw [← hn2, (entries_perm d).length_eq]; exact hD.few
   obtain ⟨w3, hw3⟩ : ∃ w3, wr = w3 := ⟨_, rfl⟩
   rw [hw3] at HEn hM hbx hOx
   rw [hw3]
   have hbs : mb ≤ w3.heap.size := by have := hbx.size; have := Hmb.out; omega
   have HEr : Hid (∀ w', Below w3.heap.size w3 w' → EnvS w') := hidC fun w' h => HE.out.below (Hb1.out.trans ((hbx.trans (h.mono hbs)).mono (by have := Hb1.out.size; rw [Hmb.out] at this; exact this))) HE.out.env.size
   have h16o : 16 ≤ o := by have := HE.out.env.size; have := HoW.out; omega
   have HOx := hidC hOx
   have HM3 := hidC hM
   have Hbx := hidC hbx
   have HD := hidC hD
   have Hd := hidC hd
   have hlo : o < w3.heap.size := hOx.lt
   have HWW : Hid (∀ w', Below w3.heap.size w3 w' → Below W.heap.size W w') := hidC fun w' h => Hb1.out.trans ((hbx.trans (h.mono hbs)).mono (by have := Hb1.out.size; rw [Hmb.out] at this; exact this))
   have HX : Hid (∀ x ∈ d.ents, (kGet x.word (seeM r.2)).getD [] = x.see ∧ (x.see ≠ [] → x.writer = [] ∧ x.came = 0) ∧ ∃ s, WayAt d.ents x.word s) := hidC fun x hx => by
    have hg : getE x.word d.ents = some x := by
     obtain ⟨y, h1, h2, h3⟩ := getE_some (List.mem_map_of_mem (f := (·.word)) hx : x.word ∈ keysE d.ents)
     rw [h1, key_inj (f := fun e : Ent => e.word) (show (d.ents.map fun e => e.word).Nodup from hD.keys) h2 hx h3]
    have hfr := HF.out.free x (by rw [hd]; exact hx)
    refine ⟨?_, fun hs => ⟨hfr.1 hs, ?_⟩, ?_⟩
    ·rw [HF.out.see, hd, seeOf_get hg]
    ·rcases Nat.eq_zero_or_pos x.came with h0 | h0
     ·exact h0
     ·exact absurd (hfr.1 hs) (hfr.2 (by omega))
    ·have := HF.out.ways x.word (by rw [hd]; exact List.mem_map_of_mem (f := (·.word)) hx)
     rw [hd] at this
     exact this
   have HS : Hid (∀ w, (kGet w (seeM r.2)).getD [] = seeOf w d.ents) := hidC fun w => by rw [HF.out.see, hd]
   clear hEn hB hM hbx hOx hD hd hw3
   go_wp2_with (go_at_call 29; refine HEn.out.mono ?_; rintro e w4 ⟨ev, rfl, hev, hb4⟩; obtain ⟨ea, ec, rfl⟩ := row_slice hev; have Hev := hidC hev; have Hb4 := hidC hb4; clear hev hb4)
   go_loopg [59] (n + 1) (fun gk s59 wx => ∃ k : Nat, s59 = .int .i64 (k : Int) ∧ k ≤ n ∧ n < k + gk ∧ Below w4.heap.size w4 wx)
   case atStart => exact ⟨0, rfl, by omega, by omega, Below.refl _ _⟩
   case round =>
    obtain ⟨k, rfl, hk, hgk, hB5⟩ := hrel
    have hb3 : Below w3.heap.size w3 wr := Hb4.out.trans (hB5.mono Hb4.out.size)
    by_cases hlk : k < n
    ·obtain ⟨g', rfl⟩ : ∃ g', gk = g' + 1 := ⟨gk - 1, by omega⟩
     obtain ⟨x, hx⟩ : ∃ x, d.entries[k]? = some x := ⟨_, List.getElem?_eq_getElem (by omega)⟩
     obtain ⟨g, rfl⟩ := row_none Hev.out (by omega)
     have hgl : g < w4.heap.size := (row_get Hev.out (k := 0) (by omega)).2.2.1
     have Hra : Hid (wr.rangeAt g (k * 7) [sV x.word, sV x.form, sV x.see, sV x.writer, nV x.asked, nV x.came, nV x.vol]) := hidC (range_but (X := fun _ => False) (ent_at Hev.out hx) (But.of hB5) hgl (fun h => h))
     have hxm : x ∈ d.ents := (entries_perm d).mem_iff.1 (List.mem_of_getElem? hx)
     obtain ⟨x1, x2, s, hs⟩ := HX.out x hxm
     obtain ⟨wa, hwa⟩ : ∃ wa, wr.alloc (.cells #[sV x.word, sV x.form, sV x.see, sV x.writer, nV x.asked, nV x.came, nV x.vol] 79) = wa := ⟨_, rfl⟩
     have hba : Below wr.heap.size wr wa := by rw [← hwa]; exact (Below.refl _ _).alloc (Nat.le_refl _) _
     have hbox : wa.heap[wr.heap.size]? = some (.cells #[sV x.word, sV x.form, sV x.see, sV x.writer, nV x.asked, nV x.came, nV x.vol] 79 (0, 0)) := by rw [← hwa]; exact heap_alloc_new _ _
     have hwz : wr.heap.size < wa.heap.size := (Array.getElem?_eq_some_iff.1 hbox).1
     have hB6 : Below w4.heap.size w4 wa := hB5.trans (hba.mono hB5.size)
     have hb3a : Below w3.heap.size w3 wa := hb3.trans (hba.mono hb3.size)
     have hMa : MapAt wa mb sV (seeM r.2) := HM3.out.below hb3a HM3.out.lt
     obtain ⟨b0, b1, b2, b3, b4, b5, b6⟩ := box7 hbox
     have hlk := lookT1 hMa x.word
     rw [x1] at hlk
     obtain ⟨bx, hbxx⟩ : ∃ bx, wr.heap.size = bx := ⟨_, rfl⟩
     rw [hbxx] at b0 b1 b2 b3 b4 b5 b6 hwz
     have hk1 : (0 : Int) ≤ (k : Int) := by omega
     have hk2 : (k : Int) < (n : Int) := by omega
     have Hsz : Hid ((Tryz.prog.info? 79).map (·.size) = some 7) := hidC (by kernel_rfl)
     have HB6 := hidC hB6
     have Hb3a := hidC hb3a
     have HMa := hidC hMa
     have Hwz := hidC hwz
     have Hs := hidC hs
     have hxok := HD.out.ent x hxm
     have Hgx := hidC (getE_of HD.out hxm)
     have Hxn := hidC hxok.word
     have X2 := hidC x2
     have Hlk := hidC hlk
     have Hbb := hidC (And.intro b0 (And.intro b2 (And.intro b3 b5)))
     clear hba hbox hwz hB6 hb3a hMa hs hxok hxm hx hB5 hb3 x1 x2 b0 b1 b2 b3 b4 b5 b6 hlk
     go_upto_region 18 with (refine wpList_load_mid rfl 79 _ rfl g (k * 7) rfl [sV x.word, sV x.form, sV x.see, sV x.writer, nV x.asked, nV x.came, nV x.vol] _ Hra.out Tryz.underlying79 rfl Hsz.out ?_)
     clear hwa hbxx
     obtain ⟨xw, xf, xs, xr, xa, xc, xv⟩ := x
     have X2 : Hid (xs ≠ [] → xr = [] ∧ xc = 0) := X2
     have hlk : (Instr.lookup 83 (.map (some mb)) (sV xw) false).run Tryz.prog wa = .ok (sV xs) wa := Hlk.out
     have b0 : wa.cell? ⟨bx, 0, none⟩ = some (sV xw) := Hbb.out.1
     have b2 : wa.cell? ⟨bx, 2, none⟩ = some (sV xs) := Hbb.out.2.1
     have b3 : wa.cell? ⟨bx, 3, none⟩ = some (sV xr) := Hbb.out.2.2.1
     have b5 : wa.cell? ⟨bx, 5, none⟩ = some (nV xc) := Hbb.out.2.2.2
     go_cut [84] (fun s84 wx => s84 = .bool false ∧ wx = wa)
     case first =>
      by_cases hxs : xs = []
      ·subst hxs
       go_wp2_with fail
       go_meet
       exact ⟨rfl, rfl⟩
      ·obtain ⟨rfl, rfl⟩ := X2.out hxs
       have hf1 : xs.isEmpty = false := by cases xs with
        | nil => exact absurd rfl hxs
        | cons a b => rfl
       have hf2 : (xs == []) = false := beq_eq_false_iff_ne.2 hxs
       have hf3 : (xs != []) = true := bne_iff_ne.2 hxs
       clear hxs
       go_wp2_with fail
       go_meet
       exact ⟨rfl, rfl⟩
     case rest =>
      obtain ⟨rfl, hwc⟩ := hcut
      subst wc
      obtain ⟨p, hp⟩ : ∃ p, xw :: s = p := ⟨_, rfl⟩
      obtain ⟨L, hL⟩ : ∃ L, p.length = L := ⟨_, rfl⟩
      have hsl : s.length < d.ents.length := Hs.out.len
      have hLn : L ≤ n := by rw [← hL, ← hp, List.length_cons, ← hn2, (entries_perm d).length_eq]; omega
      have hL0 : 0 < L := by rw [← hL, ← hp]; simp
      have HP1 : Hid (∀ j, j < L → seeOf (p.getD j []) d.ents = p.getD (j + 1) []) := hidC fun j hj => by
       rw [← hp]
       exact path_at Hs.out.1 (by rw [← hL, ← hp] at hj; simpa using hj)
      have HP2 : Hid (∀ y ∈ p, NameT y) := hidC fun y hy => by
       obtain ⟨e, he, rfl⟩ := List.mem_map.1 (Hs.out.2.2 y (by rw [hp]; exact hy))
       exact (HD.out.ent e he).word
      have HP3 : Hid p.Nodup := hidC (by rw [← hp]; exact Hs.out.2.1)
      have HP0 : Hid (p.getD 0 [] = xw) := hidC (by rw [← hp]; rfl)
      have HPw : Hid (d.wayOf xw = (p, 0)) := hidC (by
       unfold Desk.wayOf
       rw [Hgx.out]
       show (d.way xw, 0) = _
       rw [Hs.out.way, hp])
      clear hsl b2 b3 b5 hlk
      go_wp2_with fail
      go_loopg [12, 13] (L + 1) (fun gk s12 s13 wx => ∃ (j : Nat) (y : Tx), s13 = sV y ∧ p.getD j [] = y ∧ wx.ownsRow wa.heap.size 9 1 s12 j ((p.take j).map sV) ∧ Below wa.heap.size wa wx ∧ j ≤ L ∧ L < j + gk)
      case atStart => exact ⟨0, xw, rfl, HP0.out, World.ownsRow_nil _ _ _ _, Below.refl _ _, by omega, by omega⟩
      case round =>
       obtain ⟨j, y, rfl, hyd, hrow, hBw, hj, hgj⟩ := hrel
       by_cases hlj : j < L
       ·obtain ⟨g'', rfl⟩ : ∃ g'', gk = g'' + 1 := ⟨gk - 1, by omega⟩
        have hyp : p[j]? = some y := by
         rw [List.getD_eq_getElem?_getD, List.getElem?_eq_getElem (by omega)] at hyd
         rw [List.getElem?_eq_getElem (by omega)]
         exact congrArg some hyd
        have hyn := (NameT.spec (HP2.out y (List.mem_of_getElem? hyp))).1
        have hf1 : y.isEmpty = false := by cases y with
         | nil => exact absurd rfl hyn
         | cons a b => rfl
        have hf2 : (y == []) = false := beq_eq_false_iff_ne.2 hyn
        have hf3 : (y != []) = true := bne_iff_ne.2 hyn
        have htl : (p.take j).length = j := by rw [List.length_take]; omega
        have hct := contains_calls wr u12 (p.take j) y (by unfold TextsAt; rw [htl]; exact row_mono hrow (Nat.zero_le _)) (by rw [htl]; omega)
        have hno : (p.take j).contains y = false := by
         cases hq : (p.take j).contains y with
         | false => rfl
         | true =>
          have hm : y ∈ p.take j := List.elem_iff.1 hq
          obtain ⟨q, hq1, hq2⟩ := List.mem_iff_getElem.1 hm
          rw [List.getElem_take] at hq2
          have h3 := List.pairwise_iff_getElem.1 HP3.out q j (by omega) (by omega) (by omega)
          obtain ⟨_, h4⟩ := List.getElem?_eq_some_iff.1 hyp
          exact absurd (hq2.trans h4.symm) h3
        rw [hno] at hct
        have Hct := hidC hct
        have htk : (p.take j).map sV ++ [sV y] = (p.take (j + 1)).map sV := by rw [List.take_add_one, hyp, List.map_append]; rfl
        have hnx : (kGet y (seeM r.2)).getD [] = p.getD (j + 1) [] := by rw [HS.out y, ← hyd]; exact HP1.out j hlj
        have Htk := hidC htk
        have Hnx := hidC hnx
        have Hrow := hidC hrow
        have HBw := hidC hBw
        obtain ⟨i0, hi0, hz0, hz1', hz2⟩ := info_parts (show (Tryz.prog.info? 9).map (fun i => (i.zero, i.size, i.bytes)) = some (some (.string ⟨#[]⟩), 1, 16) by kernel_rfl)
        have Hi0 := hidC hi0
        have hwar : wa.heap.size ≤ wr.heap.size := hBw.size
        clear hct hno htk hnx hrow hBw hyn hyp htl hyd hi0
        go_wp2_with (first
         | (at_builtin; refine wpList_append_own _ rfl _ _ 22 rfl wa.heap.size 9 i0 (.string ⟨#[]⟩) 1 16 Tryz.underlying22 Hi0.out hz0 hz1' hz2 rfl (by decide) u12 _ _ rfl (Hrow.out.alloc _) ⟨wr.heap.size, 0, none⟩ 1 1 [sV y] rfl rfl ?c1 ?c2 ?c3 ?c4 ?c5 ?_)
         | (go_at_call 46; refine Hct.out.mono ?_; rintro e wz ⟨rfl, hwz⟩; subst wz))
        case c1 => exact cell_one_new _ _ _
        case c2 => exact fun u hu => by rw [List.mem_singleton.1 hu]; rfl
        case c3 => unfold maxLen; omega
        case c4 => omega
        case c5 => simp; omega
        rintro v4 wq hown4 hg4 -
        have hB4 : Below wa.heap.size wa wq := (HBw.out.alloc hwar _).grown hg4 (by simp; omega) (fun k hk => by have := (Hrow.out.alloc (.cells #[sV y] 9)).lt k hk; omega)
        have hlk2 := lookT1 (HMa.out.below hB4 HMa.out.lt) y
        rw [Hnx.out] at hlk2
        have Hown4 := hidC hown4
        have HB4 := hidC hB4
        clear hown4 hB4 hg4
        go_wp2_with fail
        go_roundg g''
        case measure => omega
        case rel => exact ⟨j + 1, p.getD (j + 1) [], rfl, rfl, by rw [← Htk.out, List.map_take]; exact Hown4.out, HB4.out, by omega, by omega⟩
       ·obtain rfl : j = L := by omega
        have hy0 : y = [] := by rw [← hyd, List.getD_eq_getElem?_getD, List.getElem?_eq_none (by omega)]; rfl
        subst hy0
        rw [List.take_of_length_le (by omega)] at hrow
        obtain ⟨wa0, wc0, rfl⟩ := row_slice hrow
        obtain ⟨wg, rfl⟩ := row_none hrow (by omega)
        have hb3w : Below w3.heap.size w3 wr := Hb3a.out.trans (hBw.mono Hb3a.out.size)
        have hB4w : Below w4.heap.size w4 wr := HB6.out.trans (hBw.mono HB6.out.size)
        have hWy := way22_calls o r.1 xw wr (HOx.out.below hb3w) (by have := Hk.out.now.few; omega)
        rw [Hd.out, HPw.out] at hWy
        have hc0 : wr.cell? ⟨bx, 0, none⟩ = some (sV xw) := (hBw.cell (p := ⟨bx, 0, none⟩) Hwz.out).trans b0
        have HWy := hidC hWy
        have Hrow := hidC hrow
        have Hb3w := hidC hb3w
        have HB4w := hidC hB4w
        have hjn : decide (n < j) = false := decide_eq_false (by omega)
        have hbxw : bx < wr.heap.size := by have := hBw.size; have := Hwz.out; omega
        clear hWy hrow hb3w hB4w hBw b0
        go_upto_region 28 with (go_at_call 22; refine HWy.out.mono ?_; rintro e wy ⟨vw, rfl, hvw, hby⟩; obtain ⟨va, vc, rfl⟩ := row_slice hvw; have Hvw := hidC hvw; have Hby := hidC hby; clear hvw hby)
        have hrow2 : TextsAt wy (.slice (some ⟨wg, 0, none⟩) j wc0) p := by unfold TextsAt; rw [hL]; exact row_mono (row_below Hrow.out Hby.out) (Nat.zero_le _)
        have hsm := same_calls wy (.slice va p.length vc) (.slice (some ⟨wg, 0, none⟩) j wc0) p p Hvw.out hrow2 (by omega)
        rw [decide_eq_true rfl, hL] at hsm
        have Hsm := hidC hsm
        clear hsm hrow2
        by_cases h1 : 1 < j
        ·have h1d : decide (1 < j) = true := decide_eq_true h1
         go_upto_region 31 with (go_at_call 24; refine Hsm.out.mono ?_; rintro e wz ⟨rfl, hdz⟩; have Hdz := hidC (hdz.below wy.heap.size); clear hdz)
         have hb4z : Below w4.heap.size w4 wz := HB4w.out.trans ((Hby.out.trans (Hdz.out.mono Hby.out.size)).mono HB4w.out.size)
         have hb3z : Below w3.heap.size w3 wz := Hb4.out.trans (hb4z.mono Hb4.out.size)
         have hbrz : Below wr.heap.size wr wz := Hby.out.trans (Hdz.out.mono Hby.out.size)
         have hCp := copy_calls o r.1 wz (HOx.out.below hb3z) (by have := Hk.out.few; omega)
         obtain ⟨m, rfl⟩ : ∃ m, j = m + 1 := ⟨j - 1, by omega⟩
         obtain ⟨y, hy⟩ : ∃ y, p[m]? = some y := ⟨_, List.getElem?_eq_getElem (by omega)⟩
         have hym := List.mem_of_getElem? hy
         have hyn : NameT y := HP2.out y hym
         have hcc : (tell r.1 (lnSee y xw)).1 ≠ 0 := circle_no Hxn.out hyn (by rw [Hd.out, Hs.out.way, hp]; exact hym)
         obtain ⟨q, hq⟩ : ∃ q, (tell r.1 (lnSee y xw)).1 = q + 1 := ⟨(tell r.1 (lnSee y xw)).1 - 1, by omega⟩
         have hlw : wg < wr.heap.size := (row_get Hrow.out (k := 0) (by omega)).2.2.1
         have hcl : wr.cell? ⟨wg, m, none⟩ = some (sV y) := by
          have := (row_get Hrow.out (k := m) (by omega)).1
          rw [List.getElem?_map, hy] at this
          exact this
         have hylen : y.length ≤ 10 := (NameT.spec hyn).2.1
         have hxlen : xw.length ≤ 10 := (NameT.spec Hxn.out).2.1
         have hll : (lnSee y xw).length ≤ 100000 := by unfold lnSee kSee; simp; omega
         have e : bs (lnSee y xw) = (⟨#[115, 101, 101, 32]⟩ : ByteArray) ++ bs y ++ (⟨#[32]⟩ : ByteArray) ++ bs xw := by
          have h1 : lnSee y xw = (([115, 101, 101, 32] ++ y) ++ [32]) ++ xw := by unfold lnSee kSee; simp
          rw [h1, bs_app, bs_app, bs_app]
          try rfl
         have hzW : W.heap.size ≤ wz.heap.size := (HWW.out wz hb3z).size
         have hE16 := HE.out.env.size
         have HTl : Hid (∀ w' kp, Below w3.heap.size w3 w' → OffAt w' kp r.1 → wz.heap.size ≤ kp → Calls Tryz.prog 18 #[ptrV kp, .string ((⟨#[115, 101, 101, 32]⟩ : ByteArray) ++ bs y ++ (⟨#[32]⟩ : ByteArray) ++ bs xw)] w' fun e w'' => e = .returned (nV (q + 1)) ∧ But (· = kp) w'.heap.size w' w'') := hidC fun w' kp h ho hkp => by
          rw [← e]
          refine (tell_calls kp r.1 (lnSee y xw) w' ho (HEr.out w' h).env (by omega) hll Hk.out).mono fun e' w'' ⟨h1, _, h2⟩ => ⟨?_, h2⟩
          rw [h1, hq]
         have hqz : ((((q : Nat) : Int) + 1) == 0) = false := by rw [beq_eq_false_iff_ne]; omega
         have HKz : Hid (∀ w', Below wz.heap.size wz w' → w'.cell? ⟨wg, m, none⟩ = some (sV y) ∧ w'.cell? ⟨bx, 0, none⟩ = some (sV xw)) := hidC fun w' h => by
          have h9 := hbrz.trans (h.mono hbrz.size)
          exact ⟨(h9.cell (p := ⟨wg, m, none⟩) hlw).trans hcl, (h9.cell (p := ⟨bx, 0, none⟩) hbxw).trans hc0⟩
         have HCp := hidC hCp
         have Hb4z := hidC hb4z
         have Hb3z := hidC hb3z
         have hm1' : (0 : Int) ≤ (m : Int) := by omega
         have hm2' : (m : Int) < ((m + 1 : Nat) : Int) := by omega
         have hm3 : (m : Int) < (m : Int) + 1 := by omega
         have hm0 : Hid (IntKind.i64.wrap (m : Int) = (m : Int)) := hidC (IntWalk.i64_in _ (by omega))
         clear hb4z hb3z hbrz hCp hy hym hyn hcc hq hcl hll e hzW hE16 hc0
         go_upto_region 34 with (go_at_call 37; refine HCp.out.mono ?_; rintro e wk ⟨kp, rfl, hok, hkp, hbk⟩; have Hok := hidC hok; have Hkp := hidC hkp; have Hbk := hidC hbk; clear hok hkp hbk)
         have hA1 : ¬ 9223372036854775807 < 4 + y.length := by omega
         have hA2 : ¬ 9223372036854775807 < 4 + y.length + 1 := by omega
         have hA3 : ¬ 9223372036854775807 < 4 + y.length + 1 + xw.length := by omega
         have hm0' : IntKind.i64.wrap (m : Int) = (m : Int) := hm0.out
         go_region_held3 (fun w' => w'.cell? ⟨wg, m, none⟩ = some (sV y) ∧ w'.cell? ⟨bx, 0, none⟩ = some (sV xw))
          (first | exact HKz.out _ hl1 | exact HKz.out _ (Hbk.out.trans ((Below.refl _ _).drew.mono Hbk.out.size)) | go_keep)
          (first | (go_at_call 18; refine (HTl.out _ kp (Hb3z.out.trans ((Hbk.out.trans ((Below.refl _ _).drew.mono Hbk.out.size)).mono Hb3z.out.size)) (Hok.out.below (Below.refl _ _).drew) Hkp.out).mono ?_; rintro e wl ⟨rfl, hbl⟩; have hl1 : Below wz.heap.size wz wl := (Hbk.out.trans ((Below.refl _ _).drew.mono Hbk.out.size)).trans (hbl.below Hbk.out.size (fun k hk => by have := Hkp.out; omega))))
         have Hl1 := hidC hl1
         clear hl1 hbl hA1 hA2 hA3 hm0'
         go_wp2_with fail
         go_roundg g'
         case measure => omega
         case rel => exact ⟨k + 1, by simp, by omega, by omega, Hb4z.out.trans (Hl1.out.mono Hb4z.out.size)⟩
        ·have h1d : decide (1 < j) = false := decide_eq_false h1
         go_wp2_with (go_at_call 24; refine Hsm.out.mono ?_; rintro e wz ⟨rfl, hdz⟩; have Hdz := hidC (hdz.below wy.heap.size); clear hdz)
         go_roundg g'
         case measure => omega
         case rel => exact ⟨k + 1, by simp, by omega, by omega, HB4w.out.trans ((Hby.out.trans (Hdz.out.mono Hby.out.size)).mono HB4w.out.size)⟩
    ·obtain rfl : k = n := by omega
     have HWk := hidC (works_calls wr (HEr.out wr hb3).env)
     have Hb3 := hidC hb3
     clear hb3 hB5
     go_wp2_with (go_at_call 15; refine HWk.out.mono ?_; rintro e wz ⟨rfl, hbz⟩; have Hbz := hidC hbz; clear hbz)
     go_ret
     exact ⟨rfl, (HWW.out wr Hb3.out).trans (Hbz.out.mono (HWW.out wr Hb3.out).size)⟩
end Go.Proofs.YtjeadhfponlnnaaGreatDoor
