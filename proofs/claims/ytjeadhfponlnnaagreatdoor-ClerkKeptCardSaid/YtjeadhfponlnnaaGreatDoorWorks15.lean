/-
  same, list, A, office: of the statements' own text.
  The example of the chapter, plainly.
  works: the example of the chapter.
  Conditions: none; definitions and lemmas.
-/
import Derived.Test.YtjeadhfponlnnaaGreatDoorText33
import Derived.Test.YtjeadhfponlnnaaGreatDoorTellAll
set_option linter.unusedSimpArgs false
set_option linter.unusedVariables false
namespace Go.Proofs.YtjeadhfponlnnaaGreatDoor
open Go.RowKit Go.Pur Go.Clerk
open Go.Abs
set_option maxRecDepth 1000000
set_option maxHeartbeats 8000000
theorem row_none {W : World} {B e sz n c : Nat} {a : Option Addr} {xs : List Value} (h : W.ownsRow B e sz (.slice a n c) n xs) (hn : n ≠ 0) : ∃ g, a = some ⟨g, 0, none⟩ := by
 rcases h.2 with ⟨_, h0⟩ | ⟨g', cap', cur, e1, _⟩
 ·exact absurd h0 hn
 ·cases e1; exact ⟨g', rfl⟩
theorem same_calls (W : World) (v1 v2 : Value) (l1 l2 : List Tx) (h1 : TextsAt W v1 l1) (h2 : TextsAt W v2 l2) (n1 : l1.length ≤ 100000) :
  Calls Tryz.prog 24 #[v1, v2] W fun e W' => LP W (decide (l1 = l2)) e W' := by
 have mixed : Tryz.prog.follows .mixedOrders = true := by kernel_rfl
 obtain ⟨a1, c1, rfl⟩ := row_slice h1
 obtain ⟨a2, c2, rfl⟩ := row_slice h2
 by_cases hl : l1.length = l2.length
 ·obtain ⟨N, hN⟩ : ∃ N, l1.length = N := ⟨_, rfl⟩
  have hN2 : l2.length = N := by omega
  have H1 := hidC h1
  have H2 := hidC h2
  rw [hN] at n1
  unfold TextsAt at H1 H2
  rw [hN] at H1
  rw [hN2] at H2
  rw [hN, hN2]
  have hne : ((N : Int) != (N : Int)) = false := bne_eq_false_iff_eq.2 rfl
  clear h1 h2 hl
  go_enter Tryz.func24, Tryz.ntmps24
  go_wp2_with fail
  go_loopg [5] (N + 1) (fun gk s5 wx => ∃ i : Nat, s5 = .int .i64 (i : Int) ∧ i ≤ N ∧ N < i + gk ∧ Drew W wx ∧ l1.take i = l2.take i)
  case atStart => exact ⟨0, rfl, by omega, by omega, Drew.refl _, rfl⟩
  case round =>
   obtain ⟨i, rfl, hi, hg, hd, ht⟩ := hrel
   by_cases hlt : i < N
   ·obtain ⟨g', rfl⟩ : ∃ g', gk = g' + 1 := ⟨gk - 1, by omega⟩
    obtain ⟨g1, rfl⟩ := row_none H1.out (by omega)
    obtain ⟨g2, rfl⟩ := row_none H2.out (by omega)
    obtain ⟨x, hx⟩ : ∃ x, l1[i]? = some x := ⟨_, List.getElem?_eq_getElem (by omega)⟩
    obtain ⟨y, hy⟩ : ∃ y, l2[i]? = some y := ⟨_, List.getElem?_eq_getElem (by omega)⟩
    have k1 := (row_get H1.out (k := i) (by omega)).1
    have k2 := (row_get H2.out (k := i) (by omega)).1
    rw [List.getElem?_map, hx] at k1
    rw [List.getElem?_map, hy] at k2
    have q1 : wr.drew.cell? ⟨g1, i, none⟩ = some (sV x) := by show wr.cell? _ = _; unfold World.cell?; rw [hd.1]; exact k1
    have q2 : wr.drew.cell? ⟨g2, i, none⟩ = some (sV y) := by show wr.cell? _ = _; unfold World.cell?; rw [hd.1]; exact k2
    have hi1 : (0 : Int) ≤ (i : Int) := by omega
    have hi2 : (i : Int) < (N : Int) := by omega
    have Hd := hidC hd
    have Ht := hidC ht
    clear k1 k2 hd ht
    by_cases hxy : x = y
    ·have hbn : (x != y) = false := bne_eq_false_iff_eq.2 hxy
     go_upto_region 6 with fail
     go_region
     all_goals go_wp2_with fail
     all_goals go_roundg g'
     case measure => omega
     case rel =>
      refine ⟨i + 1, by simp, by omega, by omega, ?_, ?_⟩
      ·exact Hd.out.drew
      ·rw [List.take_add_one, List.take_add_one, hx, hy, Ht.out, hxy]
    ·have hbn : (x == y) = false := beq_eq_false_iff_ne.2 hxy
     have hR : decide (l1 = l2) = false := decide_eq_false fun e => hxy (by rw [e, hy] at hx; exact (Option.some.inj hx).symm)
     have HR := hidC hR
     clear hR
     go_upto_region 6 with fail
     go_region
     all_goals go_wp2_with fail
     all_goals go_ret
     all_goals rw [HR.out]
     all_goals exact ⟨rfl, Hd.out.drew⟩
   ·obtain rfl : i = N := by omega
    rw [List.take_of_length_le (by omega), List.take_of_length_le (by omega)] at ht
    have Hd := hidC hd
    have hR : decide (l1 = l2) = true := decide_eq_true ht
    have HR := hidC hR
    clear hR ht hd
    go_wp2_with fail
    go_ret
    rw [HR.out]
    exact ⟨rfl, Hd.out⟩
 ·have hR : decide (l1 = l2) = false := decide_eq_false fun e => hl (by rw [e])
  rw [hR]
  have hne : ((l1.length : Int) != (l2.length : Int)) = true := bne_iff_ne.2 (by omega)
  go_enter Tryz.func24, Tryz.ntmps24
  go_wp2_with fail
  go_ret
  exact ⟨rfl, Drew.refl _⟩
theorem list_calls (W : World) (v : Value) : Calls Tryz.prog 36 #[v] W fun e W' => e = .returned v ∧ W' = W := by
 have mixed : Tryz.prog.follows .mixedOrders = true := by kernel_rfl
 go_enter Tryz.func36, Tryz.ntmps36
 go_wp2_with fail
 go_ret
 exact ⟨rfl, rfl⟩
def exA : List Tx := [[119, 111, 114, 100, 32, 109, 97, 112], [119, 111, 114, 100, 32, 109, 97, 115, 116], [115, 104, 111, 114, 116, 32, 109, 97, 112, 32, 109, 112], [103, 105, 118, 101, 32, 109, 97, 112, 32, 97, 110, 110, 32, 51, 48],
 [99, 111, 109, 101, 32, 109, 97, 112, 32, 52, 48], [103, 105, 118, 101, 32, 109, 97, 115, 116, 32, 98, 101, 110, 32, 49, 48], [112, 97, 121, 32, 116, 111, 109, 32, 53, 48], [99, 108, 111, 115, 101, 32, 109]]
theorem texts_new {W : World} {l : List Tx} {cs : Array Value} (h : cs.toList = l.map sV) (hn : l ≠ []) (hl : l.length ≤ 1000) : (W.alloc (.cells cs 9)).ownsRow W.heap.size 9 1 (.slice (some ⟨W.heap.size, 0, none⟩) l.length l.length) l.length (l.map sV) := by
 refine ⟨by simp, .inr ⟨W.heap.size, l.length, cs, rfl, Nat.le_refl _, heap_alloc_new _ _, Nat.le_refl _, by unfold maxLen; omega, ?_, ?_⟩⟩
 ·have := congrArg List.length h
  simpa using this
 ·rw [h, List.take_of_length_le (by simp)]
theorem A_calls (W : World) : Calls Tryz.prog 35 #[] W fun e W' => TxP W exA e W' := by
 have mixed : Tryz.prog.follows .mixedOrders = true := by kernel_rfl
 have HL := hidC list_calls
 go_enter Tryz.func35, Tryz.ntmps35
 go_wp2_with (go_at_call 36; refine (HL.out _ _).mono ?_; rintro e wb ⟨rfl, rfl⟩)
 go_ret
 exact ⟨_, rfl, row_mono (texts_new (l := exA) rfl (by decide) (by decide)) (Nat.zero_le _), (Below.refl _ _).alloc (Nat.le_refl _) _⟩
def tellAll : List Tx → Off → Option Off
 | [], S => some S
 | l :: r, S => match tell S l with
  | (0, S') => tellAll r S'
  | (_ + 1, _) => none
theorem tellAll_snoc : ∀ (l : List Tx) (x : Tx) (S : Off), tellAll (l ++ [x]) S = (tellAll l S).bind fun S' => match tell S' x with
  | (0, S'') => some S''
  | (_ + 1, _) => none
 | [], x, S => by
  rw [List.nil_append]
  simp only [tellAll, Option.bind_some]
 | a :: l, x, S => by
  show tellAll (a :: (l ++ [x])) S = _
  unfold tellAll
  rcases tell S a with ⟨_ | e, S'⟩
  ·exact tellAll_snoc l x S'
  ·rfl
theorem tellAll_none : ∀ {l m : List Tx} {S : Off}, tellAll l S = none → tellAll (l ++ m) S = none
 | [], _, _, h => by cases h
 | a :: l, m, S, h => by
  show tellAll (a :: (l ++ m)) S = _
  unfold tellAll at h ⊢
  rcases hq : tell S a with ⟨_ | e, S'⟩
  ·rw [hq] at h
   exact tellAll_none h
  ·rfl
def OfP (W : World) (r : Option Off) (e : Ending) (W' : World) : Prop := Below W.heap.size W W' ∧ match r with
 | some S => ∃ o, e = .returned (ptrV o) ∧ OffAt W' o S ∧ OffOK S ∧ W.heap.size ≤ o
 | none => e = .returned (.pointer none)
theorem office_calls (W : World) (v : Value) (ls : List Tx) (hv : TextsAt W v ls) (hE : Env W) (hl : ∀ l ∈ ls, l.length ≤ 100000) (hn : ls.length ≤ 100000) : Calls Tryz.prog 34 #[v] W fun e W' => OfP W (tellAll ls Off.none) e W' := by
 have mixed : Tryz.prog.follows .mixedOrders = true := by kernel_rfl
 obtain ⟨a1, c1, rfl⟩ := row_slice hv
 have HN := hidC (new_calls W)
 have HV := hidC hv
 have HE := hidC hE
 have HL := hidC hl
 obtain ⟨N, hN⟩ : ∃ N, ls.length = N := ⟨_, rfl⟩
 unfold TextsAt at HV
 rw [hN] at hn HV ⊢
 clear hv hE hl
 go_enter Tryz.func34, Tryz.ntmps34
 go_wp2_with (go_at_call 16; refine HN.out.mono ?_; rintro e wa ⟨o, rfl, ho, hoW, hba⟩; have Ho := hidC ho; have Hba := hidC hba; clear ho hba)
 go_loopg [4] (N + 1) (fun gk s4 wx => ∃ (i : Nat) (S : Off), s4 = .int .i64 (i : Int) ∧ i ≤ N ∧ N < i + gk ∧ OffAt wx o S ∧ OffOK S ∧ tellAll (ls.take i) Off.none = some S ∧ Below W.heap.size W wx)
 case atStart => exact ⟨0, Off.none, rfl, by omega, by omega, Ho.out, OffOK.none, rfl, Hba.out⟩
 case round =>
  obtain ⟨i, S, rfl, hi, hg, ho, hok, ht, hb⟩ := hrel
  by_cases hlt : i < N
  ·obtain ⟨g', rfl⟩ : ∃ g', gk = g' + 1 := ⟨gk - 1, by omega⟩
   obtain ⟨g1, rfl⟩ := row_none HV.out (by omega)
   obtain ⟨x, hx⟩ : ∃ x, ls[i]? = some x := ⟨_, List.getElem?_eq_getElem (by omega)⟩
   obtain ⟨k1, -, k3, -, -⟩ := row_get HV.out (k := i) (by omega)
   rw [List.getElem?_map, hx] at k1
   have q1 : wr.cell? ⟨g1, i, none⟩ = some (sV x) := (hb.cell (p := ⟨g1, i, none⟩) k3).trans k1
   have hi1 : (0 : Int) ≤ (i : Int) := by omega
   have hi2 : (i : Int) < (N : Int) := by omega
   have hxl := HL.out x (List.mem_of_getElem? hx)
   have h16 : 16 ≤ o := by have := HE.out.size; omega
   have HT := hidC (tell_calls o S x wr ho (HE.out.below hb HE.out.size) h16 hxl hok)
   have hok2 := hidC (tell_ok (line := x) hok hxl)
   have hsn : tellAll (ls.take (i + 1)) Off.none = match tell S x with
     | (0, S'') => some S''
     | (_ + 1, _) => none := by
    rw [List.take_add_one, hx]
    show tellAll (ls.take i ++ [x]) _ = _
    rw [tellAll_snoc, ht]
    rfl
   have Hb := hidC hb
   rcases hq : tell S x with ⟨_ | e', S'⟩
   ·rw [hq] at HT hsn hok2
    have Hsn := hidC hsn
    clear hb ho hok ht k1 hq hsn
    go_wp2_with (go_at_call 18; refine HT.out.mono ?_; rintro e wz ⟨rfl, hz1, hz2⟩; have Hz1 := hidC hz1; have Hz2 := hidC hz2; clear hz1 hz2)
    go_roundg g'
    case measure => omega
    case rel => exact ⟨i + 1, S', by simp, by omega, by omega, Hz1.out, hok2.out, Hsn.out, Hb.out.trans (Hz2.out.below Hb.out.size (fun k hk => by omega))⟩
   ·rw [hq] at HT hsn
    have hall : tellAll ls Off.none = none := by
     have h1 := tellAll_none (m := ls.drop (i + 1)) hsn
     rw [List.take_append_drop] at h1
     exact h1
    have Hall := hidC hall
    have he' : (((e' + 1 : Nat) : Int) != 0) = true := bne_iff_ne.2 (by omega)
    clear hb ho hok ht k1 hq hsn hall
    go_wp2_with (go_at_call 18; refine HT.out.mono ?_; rintro e wz ⟨rfl, hz1, hz2⟩; have Hz2 := hidC hz2; clear hz1 hz2)
    go_ret
    rw [Hall.out]
    exact ⟨Hb.out.trans (Hz2.out.below Hb.out.size (fun k hk => by omega)), rfl⟩
  ·obtain rfl : i = N := by omega
   rw [List.take_of_length_le (by omega)] at ht
   have Hr : Hid (OfP W (tellAll ls Off.none) (.returned (ptrV o)) wr) := hidC (by rw [ht]; exact ⟨hb, o, rfl, ho, hok, hoW⟩)
   clear ho hok ht hb
   go_wp2_with fail
   go_ret
   exact Hr.out
end Go.Proofs.YtjeadhfponlnnaaGreatDoor
set_option linter.unusedSimpArgs false
set_option linter.unusedVariables false
namespace Go.Proofs.YtjeadhfponlnnaaGreatDoor
open Go.Clerk
set_option maxRecDepth 100000
def kMap : Tx := [109, 97, 112]
def kMast : Tx := [109, 97, 115, 116]
def kMp : Tx := [109, 112]
def kMt : Tx := [109, 116]
def kAnn : Tx := [97, 110, 110]
def kBen : Tx := [98, 101, 110]
def kTom : Tx := [116, 111, 109]
def d7 : Desk := ⟨[⟨kMap, kMp, [], kAnn, 30, 40, 0⟩, ⟨kMast, [], [], kBen, 10, 0, 0⟩], [⟨kTom, 50, 0, false⟩], [], 0⟩
def d8 : Desk := ⟨[⟨kMap, kMp, [], kAnn, 30, 40, 1⟩, ⟨kMast, [], [], kBen, 10, 0, 0⟩], [⟨kTom, 30, 1, false⟩], [⟨[109], [kMap], 40, 1⟩], 109⟩
theorem told7 : ∃ P, tellAll (exA.take 7) Off.none = some ⟨d7, P, exA.take 7⟩ := ⟨((tellAll (exA.take 7) Off.none).getD Off.none).past, by kernel_rfl⟩
theorem close8 : doClose 109 d7 = (0, d8) := by
 have h1 : doClose 109 d7 = (0, closeD 109 d7) := by kernel_rfl
 rw [h1]
 have h2 : volOf 109 d7 = ⟨[109], [kMap], 40, 1⟩ := by
  have h3 : ((d7.ents.filter (closes 109)).map (·.word)) = [kMap] := by kernel_rfl
  have h4 : volOf 109 d7 = ⟨[109], ((d7.ents.filter (closes 109)).map (·.word)).mergeSort leT, 40, 1⟩ := by kernel_rfl
  rw [h4, h3, List.mergeSort_singleton]
 have h5 : closeD 109 d7 = ⟨d8.ents, d8.accs, [volOf 109 d7], 109⟩ := by kernel_rfl
 rw [h5, h2]
 rfl
theorem told8 : ∃ P, tellAll exA Off.none = some ⟨d8, P, exA⟩ := by
 obtain ⟨P, h⟩ := told7
 have e : exA = exA.take 7 ++ [[99, 108, 111, 115, 101, 32, 109]] := by kernel_rfl
 refine ⟨P ++ [d7], ?_⟩
 rw [e, tellAll_snoc, h]
 simp only [Option.bind_some]
 have hp : parse [99, 108, 111, 115, 101, 32, 109] = (some (.close 109), 0) := by kernel_rfl
 have ht := tell_taken_eq (S := ⟨d7, P, exA.take 7⟩) hp (by show (exA.take 7).length ≠ 150; decide) (by show (doClose 109 d7).1 = 0; rw [close8])
 rw [ht]
 show some _ = some _
 have : (doO (.close 109) d7).2 = d8 := by show (doClose 109 d7).2 = d8; rw [close8]
 simp only [this]
theorem acc8 : d8.accounts = [⟨kTom, 30, 1, false⟩] := by
 unfold Desk.accounts
 show List.mergeSort [_] _ = _
 rw [List.mergeSort_singleton]
theorem late8 : d8.late = [kMast] := by
 unfold Desk.late
 have : ((d8.ents.filter fun e => !e.writer.isEmpty && decide (e.came = 0) && d8.shut e.word).map (·.word)) = [kMast] := by kernel_rfl
 rw [this, List.mergeSort_singleton]
theorem wri8 : d8.writers = [(kAnn, 40), (kBen, 0)] := by
 unfold Desk.writers
 have h1 : (((d8.ents.filter fun e => !e.writer.isEmpty).map (·.writer)).foldl (fun l w => addT w l) []) = [kAnn, kBen] := by kernel_rfl
 have h2 : [kAnn, kBen].mergeSort leT = [kAnn, kBen] := sort_eq (List.Perm.refl _) (by
  rw [List.pairwise_cons]
  refine ⟨fun a ha => ?_, List.pairwise_singleton _ _⟩
  rw [List.mem_singleton.1 ha]
  decide)
 refine (congrArg (fun l => List.map (fun w => (w, sumN ((d8.ents.filter fun e => decide (e.writer = w)).map (·.came)))) l) (?_ : _ = [kAnn, kBen])).trans ?_
 ·rw [h1, h2]
 ·rfl
theorem find8a : d8.find kMp = (kMap, 0) := by kernel_rfl
theorem find8b : d8.find kMt = ([], 2) := by kernel_rfl
theorem way8 : d8.wayOf kMap = ([kMap], 0) := by kernel_rfl
def lMop : Tx := [119, 111, 114, 100, 32, 109, 111, 112]
def lCome : Tx := [99, 111, 109, 101, 32, 109, 97, 115, 116, 32, 49, 48]
def lClose : Tx := [99, 108, 111, 115, 101, 32, 97]
def lStop : Tx := [115, 116, 111, 112, 32, 97, 110, 110]
def lNap : Tx := [119, 111, 114, 100, 32, 110, 97, 112]
def lUndo : Tx := [117, 110, 100, 111]
theorem tell8a (P : List Desk) : tell ⟨d8, P, exA⟩ lMop = (20, ⟨d8, P, exA⟩) := by kernel_rfl
theorem tell8b (P : List Desk) : tell ⟨d8, P, exA⟩ lCome = (20, ⟨d8, P, exA⟩) := by kernel_rfl
theorem tell8c (P : List Desk) : tell ⟨d8, P, exA⟩ lClose = (7, ⟨d8, P, exA⟩) := by kernel_rfl
theorem tell8d (P : List Desk) : tell ⟨d8, P, exA⟩ lStop = (2, ⟨d8, P, exA⟩) := by kernel_rfl
theorem tell8e (P : List Desk) : (tell ⟨d8, P, exA⟩ lNap).1 = 0 ∧ (tell (tell ⟨d8, P, exA⟩ lNap).2 lUndo).1 = 0 := ⟨by kernel_rfl, by kernel_rfl⟩
theorem text0 : textOf [] = [104, 101, 97, 100, 119, 111, 114, 100, 10, 101, 110, 100, 32, 57, 56, 54, 51, 10] := by kernel_rfl
end Go.Proofs.YtjeadhfponlnnaaGreatDoor
set_option linter.unusedSimpArgs false
set_option linter.unusedVariables false
namespace Go.Proofs.YtjeadhfponlnnaaGreatDoor
open Go.RowKit Go.Pur Go.Clerk
open Go.Abs
set_option maxRecDepth 1000000
set_option maxHeartbeats 8000000
theorem same1_calls (W : World) (v : Value) (x : Tx) (b : Nat) (cs : Array Value) (hv : TextsAt W v [x]) (hb : W.heap[b]? = some (.cells cs 9 (0, 0))) (hcs : cs = #[sV x]) : Calls Tryz.prog 24 #[v, .slice (some ⟨b, 0, none⟩) 1 1] W fun e W' => LP W true e W' := by
 subst hcs
 have h2 : TextsAt W (.slice (some ⟨b, 0, none⟩) 1 1) [x] := ⟨rfl, .inr ⟨b, 1, #[sV x], rfl, Nat.zero_le _, hb, Nat.le_refl _, by decide, rfl, rfl⟩⟩
 have := same_calls W v (.slice (some ⟨b, 0, none⟩) 1 1) [x] [x] hv h2 (by show 1 ≤ 100000; decide)
 rw [decide_eq_true rfl] at this
 exact this
theorem find8a' : d8.find kMp = ([109, 97, 112], 0) := find8a
theorem way8_calls (o : Nat) (P : List Desk) (w : World) (hO : OffAt w o ⟨d8, P, exA⟩) : Calls Tryz.prog 22 #[ptrV o, sV ([109, 97, 112] : Tx)] w fun e w' => ∃ v, e = .returned (.tuple #[v, nV 0]) ∧ TextsAt w' v [[109, 97, 112]] ∧ Below w.heap.size w w' := by
 have h := way22_calls o _ kMap w hO (by show d8.ents.length ≤ 1000; decide)
 have e : (Off.now ⟨d8, P, exA⟩).wayOf kMap = ([[109, 97, 112]], 0) := way8
 rw [e] at h
 exact h
theorem acc8_calls (o : Nat) (P : List Desk) (w : World) (hO : OffAt w o ⟨d8, P, exA⟩) (hD : DeskOK d8) : Calls Tryz.prog 28 #[ptrV o] w fun e w' => RowP w 46 4 1 [sV [116, 111, 109], nV 30, nV 1, .bool false] e w' := by
 have h := accounts_calls o _ w hO hD
 have e : (Off.now ⟨d8, P, exA⟩).accounts = [⟨[116, 111, 109], 30, 1, false⟩] := acc8
 rw [e] at h
 exact h
theorem wri8_calls (o : Nat) (P : List Desk) (w : World) (hO : OffAt w o ⟨d8, P, exA⟩) (hD : DeskOK d8) : Calls Tryz.prog 39 #[ptrV o] w fun e w' => RowP w 87 2 2 [sV [97, 110, 110], nV 40, sV [98, 101, 110], nV 0] e w' := by
 have h := writers_calls o _ w hO hD
 have e : (Off.now ⟨d8, P, exA⟩).writers = [([97, 110, 110], 40), ([98, 101, 110], 0)] := wri8
 rw [e] at h
 exact h
theorem late8_calls (o : Nat) (P : List Desk) (w : World) (hO : OffAt w o ⟨d8, P, exA⟩) (hD : DeskOK d8) : Calls Tryz.prog 40 #[ptrV o] w fun e w' => TxP w [[109, 97, 115, 116]] e w' := by
 have h := late_calls o _ w hO hD
 have e : (Off.now ⟨d8, P, exA⟩).late = [[109, 97, 115, 116]] := late8
 rw [e] at h
 exact h
def Vol8 (w : World) (e : Ending) (w' : World) : Prop := ∃ v u, e = .returned v ∧ w'.ownsRow w.heap.size 76 4 v 1 [sV [109], u, nV 40, nV 1] ∧ TextsAt w' u [[109, 97, 112]] ∧ Below w.heap.size w w'
theorem vol8_calls (o : Nat) (P : List Desk) (w : World) (hO : OffAt w o ⟨d8, P, exA⟩) (hD : DeskOK d8) : Calls Tryz.prog 38 #[ptrV o] w fun e w' => Vol8 w e w' := by
 refine (volumes_calls o _ w hO hD).mono ?_
 rintro e w' ⟨v, ws, rfl, hl, hr, hw, hb⟩
 have hl1 : ws.length = 1 := hl
 match ws, hl1 with
 | [u], _ =>
  exact ⟨v, u, rfl, hr, row_mono (hw 0 u _ rfl rfl) (Nat.zero_le _), hb⟩
theorem tell8_calls (o : Nat) (P : List Desk) (w : World) (l : Tx) (n : Nat) (S : Off) (hE : Env w) (h16 : 16 ≤ o) (hO : OffAt w o ⟨d8, P, exA⟩) (hS : OffOK ⟨d8, P, exA⟩) (hl : l.length ≤ 100000) (ht : tell ⟨d8, P, exA⟩ l = (n, S)) : Calls Tryz.prog 18 #[ptrV o, sV l] w fun e w' => TellP w o (n, S) e w' := by
 have h := tell_calls o _ l w hO hE h16 hl hS
 rw [ht] at h
 exact h
theorem text0_calls (o : Nat) (w : World) (hO : OffAt w o Off.none) (hE : Env w) : Calls Tryz.prog 33 #[ptrV o] w fun e w' => RdV w (sV ([104, 101, 97, 100, 119, 111, 114, 100, 10, 101, 110, 100, 32, 57, 56, 54, 51, 10] : Tx)) e w' := by
 have h := text_calls o Off.none w hO hE OffOK.none
 have e : textOf Off.none.lines = [104, 101, 97, 100, 119, 111, 114, 100, 10, 101, 110, 100, 32, 57, 56, 54, 51, 10] := text0
 rw [e] at h
 exact h
theorem nap_calls (o : Nat) (P : List Desk) (w : World) (hE : Env w) (h16 : 16 ≤ o) (hO : OffAt w o ⟨d8, P, exA⟩) (hS : OffOK ⟨d8, P, exA⟩) : Calls Tryz.prog 18 #[ptrV o, sV lNap] w fun e w' => TellP w o (0, (tell ⟨d8, P, exA⟩ lNap).2) e w' :=
 tell8_calls o P w lNap 0 _ hE h16 hO hS (by decide) (Prod.ext (tell8e P).1 rfl)
theorem undo_calls (o : Nat) (P : List Desk) (w : World) (hE : Env w) (h16 : 16 ≤ o) (hO : OffAt w o (tell ⟨d8, P, exA⟩ lNap).2) (hS : OffOK ⟨d8, P, exA⟩) : Calls Tryz.prog 18 #[ptrV o, sV lUndo] w fun e w' => e = .returned (nV 0) ∧ But (· = o) w.heap.size w w' := by
 refine (tell_calls o _ lUndo w hO hE h16 (by decide) (tell_ok hS (by decide))).mono ?_
 rintro e w' ⟨rfl, -, hb⟩
 rw [(tell8e P).2]
 exact ⟨rfl, hb⟩
theorem tell_step {W w w' : World} {o n : Nat} {S : Off} {e : Ending} (h : TellP w o (n, S) e w') (hb : Below W.heap.size W w) (ho : W.heap.size ≤ o) : e = .returned (nV n) ∧ OffAt w' o S ∧ Below W.heap.size W w' :=
 ⟨h.1, h.2.1, hb.trans (h.2.2.below hb.size (fun k hk => by omega))⟩
theorem works_calls (W : World) (hE : Env W) : Calls Tryz.prog 15 #[] W fun e W' => e = .returned (.bool true) ∧ Below W.heap.size W W' := by
 have mixed : Tryz.prog.follows .mixedOrders = true := by kernel_rfl
 have hA : ∀ l ∈ exA, l.length ≤ 100000 := by
  have : exA.all (fun l => decide (l.length ≤ 100000)) = true := by kernel_rfl
  rw [List.all_eq_true] at this
  exact fun l hl => of_decide_eq_true (this l hl)
 have HE := hidC hE
 obtain ⟨P, hP⟩ := told8
 have HP := hidC hP
 have HA := hidC hA
 clear hE hP hA
 go_enter Tryz.func15, Tryz.ntmps15
 go_upto_region 2 with (first | (go_at_call 35; refine (A_calls _).mono ?_; rintro e wa ⟨v, rfl, hv, hba⟩; have Hv := hidC hv; have Hba := hidC hba; clear hv hba) | (go_at_call 34; refine (office_calls _ _ exA Hv.out (HE.out.below Hba.out HE.out.size) HA.out (by decide)).mono ?_; intro e wb hof; rw [HP.out] at hof; obtain ⟨hbb, o, rfl, ho, hok, hoW⟩ := hof; have Ho := hidC ho; have Hok := hidC hok; have Hbb := hidC (Hba.out.trans (hbb.mono Hba.out.size)); have hoW2 := hidC (Nat.le_trans Hba.out.size hoW); clear ho hok hbb hoW))
 have hD : DeskOK d8 := Hok.out.now
 have HD := hidC hD
 have hW16 := hidC HE.out.size
 clear Hv Hba hD
 go_upto_region 5 with (go_at_call 20; refine (find_calls o _ kMp _ Ho.out HD.out).mono ?_; show ∀ e w', RdV _ (.tuple #[sV (d8.find kMp).1, nV (d8.find kMp).2]) e w' → _; rw [find8a']; rintro e w1 ⟨rfl, hb1⟩; have Ho1 := hidC (Ho.out.below hb1); have Hb1 := hidC (Hbb.out.trans (hb1.mono Hbb.out.size)); clear hb1)
 go_upto_region 6 with (go_at_call 20; refine (find_calls o _ kMt _ Ho1.out HD.out).mono ?_; show ∀ e w', RdV _ (.tuple #[sV (d8.find kMt).1, nV (d8.find kMt).2]) e w' → _; rw [find8b]; rintro e w2 ⟨rfl, hb2⟩; have Ho2 := hidC (Ho1.out.below hb2); have Hb2 := hidC (Hb1.out.trans (hb2.mono Hb1.out.size)); clear hb2)
 go_upto_region 7 with (go_at_call 22; refine (way8_calls o P _ Ho2.out).mono ?_; rintro e w3 ⟨v6, rfl, hv6, hb3⟩; have Hv6 := hidC hv6; have Ho3 := hidC (Ho2.out.below hb3); have Hb3 := hidC (Hb2.out.trans (hb3.mono Hb2.out.size)); clear hv6 hb3)
 go_upto_region 8 with (first
  | (go_at_call 38; refine (vol8_calls o P _ Ho3.out HD.out).mono ?_; rintro e w4 ⟨v8, u8, rfl, hr8, hu8, hb4⟩; have Hr8 := hidC hr8; have Hu8 := hidC hu8; have Hv64 := hidC (row_below Hv6.out hb4); have Ho4 := hidC (Ho3.out.below hb4); have Hb4 := hidC (Hb3.out.trans (hb4.mono Hb3.out.size)); clear hr8 hu8 hb4)
  | (go_at_call 28; refine (acc8_calls o P _ Ho4.out HD.out).mono ?_; rintro e w5 ⟨v9, rfl, hr9, hb5⟩; have Hr9 := hidC hr9; have Hr85 := hidC (row_below Hr8.out hb5); have Hu85 := hidC (row_below Hu8.out hb5); have Hv65 := hidC (row_below Hv64.out hb5); have Ho5 := hidC (Ho4.out.below hb5); have Hb5 := hidC (Hb4.out.trans (hb5.mono Hb4.out.size)); clear hr9 hb5)
  | (go_at_call 39; refine (wri8_calls o P _ Ho5.out HD.out).mono ?_; rintro e w6 ⟨v10, rfl, hr10, hb6⟩; have Hr10 := hidC hr10; have Hr96 := hidC (row_below Hr9.out hb6); have Hr86 := hidC (row_below Hr85.out hb6); have Hu86 := hidC (row_below Hu85.out hb6); have Hv66 := hidC (row_below Hv65.out hb6); have Ho6 := hidC (Ho5.out.below hb6); have Hb6 := hidC (Hb5.out.trans (hb6.mono Hb5.out.size)); clear hr10 hb6)
  | (go_at_call 40; refine (late8_calls o P _ Ho6.out HD.out).mono ?_; rintro e w7 ⟨v11, rfl, hr11, hb7⟩; have Hr11 := hidC hr11; have Hr107 := hidC (row_below Hr10.out hb7); have Hr97 := hidC (row_below Hr96.out hb7); have Hr87 := hidC (row_below Hr86.out hb7); have Hu87 := hidC (row_below Hu86.out hb7); have Hv67 := hidC (row_below Hv66.out hb7); have Ho7 := hidC (Ho6.out.below hb7); have Hb7 := hidC (Hb6.out.trans (hb7.mono Hb6.out.size)); clear hr11 hb7))
 clear Ho Ho1 Ho2 Ho3 Ho4 Ho5 Ho6 Hb1 Hb2 Hb3 Hb4 Hb5 Hb6 Hv6 Hv64 Hv65 Hv66 Hr8 Hr85 Hr86 Hu8 Hu85 Hu86 Hr9 Hr96 Hr10
 obtain ⟨a8, c8, rfl⟩ := row_slice Hr87.out
 obtain ⟨g8, rfl⟩ := row_none Hr87.out (by decide)
 obtain ⟨a9, c9, rfl⟩ := row_slice Hr97.out
 obtain ⟨g9, rfl⟩ := row_none Hr97.out (by decide)
 obtain ⟨a10, c10, rfl⟩ := row_slice Hr107.out
 obtain ⟨g10, rfl⟩ := row_none Hr107.out (by decide)
 have HL := hidC list_calls
 have hS1 : Hid (∀ W', Below w7.heap.size w7 W' → ∀ b cs, W'.heap[b]? = some (.cells cs 9 (0, 0)) → cs = #[sV ([109, 97, 112] : Tx)] → Calls Tryz.prog 24 #[v6, .slice (some ⟨b, 0, none⟩) 1 1] W' fun e W'' => LP W' true e W'') := hidC fun W' hW b cs hb hcs => same1_calls W' v6 [109, 97, 112] b cs (row_below Hv67.out hW) hb hcs
 have hS2 : Hid (∀ W', Below w7.heap.size w7 W' → ∀ b cs, W'.heap[b]? = some (.cells cs 9 (0, 0)) → cs = #[sV [109, 97, 115, 116]] → Calls Tryz.prog 24 #[v11, .slice (some ⟨b, 0, none⟩) 1 1] W' fun e W'' => LP W' true e W'') := hidC fun W' hW b cs hb hcs => same1_calls W' v11 [109, 97, 115, 116] b cs (row_below Hr11.out hW) hb hcs
 have hS1a := hidC (hS1.out (w7.alloc (.cells #[.string ⟨#[109, 97, 112]⟩] 9)) ((Below.refl _ _).alloc (Nat.le_refl _) _) w7.heap.size _ (heap_alloc_new _ _) rfl)
 go_upto_region 10 with (first
  | (go_at_call 36; refine (HL.out _ _).mono ?_; rintro e wz ⟨rfl, rfl⟩)
  | (go_at_call 24; refine (hS2.out _ (Hx.out.alloc Hxs.out _) _ _ (heap_alloc_new _ _) rfl).mono ?_; rintro e wy ⟨rfl, hdy⟩; have Hy := hidC ((Hx.out.alloc Hxs.out _).trans (hdy.below _)); have Hys := hidC Hy.out.size; clear hdy)
  | (go_at_call 24; refine hS1a.out.mono ?_; rintro e wx ⟨rfl, hdx⟩; have Hx := hidC (((Below.refl _ w7).alloc (Nat.le_refl _) _).trans (hdx.below _)); have Hxs := hidC Hx.out.size; clear hdx))
 have hHK : ∀ w', Below wy.heap.size wy w' → w'.cell? ⟨g8, 0, none⟩ = some (sV ([109] : Tx)) ∧ w'.cell? ⟨g8, 1, none⟩ = some u8 ∧ w'.cell? ⟨g8, 2, none⟩ = some (nV 40) ∧ w'.cell? ⟨g8, 3, none⟩ = some (nV 1) ∧
   w'.cell? ⟨g9, 0, none⟩ = some (sV ([116, 111, 109] : Tx)) ∧ w'.cell? ⟨g9, 1, none⟩ = some (nV 30) ∧ w'.cell? ⟨g9, 2, none⟩ = some (nV 1) ∧ w'.cell? ⟨g9, 3, none⟩ = some (.bool false) ∧
   w'.cell? ⟨g10, 0, none⟩ = some (sV ([97, 110, 110] : Tx)) ∧ w'.cell? ⟨g10, 1, none⟩ = some (nV 40) ∧ w'.cell? ⟨g10, 2, none⟩ = some (sV ([98, 101, 110] : Tx)) ∧ w'.cell? ⟨g10, 3, none⟩ = some (nV 0) := fun w' hw => by
  have hw7 : Below w7.heap.size w7 w' := Hy.out.trans (hw.mono Hys.out)
  have r8 := row_below Hr87.out hw7
  have r9 := row_below Hr97.out hw7
  have r10 := row_below Hr107.out hw7
  exact ⟨(row_get r8 (k := 0) (by decide)).1, (row_get r8 (k := 1) (by decide)).1, (row_get r8 (k := 2) (by decide)).1, (row_get r8 (k := 3) (by decide)).1,
   (row_get r9 (k := 0) (by decide)).1, (row_get r9 (k := 1) (by decide)).1, (row_get r9 (k := 2) (by decide)).1, (row_get r9 (k := 3) (by decide)).1,
   (row_get r10 (k := 0) (by decide)).1, (row_get r10 (k := 1) (by decide)).1, (row_get r10 (k := 2) (by decide)).1, (row_get r10 (k := 3) (by decide)).1⟩
 have HK := hidC hHK
 have hS3 : Hid (∀ W', Below wy.heap.size wy W' → ∀ b cs, W'.heap[b]? = some (.cells cs 9 (0, 0)) → cs = #[sV ([109, 97, 112] : Tx)] → Calls Tryz.prog 24 #[u8, .slice (some ⟨b, 0, none⟩) 1 1] W' fun e W'' => LP W' true e W'') := hidC fun W' hW b cs hb hcs => same1_calls W' u8 [109, 97, 112] b cs (row_below Hu87.out (Hy.out.trans (hW.mono Hys.out))) hb hcs
 have Hb8 := hidC (Hb7.out.trans (Hy.out.mono Hb7.out.size))
 have Ho8 := hidC (Ho7.out.below Hy.out)
 clear hHK hS1 hS2 hS1a Hr87 Hr97 Hr107 Hu87 Hv67 Hr11 Hx Hxs Hy Hys Ho7 Hb7
 go_region_held3 (fun w' => w'.cell? ⟨g8, 0, none⟩ = some (sV ([109] : Tx)) ∧ w'.cell? ⟨g8, 1, none⟩ = some u8 ∧ w'.cell? ⟨g8, 2, none⟩ = some (nV 40) ∧ w'.cell? ⟨g8, 3, none⟩ = some (nV 1) ∧ w'.cell? ⟨g9, 0, none⟩ = some (sV ([116, 111, 109] : Tx)) ∧ w'.cell? ⟨g9, 1, none⟩ = some (nV 30) ∧ w'.cell? ⟨g9, 2, none⟩ = some (nV 1) ∧ w'.cell? ⟨g9, 3, none⟩ = some (.bool false) ∧ w'.cell? ⟨g10, 0, none⟩ = some (sV ([97, 110, 110] : Tx)) ∧ w'.cell? ⟨g10, 1, none⟩ = some (nV 40) ∧ w'.cell? ⟨g10, 2, none⟩ = some (sV ([98, 101, 110] : Tx)) ∧ w'.cell? ⟨g10, 3, none⟩ = some (nV 0))
  (first | exact HK.out _ (by assumption) | exact HK.out _ (Below.refl _ _).drew | exact HK.out _ ((Below.refl _ _).drew.alloc (Nat.le_refl _) _) | exact HK.out _ ((Below.refl _ _).alloc (Nat.le_refl _) _).drew | go_keep)
  (first
   | (go_at_call 36; refine (HL.out _ _).mono ?_; rintro e wz ⟨rfl, rfl⟩)
   | (go_at_call 24; refine (hS3.out _ ((Below.refl _ _).drew.alloc (Nat.le_refl _) _) _ _ (heap_alloc_new _ _) rfl).mono ?_; rintro e wz ⟨rfl, hdz⟩; have hz1 : Below wy.heap.size wy wz := ((Below.refl _ _).drew.alloc (Nat.le_refl _) _).trans (hdz.below _)))
 have Hb9 := hidC (Hb8.out.trans (hz1.mono Hb8.out.size))
 have Ho9 := hidC (Ho8.out.below hz1)
 have h16 : Hid (16 ≤ o) := hidC (Nat.le_trans hW16.out hoW2.out)
 have hEn : Hid (∀ w, Below W.heap.size W w → Env w) := hidC fun w hw => HE.out.below hw HE.out.size
 clear hz1 Hb8 Ho8
 go_wp2_with (first
  | (go_at_call 33; refine (text0_calls _ _ Hon.out (hEn.out _ Hb16.out)).mono ?_; rintro e w17 ⟨rfl, hb17⟩; have Hb17 := hidC (Hb16.out.trans (hb17.mono Hb16.out.size)); clear hb17)
  | (go_at_call 16; refine (new_calls _).mono ?_; rintro e w16 ⟨o2, rfl, hon, -, hb16⟩; have Hon := hidC hon; have Hb16 := hidC (Hb15.out.trans (hb16.mono Hb15.out.size)); clear hon hb16)
  | (go_at_call 18; refine (undo_calls o P _ (hEn.out _ Hb14.out) h16.out Ho14.out Hok.out).mono ?_; rintro e w15 ⟨rfl, hb15⟩; have Hb15 := hidC (Hb14.out.trans (hb15.below Hb14.out.size (fun k hk => by have := hoW2.out; omega))); clear hb15)
  | (go_at_call 18; refine (nap_calls o P _ (hEn.out _ Hb13.out) h16.out Ho13.out Hok.out).mono ?_; intro e w14 ht; obtain ⟨rfl, ho, hb⟩ := tell_step ht Hb13.out hoW2.out; have Ho14 := hidC ho; have Hb14 := hidC hb; clear ho hb ht)
  | (go_at_call 18; refine (tell8_calls o P _ lStop 2 _ (hEn.out _ Hb12.out) h16.out Ho12.out Hok.out (by decide) (tell8d P)).mono ?_; intro e w13 ht; obtain ⟨rfl, ho, hb⟩ := tell_step ht Hb12.out hoW2.out; have Ho13 := hidC ho; have Hb13 := hidC hb; clear ho hb ht)
  | (go_at_call 18; refine (tell8_calls o P _ lClose 7 _ (hEn.out _ Hb11.out) h16.out Ho11.out Hok.out (by decide) (tell8c P)).mono ?_; intro e w12 ht; obtain ⟨rfl, ho, hb⟩ := tell_step ht Hb11.out hoW2.out; have Ho12 := hidC ho; have Hb12 := hidC hb; clear ho hb ht)
  | (go_at_call 18; refine (tell8_calls o P _ lCome 20 _ (hEn.out _ Hb10.out) h16.out Ho10.out Hok.out (by decide) (tell8b P)).mono ?_; intro e w11 ht; obtain ⟨rfl, ho, hb⟩ := tell_step ht Hb10.out hoW2.out; have Ho11 := hidC ho; have Hb11 := hidC hb; clear ho hb ht)
  | (go_at_call 18; refine (tell8_calls o P _ lMop 20 _ (hEn.out _ Hb9.out) h16.out Ho9.out Hok.out (by decide) (tell8a P)).mono ?_; intro e w10 ht; obtain ⟨rfl, ho, hb⟩ := tell_step ht Hb9.out hoW2.out; have Ho10 := hidC ho; have Hb10 := hidC hb; clear ho hb ht))
 go_ret
 exact ⟨rfl, Hb17.out⟩
end Go.Proofs.YtjeadhfponlnnaaGreatDoor
