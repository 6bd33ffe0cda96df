/-
  same, list, A, office: of the statements' own text.
  Conditions: none; definitions and lemmas.
-/
import Derived.Test.YtdhichidcomkmaaGreatDoorText33
import Derived.Test.YtdhichidcomkmaaGreatDoorTellAll
set_option linter.unusedSimpArgs false
set_option linter.unusedVariables false
namespace Go.Proofs.YtdhichidcomkmaaGreatDoor
open Go.RowKit Go.Pur Go.Clerk
open Go.Abs
set_option maxRecDepth 1000000
set_option maxHeartbeats 8000000
theorem row_none {W : World} {B e sz n c : Nat} {a : Option Addr} {xs : List Value} (h : W.ownsRow B e sz (.slice a n c) n xs) (hn : n ≠ 0) : ∃ g, a = some ⟨g, 0, none⟩ := by
 rcases h.2 with ⟨_, h0⟩ | ⟨g', cap', cur, e1, _⟩
 ·exact absurd h0 hn
 ·cases e1; exact ⟨g', rfl⟩
theorem same_calls (W : World) (v1 v2 : Value) (l1 l2 : List Tx) (h1 : TextsAt W v1 l1) (h2 : TextsAt W v2 l2) (n1 : l1.length ≤ 100000) :
  Calls Tryz.prog 24 #[v1, v2] W fun e W' => LP W (decide (l1 = l2)) e W' := by
 have mixed : Tryz.prog.follows .mixedOrders = true := by kernel_rfl
 obtain ⟨a1, c1, rfl⟩ := row_slice h1
 obtain ⟨a2, c2, rfl⟩ := row_slice h2
 by_cases hl : l1.length = l2.length
 ·obtain ⟨N, hN⟩ : ∃ N, l1.length = N := ⟨_, rfl⟩
  have hN2 : l2.length = N := by omega
  have H1 := hidC h1
  have H2 := hidC h2
  rw [hN] at n1
  unfold TextsAt at H1 H2
  rw [hN] at H1
  rw [hN2] at H2
  rw [hN, hN2]
  have hne : ((N : Int) != (N : Int)) = false := bne_eq_false_iff_eq.2 rfl
  clear h1 h2 hl
  go_enter Tryz.func24, Tryz.ntmps24
  go_wp2_with fail
  go_loopg [5] (N + 1) (fun gk s5 wx => ∃ i : Nat, s5 = .int .i64 (i : Int) ∧ i ≤ N ∧ N < i + gk ∧ Drew W wx ∧ l1.take i = l2.take i)
  case atStart => exact ⟨0, rfl, by omega, by omega, Drew.refl _, rfl⟩
  case round =>
   obtain ⟨i, rfl, hi, hg, hd, ht⟩ := hrel
   by_cases hlt : i < N
   ·obtain ⟨g', rfl⟩ : ∃ g', gk = g' + 1 := ⟨gk - 1, by omega⟩
    obtain ⟨g1, rfl⟩ := row_none H1.out (by omega)
    obtain ⟨g2, rfl⟩ := row_none H2.out (by omega)
    obtain ⟨x, hx⟩ : ∃ x, l1[i]? = some x := ⟨_, List.getElem?_eq_getElem (by omega)⟩
    obtain ⟨y, hy⟩ : ∃ y, l2[i]? = some y := ⟨_, List.getElem?_eq_getElem (by omega)⟩
    have k1 := (row_get H1.out (k := i) (by omega)).1
    have k2 := (row_get H2.out (k := i) (by omega)).1
    rw [List.getElem?_map, hx] at k1
    rw [List.getElem?_map, hy] at k2
    have q1 : wr.drew.cell? ⟨g1, i, none⟩ = some (sV x) := by show wr.cell? _ = _; unfold World.cell?; rw [hd.1]; exact k1
    have q2 : wr.drew.cell? ⟨g2, i, none⟩ = some (sV y) := by show wr.cell? _ = _; unfold World.cell?; rw [hd.1]; exact k2
    have hi1 : (0 : Int) ≤ (i : Int) := by omega
    have hi2 : (i : Int) < (N : Int) := by omega
    have Hd := hidC hd
    have Ht := hidC ht
    clear k1 k2 hd ht
    by_cases hxy : x = y
    ·have hbn : (x != y) = false := bne_eq_false_iff_eq.2 hxy
     go_upto_region 6 with fail
     go_region
     all_goals go_wp2_with fail
     all_goals go_roundg g'
     case measure => omega
     case rel =>
      refine ⟨i + 1, by simp, by omega, by omega, ?_, ?_⟩
      ·exact Hd.out.drew
      ·rw [List.take_add_one, List.take_add_one, hx, hy, Ht.out, hxy]
    ·have hbn : (x == y) = false := beq_eq_false_iff_ne.2 hxy
     have hR : decide (l1 = l2) = false := decide_eq_false fun e => hxy (by rw [e, hy] at hx; exact (Option.some.inj hx).symm)
     have HR := hidC hR
     clear hR
     go_upto_region 6 with fail
     go_region
     all_goals go_wp2_with fail
     all_goals go_ret
     all_goals rw [HR.out]
     all_goals exact ⟨rfl, Hd.out.drew⟩
   ·obtain rfl : i = N := by omega
    rw [List.take_of_length_le (by omega), List.take_of_length_le (by omega)] at ht
    have Hd := hidC hd
    have hR : decide (l1 = l2) = true := decide_eq_true ht
    have HR := hidC hR
    clear hR ht hd
    go_wp2_with fail
    go_ret
    rw [HR.out]
    exact ⟨rfl, Hd.out⟩
 ·have hR : decide (l1 = l2) = false := decide_eq_false fun e => hl (by rw [e])
  rw [hR]
  have hne : ((l1.length : Int) != (l2.length : Int)) = true := bne_iff_ne.2 (by omega)
  go_enter Tryz.func24, Tryz.ntmps24
  go_wp2_with fail
  go_ret
  exact ⟨rfl, Drew.refl _⟩
theorem list_calls (W : World) (v : Value) : Calls Tryz.prog 36 #[v] W fun e W' => e = .returned v ∧ W' = W := by
 have mixed : Tryz.prog.follows .mixedOrders = true := by kernel_rfl
 go_enter Tryz.func36, Tryz.ntmps36
 go_wp2_with fail
 go_ret
 exact ⟨rfl, rfl⟩
def exA : List Tx := [[119, 111, 114, 100, 32, 109, 97, 112], [119, 111, 114, 100, 32, 109, 97, 115, 116], [115, 104, 111, 114, 116, 32, 109, 97, 112, 32, 109, 112], [103, 105, 118, 101, 32, 109, 97, 112, 32, 97, 110, 110, 32, 51, 48],
 [99, 111, 109, 101, 32, 109, 97, 112, 32, 52, 48], [103, 105, 118, 101, 32, 109, 97, 115, 116, 32, 98, 101, 110, 32, 49, 48], [112, 97, 121, 32, 116, 111, 109, 32, 53, 48], [99, 108, 111, 115, 101, 32, 109]]
theorem texts_new {W : World} {l : List Tx} {cs : Array Value} (h : cs.toList = l.map sV) (hn : l ≠ []) (hl : l.length ≤ 1000) : (W.alloc (.cells cs 9)).ownsRow W.heap.size 9 1 (.slice (some ⟨W.heap.size, 0, none⟩) l.length l.length) l.length (l.map sV) := by
 refine ⟨by simp, .inr ⟨W.heap.size, l.length, cs, rfl, Nat.le_refl _, heap_alloc_new _ _, Nat.le_refl _, by unfold maxLen; omega, ?_, ?_⟩⟩
 ·have := congrArg List.length h
  simpa using this
 ·rw [h, List.take_of_length_le (by simp)]
theorem A_calls (W : World) : Calls Tryz.prog 35 #[] W fun e W' => TxP W exA e W' := by
 have mixed : Tryz.prog.follows .mixedOrders = true := by kernel_rfl
 have HL := hidC list_calls
 go_enter Tryz.func35, Tryz.ntmps35
 go_wp2_with (go_at_call 36; refine (HL.out _ _).mono ?_; rintro e wb ⟨rfl, rfl⟩)
 go_ret
 exact ⟨_, rfl, row_mono (texts_new (l := exA) rfl (by decide) (by decide)) (Nat.zero_le _), (Below.refl _ _).alloc (Nat.le_refl _) _⟩
def tellAll : List Tx → Off → Option Off
 | [], S => some S
 | l :: r, S => match tell S l with
  | (0, S') => tellAll r S'
  | (_ + 1, _) => none
theorem tellAll_snoc : ∀ (l : List Tx) (x : Tx) (S : Off), tellAll (l ++ [x]) S = (tellAll l S).bind fun S' => match tell S' x with
  | (0, S'') => some S''
  | (_ + 1, _) => none
 | [], x, S => by
  rw [List.nil_append]
  simp only [tellAll, Option.bind_some]
 | a :: l, x, S => by
  show tellAll (a :: (l ++ [x])) S = _
  unfold tellAll
  rcases tell S a with ⟨_ | e, S'⟩
  ·exact tellAll_snoc l x S'
  ·rfl
theorem tellAll_none : ∀ {l m : List Tx} {S : Off}, tellAll l S = none → tellAll (l ++ m) S = none
 | [], _, _, h => by cases h
 | a :: l, m, S, h => by
  show tellAll (a :: (l ++ m)) S = _
  unfold tellAll at h ⊢
  rcases hq : tell S a with ⟨_ | e, S'⟩
  ·rw [hq] at h
   exact tellAll_none h
  ·rfl
def OfP (W : World) (r : Option Off) (e : Ending) (W' : World) : Prop := Below W.heap.size W W' ∧ match r with
 | some S => ∃ o, e = .returned (ptrV o) ∧ OffAt W' o S ∧ OffOK S ∧ W.heap.size ≤ o
 | none => e = .returned (.pointer none)
theorem office_calls (W : World) (v : Value) (ls : List Tx) (hv : TextsAt W v ls) (hE : Env W) (hl : ∀ l ∈ ls, l.length ≤ 100000) (hn : ls.length ≤ 100000) : Calls Tryz.prog 34 #[v] W fun e W' => OfP W (tellAll ls Off.none) e W' := by
 have mixed : Tryz.prog.follows .mixedOrders = true := by kernel_rfl
 obtain ⟨a1, c1, rfl⟩ := row_slice hv
 have HN := hidC (new_calls W)
 have HV := hidC hv
 have HE := hidC hE
 have HL := hidC hl
 obtain ⟨N, hN⟩ : ∃ N, ls.length = N := ⟨_, rfl⟩
 unfold TextsAt at HV
 rw [hN] at hn HV ⊢
 clear hv hE hl
 go_enter Tryz.func34, Tryz.ntmps34
 go_wp2_with (go_at_call 16; refine HN.out.mono ?_; rintro e wa ⟨o, rfl, ho, hoW, hba⟩; have Ho := hidC ho; have Hba := hidC hba; clear ho hba)
 go_loopg [4] (N + 1) (fun gk s4 wx => ∃ (i : Nat) (S : Off), s4 = .int .i64 (i : Int) ∧ i ≤ N ∧ N < i + gk ∧ OffAt wx o S ∧ OffOK S ∧ tellAll (ls.take i) Off.none = some S ∧ Below W.heap.size W wx)
 case atStart => exact ⟨0, Off.none, rfl, by omega, by omega, Ho.out, OffOK.none, rfl, Hba.out⟩
 case round =>
  obtain ⟨i, S, rfl, hi, hg, ho, hok, ht, hb⟩ := hrel
  by_cases hlt : i < N
  ·obtain ⟨g', rfl⟩ : ∃ g', gk = g' + 1 := ⟨gk - 1, by omega⟩
   obtain ⟨g1, rfl⟩ := row_none HV.out (by omega)
   obtain ⟨x, hx⟩ : ∃ x, ls[i]? = some x := ⟨_, List.getElem?_eq_getElem (by omega)⟩
   obtain ⟨k1, -, k3, -, -⟩ := row_get HV.out (k := i) (by omega)
   rw [List.getElem?_map, hx] at k1
   have q1 : wr.cell? ⟨g1, i, none⟩ = some (sV x) := (hb.cell (p := ⟨g1, i, none⟩) k3).trans k1
   have hi1 : (0 : Int) ≤ (i : Int) := by omega
   have hi2 : (i : Int) < (N : Int) := by omega
   have hxl := HL.out x (List.mem_of_getElem? hx)
   have h16 : 16 ≤ o := by have := HE.out.size; omega
   have HT := hidC (tell_calls o S x wr ho (HE.out.below hb HE.out.size) h16 hxl hok)
   have hok2 := hidC (tell_ok (line := x) hok hxl)
   have hsn : tellAll (ls.take (i + 1)) Off.none = match tell S x with
     | (0, S'') => some S''
     | (_ + 1, _) => none := by
    rw [List.take_add_one, hx]
    show tellAll (ls.take i ++ [x]) _ = _
    rw [tellAll_snoc, ht]
    rfl
   have Hb := hidC hb
   rcases hq : tell S x with ⟨_ | e', S'⟩
   ·rw [hq] at HT hsn hok2
    have Hsn := hidC hsn
    clear hb ho hok ht k1 hq hsn
    go_wp2_with (go_at_call 18; refine HT.out.mono ?_; rintro e wz ⟨rfl, hz1, hz2⟩; have Hz1 := hidC hz1; have Hz2 := hidC hz2; clear hz1 hz2)
    go_roundg g'
    case measure => omega
    case rel => exact ⟨i + 1, S', by simp, by omega, by omega, Hz1.out, hok2.out, Hsn.out, Hb.out.trans (Hz2.out.below Hb.out.size (fun k hk => by omega))⟩
   ·rw [hq] at HT hsn
    have hall : tellAll ls Off.none = none := by
     have h1 := tellAll_none (m := ls.drop (i + 1)) hsn
     rw [List.take_append_drop] at h1
     exact h1
    have Hall := hidC hall
    have he' : (((e' + 1 : Nat) : Int) != 0) = true := bne_iff_ne.2 (by omega)
    clear hb ho hok ht k1 hq hsn hall
    go_wp2_with (go_at_call 18; refine HT.out.mono ?_; rintro e wz ⟨rfl, hz1, hz2⟩; have Hz2 := hidC hz2; clear hz1 hz2)
    go_ret
    rw [Hall.out]
    exact ⟨Hb.out.trans (Hz2.out.below Hb.out.size (fun k hk => by omega)), rfl⟩
  ·obtain rfl : i = N := by omega
   rw [List.take_of_length_le (by omega)] at ht
   have Hr : Hid (OfP W (tellAll ls Off.none) (.returned (ptrV o)) wr) := hidC (by rw [ht]; exact ⟨hb, o, rfl, ho, hok, hoW⟩)
   clear ho hok ht hb
   go_wp2_with fail
   go_ret
   exact Hr.out
end Go.Proofs.YtdhichidcomkmaaGreatDoor
