/-
  ClerkKnown in the model.
  Printed by wip/tools/known14.py. Conditions: none; lemmas.
-/
import Derived.Test.YtdhichidcomkmaaGreatDoorKnownLaw
set_option linter.unusedSimpArgs false
set_option linter.unusedVariables false
namespace Go.Proofs.YtdhichidcomkmaaGreatDoor
open Go.RowKit Go.Pur Go.Clerk
open Go.Abs
set_option maxRecDepth 1000000
set_option maxHeartbeats 8000000
theorem tellK_calls (o : Nat) (S S' : Off) (w : World) (l : Tx) (n : Nat) (hE : Env w) (h16 : 16 ≤ o) (hO : OffAt w o S) (hS : OffOK S) (hl : l.length ≤ 100000) (ht : tell S l = (n, S')) : Calls Tryz.prog 18 #[ptrV o, sV l] w fun e w' => TellP w o (n, S') e w' := by
 have h := tell_calls o S l w hO hE h16 hl hS
 rw [ht] at h
 exact h
theorem officeK_calls (W : World) (v : Value) (ls : List Tx) (S : Off) (hv : TextsAt W v ls) (hE : Env W) (hl : ls.all (fun l => decide (l.length ≤ 100000)) = true) (hn : ls.length ≤ 100000) (ht : tellAll ls Off.none = some S) :
  Calls Tryz.prog 34 #[v] W fun e W' => ∃ o, e = .returned (ptrV o) ∧ OffAt W' o S ∧ OffOK S ∧ W.heap.size ≤ o ∧ Below W.heap.size W W' := by
 rw [List.all_eq_true] at hl
 refine (office_calls W v ls hv hE (fun l h => of_decide_eq_true (hl l h)) hn).mono ?_
 rintro e W' ⟨hb, h⟩
 rw [ht] at h
 obtain ⟨o, rfl, h1, h2, h3⟩ := h
 exact ⟨o, rfl, h1, h2, h3, hb⟩
theorem readK_none (t : Tx) (w : World) (n : Nat) (hE : Env w) (hl : t.length ≤ 1000000000) (ht : readT t = (none, n)) : Calls Tryz.prog 31 #[sV t] w fun e w' => e = .returned (.tuple #[.pointer none, nV n]) ∧ Below w.heap.size w w' := by
 have h := read_calls t w hE hl
 rw [ht] at h
 exact h.mono fun e w' h => ⟨h.2, h.1⟩
theorem readK_some (t : Tx) (w : World) (n : Nat) (S : Off) (hE : Env w) (hl : t.length ≤ 1000000000) (ht : readT t = (some S, n)) : Calls Tryz.prog 31 #[sV t] w fun e w' => ∃ o, e = .returned (.tuple #[ptrV o, nV n]) ∧ OffAt w' o S ∧ OffOK S ∧ w.heap.size ≤ o ∧ Below w.heap.size w w' := by
 have h := read_calls t w hE hl
 rw [ht] at h
 refine h.mono ?_
 rintro e w' ⟨hb, o, rfl, h1, h2, h3⟩
 exact ⟨o, rfl, h1, h2, h3, hb⟩
theorem textK_calls (o : Nat) (S : Off) (w : World) (x : Tx) (hO : OffAt w o S) (hE : Env w) (hS : OffOK S) (hx : textOf S.lines = x) : Calls Tryz.prog 33 #[ptrV o] w fun e w' => RdV w (sV x) e w' := by
 have h := text_calls o S w hO hE hS
 rw [hx] at h
 exact h
theorem wayK_calls (o : Nat) (S : Off) (wd : Tx) (l : List Tx) (w : World) (hO : OffAt w o S) (hl : S.now.ents.length ≤ 1000) (h : S.now.wayOf wd = (l, 0)) : Calls Tryz.prog 22 #[ptrV o, sV wd] w fun e w' => ∃ v, e = .returned (.tuple #[v, nV 0]) ∧ TextsAt w' v l ∧ Below w.heap.size w w' := by
 have h2 := way22_calls o S wd w hO hl
 rw [h] at h2
 exact h2
theorem linesK_calls (o : Nat) (w : World) (hO : OffAt w o Off.none) : Calls Tryz.prog 30 #[ptrV o] w fun e w' => ∃ a c, e = .returned (.slice a 0 c) ∧ Below w.heap.size w w' := by
 refine (lines_calls o Off.none w hO (by decide)).mono ?_
 rintro e w' ⟨v, rfl, hv, hb⟩
 obtain ⟨a, c, rfl⟩ := row_slice hv
 exact ⟨a, c, rfl, hb⟩
theorem sameK_true (W : World) (v1 v2 : Value) (l : List Tx) (h1 : TextsAt W v1 l) (h2 : TextsAt W v2 l) (n : l.length ≤ 100000) : Calls Tryz.prog 24 #[v1, v2] W fun e W' => LP W true e W' := by
 have h := same_calls W v1 v2 l l h1 h2 n
 rw [decide_eq_true rfl] at h
 exact h
theorem known_calls (W : World) (hE : Env W) : Calls Tryz.prog 6 #[] W fun e W' => e = .returned (.bool true) ∧ Below W.heap.size W W' := by
 have mixed : Tryz.prog.follows .mixedOrders = true := by kernel_rfl
 have hEn : Hid (∀ w, Below W.heap.size W w → Env w) := hidC fun w hw => hE.below hw hE.size
 have hW16 := hidC hE.size
 have h16 : ∀ o, Hid (W.heap.size ≤ o) → Hid (16 ≤ o) := fun o h => hidC (Nat.le_trans hW16.out h.out)
 obtain ⟨P, hP⟩ := told8
 have HP := hidC hP
 have HL := hidC list_calls
 clear hE hP
 go_enter Tryz.func6, Tryz.ntmps6
 go_upto_region 2 with (go_at_call 16; refine (new_calls _).mono ?_; rintro e w0 ⟨o1, rfl, ho, hoW, hb⟩; have Ho0 := hidC ho; have Hge_o1 := hidC hoW; have Hb0 := hidC hb; clear ho hoW hb)
 have Hk0 := hidC OffOK.none
 have Hk1 := hidC (show OffOK oS1 from tell_ok (line := [119, 111, 114, 100, 32, 109, 97, 112]) OffOK.none (by decide))
 go_upto_region 6 with (first
  | (go_at_call 33; refine (textK_calls o1 oS1 _ _ Ho8.out (hEn.out _ Hb8.out) Hk1.out kn9).mono ?_; rintro e w9 ⟨rfl, hb⟩; have Hb9 := hidC (Hb8.out.trans (hb.mono Hb8.out.size)); clear hb)
  | (go_at_call 18; refine (tellK_calls o1 Off.none oS1 _ [119, 111, 114, 100, 32, 109, 97, 112] 0 (hEn.out _ Hb7.out) (h16 _ Hge_o1).out Ho7.out Hk0.out (by decide) kn8).mono ?_; intro e w8 ht; obtain ⟨rfl, ho, hb⟩ := tell_step ht Hb7.out Hge_o1.out; have Ho8 := hidC ho; have Hb8 := hidC hb; clear ho hb ht)
  | (go_at_call 18; refine (tellK_calls o1 Off.none Off.none _ [112, 97, 121, 32, 116, 111, 109, 32, 48, 53] 10 (hEn.out _ Hb6.out) (h16 _ Hge_o1).out Ho6.out Hk0.out (by decide) kn7).mono ?_; intro e w7 ht; obtain ⟨rfl, ho, hb⟩ := tell_step ht Hb6.out Hge_o1.out; have Ho7 := hidC ho; have Hb7 := hidC hb; clear ho hb ht)
  | (go_at_call 18; refine (tellK_calls o1 Off.none Off.none _ [99, 108, 111, 115, 101, 32, 109, 109] 8 (hEn.out _ Hb5.out) (h16 _ Hge_o1).out Ho5.out Hk0.out (by decide) kn6).mono ?_; intro e w6 ht; obtain ⟨rfl, ho, hb⟩ := tell_step ht Hb5.out Hge_o1.out; have Ho6 := hidC ho; have Hb6 := hidC hb; clear ho hb ht)
  | (go_at_call 18; refine (tellK_calls o1 Off.none Off.none _ [103, 105, 118, 101, 32, 109, 97, 112, 32, 97, 110, 110, 32, 49] 2 (hEn.out _ Hb4.out) (h16 _ Hge_o1).out Ho4.out Hk0.out (by decide) kn5).mono ?_; intro e w5 ht; obtain ⟨rfl, ho, hb⟩ := tell_step ht Hb4.out Hge_o1.out; have Ho5 := hidC ho; have Hb5 := hidC hb; clear ho hb ht)
  | (go_at_call 18; refine (tellK_calls o1 Off.none Off.none _ [117, 110, 100, 111] 4 (hEn.out _ Hb3.out) (h16 _ Hge_o1).out Ho3.out Hk0.out (by decide) kn4).mono ?_; intro e w4 ht; obtain ⟨rfl, ho, hb⟩ := tell_step ht Hb3.out Hge_o1.out; have Ho4 := hidC ho; have Hb4 := hidC hb; clear ho hb ht)
  | (go_at_call 18; refine (tellK_calls o1 Off.none Off.none _ [119, 111, 114, 100, 32, 109, 97, 112, 32, 97, 110, 110] 10 (hEn.out _ Hb2.out) (h16 _ Hge_o1).out Ho2.out Hk0.out (by decide) kn3).mono ?_; intro e w3 ht; obtain ⟨rfl, ho, hb⟩ := tell_step ht Hb2.out Hge_o1.out; have Ho3 := hidC ho; have Hb3 := hidC hb; clear ho hb ht)
  | (go_at_call 18; refine (tellK_calls o1 Off.none Off.none _ [119, 111, 114, 100] 10 (hEn.out _ Hb1.out) (h16 _ Hge_o1).out Ho1.out Hk0.out (by decide) kn2).mono ?_; intro e w2 ht; obtain ⟨rfl, ho, hb⟩ := tell_step ht Hb1.out Hge_o1.out; have Ho2 := hidC ho; have Hb2 := hidC hb; clear ho hb ht)
  | (go_at_call 18; refine (tellK_calls o1 Off.none Off.none _ [119, 111, 114, 100, 32, 77, 97, 112] 8 (hEn.out _ Hb0.out) (h16 _ Hge_o1).out Ho0.out Hk0.out (by decide) kn1).mono ?_; intro e w1 ht; obtain ⟨rfl, ho, hb⟩ := tell_step ht Hb0.out Hge_o1.out; have Ho1 := hidC ho; have Hb1 := hidC hb; clear ho hb ht))
 go_upto_region 7 with (first
  | (go_at_call 35; refine (A_calls _).mono ?_; rintro e wa ⟨v, rfl, hv, hb⟩; have Hv := hidC hv; have Hba := hidC (Hb9.out.trans (hb.mono Hb9.out.size)); clear hv hb)
  | (go_at_call 34; refine (officeK_calls _ _ exA _ Hv.out (hEn.out _ Hba.out) (by kernel_rfl) (by decide) HP.out).mono ?_; rintro e w10 ⟨o2, rfl, ho, hok, hoW, hb⟩; have Ho10 := hidC ho; have Hge_o2 := hidC (Nat.le_trans Hba.out.size hoW); have Hk2 := hidC hok; have Hb10 := hidC (Hba.out.trans (hb.mono Hba.out.size)); clear ho hok hoW hb))
 go_upto_region 9 with (first
  | (go_at_call 18; refine (tellK_calls o2 ⟨d8, P, exA⟩ _ _ [115, 104, 111, 114, 116, 32, 109, 97, 115, 116, 32, 109, 116] 0 (hEn.out _ Hb12.out) (h16 _ Hge_o2).out Ho12.out Hk2.out (by decide) (kn13 P)).mono ?_; intro e w13 ht; obtain ⟨rfl, ho, hb⟩ := tell_step ht Hb12.out Hge_o2.out; have Ho13 := hidC ho; have Hb13 := hidC hb; clear ho hb ht)
  | (go_at_call 18; refine (tellK_calls o2 ⟨d8, P, exA⟩ ⟨d8, P, exA⟩ _ [119, 111, 114, 100, 32, 97, 112, 116] 20 (hEn.out _ Hb11.out) (h16 _ Hge_o2).out Ho11.out Hk2.out (by decide) (kn12 P)).mono ?_; intro e w12 ht; obtain ⟨rfl, ho, hb⟩ := tell_step ht Hb11.out Hge_o2.out; have Ho12 := hidC ho; have Hb12 := hidC hb; clear ho hb ht)
  | (go_at_call 18; refine (tellK_calls o2 ⟨d8, P, exA⟩ ⟨d8, P, exA⟩ _ [103, 105, 118, 101, 32, 109, 97, 112, 32, 97, 110, 110, 32, 49] 6 (hEn.out _ Hb10.out) (h16 _ Hge_o2).out Ho10.out Hk2.out (by decide) (kn11 P)).mono ?_; intro e w11 ht; obtain ⟨rfl, ho, hb⟩ := tell_step ht Hb10.out Hge_o2.out; have Ho11 := hidC ho; have Hb11 := hidC hb; clear ho hb ht))
 have hr14 := hidC (texts_new (W := w13) (l := ls3) (cs := #[.string ⟨#[119, 111, 114, 100, 32, 109, 97, 112]⟩, .string ⟨#[119, 111, 114, 100, 32, 109, 111, 112]⟩]) rfl (by decide) (by decide))
 go_upto_region 10 with (first
  | (go_at_call 34; refine (officeK_calls _ _ ls3 oS3 (row_mono hr14.out (Nat.zero_le _)) (hEn.out _ (Hb13.out.alloc Hb13.out.size _)) (by kernel_rfl) (by decide) told3).mono ?_; rintro e w14 ⟨o3, rfl, ho, hok, hoW, hb⟩; have Ho14 := hidC ho; have Hge_o3 := hidC (Nat.le_trans (Hb13.out.alloc Hb13.out.size _).size hoW); have Hk3 := hidC hok; have Hb14 := hidC ((Hb13.out.alloc Hb13.out.size _).trans (hb.mono (Hb13.out.alloc Hb13.out.size _).size)); clear ho hok hoW hb)
  | (go_at_call 36; refine (HL.out _ _).mono ?_; rintro e wl ⟨rfl, rfl⟩))
 have Hk3b := hidC (show OffOK oS3b from tell_ok (line := [115, 104, 111, 114, 116, 32, 109, 97, 112, 32, 109, 97]) Hk3.out (by decide))
 go_upto_region 12 with (first
  | (go_at_call 18; refine (tellK_calls o3 oS3b oS3b _ [119, 111, 114, 100, 32, 109, 97, 114, 115] 13 (hEn.out _ Hb16.out) (h16 _ Hge_o3).out Ho16.out Hk3b.out (by decide) kn16).mono ?_; intro e w17 ht; obtain ⟨rfl, ho, hb⟩ := tell_step ht Hb16.out Hge_o3.out; have Ho17 := hidC ho; have Hb17 := hidC hb; clear ho hb ht)
  | (go_at_call 18; refine (tellK_calls o3 oS3 oS3b _ [115, 104, 111, 114, 116, 32, 109, 97, 112, 32, 109, 97] 0 (hEn.out _ Hb15.out) (h16 _ Hge_o3).out Ho15.out Hk3.out (by decide) kn15).mono ?_; intro e w16 ht; obtain ⟨rfl, ho, hb⟩ := tell_step ht Hb15.out Hge_o3.out; have Ho16 := hidC ho; have Hb16 := hidC hb; clear ho hb ht)
  | (go_at_call 18; refine (tellK_calls o3 oS3 oS3 _ [115, 104, 111, 114, 116, 32, 109, 97, 112, 32, 109, 112] 13 (hEn.out _ Hb14.out) (h16 _ Hge_o3).out Ho14.out Hk3.out (by decide) kn14).mono ?_; intro e w15 ht; obtain ⟨rfl, ho, hb⟩ := tell_step ht Hb14.out Hge_o3.out; have Ho15 := hidC ho; have Hb15 := hidC hb; clear ho hb ht))
 have hr18 := hidC (texts_new (W := w17) (l := ls4) (cs := #[.string ⟨#[119, 111, 114, 100, 32, 97]⟩, .string ⟨#[119, 111, 114, 100, 32, 98]⟩, .string ⟨#[119, 111, 114, 100, 32, 99]⟩, .string ⟨#[115, 101, 101, 32, 97, 32, 98]⟩, .string ⟨#[115, 101, 101, 32, 98, 32, 99]⟩]) rfl (by decide) (by decide))
 go_upto_region 13 with (first
  | (go_at_call 34; refine (officeK_calls _ _ ls4 oS4 (row_mono hr18.out (Nat.zero_le _)) (hEn.out _ (Hb17.out.alloc Hb17.out.size _)) (by kernel_rfl) (by decide) told4).mono ?_; rintro e w18 ⟨o4, rfl, ho, hok, hoW, hb⟩; have Ho18 := hidC ho; have Hge_o4 := hidC (Nat.le_trans (Hb17.out.alloc Hb17.out.size _).size hoW); have Hk4 := hidC hok; have Hb18 := hidC ((Hb17.out.alloc Hb17.out.size _).trans (hb.mono (Hb17.out.alloc Hb17.out.size _).size)); clear ho hok hoW hb)
  | (go_at_call 36; refine (HL.out _ _).mono ?_; rintro e wl ⟨rfl, rfl⟩))
 go_upto_region 16 with (go_at_call 22; refine (wayK_calls o4 oS4 [97] _ _ Ho18.out few4 kn17).mono ?_; rintro e w19 ⟨v2, rfl, hv, hb⟩; have Hv19 := hidC hv; have Ho19 := hidC (Ho18.out.below hb); have Hb19 := hidC (Hb18.out.trans (hb.mono Hb18.out.size)); clear hv hb)
 go_upto_region 17 with (go_at_call 31; refine (readK_none [104, 101, 97, 100, 119, 111, 114, 100, 10] _ 9 (hEn.out _ Hb19.out) (by decide) kn19).mono ?_; rintro e w20 ⟨rfl, hb⟩; have Hv20 := hidC (row_below Hv19.out hb); have Ho20 := hidC (Ho19.out.below hb); have Hb20 := hidC (Hb19.out.trans (hb.mono Hb19.out.size)); clear hb)
 go_upto_region 18 with (go_at_call 31; refine (readK_none [104, 101, 97, 100, 119, 111, 114, 100, 10, 101, 110, 100, 32, 48, 10] _ 18 (hEn.out _ Hb20.out) (by decide) kn20).mono ?_; rintro e w21 ⟨rfl, hb⟩; have Hv21 := hidC (row_below Hv20.out hb); have Ho21 := hidC (Ho20.out.below hb); have Hb21 := hidC (Hb20.out.trans (hb.mono Hb20.out.size)); clear hb)
 go_upto_region 19 with (go_at_call 31; refine (readK_some [104, 101, 97, 100, 119, 111, 114, 100, 10, 101, 110, 100, 32, 57, 56, 54, 51, 10] _ 0 Off.none (hEn.out _ Hb21.out) (by decide) kn21).mono ?_; rintro e w22 ⟨o5, rfl, ho, -, -, hb⟩; have Hr22 := hidC ho; have Hv22 := hidC (row_below Hv21.out hb); have Ho22 := hidC (Ho21.out.below hb); have Hb22 := hidC (Hb21.out.trans (hb.mono Hb21.out.size)); clear ho hb)
 go_upto_region 21 with (first
  | (go_at_call 18; refine (tellK_calls o4 oS4 oS4 _ [115, 101, 101, 32, 99, 32, 97] 13 (hEn.out _ Hb24.out) (h16 _ Hge_o4).out Ho24.out Hk4.out (by decide) kn18).mono ?_; intro e w25 ht; obtain ⟨rfl, -, hb⟩ := tell_step ht Hb24.out Hge_o4.out; have Hb25 := hidC hb; clear hb ht)
  | (go_at_call 24; refine (sameK_true _ v2 _ [[97], [98], [99]] (row_below Hv23.out ((Below.refl _ _).alloc (Nat.le_refl _) _)) (row_mono (texts_new (W := w23) (l := [[97], [98], [99]]) (cs := #[.string ⟨#[97]⟩, .string ⟨#[98]⟩, .string ⟨#[99]⟩]) rfl (by decide) (by decide)) (Nat.zero_le _)) (by decide)).mono ?_; rintro e w24 ⟨rfl, hd⟩; have Ho24 := hidC (Ho23.out.below (((Below.refl _ _).alloc (Nat.le_refl _) _).trans (hd.below _))); have Hb24 := hidC (Hb23.out.trans ((((Below.refl _ _).alloc (Nat.le_refl _) _).trans (hd.below _)).mono Hb23.out.size)); clear hd)
  | (go_at_call 30; refine (linesK_calls o5 _ Hr22.out).mono ?_; rintro e w23 ⟨a5, c5, rfl, hb⟩; have Hv23 := hidC (row_below Hv22.out hb); have Ho23 := hidC (Ho22.out.below hb); have Hb23 := hidC (Hb22.out.trans (hb.mono Hb22.out.size)); clear hb)
  | (go_at_call 36; refine (HL.out _ _).mono ?_; rintro e wl ⟨rfl, rfl⟩))
 obtain ⟨w26, hw26⟩ : ∃ x, (w25.alloc (.cells #[.pointer none, .slice none 0 0, .slice none 0 0] 59)).alloc (.cells #[.pointer none, ptrV w25.heap.size] 25) = x := ⟨_, rfl⟩
 have hs26 : (w25.alloc (.cells #[.pointer none, .slice none 0 0, .slice none 0 0] 59)).heap.size = w25.heap.size + 1 := by simp
 have hb26 : Below w25.heap.size w25 w26 := by rw [← hw26]; exact ((Below.refl _ _).alloc (Nat.le_refl _) _).alloc (by simp) _
 have hn26 : w26.heap[w25.heap.size]? = some (.cells #[.pointer none, .slice none 0 0, .slice none 0 0] 59 (0, 0)) := by
  rw [← hw26]
  exact (Below.heap_alloc _ _ _ (by rw [hs26]; omega)).trans (heap_alloc_new _ _)
 have hl26 : w26.heap[w25.heap.size + 1]? = some (.cells #[.pointer none, ptrV w25.heap.size] 25 (0, 0)) := by
  rw [← hw26]
  have := heap_alloc_new (w25.alloc (.cells #[.pointer none, .slice none 0 0, .slice none 0 0] 59)) (.cells #[.pointer none, ptrV w25.heap.size] 25)
  rw [hs26] at this
  exact this
 have Hb26 := hidC (Hb25.out.trans (hb26.mono Hb25.out.size))
 have Hn26 := hidC hn26
 have Hl26 := hidC hl26
 clear hb26 hn26 hl26 hs26
 go_wp2_with fail
 go_loopg [164] 3 (fun gk s164 wx => ∃ i : Nat, s164 = .int .i64 (i : Int) ∧ i ≤ 2 ∧ 2 < i + gk ∧ Below w26.heap.size w26 wx)
 case atStart => exact ⟨0, rfl, by omega, by omega, Below.refl _ _⟩
 case round =>
  obtain ⟨i, rfl, hi, hg, hb⟩ := hrel
  have Hb := hidC hb
  by_cases hlt : i < 2
  ·obtain ⟨g', rfl⟩ : ∃ g', gk = g' + 1 := ⟨gk - 1, by omega⟩
   obtain ⟨p, hp1, hp2⟩ : ∃ p, wr.cell? ⟨w25.heap.size + 1, i, none⟩ = some p ∧ NoOff wr p := by
    have l1 := (Array.getElem?_eq_some_iff.1 Hl26.out).1
    have l2 := (Array.getElem?_eq_some_iff.1 Hn26.out).1
    have e1 := (hb.block _ l1).trans Hl26.out
    have e2 := (hb.block _ l2).trans Hn26.out
    have h01 : i = 0 ∨ i = 1 := by omega
    rcases h01 with rfl | rfl
    ·exact ⟨.pointer none, by simp [World.cell?, e1], .inl rfl⟩
    ·exact ⟨ptrV w25.heap.size, by simp [World.cell?, e1], .inr ⟨_, rfl, Nat.lt_of_lt_of_le l2 hb.size, by simp [World.cell?, e2]⟩⟩
   have Hp := hidC hp2
   have hi1 : (0 : Int) ≤ (i : Int) := by omega
   have hi2 : (i : Int) < 2 := by omega
   clear hb hp2
   go_wp2_with (first
    | (go_at_call 20; refine (no20 _ p [97] Hp.out).mono ?_; rintro e wa ⟨rfl, hwa⟩; subst wa)
    | (go_at_call 22; refine (no22 _ p [97] Hp.out).mono ?_; rintro e wa ⟨rfl, hwa⟩; subst wa)
    | (go_at_call 18; refine (no18 _ p [119, 111, 114, 100, 32, 97] Hp.out).mono ?_; rintro e wz ⟨rfl, hbz⟩; have Hp2 := hidC (Hp.out.below hbz); have Hbz := hidC (Hb.out.trans (hbz.mono Hb.out.size)); clear hbz)
    | (go_at_call 37; refine (no37 _ p Hp2.out).mono ?_; rintro e wa ⟨rfl, hwa⟩; subst wa)
    | (go_at_call 30; refine (no30 _ p Hp2.out).mono ?_; rintro e wa ⟨rfl, hwa⟩; subst wa)
    | (go_at_call 29; refine (no29 _ p Hp2.out).mono ?_; rintro e wa ⟨rfl, hwa⟩; subst wa)
    | (go_at_call 38; refine (no38 _ p Hp2.out).mono ?_; rintro e wa ⟨rfl, hwa⟩; subst wa)
    | (go_at_call 28; refine (no28 _ p Hp2.out).mono ?_; rintro e wa ⟨rfl, hwa⟩; subst wa)
    | (go_at_call 39; refine (no39 _ p Hp2.out).mono ?_; rintro e wa ⟨rfl, hwa⟩; subst wa)
    | (go_at_call 40; refine (no40 _ p Hp2.out).mono ?_; rintro e wa ⟨rfl, hwa⟩; subst wa)
    | (go_at_call 33; refine (no33 _ p Hp2.out).mono ?_; rintro e wa ⟨rfl, hwa⟩; subst wa))
   go_roundg g'
   case measure => omega
   case rel => exact ⟨i + 1, by simp, by omega, by omega, Hbz.out⟩
  ·have Hbr := hidC (Hb26.out.trans (hb.mono Hb26.out.size))
   clear hb
   have hEr := hidC (hEn.out _ Hbr.out)
   go_wp2_with (go_at_call 15; refine (works_calls _ hEr.out).mono ?_; rintro e wy ⟨rfl, hby⟩; have Hby := hidC (Hbr.out.trans (hby.mono Hbr.out.size)); clear hby)
   go_ret
   exact ⟨rfl, Hby.out⟩
end Go.Proofs.YtdhichidcomkmaaGreatDoor
