/-
  works: the example of the chapter.
  Conditions: none; lemmas.
-/
import Derived.Test.YtdhichidcomkmaaGreatDoorWorksLaw
set_option linter.unusedSimpArgs false
set_option linter.unusedVariables false
namespace Go.Proofs.YtdhichidcomkmaaGreatDoor
open Go.RowKit Go.Pur Go.Clerk
open Go.Abs
set_option maxRecDepth 1000000
set_option maxHeartbeats 8000000
theorem same1_calls (W : World) (v : Value) (x : Tx) (b : Nat) (cs : Array Value) (hv : TextsAt W v [x]) (hb : W.heap[b]? = some (.cells cs 9 (0, 0))) (hcs : cs = #[sV x]) : Calls Tryz.prog 24 #[v, .slice (some ⟨b, 0, none⟩) 1 1] W fun e W' => LP W true e W' := by
 subst hcs
 have h2 : TextsAt W (.slice (some ⟨b, 0, none⟩) 1 1) [x] := ⟨rfl, .inr ⟨b, 1, #[sV x], rfl, Nat.zero_le _, hb, Nat.le_refl _, by decide, rfl, rfl⟩⟩
 have := same_calls W v (.slice (some ⟨b, 0, none⟩) 1 1) [x] [x] hv h2 (by show 1 ≤ 100000; decide)
 rw [decide_eq_true rfl] at this
 exact this
theorem find8a' : d8.find kMp = ([109, 97, 112], 0) := find8a
theorem way8_calls (o : Nat) (P : List Desk) (w : World) (hO : OffAt w o ⟨d8, P, exA⟩) : Calls Tryz.prog 22 #[ptrV o, sV ([109, 97, 112] : Tx)] w fun e w' => ∃ v, e = .returned (.tuple #[v, nV 0]) ∧ TextsAt w' v [[109, 97, 112]] ∧ Below w.heap.size w w' := by
 have h := way22_calls o _ kMap w hO (by show d8.ents.length ≤ 1000; decide)
 have e : (Off.now ⟨d8, P, exA⟩).wayOf kMap = ([[109, 97, 112]], 0) := way8
 rw [e] at h
 exact h
theorem acc8_calls (o : Nat) (P : List Desk) (w : World) (hO : OffAt w o ⟨d8, P, exA⟩) (hD : DeskOK d8) : Calls Tryz.prog 28 #[ptrV o] w fun e w' => RowP w 46 4 1 [sV [116, 111, 109], nV 30, nV 1, .bool false] e w' := by
 have h := accounts_calls o _ w hO hD
 have e : (Off.now ⟨d8, P, exA⟩).accounts = [⟨[116, 111, 109], 30, 1, false⟩] := acc8
 rw [e] at h
 exact h
theorem wri8_calls (o : Nat) (P : List Desk) (w : World) (hO : OffAt w o ⟨d8, P, exA⟩) (hD : DeskOK d8) : Calls Tryz.prog 39 #[ptrV o] w fun e w' => RowP w 87 2 2 [sV [97, 110, 110], nV 40, sV [98, 101, 110], nV 0] e w' := by
 have h := writers_calls o _ w hO hD
 have e : (Off.now ⟨d8, P, exA⟩).writers = [([97, 110, 110], 40), ([98, 101, 110], 0)] := wri8
 rw [e] at h
 exact h
theorem late8_calls (o : Nat) (P : List Desk) (w : World) (hO : OffAt w o ⟨d8, P, exA⟩) (hD : DeskOK d8) : Calls Tryz.prog 40 #[ptrV o] w fun e w' => TxP w [[109, 97, 115, 116]] e w' := by
 have h := late_calls o _ w hO hD
 have e : (Off.now ⟨d8, P, exA⟩).late = [[109, 97, 115, 116]] := late8
 rw [e] at h
 exact h
def Vol8 (w : World) (e : Ending) (w' : World) : Prop := ∃ v u, e = .returned v ∧ w'.ownsRow w.heap.size 76 4 v 1 [sV [109], u, nV 40, nV 1] ∧ TextsAt w' u [[109, 97, 112]] ∧ Below w.heap.size w w'
theorem vol8_calls (o : Nat) (P : List Desk) (w : World) (hO : OffAt w o ⟨d8, P, exA⟩) (hD : DeskOK d8) : Calls Tryz.prog 38 #[ptrV o] w fun e w' => Vol8 w e w' := by
 refine (volumes_calls o _ w hO hD).mono ?_
 rintro e w' ⟨v, ws, rfl, hl, hr, hw, hb⟩
 have hl1 : ws.length = 1 := hl
 match ws, hl1 with
 | [u], _ =>
  exact ⟨v, u, rfl, hr, row_mono (hw 0 u _ rfl rfl) (Nat.zero_le _), hb⟩
theorem tell8_calls (o : Nat) (P : List Desk) (w : World) (l : Tx) (n : Nat) (S : Off) (hE : Env w) (h16 : 16 ≤ o) (hO : OffAt w o ⟨d8, P, exA⟩) (hS : OffOK ⟨d8, P, exA⟩) (hl : l.length ≤ 100000) (ht : tell ⟨d8, P, exA⟩ l = (n, S)) : Calls Tryz.prog 18 #[ptrV o, sV l] w fun e w' => TellP w o (n, S) e w' := by
 have h := tell_calls o _ l w hO hE h16 hl hS
 rw [ht] at h
 exact h
theorem text0_calls (o : Nat) (w : World) (hO : OffAt w o Off.none) (hE : Env w) : Calls Tryz.prog 33 #[ptrV o] w fun e w' => RdV w (sV ([104, 101, 97, 100, 119, 111, 114, 100, 10, 101, 110, 100, 32, 57, 56, 54, 51, 10] : Tx)) e w' := by
 have h := text_calls o Off.none w hO hE OffOK.none
 have e : textOf Off.none.lines = [104, 101, 97, 100, 119, 111, 114, 100, 10, 101, 110, 100, 32, 57, 56, 54, 51, 10] := text0
 rw [e] at h
 exact h
theorem nap_calls (o : Nat) (P : List Desk) (w : World) (hE : Env w) (h16 : 16 ≤ o) (hO : OffAt w o ⟨d8, P, exA⟩) (hS : OffOK ⟨d8, P, exA⟩) : Calls Tryz.prog 18 #[ptrV o, sV lNap] w fun e w' => TellP w o (0, (tell ⟨d8, P, exA⟩ lNap).2) e w' :=
 tell8_calls o P w lNap 0 _ hE h16 hO hS (by decide) (Prod.ext (tell8e P).1 rfl)
theorem undo_calls (o : Nat) (P : List Desk) (w : World) (hE : Env w) (h16 : 16 ≤ o) (hO : OffAt w o (tell ⟨d8, P, exA⟩ lNap).2) (hS : OffOK ⟨d8, P, exA⟩) : Calls Tryz.prog 18 #[ptrV o, sV lUndo] w fun e w' => e = .returned (nV 0) ∧ But (· = o) w.heap.size w w' := by
 refine (tell_calls o _ lUndo w hO hE h16 (by decide) (tell_ok hS (by decide))).mono ?_
 rintro e w' ⟨rfl, -, hb⟩
 rw [(tell8e P).2]
 exact ⟨rfl, hb⟩
theorem tell_step {W w w' : World} {o n : Nat} {S : Off} {e : Ending} (h : TellP w o (n, S) e w') (hb : Below W.heap.size W w) (ho : W.heap.size ≤ o) : e = .returned (nV n) ∧ OffAt w' o S ∧ Below W.heap.size W w' :=
 ⟨h.1, h.2.1, hb.trans (h.2.2.below hb.size (fun k hk => by omega))⟩
theorem works_calls (W : World) (hE : Env W) : Calls Tryz.prog 15 #[] W fun e W' => e = .returned (.bool true) ∧ Below W.heap.size W W' := by
 have mixed : Tryz.prog.follows .mixedOrders = true := by kernel_rfl
 have hA : ∀ l ∈ exA, l.length ≤ 100000 := by
  have : exA.all (fun l => decide (l.length ≤ 100000)) = true := by kernel_rfl
  rw [List.all_eq_true] at this
  exact fun l hl => of_decide_eq_true (this l hl)
 have HE := hidC hE
 obtain ⟨P, hP⟩ := told8
 have HP := hidC hP
 have HA := hidC hA
 clear hE hP hA
 go_enter Tryz.func15, Tryz.ntmps15
 go_upto_region 2 with (first | (go_at_call 35; refine (A_calls _).mono ?_; rintro e wa ⟨v, rfl, hv, hba⟩; have Hv := hidC hv; have Hba := hidC hba; clear hv hba) | (go_at_call 34; refine (office_calls _ _ exA Hv.out (HE.out.below Hba.out HE.out.size) HA.out (by decide)).mono ?_; intro e wb hof; rw [HP.out] at hof; obtain ⟨hbb, o, rfl, ho, hok, hoW⟩ := hof; have Ho := hidC ho; have Hok := hidC hok; have Hbb := hidC (Hba.out.trans (hbb.mono Hba.out.size)); have hoW2 := hidC (Nat.le_trans Hba.out.size hoW); clear ho hok hbb hoW))
 have hD : DeskOK d8 := Hok.out.now
 have HD := hidC hD
 have hW16 := hidC HE.out.size
 clear Hv Hba hD
 go_upto_region 5 with (go_at_call 20; refine (find_calls o _ kMp _ Ho.out HD.out).mono ?_; show ∀ e w', RdV _ (.tuple #[sV (d8.find kMp).1, nV (d8.find kMp).2]) e w' → _; rw [find8a']; rintro e w1 ⟨rfl, hb1⟩; have Ho1 := hidC (Ho.out.below hb1); have Hb1 := hidC (Hbb.out.trans (hb1.mono Hbb.out.size)); clear hb1)
 go_upto_region 6 with (go_at_call 20; refine (find_calls o _ kMt _ Ho1.out HD.out).mono ?_; show ∀ e w', RdV _ (.tuple #[sV (d8.find kMt).1, nV (d8.find kMt).2]) e w' → _; rw [find8b]; rintro e w2 ⟨rfl, hb2⟩; have Ho2 := hidC (Ho1.out.below hb2); have Hb2 := hidC (Hb1.out.trans (hb2.mono Hb1.out.size)); clear hb2)
 go_upto_region 7 with (go_at_call 22; refine (way8_calls o P _ Ho2.out).mono ?_; rintro e w3 ⟨v6, rfl, hv6, hb3⟩; have Hv6 := hidC hv6; have Ho3 := hidC (Ho2.out.below hb3); have Hb3 := hidC (Hb2.out.trans (hb3.mono Hb2.out.size)); clear hv6 hb3)
 go_upto_region 8 with (first
  | (go_at_call 38; refine (vol8_calls o P _ Ho3.out HD.out).mono ?_; rintro e w4 ⟨v8, u8, rfl, hr8, hu8, hb4⟩; have Hr8 := hidC hr8; have Hu8 := hidC hu8; have Hv64 := hidC (row_below Hv6.out hb4); have Ho4 := hidC (Ho3.out.below hb4); have Hb4 := hidC (Hb3.out.trans (hb4.mono Hb3.out.size)); clear hr8 hu8 hb4)
  | (go_at_call 28; refine (acc8_calls o P _ Ho4.out HD.out).mono ?_; rintro e w5 ⟨v9, rfl, hr9, hb5⟩; have Hr9 := hidC hr9; have Hr85 := hidC (row_below Hr8.out hb5); have Hu85 := hidC (row_below Hu8.out hb5); have Hv65 := hidC (row_below Hv64.out hb5); have Ho5 := hidC (Ho4.out.below hb5); have Hb5 := hidC (Hb4.out.trans (hb5.mono Hb4.out.size)); clear hr9 hb5)
  | (go_at_call 39; refine (wri8_calls o P _ Ho5.out HD.out).mono ?_; rintro e w6 ⟨v10, rfl, hr10, hb6⟩; have Hr10 := hidC hr10; have Hr96 := hidC (row_below Hr9.out hb6); have Hr86 := hidC (row_below Hr85.out hb6); have Hu86 := hidC (row_below Hu85.out hb6); have Hv66 := hidC (row_below Hv65.out hb6); have Ho6 := hidC (Ho5.out.below hb6); have Hb6 := hidC (Hb5.out.trans (hb6.mono Hb5.out.size)); clear hr10 hb6)
  | (go_at_call 40; refine (late8_calls o P _ Ho6.out HD.out).mono ?_; rintro e w7 ⟨v11, rfl, hr11, hb7⟩; have Hr11 := hidC hr11; have Hr107 := hidC (row_below Hr10.out hb7); have Hr97 := hidC (row_below Hr96.out hb7); have Hr87 := hidC (row_below Hr86.out hb7); have Hu87 := hidC (row_below Hu86.out hb7); have Hv67 := hidC (row_below Hv66.out hb7); have Ho7 := hidC (Ho6.out.below hb7); have Hb7 := hidC (Hb6.out.trans (hb7.mono Hb6.out.size)); clear hr11 hb7))
 clear Ho Ho1 Ho2 Ho3 Ho4 Ho5 Ho6 Hb1 Hb2 Hb3 Hb4 Hb5 Hb6 Hv6 Hv64 Hv65 Hv66 Hr8 Hr85 Hr86 Hu8 Hu85 Hu86 Hr9 Hr96 Hr10
 obtain ⟨a8, c8, rfl⟩ := row_slice Hr87.out
 obtain ⟨g8, rfl⟩ := row_none Hr87.out (by decide)
 obtain ⟨a9, c9, rfl⟩ := row_slice Hr97.out
 obtain ⟨g9, rfl⟩ := row_none Hr97.out (by decide)
 obtain ⟨a10, c10, rfl⟩ := row_slice Hr107.out
 obtain ⟨g10, rfl⟩ := row_none Hr107.out (by decide)
 have HL := hidC list_calls
 have hS1 : Hid (∀ W', Below w7.heap.size w7 W' → ∀ b cs, W'.heap[b]? = some (.cells cs 9 (0, 0)) → cs = #[sV ([109, 97, 112] : Tx)] → Calls Tryz.prog 24 #[v6, .slice (some ⟨b, 0, none⟩) 1 1] W' fun e W'' => LP W' true e W'') := hidC fun W' hW b cs hb hcs => same1_calls W' v6 [109, 97, 112] b cs (row_below Hv67.out hW) hb hcs
 have hS2 : Hid (∀ W', Below w7.heap.size w7 W' → ∀ b cs, W'.heap[b]? = some (.cells cs 9 (0, 0)) → cs = #[sV [109, 97, 115, 116]] → Calls Tryz.prog 24 #[v11, .slice (some ⟨b, 0, none⟩) 1 1] W' fun e W'' => LP W' true e W'') := hidC fun W' hW b cs hb hcs => same1_calls W' v11 [109, 97, 115, 116] b cs (row_below Hr11.out hW) hb hcs
 have hS1a := hidC (hS1.out (w7.alloc (.cells #[.string ⟨#[109, 97, 112]⟩] 9)) ((Below.refl _ _).alloc (Nat.le_refl _) _) w7.heap.size _ (heap_alloc_new _ _) rfl)
 go_upto_region 10 with (first
  | (go_at_call 36; refine (HL.out _ _).mono ?_; rintro e wz ⟨rfl, rfl⟩)
  | (go_at_call 24; refine (hS2.out _ (Hx.out.alloc Hxs.out _) _ _ (heap_alloc_new _ _) rfl).mono ?_; rintro e wy ⟨rfl, hdy⟩; have Hy := hidC ((Hx.out.alloc Hxs.out _).trans (hdy.below _)); have Hys := hidC Hy.out.size; clear hdy)
  | (go_at_call 24; refine hS1a.out.mono ?_; rintro e wx ⟨rfl, hdx⟩; have Hx := hidC (((Below.refl _ w7).alloc (Nat.le_refl _) _).trans (hdx.below _)); have Hxs := hidC Hx.out.size; clear hdx))
 have hHK : ∀ w', Below wy.heap.size wy w' → w'.cell? ⟨g8, 0, none⟩ = some (sV ([109] : Tx)) ∧ w'.cell? ⟨g8, 1, none⟩ = some u8 ∧ w'.cell? ⟨g8, 2, none⟩ = some (nV 40) ∧ w'.cell? ⟨g8, 3, none⟩ = some (nV 1) ∧
   w'.cell? ⟨g9, 0, none⟩ = some (sV ([116, 111, 109] : Tx)) ∧ w'.cell? ⟨g9, 1, none⟩ = some (nV 30) ∧ w'.cell? ⟨g9, 2, none⟩ = some (nV 1) ∧ w'.cell? ⟨g9, 3, none⟩ = some (.bool false) ∧
   w'.cell? ⟨g10, 0, none⟩ = some (sV ([97, 110, 110] : Tx)) ∧ w'.cell? ⟨g10, 1, none⟩ = some (nV 40) ∧ w'.cell? ⟨g10, 2, none⟩ = some (sV ([98, 101, 110] : Tx)) ∧ w'.cell? ⟨g10, 3, none⟩ = some (nV 0) := fun w' hw => by
  have hw7 : Below w7.heap.size w7 w' := Hy.out.trans (hw.mono Hys.out)
  have r8 := row_below Hr87.out hw7
  have r9 := row_below Hr97.out hw7
  have r10 := row_below Hr107.out hw7
  exact ⟨(row_get r8 (k := 0) (by decide)).1, (row_get r8 (k := 1) (by decide)).1, (row_get r8 (k := 2) (by decide)).1, (row_get r8 (k := 3) (by decide)).1,
   (row_get r9 (k := 0) (by decide)).1, (row_get r9 (k := 1) (by decide)).1, (row_get r9 (k := 2) (by decide)).1, (row_get r9 (k := 3) (by decide)).1,
   (row_get r10 (k := 0) (by decide)).1, (row_get r10 (k := 1) (by decide)).1, (row_get r10 (k := 2) (by decide)).1, (row_get r10 (k := 3) (by decide)).1⟩
 have HK := hidC hHK
 have hS3 : Hid (∀ W', Below wy.heap.size wy W' → ∀ b cs, W'.heap[b]? = some (.cells cs 9 (0, 0)) → cs = #[sV ([109, 97, 112] : Tx)] → Calls Tryz.prog 24 #[u8, .slice (some ⟨b, 0, none⟩) 1 1] W' fun e W'' => LP W' true e W'') := hidC fun W' hW b cs hb hcs => same1_calls W' u8 [109, 97, 112] b cs (row_below Hu87.out (Hy.out.trans (hW.mono Hys.out))) hb hcs
 have Hb8 := hidC (Hb7.out.trans (Hy.out.mono Hb7.out.size))
 have Ho8 := hidC (Ho7.out.below Hy.out)
 clear hHK hS1 hS2 hS1a Hr87 Hr97 Hr107 Hu87 Hv67 Hr11 Hx Hxs Hy Hys Ho7 Hb7
 go_region_held3 (fun w' => w'.cell? ⟨g8, 0, none⟩ = some (sV ([109] : Tx)) ∧ w'.cell? ⟨g8, 1, none⟩ = some u8 ∧ w'.cell? ⟨g8, 2, none⟩ = some (nV 40) ∧ w'.cell? ⟨g8, 3, none⟩ = some (nV 1) ∧ w'.cell? ⟨g9, 0, none⟩ = some (sV ([116, 111, 109] : Tx)) ∧ w'.cell? ⟨g9, 1, none⟩ = some (nV 30) ∧ w'.cell? ⟨g9, 2, none⟩ = some (nV 1) ∧ w'.cell? ⟨g9, 3, none⟩ = some (.bool false) ∧ w'.cell? ⟨g10, 0, none⟩ = some (sV ([97, 110, 110] : Tx)) ∧ w'.cell? ⟨g10, 1, none⟩ = some (nV 40) ∧ w'.cell? ⟨g10, 2, none⟩ = some (sV ([98, 101, 110] : Tx)) ∧ w'.cell? ⟨g10, 3, none⟩ = some (nV 0))
  (first | exact HK.out _ (by assumption) | exact HK.out _ (Below.refl _ _).drew | exact HK.out _ ((Below.refl _ _).drew.alloc (Nat.le_refl _) _) | exact HK.out _ ((Below.refl _ _).alloc (Nat.le_refl _) _).drew | go_keep)
  (first
   | (go_at_call 36; refine (HL.out _ _).mono ?_; rintro e wz ⟨rfl, rfl⟩)
   | (go_at_call 24; refine (hS3.out _ ((Below.refl _ _).drew.alloc (Nat.le_refl _) _) _ _ (heap_alloc_new _ _) rfl).mono ?_; rintro e wz ⟨rfl, hdz⟩; have hz1 : Below wy.heap.size wy wz := ((Below.refl _ _).drew.alloc (Nat.le_refl _) _).trans (hdz.below _)))
 have Hb9 := hidC (Hb8.out.trans (hz1.mono Hb8.out.size))
 have Ho9 := hidC (Ho8.out.below hz1)
 have h16 : Hid (16 ≤ o) := hidC (Nat.le_trans hW16.out hoW2.out)
 have hEn : Hid (∀ w, Below W.heap.size W w → Env w) := hidC fun w hw => HE.out.below hw HE.out.size
 clear hz1 Hb8 Ho8
 go_wp2_with (first
  | (go_at_call 33; refine (text0_calls _ _ Hon.out (hEn.out _ Hb16.out)).mono ?_; rintro e w17 ⟨rfl, hb17⟩; have Hb17 := hidC (Hb16.out.trans (hb17.mono Hb16.out.size)); clear hb17)
  | (go_at_call 16; refine (new_calls _).mono ?_; rintro e w16 ⟨o2, rfl, hon, -, hb16⟩; have Hon := hidC hon; have Hb16 := hidC (Hb15.out.trans (hb16.mono Hb15.out.size)); clear hon hb16)
  | (go_at_call 18; refine (undo_calls o P _ (hEn.out _ Hb14.out) h16.out Ho14.out Hok.out).mono ?_; rintro e w15 ⟨rfl, hb15⟩; have Hb15 := hidC (Hb14.out.trans (hb15.below Hb14.out.size (fun k hk => by have := hoW2.out; omega))); clear hb15)
  | (go_at_call 18; refine (nap_calls o P _ (hEn.out _ Hb13.out) h16.out Ho13.out Hok.out).mono ?_; intro e w14 ht; obtain ⟨rfl, ho, hb⟩ := tell_step ht Hb13.out hoW2.out; have Ho14 := hidC ho; have Hb14 := hidC hb; clear ho hb ht)
  | (go_at_call 18; refine (tell8_calls o P _ lStop 2 _ (hEn.out _ Hb12.out) h16.out Ho12.out Hok.out (by decide) (tell8d P)).mono ?_; intro e w13 ht; obtain ⟨rfl, ho, hb⟩ := tell_step ht Hb12.out hoW2.out; have Ho13 := hidC ho; have Hb13 := hidC hb; clear ho hb ht)
  | (go_at_call 18; refine (tell8_calls o P _ lClose 7 _ (hEn.out _ Hb11.out) h16.out Ho11.out Hok.out (by decide) (tell8c P)).mono ?_; intro e w12 ht; obtain ⟨rfl, ho, hb⟩ := tell_step ht Hb11.out hoW2.out; have Ho12 := hidC ho; have Hb12 := hidC hb; clear ho hb ht)
  | (go_at_call 18; refine (tell8_calls o P _ lCome 20 _ (hEn.out _ Hb10.out) h16.out Ho10.out Hok.out (by decide) (tell8b P)).mono ?_; intro e w11 ht; obtain ⟨rfl, ho, hb⟩ := tell_step ht Hb10.out hoW2.out; have Ho11 := hidC ho; have Hb11 := hidC hb; clear ho hb ht)
  | (go_at_call 18; refine (tell8_calls o P _ lMop 20 _ (hEn.out _ Hb9.out) h16.out Ho9.out Hok.out (by decide) (tell8a P)).mono ?_; intro e w10 ht; obtain ⟨rfl, ho, hb⟩ := tell_step ht Hb9.out hoW2.out; have Ho10 := hidC ho; have Hb10 := hidC hb; clear ho hb ht))
 go_ret
 exact ⟨rfl, Hb17.out⟩
end Go.Proofs.YtdhichidcomkmaaGreatDoor
