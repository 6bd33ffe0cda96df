/-
  Tell, where an order is taken.
  Conditions: none; lemmas.
-/
import Derived.Test.YtjeadhfponlnnaaGreatDoorTell1
import Derived.Test.YtjeadhfponlnnaaGreatDoorTell2
import Derived.Deep.RegionLawGrows
import Derived.Deep.AppendLies
import Derived.Deep.CutRange
set_option linter.unusedSimpArgs false
set_option linter.unusedVariables false
namespace Go.Proofs.YtjeadhfponlnnaaGreatDoor
open Go.RowKit Go.Pur Go.Clerk
open Go.Abs
set_option maxRecDepth 1000000
set_option maxHeartbeats 8000000
theorem row_cells {W : World} {B e n c : Nat} {a : Option Addr} {xs : List Value} (h : W.ownsRow B e 1 (.slice a n c) n xs) : (a = none → n = 0) ∧ xs.length = n ∧ n ≤ c ∧ ∀ b, a = some b → b.block < W.heap.size ∧ cellTy W b.block = some e ∧ ∀ j u, xs[j]? = some u → W.cell? (b.add j) = some u := by
 obtain ⟨h1, h2⟩ := h
 refine ⟨?_, by omega, row_le ⟨h1, h2⟩, ?_⟩
 ·rcases h2 with ⟨h2, h3⟩ | ⟨g, cap, cur, h3, h4, h5, h6, h7, h8, h9⟩
  ·exact fun _ => h3
  ·intro ha
   rw [ha] at h3
   cases h3
 ·rintro b rfl
  rcases h2 with ⟨h2, h3⟩ | ⟨g, cap, cur, h3, h4, h5, h6, h7, h8, h9⟩
  ·cases h2
  ·cases h3
   refine ⟨(Array.getElem?_eq_some_iff.1 h5).1, by unfold cellTy; simp only [h5], fun j u hj => ?_⟩
   have hjl : j < n * 1 := by
    have := (List.getElem?_eq_some_iff.1 hj).1
    omega
   rw [← h9, List.getElem?_take, if_pos hjl, Array.getElem?_toList] at hj
   have e1 : (({ block := g, off := 0 } : Addr).add j) = ⟨g, j, none⟩ := by
    unfold Addr.add
    split <;> simp_all
   rw [e1]
   simp [World.cell?, h5, hj]
theorem add_block (b : Addr) (j : Nat) : (b.add j).block = b.block := by
 unfold Addr.add
 split <;> rfl
theorem tell_taken (o n : Nat) (d' : Desk) (S : Off) (line : Tx) (w : World) (hO : OffAt w o S) (hE : Env w) (h16 : 16 ≤ o) (hl : line.length ≤ 100000) (x : Ord) (T : TypeId) (v : Value) (K : FuncId) (hR : doO x S.now = (0, d')) (hx : ordV (some x) = .iface T v) (hp : parse line = (some x, 0)) (h0 : S.lines.length = n) (hn : n ≤ 149) (hvl : S.now.vols.length ≤ 1000)
  (hna : ∀ w, (nilAhead 403 T v "headword/clerk.do").run Tryz.prog w = .ok (some false) w)
  (hme : ∀ w, (method 403 T v "headword/clerk.do").run Tryz.prog w = .ok (K, v) w)
  (hcf : ∀ args w, (callFunc K args).run Tryz.prog w = .ok (.enter K args) w)
  (hK : ∀ W m q, DeskAt W m q S.now → Env W → Calls Tryz.prog K #[v, ptrV q] W fun e W' => DoP W m q (doO x S.now) e W') :
  Calls Tryz.prog 18 #[ptrV o, sV line] w fun e w' => e = .returned (nV 0) ∧ OffAt w' o ⟨d', S.past ++ [S.now], S.lines ++ [line]⟩ ∧ But (· = o) w.heap.size w w' := by
 have mixed : Tryz.prog.follows .mixedOrders = true := by kernel_rfl
 have HO := hidC hO
 have hol := hO.lt
 obtain ⟨now, pv, lv, ps, h1, h2, h3, h4, h5, h6⟩ := hO
 obtain ⟨la, lc, rfl⟩ := row_slice h5
 obtain ⟨pa, pc, rfl⟩ := row_slice h3
 have hsp : S.past.length = n := h6.trans h0
 rw [h0, hsp] at h1
 have HI := hidC (fun W (hW : Below w.heap.size w W) => invalid_calls o now W (off_cells ((hW.block o hol).trans h1)).1)
 have HP : Hid (∀ W, Below w.heap.size w W → Calls Tryz.prog 50 #[sV line] W fun e W' => e = .returned (.tuple #[.iface T v, .int .i64 0]) ∧ Below W.heap.size W W') := hidC (fun W hW => by have h := parsed_calls line W (hE.below hW hE.size) hl; rw [hp] at h; unfold OrP at h; rw [hx] at h; exact h)
 have HC := hidC (fun W (hW : Below w.heap.size w W) => clone_calls now S.now W (h2.below hW) hvl)
 have h150 : ((n : Int) == 150) = false := beq_eq_false_iff_ne.2 (by omega)
 have h151 : ¬ n = 150 := by omega
 rw [hR] at hK
 have HK := hidC hK
 have HO1 := hidC h1
 have H2 := hidC h2
 have Hsp := hidC hsp
 have Hsl := hidC h0
 rw [hsp] at h3
 have H3 := hidC h3
 have H4 := hidC h4
 have h5' := h5
 unfold TextsAt at h5'
 rw [h0] at h5'
 have H5 := hidC h5'
 clear h5'
 have HE := hidC hE
 clear hp hE h2 h3 h4 h5 h6 h0 hx hK hvl
 have hmf : ∀ (fn : Fn) (first cap : Array Value) (w : World), (Instr.makeFunc fn first cap).run Tryz.prog w = .ok (.func fn first cap) w := fun _ _ _ _ => rfl
 go_enter_defers Tryz.func18, Tryz.ntmps18
 go_wp2_with (go_at_call 49; refine (HI.out _ (((Below.refl _ _).alloc (Nat.le_refl _) _).alloc (by simp) _)).mono ?_; rintro e wa ⟨rfl, rfl⟩)
 go_wp2_with (go_at_call 50; refine (HP.out _ (((Below.refl _ _).alloc (Nat.le_refl _) _).alloc (by simp) _)).mono ?_; rintro e w1 ⟨rfl, hB1⟩; have hsz := hB1.size; have hBx := hidC (boxes_of hB1); clear hB1; obtain ⟨c2, z2⟩ := one_cell hBx.out.t2; obtain ⟨c4, z4⟩ := one_cell hBx.out.t4; obtain ⟨co0, co1, co2, zo⟩ := off_cells ((hBx.out.below.block o hol).trans h1); have n4 : ¬ o = w.heap.size + 1 := by omega)
 have h2s : w.heap.size + 2 ≤ w1.heap.size := by simpa using hsz
 have hB3 := hidC (boxes3_of (now := now) hBx.out h2s)
 obtain ⟨t7, ht7⟩ : ∃ t, w1.heap.size = t := ⟨_, rfl⟩
 obtain ⟨w2, hw2⟩ : ∃ x, (w1.setCell ⟨w.heap.size + 1, 0, none⟩ (.int .i64 0)).alloc (.cells #[ptrV now] 56) = x := ⟨_, rfl⟩
 rw [hw2] at hB3
 show Code.wp _ _ _ _ ((w1.setCell ⟨w.heap.size + 1, 0, none⟩ (.int .i64 0)).alloc (.cells #[ptrV now] 56))
 rw [hw2]
 rw [ht7] at hB3 h2s ⊢
 clear hw2 c2 z2 c4 z4 co0 co1 co2 zo hBx ht7 hsz
 obtain ⟨c2, z2⟩ := one_cell hB3.out.b2
 obtain ⟨c4, z4⟩ := one_cell hB3.out.b4
 obtain ⟨c7, z7⟩ := one_cell hB3.out.b7
 obtain ⟨co0, co1, co2, zo⟩ := off_cells ((hB3.out.below.block o hol).trans HO1.out)
 have l2 : w.heap.size < w2.heap.size := (Array.getElem?_eq_some_iff.1 hB3.out.b2).1
 have l7 : t7 < w2.heap.size := (Array.getElem?_eq_some_iff.1 hB3.out.b7).1
 have Hk : Hid (∀ W, Below w2.heap.size w2 W → W.cell? ⟨w.heap.size, 0, none⟩ = some (ptrV o) ∧ W.cell? ⟨t7, 0, none⟩ = some (ptrV now)) := hidC fun W hW => ⟨(hW.cell (p := ⟨w.heap.size, 0, none⟩) l2).trans c2, (hW.cell (p := ⟨t7, 0, none⟩) l7).trans c7⟩
 have HL : Hid (∀ W, Below w2.heap.size w2 W → W.cell? ⟨o, 0, none⟩ = some (ptrV now) ∧ W.frozen? ⟨o, 0, none⟩ = false) := hidC fun W hW => ⟨(hW.cell (p := ⟨o, 0, none⟩) (by show o < _; omega)).trans co0, (hW.frozen (p := ⟨o, 0, none⟩) (by show o < _; omega)).trans (zo 0)⟩
 have n2 : ¬ o = w.heap.size := by omega
 have n7 : ¬ o = t7 := by omega
 clear co1 co2 z7 z2
 go_region_held3 (fun w' => w'.cell? ⟨w.heap.size, 0, none⟩ = some (ptrV o) ∧ w'.cell? ⟨t7, 0, none⟩ = some (ptrV now)) (first | exact Hk.out _ (by assumption) | exact Hk.out _ (Below.refl _ _).drew | go_keep)
  (first | (go_at_call 51; refine (HC.out _ (by first | exact hB3.out.below | exact hB3.out.below.drew | exact hB3.out.below.drew.drew)).mono ?_; rintro e w3 ⟨q, rfl, hq, hb3⟩; have hb4 : Below w2.heap.size w2 w3 := ((Below.refl _ _).drew).trans hb3; have ⟨hl3, hl4⟩ := HL.out _ hb4))
 go_wp2_with fail
 have hM := hidC (mid_of hB3.out HO1.out hb4 hq)
 obtain ⟨m, hm⟩ : ∃ m, w2.heap.size = m := ⟨_, rfl⟩
 obtain ⟨w4, hw4⟩ : ∃ x, w3.setCell ⟨o, 0, none⟩ (ptrV q) = x := ⟨_, rfl⟩
 rw [hw4] at hM
 rw [hm] at hM
 show Code.wp _ _ _ _ (w3.setCell ⟨o, 0, none⟩ (ptrV q))
 rw [hw4]
 clear hw4 hm hl3 hl4 hq hb3 hb4 hB3 c2 c4 c7 z4 co0 zo l2 l7 Hk HL HC HP HI h1
 obtain ⟨c2, z2⟩ := one_cell hM.out.b2
 obtain ⟨c4, z4⟩ := one_cell hM.out.b4
 obtain ⟨c7, z7⟩ := one_cell hM.out.b7
 obtain ⟨co0, co1, co2, zo⟩ := off_cells hM.out.off
 have l7 := hM.out.lt7
 have lm := hM.out.ltm
 have Hk : Hid (∀ W, Below m w4 W → W.cell? ⟨w.heap.size, 0, none⟩ = some (ptrV o) ∧ W.cell? ⟨o, 0, none⟩ = some (ptrV q)) := hidC fun W hW => ⟨(hW.cell (p := ⟨w.heap.size, 0, none⟩) (by show w.heap.size < m; omega)).trans c2, (hW.cell (p := ⟨o, 0, none⟩) (by show o < m; omega)).trans co0⟩
 have HL : Hid (∀ W, Below m w4 W → W.cell? ⟨w.heap.size + 1, 0, none⟩ = some (nV 0) ∧ W.frozen? ⟨w.heap.size + 1, 0, none⟩ = false) := hidC fun W hW => ⟨(hW.cell (p := ⟨w.heap.size + 1, 0, none⟩) (by show w.heap.size + 1 < m; omega)).trans c4, (hW.frozen (p := ⟨w.heap.size + 1, 0, none⟩) (by show w.heap.size + 1 < m; omega)).trans z4⟩
 clear co1 co2 z7 z2 c7 zo z4
 have Hd : Hid (DeskAt w4.drew m q S.now) := hidC (hM.out.desk.below ((Below.refl _ _).drew))
 have HEn : Hid (Env w4.drew) := hidC (HE.out.of hM.out.but.size fun k hk => hM.out.but.block k (by have := HE.out.size; omega) (by omega))
 go_region_held3 (fun w' => w'.cell? ⟨w.heap.size, 0, none⟩ = some (ptrV o) ∧ w'.cell? ⟨o, 0, none⟩ = some (ptrV q)) (first | exact Hk.out _ (by assumption) | exact Hk.out _ (Below.refl _ _).drew | exact ⟨set_far0 (Hk.out _ (by assumption)).1 (by omega), set_far0 (Hk.out _ (by assumption)).2 (by omega)⟩ | go_keep)
  (first | ((try go_simp); refine (HK.out _ _ _ Hd.out HEn.out).mono ?_; rintro e w5 ⟨rfl, hb5, hd5⟩; have hb6 : Below m w4 w5 := ((Below.refl _ _).drew).trans hb5; have ⟨hl3, hl4⟩ := HL.out _ hb6))
 go_wp2_with fail
 have k2 := hM.out.but.block
 have g2 : w5.heap[w.heap.size]? = some (.cells #[ptrV o] 25 (0, 0)) := (hb6.block _ (by omega)).trans hM.out.b2
 have g4 : w5.heap[w.heap.size + 1]? = some (.cells #[nV 0] 29 (0, 0)) := (hb6.block _ (by omega)).trans hM.out.b4
 have g7 : w5.heap[t7]? = some (.cells #[ptrV now] 56 (0, 0)) := (hb6.block _ lm).trans hM.out.b7
 have gO := (hb6.block o (by omega)).trans hM.out.off
 have Hg4 := hidC (cellTy_cells g4)
 have HgO := hidC (cellTy_cells gO)
 obtain ⟨w6, hw6⟩ : ∃ y, w5.setCell ⟨w.heap.size + 1, 0, none⟩ (nV 0) = y := ⟨_, rfl⟩
 have p4 : w6.heap[w.heap.size + 1]? = some (.cells #[nV 0] 29 (0, 0)) := by rw [← hw6]; exact one_set g4
 have pB : ∀ b, b ≠ w.heap.size + 1 → w6.heap[b]? = w5.heap[b]? := fun b hb => by rw [← hw6, Below.heap_setCell _ _ _ _ hb]
 have pS : w5.heap.size ≤ w6.heap.size := by rw [← hw6]; simp
 have pO : w6.os = w5.os ∧ w6.tape = w5.tape ∧ w6.output = w5.output := by rw [← hw6]; exact ⟨rfl, rfl, rfl⟩
 show Code.wp _ _ _ _ (w5.setCell ⟨w.heap.size + 1, 0, none⟩ (nV 0))
 rw [hw6]
 have r2 := (pB _ (by omega)).trans g2
 have r7 := (pB _ (by omega)).trans g7
 have rO := (pB o (by omega)).trans gO
 obtain ⟨d2, z2⟩ := one_cell r2
 obtain ⟨d7, z7⟩ := one_cell r7
 obtain ⟨do0, do1, do2, doz⟩ := off_cells rO
 clear c2 c4 co0 hl3 hl4 g2 g4 g7 gO
 have l2 : w.heap.size < w6.heap.size := (Array.getElem?_eq_some_iff.1 r2).1
 have l7b : t7 < w6.heap.size := (Array.getElem?_eq_some_iff.1 r7).1
 have lo : o < w6.heap.size := by omega
 have hA6 : Below w6.heap.size w6 (w6.alloc (.cells #[ptrV now] 56)).drew := ((Below.refl _ _).alloc (Nat.le_refl _) _).drew
 obtain ⟨j0, hj0, hz0, hz1, hz2⟩ := info_parts (show (Tryz.prog.info? 56).map (fun i => (i.zero, i.size, i.bytes)) = some (some (.pointer none), 1, 8) by kernel_rfl)
 have Hj0 := hidC hj0
 clear hj0
 have hw6b : ∀ b, b < w.heap.size → b ≠ o → w6.heap[b]? = w.heap[b]? := fun b hb hbo => (pB b (by omega)).trans ((hb6.block b (by omega)).trans (hM.out.but.block b hb hbo))
 obtain ⟨hpn0, hpl0, hnp, hpc0⟩ := row_cells H3.out
 have hpn : pa = none → n = 0 ∧ n = 0 := fun h => ⟨hpn0 h, hpn0 h⟩
 have hpl : ps.length = n * 1 := by omega
 have hpc : ∀ b, pa = some b → ∀ j u, ps[j]? = some u → ((w6.alloc (.cells #[ptrV now] 56)).drew).cell? (b.add j) = some u := fun b hb j u hj => by
  obtain ⟨c1, c2, c3⟩ := hpc0 b hb
  have hbo : b.block ≠ o := fun h => by
   rw [h] at c2
   have c4 := HO.out.ty
   rw [c2] at c4
   cases c4
  have c5 := c3 j u hj
  rw [← c5]
  refine World.cell?_of_block ?_
  rw [add_block]
  exact (hA6.block _ (by omega)).trans (hw6b b.block c1 hbo)
 have hnw : ∀ j u, [ptrV now][j]? = some u → ((w6.alloc (.cells #[ptrV now] 56)).drew).cell? ((⟨w6.heap.size, 0, none⟩ : Addr).add j) = some u := World.news_of_block (cs := #[ptrV now]) (t := 56) (fr := (0, 0)) (heap_alloc_new w6 _)
 have Hw6 := hidC hw6b
 have Hpc := hidC hpc
 have Hnw := hidC hnw
 have Hpn := hidC hpn
 clear hpc hnw hpn hpn0 hpc0 hw6b pB
 go_cut [] from 92 to 103 (fun wx => ∃ w7 a7 c7, wx = w7.setCell ⟨o, 1, none⟩ (.slice a7 (n + 1) c7) ∧ w7.ownsRow w6.heap.size 56 1 (.slice a7 (n + 1) c7) (n + 1) (ps ++ [ptrV now]) ∧ Below w6.heap.size w6 w7)
 case first =>
  refine wp_region_noPanic ?_
  have HT0 : Tw (fun w' : World => w'.cell? ⟨w.heap.size, 0, none⟩ = some (ptrV o) ∧ w'.cell? ⟨t7, 0, none⟩ = some (ptrV now)) [(11, fun w' : World => w'.cell? ⟨o, 1, none⟩ = some (.slice pa n pc))] (Array.replicate 12 false) w6.drew := ⟨⟨d2, d7⟩, fun p hp => by simp only [List.mem_cons, List.not_mem_nil, or_false] at hp; subst hp; exact .inr do1⟩
  refine wp_region_L (T := Tw (fun w' : World => w'.cell? ⟨w.heap.size, 0, none⟩ = some (ptrV o) ∧ w'.cell? ⟨t7, 0, none⟩ = some (ptrV now)) [(11, fun w' : World => w'.cell? ⟨o, 1, none⟩ = some (.slice pa n pc))]) mixed HT0 ?_
  intro HT HC
  clear HT0
  refine wpAnyL_take (i := 0) (oi := { dst := some 92, op := Op.load 25 (Operand.tmp 2), type := 25, pos := "clerk.go:418", after := #[], guard := none }) (v := ?v0) (S := (fun w' : World => w'.cell? ⟨w.heap.size, 0, none⟩ = some (ptrV o) ∧ w'.cell? ⟨t7, 0, none⟩ = some (ptrV now))) rfl (by kernel_rfl) (by kernel_rfl) (by kernel_rfl) (fun _ _ _ h => h) (fun _ _ _ _ h => h.1) (Tw_set rfl) (Or.inl ⟨by rfl, ?hy0⟩) HT HC ?rest0
  case hy0 => ((try dsimp only); intro wS hS; (try dsimp only at hS); (try go_split_ands); go_simp; try with_reducible rfl)
  intro h1 h2
  clear HT HC
  have HT := h1
  have HC := h2
  clear h1 h2
  try simp only [Act.put, List.setIfInBounds_toArray, List.set_cons_zero, List.set_cons_succ]
  refine wpAnyL_take (i := 1) (oi := { dst := some 93, op := Op.load 25 (Operand.tmp 2), type := 25, pos := "clerk.go:418", after := #[], guard := none }) (v := ?v1) (S := (fun w' : World => w'.cell? ⟨w.heap.size, 0, none⟩ = some (ptrV o) ∧ w'.cell? ⟨t7, 0, none⟩ = some (ptrV now))) rfl (by kernel_rfl) (by kernel_rfl) (by kernel_rfl) (fun _ _ _ h => h) (fun _ _ _ _ h => h.1) (Tw_set rfl) (Or.inl ⟨by rfl, ?hy1⟩) HT HC ?rest1
  case hy1 => ((try dsimp only); intro wS hS; (try dsimp only at hS); (try go_split_ands); go_simp; try with_reducible rfl)
  intro h1 h2
  clear HT HC
  have HT := h1
  have HC := h2
  clear h1 h2
  try simp only [Act.put, List.setIfInBounds_toArray, List.set_cons_zero, List.set_cons_succ]
  refine wpAnyL_take (i := 2) (oi := { dst := some 94, op := Op.nilCheck (Operand.tmp 93), type := 0, pos := "clerk.go:418", after := #[{ on := 1, ground := Ground.data }], guard := none }) (v := ?v2) (S := (fun _ => True)) rfl (by kernel_rfl) (by kernel_rfl) (by kernel_rfl) (fun _ _ _ h => h) (fun _ _ _ _ _ => trivial) (Tw_set rfl) (Or.inl ⟨by rfl, ?hy2⟩) HT HC ?rest2
  case hy2 => ((try dsimp only); intro wS hS; (try dsimp only at hS); (try go_split_ands); go_simp; try with_reducible rfl)
  intro h1 h2
  clear HT HC
  have HT := h1
  have HC := h2
  clear h1 h2
  try simp only [Act.put, List.setIfInBounds_toArray, List.set_cons_zero, List.set_cons_succ]
  refine wpAnyL_take (i := 3) (oi := { dst := some 95, op := Op.fieldAddr 59 (Operand.tmp 94) 1, type := 0, pos := "clerk.go:418", after := #[{ on := 2, ground := Ground.data }], guard := none }) (v := ?v3) (S := (fun _ => True)) rfl (by kernel_rfl) (by kernel_rfl) (by kernel_rfl) (fun _ _ _ h => h) (fun _ _ _ _ _ => trivial) (Tw_set rfl) (Or.inl ⟨by rfl, ?hy3⟩) HT HC ?rest3
  case hy3 => ((try dsimp only); intro wS hS; (try dsimp only at hS); (try go_split_ands); go_simp; try with_reducible rfl)
  intro h1 h2
  clear HT HC
  have HT := h1
  have HC := h2
  clear h1 h2
  try simp only [Act.put, List.setIfInBounds_toArray, List.set_cons_zero, List.set_cons_succ]
  refine wpAnyL_take (i := 4) (oi := { dst := some 96, op := Op.load 57 (Operand.tmp 95), type := 57, pos := "clerk.go:418", after := #[{ on := 3, ground := Ground.data }], guard := none }) (v := ?v4) (S := (fun w' : World => w'.cell? ⟨o, 1, none⟩ = some (.slice pa n pc))) rfl (by kernel_rfl) (by kernel_rfl) (by kernel_rfl) (fun _ _ _ h => h) (Tw_get (k := 11) (by simp) (by kernel_rfl)) (Tw_set rfl) (Or.inl ⟨by rfl, ?hy4⟩) HT HC ?rest4
  case hy4 => ((try dsimp only); intro wS hS; (try dsimp only at hS); (try go_split_ands); go_simp; try with_reducible rfl)
  intro h1 h2
  clear HT HC
  have HT := h1
  have HC := h2
  clear h1 h2
  try simp only [Act.put, List.setIfInBounds_toArray, List.set_cons_zero, List.set_cons_succ]
  refine wpAnyL_take (i := 6) (oi := { dst := some 98, op := Op.load 56 (Operand.tmp 7), type := 56, pos := "clerk.go:418", after := #[], guard := none }) (v := ?v6) (S := (fun w' : World => w'.cell? ⟨w.heap.size, 0, none⟩ = some (ptrV o) ∧ w'.cell? ⟨t7, 0, none⟩ = some (ptrV now))) rfl (by kernel_rfl) (by kernel_rfl) (by kernel_rfl) (fun _ _ _ h => h) (fun _ _ _ _ h => h.1) (Tw_set rfl) (Or.inl ⟨by rfl, ?hy6⟩) HT HC ?rest6
  case hy6 => ((try dsimp only); intro wS hS; (try dsimp only at hS); (try go_split_ands); go_simp; try with_reducible rfl)
  intro h1 h2
  clear HT HC
  have HT := h1
  have HC := h2
  clear h1 h2
  try simp only [Act.put, List.setIfInBounds_toArray, List.set_cons_zero, List.set_cons_succ]
  refine wpAnyL_op2 (i := 5) (j := 7) (o := { dst := some 97, op := Op.call { callee := Callee.value (Operand.func 53), args := #[Operand.tmp 96], argTypes := #[57] }, type := 57, pos := "clerk.go:418", after := #[{ on := 4, ground := Ground.data }], guard := none }) (o' := { dst := some 99, op := Op.buildSlice 57 1 #[(0, Operand.tmp 98)], type := 57, pos := "clerk.go:418", after := #[{ on := 6, ground := Ground.data }], guard := none }) (by kernel_rfl) rfl rfl HC (fun K hK => ?_) (fun K hK => ?_)
  ·go_simp
   refine (clip53_calls pa n pc _ hnp).mono ?_
   rintro e wx ⟨rfl, rfl⟩
   refine hK.out _ _ ((Tw_set rfl _ _).2 HT) (fun h1 h2 => ?_)
   clear hK HT HC K
   have HT := h1
   have HC := h2
   clear h1 h2
   try simp only [Act.put, List.setIfInBounds_toArray, List.set_cons_zero, List.set_cons_succ]
   refine wpAnyL_op (i := 7) (o := { dst := some 99, op := Op.buildSlice 57 1 #[(0, Operand.tmp 98)], type := 57, pos := "clerk.go:418", after := #[{ on := 6, ground := Ground.data }], guard := none }) (by kernel_rfl) rfl HC (fun K hK => ?_)
   go_simp
   refine hK.out _ _ ⟨⟨(hA6.cell (p := ⟨w.heap.size, 0, none⟩) l2).trans d2, (hA6.cell (p := ⟨t7, 0, none⟩) l7b).trans d7⟩, fun p hp => by simp only [List.mem_cons, List.not_mem_nil, or_false] at hp; subst hp; exact .inr ((hA6.cell (p := ⟨o, 1, none⟩) lo).trans do1)⟩ (fun h1 h2 => ?_)
   clear hK HT HC K
   have HT := h1
   have HC := h2
   clear h1 h2
   try simp only [Act.put, List.setIfInBounds_toArray, List.set_cons_zero, List.set_cons_succ]
   refine wpAnyL_op (i := 8) (o := { dst := some 100, op := Op.call { callee := Callee.builtin Builtin.append, args := #[Operand.tmp 97, Operand.tmp 99], argTypes := #[57, 57] }, type := 57, pos := "clerk.go:418", after := #[{ on := 5, ground := Ground.data }, { on := 7, ground := Ground.data }, { on := 5, ground := Ground.chain }], guard := none }) (by kernel_rfl) rfl HC (fun K hK => ?_)
   refine step_append_grows rfl (.tmp 97) (.tmp 99) 57 rfl 56 j0 _ 1 8 Tryz.underlying57 Hj0.out hz0 hz1 hz2 rfl (by decide) pa n n ps rfl Hpn.out hpl Hpc.out ⟨w6.heap.size, 0, none⟩ 1 1 [ptrV now] rfl rfl Hnw.out (by simp [Value.oneCell']) (by omega) (by unfold maxLen; omega) (by omega) ?_
   intro v7 w7 hown hgrow
   have hB7 : Below w6.heap.size w6 w7 := hA6.grown hgrow hA6.size (fun k h => by cases h)
   obtain ⟨a7, c7, rfl⟩ := row_slice hown
   refine hK.out _ _ ⟨⟨(hB7.cell (p := ⟨w.heap.size, 0, none⟩) l2).trans d2, (hB7.cell (p := ⟨t7, 0, none⟩) l7b).trans d7⟩, fun p hp => by simp only [List.mem_cons, List.not_mem_nil, or_false] at hp; subst hp; exact .inr ((hB7.cell (p := ⟨o, 1, none⟩) lo).trans do1)⟩ (fun h1 h2 => ?_)
   clear hK HT HC K
   have HT := h1
   have HC := h2
   clear h1 h2
   try simp only [Act.put, List.setIfInBounds_toArray, List.set_cons_zero, List.set_cons_succ]
   refine wpAnyL_take (i := 9) (oi := { dst := some 101, op := Op.nilCheck (Operand.tmp 92), type := 0, pos := "clerk.go:418", after := #[{ on := 0, ground := Ground.data }, { on := 0, ground := Ground.phase }, { on := 1, ground := Ground.phase }, { on := 2, ground := Ground.phase }, { on := 3, ground := Ground.phase }, { on := 4, ground := Ground.phase }, { on := 5, ground := Ground.phase }, { on := 6, ground := Ground.phase }, { on := 7, ground := Ground.phase }, { on := 8, ground := Ground.phase }], guard := none }) (v := ?v9) (S := (fun _ => True)) rfl (by kernel_rfl) (by kernel_rfl) (by kernel_rfl) (fun _ _ _ h => h) (fun _ _ _ _ _ => trivial) (Tw_set rfl) (Or.inl ⟨by rfl, ?hy9⟩) HT HC ?rest9
   case hy9 => ((try dsimp only); intro wS hS; (try dsimp only at hS); (try go_split_ands); go_simp; try with_reducible rfl)
   intro h1 h2
   clear HT HC
   have HT := h1
   have HC := h2
   clear h1 h2
   try simp only [Act.put, List.setIfInBounds_toArray, List.set_cons_zero, List.set_cons_succ]
   refine wpAnyL_take (i := 10) (oi := { dst := some 102, op := Op.fieldAddr 59 (Operand.tmp 101) 1, type := 0, pos := "clerk.go:418", after := #[{ on := 9, ground := Ground.data }, { on := 0, ground := Ground.phase }, { on := 1, ground := Ground.phase }, { on := 2, ground := Ground.phase }, { on := 3, ground := Ground.phase }, { on := 4, ground := Ground.phase }, { on := 5, ground := Ground.phase }, { on := 6, ground := Ground.phase }, { on := 7, ground := Ground.phase }, { on := 8, ground := Ground.phase }], guard := none }) (v := ?v10) (S := (fun _ => True)) rfl (by kernel_rfl) (by kernel_rfl) (by kernel_rfl) (fun _ _ _ h => h) (fun _ _ _ _ _ => trivial) (Tw_set rfl) (Or.inl ⟨by rfl, ?hy10⟩) HT HC ?rest10
   case hy10 => ((try dsimp only); intro wS hS; (try dsimp only at hS); (try go_split_ands); go_simp; try with_reducible rfl)
   intro h1 h2
   clear HT HC
   have HT := h1
   have HC := h2
   clear h1 h2
   try simp only [Act.put, List.setIfInBounds_toArray, List.set_cons_zero, List.set_cons_succ]
   have z71 : w7.frozen? ⟨o, 1, none⟩ = false := (hB7.frozen (p := ⟨o, 1, none⟩) lo).trans (doz 1)
   have k71 : w7.cell? ⟨o, 1, none⟩ = some (.slice pa n pc) := (hB7.cell (p := ⟨o, 1, none⟩) lo).trans do1
   refine wpAnyL_op (i := 11) (o := { dst := none, op := Op.store 57 (Operand.tmp 102) (Operand.tmp 100), type := 0, pos := "clerk.go:418", after := #[{ on := 10, ground := Ground.data }, { on := 8, ground := Ground.data }, { on := 8, ground := Ground.chain }, { on := 0, ground := Ground.phase }, { on := 1, ground := Ground.phase }, { on := 2, ground := Ground.phase }, { on := 3, ground := Ground.phase }, { on := 4, ground := Ground.phase }, { on := 5, ground := Ground.phase }, { on := 6, ground := Ground.phase }, { on := 7, ground := Ground.phase }, { on := 8, ground := Ground.phase }], guard := none }) (by kernel_rfl) rfl HC (fun K hK => ?_)
   go_simp
   refine hK.out _ _ (Tw_store HT ⟨set_far HT.1.1 (by omega), set_far HT.1.2 (by omega)⟩ (by simp) (fun p hp => by simp only [List.mem_cons, List.not_mem_nil, or_false] at hp; subst hp; exact .inl rfl)) (fun h1 h2 => ?_)
   clear hK HT HC K h1 h2
   try simp only [Act.put, List.setIfInBounds_toArray, List.set_cons_zero, List.set_cons_succ]
   refine wpAnyL_done (by kernel_rfl) ?_ _
   refine NoPanic.normal ?_
   go_wp2_with fail
   go_meet
   exact ⟨w7, a7, c7, rfl, row_mono hown hA6.size, hB7⟩
  ·go_simp
   refine hK.out _ _ ⟨⟨(hA6.cell (p := ⟨w.heap.size, 0, none⟩) l2).trans d2, (hA6.cell (p := ⟨t7, 0, none⟩) l7b).trans d7⟩, fun p hp => by simp only [List.mem_cons, List.not_mem_nil, or_false] at hp; subst hp; exact .inr ((hA6.cell (p := ⟨o, 1, none⟩) lo).trans do1)⟩ (fun h1 h2 => ?_)
   clear hK HT HC K
   have HT := h1
   have HC := h2
   clear h1 h2
   try simp only [Act.put, List.setIfInBounds_toArray, List.set_cons_zero, List.set_cons_succ]
   refine wpAnyL_op (i := 5) (o := { dst := some 97, op := Op.call { callee := Callee.value (Operand.func 53), args := #[Operand.tmp 96], argTypes := #[57] }, type := 57, pos := "clerk.go:418", after := #[{ on := 4, ground := Ground.data }], guard := none }) (by kernel_rfl) rfl HC (fun K hK => ?_)
   go_simp
   refine (clip53_calls pa n pc _ hnp).mono ?_
   rintro e wx ⟨rfl, rfl⟩
   refine hK.out _ _ ((Tw_set rfl _ _).2 HT) (fun h1 h2 => ?_)
   clear hK HT HC K
   have HT := h1
   have HC := h2
   clear h1 h2
   try simp only [Act.put, List.setIfInBounds_toArray, List.set_cons_zero, List.set_cons_succ]
   refine wpAnyL_op (i := 8) (o := { dst := some 100, op := Op.call { callee := Callee.builtin Builtin.append, args := #[Operand.tmp 97, Operand.tmp 99], argTypes := #[57, 57] }, type := 57, pos := "clerk.go:418", after := #[{ on := 5, ground := Ground.data }, { on := 7, ground := Ground.data }, { on := 5, ground := Ground.chain }], guard := none }) (by kernel_rfl) rfl HC (fun K hK => ?_)
   refine step_append_grows rfl (.tmp 97) (.tmp 99) 57 rfl 56 j0 _ 1 8 Tryz.underlying57 Hj0.out hz0 hz1 hz2 rfl (by decide) pa n n ps rfl Hpn.out hpl Hpc.out ⟨w6.heap.size, 0, none⟩ 1 1 [ptrV now] rfl rfl Hnw.out (by simp [Value.oneCell']) (by omega) (by unfold maxLen; omega) (by omega) ?_
   intro v7 w7 hown hgrow
   have hB7 : Below w6.heap.size w6 w7 := hA6.grown hgrow hA6.size (fun k h => by cases h)
   obtain ⟨a7, c7, rfl⟩ := row_slice hown
   refine hK.out _ _ ⟨⟨(hB7.cell (p := ⟨w.heap.size, 0, none⟩) l2).trans d2, (hB7.cell (p := ⟨t7, 0, none⟩) l7b).trans d7⟩, fun p hp => by simp only [List.mem_cons, List.not_mem_nil, or_false] at hp; subst hp; exact .inr ((hB7.cell (p := ⟨o, 1, none⟩) lo).trans do1)⟩ (fun h1 h2 => ?_)
   clear hK HT HC K
   have HT := h1
   have HC := h2
   clear h1 h2
   try simp only [Act.put, List.setIfInBounds_toArray, List.set_cons_zero, List.set_cons_succ]
   refine wpAnyL_take (i := 9) (oi := { dst := some 101, op := Op.nilCheck (Operand.tmp 92), type := 0, pos := "clerk.go:418", after := #[{ on := 0, ground := Ground.data }, { on := 0, ground := Ground.phase }, { on := 1, ground := Ground.phase }, { on := 2, ground := Ground.phase }, { on := 3, ground := Ground.phase }, { on := 4, ground := Ground.phase }, { on := 5, ground := Ground.phase }, { on := 6, ground := Ground.phase }, { on := 7, ground := Ground.phase }, { on := 8, ground := Ground.phase }], guard := none }) (v := ?v9b) (S := (fun _ => True)) rfl (by kernel_rfl) (by kernel_rfl) (by kernel_rfl) (fun _ _ _ h => h) (fun _ _ _ _ _ => trivial) (Tw_set rfl) (Or.inl ⟨by rfl, ?hy9b⟩) HT HC ?rest9b
   case hy9b => ((try dsimp only); intro wS hS; (try dsimp only at hS); (try go_split_ands); go_simp; try with_reducible rfl)
   intro h1 h2
   clear HT HC
   have HT := h1
   have HC := h2
   clear h1 h2
   try simp only [Act.put, List.setIfInBounds_toArray, List.set_cons_zero, List.set_cons_succ]
   refine wpAnyL_take (i := 10) (oi := { dst := some 102, op := Op.fieldAddr 59 (Operand.tmp 101) 1, type := 0, pos := "clerk.go:418", after := #[{ on := 9, ground := Ground.data }, { on := 0, ground := Ground.phase }, { on := 1, ground := Ground.phase }, { on := 2, ground := Ground.phase }, { on := 3, ground := Ground.phase }, { on := 4, ground := Ground.phase }, { on := 5, ground := Ground.phase }, { on := 6, ground := Ground.phase }, { on := 7, ground := Ground.phase }, { on := 8, ground := Ground.phase }], guard := none }) (v := ?v10b) (S := (fun _ => True)) rfl (by kernel_rfl) (by kernel_rfl) (by kernel_rfl) (fun _ _ _ h => h) (fun _ _ _ _ _ => trivial) (Tw_set rfl) (Or.inl ⟨by rfl, ?hy10b⟩) HT HC ?rest10b
   case hy10b => ((try dsimp only); intro wS hS; (try dsimp only at hS); (try go_split_ands); go_simp; try with_reducible rfl)
   intro h1 h2
   clear HT HC
   have HT := h1
   have HC := h2
   clear h1 h2
   try simp only [Act.put, List.setIfInBounds_toArray, List.set_cons_zero, List.set_cons_succ]
   have z71 : w7.frozen? ⟨o, 1, none⟩ = false := (hB7.frozen (p := ⟨o, 1, none⟩) lo).trans (doz 1)
   have k71 : w7.cell? ⟨o, 1, none⟩ = some (.slice pa n pc) := (hB7.cell (p := ⟨o, 1, none⟩) lo).trans do1
   refine wpAnyL_op (i := 11) (o := { dst := none, op := Op.store 57 (Operand.tmp 102) (Operand.tmp 100), type := 0, pos := "clerk.go:418", after := #[{ on := 10, ground := Ground.data }, { on := 8, ground := Ground.data }, { on := 8, ground := Ground.chain }, { on := 0, ground := Ground.phase }, { on := 1, ground := Ground.phase }, { on := 2, ground := Ground.phase }, { on := 3, ground := Ground.phase }, { on := 4, ground := Ground.phase }, { on := 5, ground := Ground.phase }, { on := 6, ground := Ground.phase }, { on := 7, ground := Ground.phase }, { on := 8, ground := Ground.phase }], guard := none }) (by kernel_rfl) rfl HC (fun K hK => ?_)
   go_simp
   refine hK.out _ _ (Tw_store HT ⟨set_far HT.1.1 (by omega), set_far HT.1.2 (by omega)⟩ (by simp) (fun p hp => by simp only [List.mem_cons, List.not_mem_nil, or_false] at hp; subst hp; exact .inl rfl)) (fun h1 h2 => ?_)
   clear hK HT HC K h1 h2
   try simp only [Act.put, List.setIfInBounds_toArray, List.set_cons_zero, List.set_cons_succ]
   refine wpAnyL_done (by kernel_rfl) ?_ _
   refine NoPanic.normal ?_
   go_wp2_with fail
   go_meet
   exact ⟨w7, a7, c7, rfl, row_mono hown hA6.size, hB7⟩
 case rest =>
  obtain ⟨w7, a7, c7, rfl, hown, hB7⟩ := hcut
  have e2 := (hB7.block _ l2).trans r2
  have e7 := (hB7.block _ l7b).trans r7
  have eO := (hB7.block o lo).trans rO
  have e4 := (hB7.block _ (Array.getElem?_eq_some_iff.1 p4).1).trans p4
  obtain ⟨w8, hw8⟩ : ∃ y, w7.setCell ⟨o, 1, none⟩ (.slice a7 (n + 1) c7) = y := ⟨_, rfl⟩
  have s2 : w8.heap[w.heap.size]? = some (.cells #[ptrV o] 25 (0, 0)) := by rw [← hw8, Below.heap_setCell _ _ _ _ (by show w.heap.size ≠ o; omega)]; exact e2
  have s4 : w8.heap[w.heap.size + 1]? = some (.cells #[nV 0] 29 (0, 0)) := by rw [← hw8, Below.heap_setCell _ _ _ _ (by show w.heap.size + 1 ≠ o; omega)]; exact e4
  have sO : w8.heap[o]? = some (.cells #[ptrV q, .slice a7 (n + 1) c7, .slice la n lc] 59 (0, 0)) := by rw [← hw8]; exact off_set_1 eO
  rw [hw8]
  clear d2 z2 d7 z7 do0 do1 do2 doz
  obtain ⟨d2, z2⟩ := one_cell s2
  obtain ⟨d4, z4⟩ := one_cell s4
  obtain ⟨do0, do1, do2, doz⟩ := off_cells sO
  go_wp2_with fail
  have l2c : w.heap.size < w8.heap.size := (Array.getElem?_eq_some_iff.1 s2).1
  have loc : o < w8.heap.size := (Array.getElem?_eq_some_iff.1 sO).1
  have hA8 : Below w8.heap.size w8 (w8.alloc (.cells #[sV line] 9)).drew := ((Below.refl _ _).alloc (Nat.le_refl _) _).drew
  obtain ⟨j1, hj1, hy0, hy1, hy2⟩ := info_parts (show (Tryz.prog.info? 9).map (fun i => (i.zero, i.size, i.bytes)) = some (some (.string ⟨#[]⟩), 1, 16) by kernel_rfl)
  have Hj1 := hidC hj1
  clear hj1
  have hpl9 : w.heap.size ≤ w8.heap.size := by omega
  have hw8b : ∀ b, b < w.heap.size → b ≠ o → w8.heap[b]? = w.heap[b]? := fun b hb hbo => by
   rw [← hw8, Below.heap_setCell _ _ _ _ hbo, hB7.block b (by omega)]
   exact Hw6.out b hb hbo
  obtain ⟨hln0, hll0, hlnc, hlc0⟩ := row_cells H5.out
  have Hln : Hid (la = none → n = 0 ∧ n = 0) := hidC fun h => ⟨hln0 h, hln0 h⟩
  have hll : (S.lines.map sV).length = n * 1 := by omega
  have Hlc : Hid (∀ b, la = some b → ∀ j u, (S.lines.map sV)[j]? = some u → ((w8.alloc (.cells #[sV line] 9)).drew).cell? (b.add j) = some u) := hidC fun b hb j u hj => by
   obtain ⟨c1, c2, c3⟩ := hlc0 b hb
   have hbo : b.block ≠ o := fun h => by
    rw [h] at c2
    have c4 := HO.out.ty
    rw [c2] at c4
    cases c4
   have c5 := c3 j u hj
   rw [← c5]
   refine World.cell?_of_block ?_
   rw [add_block]
   exact (hA8.block _ (by omega)).trans (hw8b b.block c1 hbo)
  have Hnl : Hid (∀ j u, [sV line][j]? = some u → ((w8.alloc (.cells #[sV line] 9)).drew).cell? ((⟨w8.heap.size, 0, none⟩ : Addr).add j) = some u) := hidC (World.news_of_block (cs := #[sV line]) (t := 9) (fr := (0, 0)) (heap_alloc_new w8 _))
  clear hln0 hlc0 hw8b
  go_cut [] from 103 to 114 (fun wx => ∃ w9 a9 c9, wx = w9.setCell ⟨o, 2, none⟩ (.slice a9 (n + 1) c9) ∧ w9.ownsRow w8.heap.size 9 1 (.slice a9 (n + 1) c9) (n + 1) (S.lines.map sV ++ [sV line]) ∧ Below w8.heap.size w8 w9)
  case first =>
   refine wp_region_noPanic ?_
   have HT0 : Tw (fun w' : World => w'.cell? ⟨w.heap.size, 0, none⟩ = some (ptrV o)) [(11, fun w' : World => w'.cell? ⟨o, 2, none⟩ = some (.slice la n lc))] (Array.replicate 12 false) w8.drew := ⟨d2, fun p hp => by simp only [List.mem_cons, List.not_mem_nil, or_false] at hp; subst hp; exact .inr do2⟩
   refine wp_region_L (T := Tw (fun w' : World => w'.cell? ⟨w.heap.size, 0, none⟩ = some (ptrV o)) [(11, fun w' : World => w'.cell? ⟨o, 2, none⟩ = some (.slice la n lc))]) mixed HT0 ?_
   intro HT HC
   clear HT0
   refine wpAnyL_take (i := 0) (oi := { dst := some 103, op := Op.load 25 (Operand.tmp 2), type := 25, pos := "clerk.go:419", after := #[], guard := none }) (v := ?u0) (S := (fun w' : World => w'.cell? ⟨w.heap.size, 0, none⟩ = some (ptrV o))) rfl (by kernel_rfl) (by kernel_rfl) (by kernel_rfl) (fun _ _ _ h => h) (fun _ _ _ _ h => h.1) (Tw_set rfl) (Or.inl ⟨by rfl, ?hu0⟩) HT HC ?rust0
   case hu0 => ((try dsimp only); intro wS hS; (try dsimp only at hS); (try go_split_ands); go_simp; try with_reducible rfl)
   intro h1 h2
   clear HT HC
   have HT := h1
   have HC := h2
   clear h1 h2
   try simp only [Act.put, List.setIfInBounds_toArray, List.set_cons_zero, List.set_cons_succ]
   refine wpAnyL_take (i := 1) (oi := { dst := some 104, op := Op.load 25 (Operand.tmp 2), type := 25, pos := "clerk.go:419", after := #[], guard := none }) (v := ?u1) (S := (fun w' : World => w'.cell? ⟨w.heap.size, 0, none⟩ = some (ptrV o))) rfl (by kernel_rfl) (by kernel_rfl) (by kernel_rfl) (fun _ _ _ h => h) (fun _ _ _ _ h => h.1) (Tw_set rfl) (Or.inl ⟨by rfl, ?hu1⟩) HT HC ?rust1
   case hu1 => ((try dsimp only); intro wS hS; (try dsimp only at hS); (try go_split_ands); go_simp; try with_reducible rfl)
   intro h1 h2
   clear HT HC
   have HT := h1
   have HC := h2
   clear h1 h2
   try simp only [Act.put, List.setIfInBounds_toArray, List.set_cons_zero, List.set_cons_succ]
   refine wpAnyL_take (i := 2) (oi := { dst := some 105, op := Op.nilCheck (Operand.tmp 104), type := 0, pos := "clerk.go:419", after := #[{ on := 1, ground := Ground.data }], guard := none }) (v := ?u2) (S := (fun _ => True)) rfl (by kernel_rfl) (by kernel_rfl) (by kernel_rfl) (fun _ _ _ h => h) (fun _ _ _ _ _ => trivial) (Tw_set rfl) (Or.inl ⟨by rfl, ?hu2⟩) HT HC ?rust2
   case hu2 => ((try dsimp only); intro wS hS; (try dsimp only at hS); (try go_split_ands); go_simp; try with_reducible rfl)
   intro h1 h2
   clear HT HC
   have HT := h1
   have HC := h2
   clear h1 h2
   try simp only [Act.put, List.setIfInBounds_toArray, List.set_cons_zero, List.set_cons_succ]
   refine wpAnyL_take (i := 3) (oi := { dst := some 106, op := Op.fieldAddr 59 (Operand.tmp 105) 2, type := 0, pos := "clerk.go:419", after := #[{ on := 2, ground := Ground.data }], guard := none }) (v := ?u3) (S := (fun _ => True)) rfl (by kernel_rfl) (by kernel_rfl) (by kernel_rfl) (fun _ _ _ h => h) (fun _ _ _ _ _ => trivial) (Tw_set rfl) (Or.inl ⟨by rfl, ?hu3⟩) HT HC ?rust3
   case hu3 => ((try dsimp only); intro wS hS; (try dsimp only at hS); (try go_split_ands); go_simp; try with_reducible rfl)
   intro h1 h2
   clear HT HC
   have HT := h1
   have HC := h2
   clear h1 h2
   try simp only [Act.put, List.setIfInBounds_toArray, List.set_cons_zero, List.set_cons_succ]
   refine wpAnyL_take (i := 4) (oi := { dst := some 107, op := Op.load 22 (Operand.tmp 106), type := 22, pos := "clerk.go:419", after := #[{ on := 3, ground := Ground.data }], guard := none }) (v := ?u4) (S := (fun w' : World => w'.cell? ⟨o, 2, none⟩ = some (.slice la n lc))) rfl (by kernel_rfl) (by kernel_rfl) (by kernel_rfl) (fun _ _ _ h => h) (Tw_get (k := 11) (by simp) (by kernel_rfl)) (Tw_set rfl) (Or.inl ⟨by rfl, ?hu4⟩) HT HC ?rust4
   case hu4 => ((try dsimp only); intro wS hS; (try dsimp only at hS); (try go_split_ands); go_simp; try with_reducible rfl)
   intro h1 h2
   clear HT HC
   have HT := h1
   have HC := h2
   clear h1 h2
   try simp only [Act.put, List.setIfInBounds_toArray, List.set_cons_zero, List.set_cons_succ]
   refine wpAnyL_take (i := 6) (oi := { dst := some 109, op := Op.move (Operand.tmp 1), type := 9, pos := "clerk.go:419", after := #[], guard := none }) (v := ?u6) (S := (fun _ => True)) rfl (by kernel_rfl) (by kernel_rfl) (by kernel_rfl) (fun _ _ _ h => h) (fun _ _ _ _ _ => trivial) (Tw_set rfl) (Or.inl ⟨by rfl, ?hu6⟩) HT HC ?rust6
   case hu6 => ((try dsimp only); intro wS hS; (try dsimp only at hS); (try go_split_ands); go_simp; try with_reducible rfl)
   intro h1 h2
   clear HT HC
   have HT := h1
   have HC := h2
   clear h1 h2
   try simp only [Act.put, List.setIfInBounds_toArray, List.set_cons_zero, List.set_cons_succ]
   refine wpAnyL_op2 (i := 5) (j := 7) (o := { dst := some 108, op := Op.call { callee := Callee.value (Operand.func 54), args := #[Operand.tmp 107], argTypes := #[22] }, type := 22, pos := "clerk.go:419", after := #[{ on := 4, ground := Ground.data }], guard := none }) (o' := { dst := some 110, op := Op.buildSlice 22 1 #[(0, Operand.tmp 109)], type := 22, pos := "clerk.go:419", after := #[{ on := 6, ground := Ground.data }], guard := none }) (by kernel_rfl) rfl rfl HC (fun K hK => ?_) (fun K hK => ?_)
   ·go_simp
    refine (clip54_calls la n lc _ hlnc).mono ?_
    rintro e wx ⟨rfl, rfl⟩
    refine hK.out _ _ ((Tw_set rfl _ _).2 HT) (fun h1 h2 => ?_)
    clear hK HT HC K
    have HT := h1
    have HC := h2
    clear h1 h2
    try simp only [Act.put, List.setIfInBounds_toArray, List.set_cons_zero, List.set_cons_succ]
    refine wpAnyL_op (i := 7) (o := { dst := some 110, op := Op.buildSlice 22 1 #[(0, Operand.tmp 109)], type := 22, pos := "clerk.go:419", after := #[{ on := 6, ground := Ground.data }], guard := none }) (by kernel_rfl) rfl HC (fun K hK => ?_)
    go_simp
    refine hK.out _ _ ⟨(hA8.cell (p := ⟨w.heap.size, 0, none⟩) l2c).trans d2, fun p hp => by simp only [List.mem_cons, List.not_mem_nil, or_false] at hp; subst hp; exact .inr ((hA8.cell (p := ⟨o, 2, none⟩) loc).trans do2)⟩ (fun h1 h2 => ?_)
    clear hK HT HC K
    have HT := h1
    have HC := h2
    clear h1 h2
    try simp only [Act.put, List.setIfInBounds_toArray, List.set_cons_zero, List.set_cons_succ]
    refine wpAnyL_op (i := 8) (o := { dst := some 111, op := Op.call { callee := Callee.builtin Builtin.append, args := #[Operand.tmp 108, Operand.tmp 110], argTypes := #[22, 22] }, type := 22, pos := "clerk.go:419", after := #[{ on := 5, ground := Ground.data }, { on := 7, ground := Ground.data }, { on := 5, ground := Ground.chain }], guard := none }) (by kernel_rfl) rfl HC (fun K hK => ?_)
    refine step_append_grows rfl (.tmp 108) (.tmp 110) 22 rfl 9 j1 _ 1 16 Tryz.underlying22 Hj1.out hy0 hy1 hy2 rfl (by decide) la n n (S.lines.map sV) rfl Hln.out hll Hlc.out ⟨w8.heap.size, 0, none⟩ 1 1 [sV line] rfl rfl Hnl.out (by simp [Value.oneCell']) (by omega) (by unfold maxLen; omega) (by omega) ?_
    intro v9 w9 hown9 hgrow9
    have hB9 : Below w8.heap.size w8 w9 := hA8.grown hgrow9 hA8.size (fun k h => by cases h)
    obtain ⟨a9, c9, rfl⟩ := row_slice hown9
    refine hK.out _ _ ⟨(hB9.cell (p := ⟨w.heap.size, 0, none⟩) l2c).trans d2, fun p hp => by simp only [List.mem_cons, List.not_mem_nil, or_false] at hp; subst hp; exact .inr ((hB9.cell (p := ⟨o, 2, none⟩) loc).trans do2)⟩ (fun h1 h2 => ?_)
    clear hK HT HC K
    have HT := h1
    have HC := h2
    clear h1 h2
    try simp only [Act.put, List.setIfInBounds_toArray, List.set_cons_zero, List.set_cons_succ]
    refine wpAnyL_take (i := 9) (oi := { dst := some 112, op := Op.nilCheck (Operand.tmp 103), type := 0, pos := "clerk.go:419", after := #[{ on := 0, ground := Ground.data }, { on := 0, ground := Ground.phase }, { on := 1, ground := Ground.phase }, { on := 2, ground := Ground.phase }, { on := 3, ground := Ground.phase }, { on := 4, ground := Ground.phase }, { on := 5, ground := Ground.phase }, { on := 6, ground := Ground.phase }, { on := 7, ground := Ground.phase }, { on := 8, ground := Ground.phase }], guard := none }) (v := ?u9) (S := (fun _ => True)) rfl (by kernel_rfl) (by kernel_rfl) (by kernel_rfl) (fun _ _ _ h => h) (fun _ _ _ _ _ => trivial) (Tw_set rfl) (Or.inl ⟨by rfl, ?hu9⟩) HT HC ?rust9
    case hu9 => ((try dsimp only); intro wS hS; (try dsimp only at hS); (try go_split_ands); go_simp; try with_reducible rfl)
    intro h1 h2
    clear HT HC
    have HT := h1
    have HC := h2
    clear h1 h2
    try simp only [Act.put, List.setIfInBounds_toArray, List.set_cons_zero, List.set_cons_succ]
    refine wpAnyL_take (i := 10) (oi := { dst := some 113, op := Op.fieldAddr 59 (Operand.tmp 112) 2, type := 0, pos := "clerk.go:419", after := #[{ on := 9, ground := Ground.data }, { on := 0, ground := Ground.phase }, { on := 1, ground := Ground.phase }, { on := 2, ground := Ground.phase }, { on := 3, ground := Ground.phase }, { on := 4, ground := Ground.phase }, { on := 5, ground := Ground.phase }, { on := 6, ground := Ground.phase }, { on := 7, ground := Ground.phase }, { on := 8, ground := Ground.phase }], guard := none }) (v := ?u10) (S := (fun _ => True)) rfl (by kernel_rfl) (by kernel_rfl) (by kernel_rfl) (fun _ _ _ h => h) (fun _ _ _ _ _ => trivial) (Tw_set rfl) (Or.inl ⟨by rfl, ?hu10⟩) HT HC ?rust10
    case hu10 => ((try dsimp only); intro wS hS; (try dsimp only at hS); (try go_split_ands); go_simp; try with_reducible rfl)
    intro h1 h2
    clear HT HC
    have HT := h1
    have HC := h2
    clear h1 h2
    try simp only [Act.put, List.setIfInBounds_toArray, List.set_cons_zero, List.set_cons_succ]
    have z91 : w9.frozen? ⟨o, 2, none⟩ = false := (hB9.frozen (p := ⟨o, 2, none⟩) loc).trans (doz 2)
    have k91 : w9.cell? ⟨o, 2, none⟩ = some (.slice la n lc) := (hB9.cell (p := ⟨o, 2, none⟩) loc).trans do2
    refine wpAnyL_op (i := 11) (o := { dst := none, op := Op.store 22 (Operand.tmp 113) (Operand.tmp 111), type := 0, pos := "clerk.go:419", after := #[{ on := 10, ground := Ground.data }, { on := 8, ground := Ground.data }, { on := 8, ground := Ground.chain }, { on := 0, ground := Ground.phase }, { on := 1, ground := Ground.phase }, { on := 2, ground := Ground.phase }, { on := 3, ground := Ground.phase }, { on := 4, ground := Ground.phase }, { on := 5, ground := Ground.phase }, { on := 6, ground := Ground.phase }, { on := 7, ground := Ground.phase }, { on := 8, ground := Ground.phase }], guard := none }) (by kernel_rfl) rfl HC (fun K hK => ?_)
    go_simp
    refine hK.out _ _ (Tw_store HT (set_far HT.1 (by omega)) (by simp) (fun p hp => by simp only [List.mem_cons, List.not_mem_nil, or_false] at hp; subst hp; exact .inl rfl)) (fun h1 h2 => ?_)
    clear hK HT HC K h1 h2
    try simp only [Act.put, List.setIfInBounds_toArray, List.set_cons_zero, List.set_cons_succ]
    refine wpAnyL_done (by kernel_rfl) ?_ _
    refine NoPanic.normal ?_
    go_wp2_with fail
    go_meet
    exact ⟨w9, a9, c9, rfl, row_mono hown9 hA8.size, hB9⟩
   ·go_simp
    refine hK.out _ _ ⟨(hA8.cell (p := ⟨w.heap.size, 0, none⟩) l2c).trans d2, fun p hp => by simp only [List.mem_cons, List.not_mem_nil, or_false] at hp; subst hp; exact .inr ((hA8.cell (p := ⟨o, 2, none⟩) loc).trans do2)⟩ (fun h1 h2 => ?_)
    clear hK HT HC K
    have HT := h1
    have HC := h2
    clear h1 h2
    try simp only [Act.put, List.setIfInBounds_toArray, List.set_cons_zero, List.set_cons_succ]
    refine wpAnyL_op (i := 5) (o := { dst := some 108, op := Op.call { callee := Callee.value (Operand.func 54), args := #[Operand.tmp 107], argTypes := #[22] }, type := 22, pos := "clerk.go:419", after := #[{ on := 4, ground := Ground.data }], guard := none }) (by kernel_rfl) rfl HC (fun K hK => ?_)
    go_simp
    refine (clip54_calls la n lc _ hlnc).mono ?_
    rintro e wx ⟨rfl, rfl⟩
    refine hK.out _ _ ((Tw_set rfl _ _).2 HT) (fun h1 h2 => ?_)
    clear hK HT HC K
    have HT := h1
    have HC := h2
    clear h1 h2
    try simp only [Act.put, List.setIfInBounds_toArray, List.set_cons_zero, List.set_cons_succ]
    refine wpAnyL_op (i := 8) (o := { dst := some 111, op := Op.call { callee := Callee.builtin Builtin.append, args := #[Operand.tmp 108, Operand.tmp 110], argTypes := #[22, 22] }, type := 22, pos := "clerk.go:419", after := #[{ on := 5, ground := Ground.data }, { on := 7, ground := Ground.data }, { on := 5, ground := Ground.chain }], guard := none }) (by kernel_rfl) rfl HC (fun K hK => ?_)
    refine step_append_grows rfl (.tmp 108) (.tmp 110) 22 rfl 9 j1 _ 1 16 Tryz.underlying22 Hj1.out hy0 hy1 hy2 rfl (by decide) la n n (S.lines.map sV) rfl Hln.out hll Hlc.out ⟨w8.heap.size, 0, none⟩ 1 1 [sV line] rfl rfl Hnl.out (by simp [Value.oneCell']) (by omega) (by unfold maxLen; omega) (by omega) ?_
    intro v9 w9 hown9 hgrow9
    have hB9 : Below w8.heap.size w8 w9 := hA8.grown hgrow9 hA8.size (fun k h => by cases h)
    obtain ⟨a9, c9, rfl⟩ := row_slice hown9
    refine hK.out _ _ ⟨(hB9.cell (p := ⟨w.heap.size, 0, none⟩) l2c).trans d2, fun p hp => by simp only [List.mem_cons, List.not_mem_nil, or_false] at hp; subst hp; exact .inr ((hB9.cell (p := ⟨o, 2, none⟩) loc).trans do2)⟩ (fun h1 h2 => ?_)
    clear hK HT HC K
    have HT := h1
    have HC := h2
    clear h1 h2
    try simp only [Act.put, List.setIfInBounds_toArray, List.set_cons_zero, List.set_cons_succ]
    refine wpAnyL_take (i := 9) (oi := { dst := some 112, op := Op.nilCheck (Operand.tmp 103), type := 0, pos := "clerk.go:419", after := #[{ on := 0, ground := Ground.data }, { on := 0, ground := Ground.phase }, { on := 1, ground := Ground.phase }, { on := 2, ground := Ground.phase }, { on := 3, ground := Ground.phase }, { on := 4, ground := Ground.phase }, { on := 5, ground := Ground.phase }, { on := 6, ground := Ground.phase }, { on := 7, ground := Ground.phase }, { on := 8, ground := Ground.phase }], guard := none }) (v := ?u9b) (S := (fun _ => True)) rfl (by kernel_rfl) (by kernel_rfl) (by kernel_rfl) (fun _ _ _ h => h) (fun _ _ _ _ _ => trivial) (Tw_set rfl) (Or.inl ⟨by rfl, ?hu9b⟩) HT HC ?rust9b
    case hu9b => ((try dsimp only); intro wS hS; (try dsimp only at hS); (try go_split_ands); go_simp; try with_reducible rfl)
    intro h1 h2
    clear HT HC
    have HT := h1
    have HC := h2
    clear h1 h2
    try simp only [Act.put, List.setIfInBounds_toArray, List.set_cons_zero, List.set_cons_succ]
    refine wpAnyL_take (i := 10) (oi := { dst := some 113, op := Op.fieldAddr 59 (Operand.tmp 112) 2, type := 0, pos := "clerk.go:419", after := #[{ on := 9, ground := Ground.data }, { on := 0, ground := Ground.phase }, { on := 1, ground := Ground.phase }, { on := 2, ground := Ground.phase }, { on := 3, ground := Ground.phase }, { on := 4, ground := Ground.phase }, { on := 5, ground := Ground.phase }, { on := 6, ground := Ground.phase }, { on := 7, ground := Ground.phase }, { on := 8, ground := Ground.phase }], guard := none }) (v := ?u10b) (S := (fun _ => True)) rfl (by kernel_rfl) (by kernel_rfl) (by kernel_rfl) (fun _ _ _ h => h) (fun _ _ _ _ _ => trivial) (Tw_set rfl) (Or.inl ⟨by rfl, ?hu10b⟩) HT HC ?rust10b
    case hu10b => ((try dsimp only); intro wS hS; (try dsimp only at hS); (try go_split_ands); go_simp; try with_reducible rfl)
    intro h1 h2
    clear HT HC
    have HT := h1
    have HC := h2
    clear h1 h2
    try simp only [Act.put, List.setIfInBounds_toArray, List.set_cons_zero, List.set_cons_succ]
    have z91 : w9.frozen? ⟨o, 2, none⟩ = false := (hB9.frozen (p := ⟨o, 2, none⟩) loc).trans (doz 2)
    have k91 : w9.cell? ⟨o, 2, none⟩ = some (.slice la n lc) := (hB9.cell (p := ⟨o, 2, none⟩) loc).trans do2
    refine wpAnyL_op (i := 11) (o := { dst := none, op := Op.store 22 (Operand.tmp 113) (Operand.tmp 111), type := 0, pos := "clerk.go:419", after := #[{ on := 10, ground := Ground.data }, { on := 8, ground := Ground.data }, { on := 8, ground := Ground.chain }, { on := 0, ground := Ground.phase }, { on := 1, ground := Ground.phase }, { on := 2, ground := Ground.phase }, { on := 3, ground := Ground.phase }, { on := 4, ground := Ground.phase }, { on := 5, ground := Ground.phase }, { on := 6, ground := Ground.phase }, { on := 7, ground := Ground.phase }, { on := 8, ground := Ground.phase }], guard := none }) (by kernel_rfl) rfl HC (fun K hK => ?_)
    go_simp
    refine hK.out _ _ (Tw_store HT (set_far HT.1 (by omega)) (by simp) (fun p hp => by simp only [List.mem_cons, List.not_mem_nil, or_false] at hp; subst hp; exact .inl rfl)) (fun h1 h2 => ?_)
    clear hK HT HC K h1 h2
    try simp only [Act.put, List.setIfInBounds_toArray, List.set_cons_zero, List.set_cons_succ]
    refine wpAnyL_done (by kernel_rfl) ?_ _
    refine NoPanic.normal ?_
    go_wp2_with fail
    go_meet
    exact ⟨w9, a9, c9, rfl, row_mono hown9 hA8.size, hB9⟩
  case rest =>
   obtain ⟨w9, a9, c9, rfl, hown9, hB9⟩ := hcut
   have f4 := (hB9.block _ (Array.getElem?_eq_some_iff.1 s4).1).trans s4
   have fO := (hB9.block o (Array.getElem?_eq_some_iff.1 sO).1).trans sO
   obtain ⟨wA, hwA⟩ : ∃ y, w9.setCell ⟨o, 2, none⟩ (.slice a9 (n + 1) c9) = y := ⟨_, rfl⟩
   have u4 : wA.heap[w.heap.size + 1]? = some (.cells #[nV 0] 29 (0, 0)) := by rw [← hwA, Below.heap_setCell _ _ _ _ (by show w.heap.size + 1 ≠ o; omega)]; exact f4
   have uO : wA.heap[o]? = some (.cells #[ptrV q, .slice a7 (n + 1) c7, .slice a9 (n + 1) c9] 59 (0, 0)) := by rw [← hwA]; exact off_set_2 fO
   rw [hwA]
   clear d2 z2 d4 z4 do0 do1 do2 doz
   obtain ⟨d4, z4⟩ := one_cell u4
   go_wp2_with fail
   obtain ⟨wB, hwB⟩ : ∃ y, wA.setCell ⟨w.heap.size + 1, 0, none⟩ (nV 0) = y := ⟨_, rfl⟩
   have v4 : wB.heap[w.heap.size + 1]? = some (.cells #[nV 0] 29 (0, 0)) := by rw [← hwB]; exact one_set u4
   have vO : wB.heap[o]? = some (.cells #[ptrV q, .slice a7 (n + 1) c7, .slice a9 (n + 1) c9] 59 (0, 0)) := by rw [← hwB, Below.heap_setCell _ _ _ _ (by show o ≠ w.heap.size + 1; omega)]; exact uO
   show bodyPostD _ _ _ _ _ (wA.setCell ⟨w.heap.size + 1, 0, none⟩ (nV 0))
   rw [hwB]
   have q4 := (one_cell v4).1
   refine leaves_cons (f := 52) (args := #[.pointer (some ⟨w.heap.size + 1, 0, none⟩), .pointer (some ⟨t7, 0, none⟩), .pointer (some ⟨w.heap.size, 0, none⟩)]) (by simp) (by simp [go_sem]) ?_
   refine (tail52_ok (w.heap.size + 1) t7 w.heap.size wB q4).mono ?_
   rintro e u' w'' ⟨rfl, rfl, rfl⟩
   refine ⟨_, by simp [results, Tryz.results18, go_sem, q4], rfl, ?_⟩
   have hg4 := Hg4.out
   have hgO := HgO.out
   have hsO7 : cellTy w7 o = some 59 := cellTy_cells ((hB7.block o lo).trans rO)
   have hsO9 : cellTy w9 o = some 59 := cellTy_cells fO
   have hs49 : cellTy w9 (w.heap.size + 1) = some 29 := cellTy_cells f4
   have hs4A : cellTy wA (w.heap.size + 1) = some 29 := cellTy_cells u4
   exact taken_end o n now q w.heap.size m _ _ S line d' w w4 w5 w6 w7 w8 w9 wA _ _ _ _ _ pa la a7 a9 pc lc c7 c9 ps rfl hol HO1.out H2.out H4.out Hsp.out Hsl.out hM.out.but hb6 (by omega) hw6 hg4 hgO hB7 hown hw8 hB9 hown9 hwA hwB (hd5 trivial) hs49 hsO9 hsO7 hs4A vO
end Go.Proofs.YtjeadhfponlnnaaGreatDoor
