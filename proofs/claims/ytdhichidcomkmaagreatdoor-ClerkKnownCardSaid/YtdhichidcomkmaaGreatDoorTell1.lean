/-
  Tell, where a line is not an order.
  Conditions: none; lemmas.
-/
import Derived.Test.YtdhichidcomkmaaGreatDoorSmall18
import Derived.Test.YtdhichidcomkmaaGreatDoorParsed50
set_option linter.unusedSimpArgs false
set_option linter.unusedVariables false
namespace Go.Proofs.YtdhichidcomkmaaGreatDoor
open Go.RowKit Go.Pur Go.Clerk
open Go.Abs
set_option maxRecDepth 1000000
set_option maxHeartbeats 8000000
theorem off_cells {W : World} {o now : Nat} {pv lv : Value} (h : W.heap[o]? = some (.cells #[ptrV now, pv, lv] 59 (0, 0))) : W.cell? ⟨o, 0, none⟩ = some (ptrV now) ∧ W.cell? ⟨o, 1, none⟩ = some pv ∧ W.cell? ⟨o, 2, none⟩ = some lv ∧ (∀ i, W.frozen? ⟨o, i, none⟩ = false) := by
 refine ⟨by simp [World.cell?, h], by simp [World.cell?, h], by simp [World.cell?, h], fun i => by simp [World.frozen?, h]⟩
theorem one_cell {W : World} {b : Nat} {x : Value} {t : TypeId} (h : W.heap[b]? = some (.cells #[x] t (0, 0))) : W.cell? ⟨b, 0, none⟩ = some x ∧ W.frozen? ⟨b, 0, none⟩ = false := by
 refine ⟨by simp [World.cell?, h], by simp [World.frozen?, h]⟩
structure Boxes (w w1 : World) (o : Nat) : Prop where
 t2 : w1.heap[w.heap.size]? = some (.cells #[ptrV o] 25 (0, 0))
 t4 : w1.heap[w.heap.size + 1]? = some (.cells #[nV 0] 29 (0, 0))
 below : Below w.heap.size w w1
theorem boxes_of {w w1 : World} {o : Nat} (h : Below ((w.alloc (.cells #[ptrV o] 25)).alloc (.cells #[.int .i64 0] 29)).heap.size ((w.alloc (.cells #[ptrV o] 25)).alloc (.cells #[.int .i64 0] 29)) w1) : Boxes w w1 o := by
 refine ⟨?_, ?_, ?_⟩
 ·rw [h.block _ (by simp; omega)]
  rw [heap_alloc_old _ _ (by simp)]
  exact heap_alloc_new _ _
 ·rw [h.block _ (by simp)]
  have := heap_alloc_new (w.alloc (.cells #[ptrV o] 25)) (.cells #[.int .i64 0] 29)
  have e : (w.alloc (.cells #[ptrV o] 25)).heap.size = w.heap.size + 1 := by simp
  rw [e] at this
  exact this
 ·exact (((Below.refl _ _).alloc (Nat.le_refl _) _).alloc (by simp) _).trans (h.mono (by simp; omega))
theorem tell_err (o : Nat) (S : Off) (line : Tx) (w : World) (hO : OffAt w o S) (hE : Env w) (h16 : 16 ≤ o) (hl : line.length ≤ 100000) (r1 : Option Ord) (k : Nat) (hp : parse line = (r1, k + 1)) :
  Calls Tryz.prog 18 #[ptrV o, sV line] w fun e w' => e = .returned (nV (k + 1)) ∧ OffAt w' o S ∧ But (· = o) w.heap.size w w' := by
 have mixed : Tryz.prog.follows .mixedOrders = true := by kernel_rfl
 have HO := hidC hO
 have hol := hO.lt
 obtain ⟨now, pv, lv, ps, h1, h2, h3, h4, h5, h6⟩ := hO
 obtain ⟨la, lc, rfl⟩ := row_slice h5
 have HI := hidC (fun W (hW : Below w.heap.size w W) => invalid_calls o now W (off_cells ((hW.block o hol).trans h1)).1)
 have HP := hidC (fun W (hW : Below w.heap.size w W) => parsed_calls line W (hE.below hW hE.size) hl)
 rw [hp] at HP
 clear hp hE h2 h3 h4 h5
 have hmf : ∀ (fn : Fn) (first cap : Array Value) (w : World), (Instr.makeFunc fn first cap).run Tryz.prog w = .ok (.func fn first cap) w := fun _ _ _ _ => rfl
 go_enter_defers Tryz.func18, Tryz.ntmps18
 go_wp2_with (go_at_call 49; refine (HI.out _ (((Below.refl _ _).alloc (Nat.le_refl _) _).alloc (by simp) _)).mono ?_; rintro e wa ⟨rfl, rfl⟩)
 go_wp2_with (go_at_call 50; refine (HP.out _ (((Below.refl _ _).alloc (Nat.le_refl _) _).alloc (by simp) _)).mono ?_; rintro e w1 ⟨rfl, hB1⟩; have hBx := hidC (boxes_of hB1); clear hB1; obtain ⟨c2, z2⟩ := one_cell hBx.out.t2; obtain ⟨c4, z4⟩ := one_cell hBx.out.t4; obtain ⟨co0, co1, co2, zo⟩ := off_cells ((hBx.out.below.block o hol).trans h1); have n4 : ¬ o = w.heap.size + 1 := by omega)
 have hB := hBx.out.below
 refine ⟨_, by simp [results, Tryz.results18, go_sem, c4, z4]; rfl, ?_⟩
 have hB2 := (hB.setCell (by simp) (p := ⟨w.heap.size + 1, 0, none⟩) (.int .i64 (↑k + 1))).setCell (by simp) (p := ⟨w.heap.size + 1, 0, none⟩) (.int .i64 (↑k + 1))
 exact ⟨rfl, HO.out.below hB2, But.of hB2⟩
theorem tell_undo0 (o : Nat) (S : Off) (line : Tx) (w : World) (hO : OffAt w o S) (hE : Env w) (h16 : 16 ≤ o) (hl : line.length ≤ 100000) (hp : parse line = (none, 0)) (h0 : S.lines.length = 0) :
  Calls Tryz.prog 18 #[ptrV o, sV line] w fun e w' => e = .returned (nV 4) ∧ OffAt w' o S ∧ But (· = o) w.heap.size w w' := by
 have mixed : Tryz.prog.follows .mixedOrders = true := by kernel_rfl
 have HO := hidC hO
 have hol := hO.lt
 obtain ⟨now, pv, lv, ps, h1, h2, h3, h4, h5, h6⟩ := hO
 obtain ⟨la, lc, rfl⟩ := row_slice h5
 rw [h0] at h1
 have HI := hidC (fun W (hW : Below w.heap.size w W) => invalid_calls o now W (off_cells ((hW.block o hol).trans h1)).1)
 have HP : Hid (∀ W, Below w.heap.size w W → Calls Tryz.prog 50 #[sV line] W fun e W' => e = .returned (.tuple #[.nilIface, .int .i64 0]) ∧ Below W.heap.size W W') := hidC (fun W hW => by have h := parsed_calls line W (hE.below hW hE.size) hl; rw [hp] at h; exact h)
 clear hp hE h2 h3 h4 h5 h6 h0
 have hmf : ∀ (fn : Fn) (first cap : Array Value) (w : World), (Instr.makeFunc fn first cap).run Tryz.prog w = .ok (.func fn first cap) w := fun _ _ _ _ => rfl
 go_enter_defers Tryz.func18, Tryz.ntmps18
 go_wp2_with (go_at_call 49; refine (HI.out _ (((Below.refl _ _).alloc (Nat.le_refl _) _).alloc (by simp) _)).mono ?_; rintro e wa ⟨rfl, rfl⟩)
 go_wp2_with (go_at_call 50; refine (HP.out _ (((Below.refl _ _).alloc (Nat.le_refl _) _).alloc (by simp) _)).mono ?_; rintro e w1 ⟨rfl, hB1⟩; have hBx := hidC (boxes_of hB1); clear hB1; obtain ⟨c2, z2⟩ := one_cell hBx.out.t2; obtain ⟨c4, z4⟩ := one_cell hBx.out.t4; obtain ⟨co0, co1, co2, zo⟩ := off_cells ((hBx.out.below.block o hol).trans h1); have n4 : ¬ o = w.heap.size + 1 := by omega)
 have hB := hBx.out.below
 refine ⟨_, by simp [results, Tryz.results18, go_sem, c4, z4]; rfl, ?_⟩
 have hB2 := (hB.setCell (by simp) (p := ⟨w.heap.size + 1, 0, none⟩) (.int .i64 0)).setCell (by simp) (p := ⟨w.heap.size + 1, 0, none⟩) (.int .i64 4)
 exact ⟨rfl, HO.out.below hB2, But.of hB2⟩
theorem row_at {W : World} {B e n : Nat} {v : Value} {xs : List Value} (h : W.ownsRow B e 1 v n xs) {j : Nat} (hj : j < n) : ∃ g cap, v = .slice (some ⟨g, 0, none⟩) n cap ∧ W.cell? ⟨g, j, none⟩ = xs[j]? ∧ cellTy W g = some e ∧ g < W.heap.size ∧ n ≤ cap := by
 obtain ⟨h1, h2⟩ := h
 rcases h2 with ⟨_, h2⟩ | ⟨g, cap, cur, h3, h4, h5, h6, h7, h8, h9⟩
 ·omega
 ·refine ⟨g, cap, h3, ?_, by unfold cellTy; simp only [h5], (Array.getElem?_eq_some_iff.1 h5).1, h6⟩
  have hj1 : j < n * 1 := by omega
  rw [← h9, List.getElem?_take, if_pos hj1, Array.getElem?_toList]
  simp [World.cell?, h5]
theorem row_le {W : World} {B e sz n c : Nat} {a : Option Addr} {xs : List Value} (h : W.ownsRow B e sz (.slice a n c) n xs) : n ≤ c := by
 obtain ⟨h1, h2⟩ := h
 rcases h2 with ⟨h2, h3⟩ | ⟨g, cap, cur, h3, h4, h5, h6, h7, h8, h9⟩
 ·omega
 ·cases h3
  exact h6
theorem row_cut {W : World} {B e n m c : Nat} {a : Option Addr} {xs : List Value} (h : W.ownsRow B e 1 (.slice a n c) n xs) (hm : m ≤ n) : W.ownsRow B e 1 (.slice a m c) m (xs.take m) := by
 obtain ⟨h1, h2⟩ := h
 refine ⟨by rw [List.length_take]; omega, ?_⟩
 rcases h2 with ⟨h2, h3⟩ | ⟨g, cap, cur, h3, h4, h5, h6, h7, h8, h9⟩
 ·cases h2
  exact .inl ⟨by rw [show m = 0 by omega], by omega⟩
 ·cases h3
  refine .inr ⟨g, c, cur, rfl, h4, h5, by omega, h7, h8, ?_⟩
  rw [← h9, List.take_take]
  congr 1
  omega
end Go.Proofs.YtdhichidcomkmaaGreatDoor
