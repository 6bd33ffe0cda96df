/-
  Tell, where a line is an order.
  Conditions: none; lemmas.
-/
import Derived.Test.YtdhichidcomkmaaGreatDoorTell1
set_option linter.unusedSimpArgs false
set_option linter.unusedVariables false
namespace Go.Proofs.YtdhichidcomkmaaGreatDoor
open Go.RowKit Go.Pur Go.Clerk
open Go.Abs
set_option maxRecDepth 1000000
set_option maxHeartbeats 8000000
theorem tell_full (o : Nat) (S : Off) (line : Tx) (w : World) (hO : OffAt w o S) (hE : Env w) (h16 : 16 ≤ o) (hl : line.length ≤ 100000) (x : Ord) (T : TypeId) (v : Value) (hx : ordV (some x) = .iface T v) (hp : parse line = (some x, 0)) (h0 : S.lines.length = 150) :
  Calls Tryz.prog 18 #[ptrV o, sV line] w fun e w' => e = .returned (nV 19) ∧ OffAt w' o S ∧ But (· = o) w.heap.size w w' := by
 have mixed : Tryz.prog.follows .mixedOrders = true := by kernel_rfl
 have HO := hidC hO
 have hol := hO.lt
 obtain ⟨now, pv, lv, ps, h1, h2, h3, h4, h5, h6⟩ := hO
 obtain ⟨la, lc, rfl⟩ := row_slice h5
 rw [h0] at h1
 have HI := hidC (fun W (hW : Below w.heap.size w W) => invalid_calls o now W (off_cells ((hW.block o hol).trans h1)).1)
 have HP : Hid (∀ W, Below w.heap.size w W → Calls Tryz.prog 50 #[sV line] W fun e W' => e = .returned (.tuple #[.iface T v, .int .i64 0]) ∧ Below W.heap.size W W') := hidC (fun W hW => by have h := parsed_calls line W (hE.below hW hE.size) hl; rw [hp] at h; unfold OrP at h; rw [hx] at h; exact h)
 clear hp hE h2 h3 h4 h5 h6 h0 hx
 have hmf : ∀ (fn : Fn) (first cap : Array Value) (w : World), (Instr.makeFunc fn first cap).run Tryz.prog w = .ok (.func fn first cap) w := fun _ _ _ _ => rfl
 go_enter_defers Tryz.func18, Tryz.ntmps18
 go_wp2_with (go_at_call 49; refine (HI.out _ (((Below.refl _ _).alloc (Nat.le_refl _) _).alloc (by simp) _)).mono ?_; rintro e wa ⟨rfl, rfl⟩)
 go_wp2_with (go_at_call 50; refine (HP.out _ (((Below.refl _ _).alloc (Nat.le_refl _) _).alloc (by simp) _)).mono ?_; rintro e w1 ⟨rfl, hB1⟩; have hBx := hidC (boxes_of hB1); clear hB1; obtain ⟨c2, z2⟩ := one_cell hBx.out.t2; obtain ⟨c4, z4⟩ := one_cell hBx.out.t4; obtain ⟨co0, co1, co2, zo⟩ := off_cells ((hBx.out.below.block o hol).trans h1); have n4 : ¬ o = w.heap.size + 1 := by omega)
 have hB := hBx.out.below
 refine ⟨_, by simp [results, Tryz.results18, go_sem, c4, z4]; rfl, ?_⟩
 have hB2 := (hB.setCell (by simp) (p := ⟨w.heap.size + 1, 0, none⟩) (.int .i64 0)).setCell (by simp) (p := ⟨w.heap.size + 1, 0, none⟩) (.int .i64 19)
 exact ⟨rfl, HO.out.below hB2, But.of hB2⟩
end Go.Proofs.YtdhichidcomkmaaGreatDoor
