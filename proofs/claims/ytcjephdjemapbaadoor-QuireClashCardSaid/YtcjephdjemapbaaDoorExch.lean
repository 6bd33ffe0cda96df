/-
  exchanged: two letters are exchanged (strings.Map with a closure).
  Conditions: none; lemmas.
-/
import Derived.Test.YtcjephdjemapbaaDoorMapM
import Derived.Test.YtcjephdjemapbaaDoorPurBase
set_option linter.unusedSimpArgs false
set_option linter.unusedVariables false
namespace Go.Proofs.YtcjephdjemapbaaDoor
open Go.RowKit Go.Shelf Go.Abs Go.Pur
set_option maxRecDepth 1000000
set_option maxHeartbeats 4000000
theorem hidE {p : Prop} (h : p) : Hid p := h
theorem exch_fn (p q : Nat) (a b x : UInt8) (W : World) (c1 : W.cell? ⟨p, 0, none⟩ = some (.int .i32 a.toNat)) (c2 : W.cell? ⟨q, 0, none⟩ = some (.int .i32 b.toNat)) :
  Calls Tryd.prog 81 #[.int .i32 x.toNat, .pointer (some ⟨p, 0, none⟩), .pointer (some ⟨q, 0, none⟩)] W fun e W' => e = .returned (.int .i32 (exL a b x).toNat) ∧ W' = W := by
 by_cases h1 : x = a
 ·subst h1
  have e1 : exL x b x = b := by unfold exL; rw [if_pos rfl]
  rw [e1]
  go_enter Tryd.func81, Tryd.ntmps81
  go_wp2
  go_ret
  exact ⟨rfl, rfl⟩
 ·have h1' : ¬ ((x.toNat : Int) = (a.toNat : Int)) := fun e => h1 (UInt8.toNat_inj.1 (by omega))
  by_cases h2 : x = b
  ·subst h2
   have e1 : exL a x x = a := by unfold exL; rw [if_neg h1, if_pos rfl]
   rw [e1]
   go_enter Tryd.func81, Tryd.ntmps81
   go_wp2
   go_ret
   exact ⟨rfl, rfl⟩
  ·have h2' : ¬ ((x.toNat : Int) = (b.toNat : Int)) := fun e => h2 (UInt8.toNat_inj.1 (by omega))
   have e1 : exL a b x = x := by unfold exL; rw [if_neg h1, if_neg h2]
   rw [e1]
   go_enter Tryd.func81, Tryd.ntmps81
   go_wp2
   go_ret
   exact ⟨rfl, rfl⟩
theorem exch_calls (s : ByteArray) (a b : UInt8) (w : World) (hs : s.size ≤ 1000) (ha : a.toNat < 128) (hb : b.toNat < 128) (hx : ∀ x ∈ s.data.toList, x.toNat < 128) :
  Calls Tryd.prog 54 #[.string s, .int .i32 a.toNat, .int .i32 b.toNat] w fun e w' => e = .returned (.string ⟨(s.data.toList.map (exL a b)).toArray⟩) ∧ Below w.heap.size w w' := by
 have c1 : ((w.alloc (.cells #[.int .i32 a.toNat] 21)).alloc (.cells #[.int .i32 b.toNat] 21)).cell? ⟨w.heap.size, 0, none⟩ = some (.int .i32 a.toNat) := by
  have h : ((w.alloc (.cells #[.int .i32 a.toNat] 21)).alloc (.cells #[.int .i32 b.toNat] 21)).heap[w.heap.size]? = some (.cells #[.int .i32 a.toNat] 21) := by
   rw [heap_alloc_old _ _ (by simp)]
   exact heap_alloc_new w _
  simp only [World.cell?, h]
  rfl
 have c2 : ((w.alloc (.cells #[.int .i32 a.toNat] 21)).alloc (.cells #[.int .i32 b.toNat] 21)).cell? ⟨w.heap.size + 1, 0, none⟩ = some (.int .i32 b.toNat) := by
  have h := heap_alloc_new (w.alloc (.cells #[.int .i32 a.toNat] 21)) (.cells #[.int .i32 b.toNat] 21)
  rw [show (w.alloc (.cells #[.int .i32 a.toNat] 21)).heap.size = w.heap.size + 1 by simp] at h
  simp only [World.cell?, h]
  rfl
 have hsz : ((w.alloc (.cells #[.int .i32 a.toNat] 21)).alloc (.cells #[.int .i32 b.toNat] 21)).heap.size = w.heap.size + 2 := by simp
 have hbel : Below w.heap.size w ((w.alloc (.cells #[.int .i32 a.toNat] 21)).alloc (.cells #[.int .i32 b.toNat] 21)) := ((Below.refl _ w).alloc (Nat.le_refl _) _).alloc (by simp) _
 obtain ⟨w2, hw2⟩ : ∃ w2, (w.alloc (.cells #[.int .i32 (a.toNat : Int)] 21)).alloc (.cells #[.int .i32 (b.toNat : Int)] 21) = w2 := ⟨_, rfl⟩
 rw [hw2] at c1 c2 hsz hbel
 have key := mapText 81 #[.pointer (some ⟨w.heap.size, 0, none⟩), .pointer (some ⟨w.heap.size + 1, 0, none⟩)] (enters_of Tryd.func81 (by kernel_rfl) rfl) (exL a b) s w2 hs (fun x h => ⟨hx x h, by
  unfold exL
  split
  ·exact hb
  ·split
   ·exact ha
   ·exact hx x h⟩) (fun W x hm hB => by
  refine exch_fn w.heap.size (w.heap.size + 1) a b x W ?_ ?_
  ·rw [hB.cell (p := ⟨w.heap.size, 0, none⟩) (show w.heap.size < w2.heap.size by omega)]; exact c1
  ·rw [hB.cell (p := ⟨w.heap.size + 1, 0, none⟩) (show w.heap.size + 1 < w2.heap.size by omega)]; exact c2)
 have Key := hidE key
 clear key
 go_enter Tryd.func54, Tryd.ntmps54
 go_wp2_with fail
 refine Key.out.mono ?_
 rintro e w3 ⟨rfl, h3⟩
 have H3 := hidE (hbel.trans (h3.mono (show w.heap.size ≤ w2.heap.size by omega)))
 clear h3 Key
 go_wp2
 go_ret
 exact ⟨rfl, H3.out⟩
theorem ext_ok (g : FuncId) (hy : Y0.yes g = true) : FnOK Tryd.prog Y0 g := by
 have h : Nat.beq g 54 = true := hy
 cases Nat.eq_of_beq_eq_true h
 refine fnOK_lib e54 rfl (by kernel_rfl) (fun xs rs he m h w hR args hd => ?_)
 unfold e54 at he
 split at he
 ·rename_i s a b
  split at he
  ·rename_i h1 h2 h3 h4
   cases he
   have h2' : a < 128 := Nat.le_of_ble_eq_true h2
   have h3' : b < 128 := Nat.le_of_ble_eq_true h3
   have ea : (a.toUInt8).toNat = a := by simp only [Nat.toUInt8, UInt8.toNat_ofNat']; omega
   have eb : (b.toUInt8).toNat = b := by simp only [Nat.toUInt8, UInt8.toNat_ofNat']; omega
   cases hd with
   | cons v a' vs ks k1 ht =>
   cases ht with
   | cons v2 a2 vs2 ks2 k2 ht2 =>
   cases ht2 with
   | cons v3 a3 vs3 ks3 k3 ht3 =>
   cases ht3; cases k1; cases k2; cases k3
   have key := exch_calls s a.toUInt8 b.toUInt8 w (Nat.le_of_ble_eq_true h1) (by omega) (by omega) (fun x hx => Nat.le_of_ble_eq_true (List.all_eq_true.1 h4 x hx))
   rw [ea, eb] at key
   exact key.mono fun e w' ⟨h1, h2⟩ => ⟨[.string _], h1, h2, .cons _ _ _ _ (.p _) .nil⟩
  ·cases he
 ·cases he
end Go.Proofs.YtcjephdjemapbaaDoor
