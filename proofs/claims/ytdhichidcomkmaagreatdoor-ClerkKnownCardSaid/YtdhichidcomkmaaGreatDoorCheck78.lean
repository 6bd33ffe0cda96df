/-
  check: the number of a text.
  Conditions: none; lemmas.
-/
import Derived.Test.YtdhichidcomkmaaGreatDoorVolumes38
import Derived.Lib.ConvBytes
set_option linter.unusedSimpArgs false
set_option linter.unusedVariables false
namespace Go.Proofs.YtdhichidcomkmaaGreatDoor
open Go.RowKit Go.Pur Go.Clerk
open Go.Abs
set_option maxRecDepth 1000000
set_option maxHeartbeats 8000000
def chk1 (n : Nat) (b : UInt8) : Nat := (n * 29 + b.toNat) % 9941
theorem check_snoc {l : Tx} {b : UInt8} : check (l ++ [b]) = chk1 (check l) b := by
 unfold check
 rw [List.foldl_append]
 rfl
theorem check_lt {l : Tx} : check l ≤ 9940 := by
 rcases List.eq_nil_or_concat l with rfl | ⟨l', b, rfl⟩
 ·exact Nat.zero_le _
 ·rw [List.concat_eq_append, check_snoc]
  have := Nat.mod_lt (check l' * 29 + b.toNat) (show 0 < 9941 by omega)
  unfold chk1
  omega
theorem check_calls (s : Tx) (w : World) (hl : s.length ≤ 100000000) : Calls Tryz.prog 78 #[sV s] w fun e w' => e = .returned (nV (check s)) ∧ Below w.heap.size w w' := by
 have mixed : Tryz.prog.follows .mixedOrders = true := by kernel_rfl
 have hsz : (bs s).size = s.length := by simp [bs, ByteArray.size]
 obtain ⟨W0, hW0⟩ : ∃ W0, Lib.bytesWorld w 5 (bs s) = W0 := ⟨_, rfl⟩
 have hb0 : Below w.heap.size w W0 := by rw [← hW0]; exact ⟨rfl, rfl, rfl, by rw [Lib.bytesWorld_size]; omega, fun j hj => Lib.bytesWorld_at_old w 5 (bs s) j hj⟩
 have hcell : ∀ (i : Nat) (b : UInt8), s[i]? = some b → W0.cell? ⟨w.heap.size, i, none⟩ = some (.int .u8 b.toNat) := fun i b hb => by
  have hi : i < (bs s).size := by rw [hsz]; exact (List.getElem?_eq_some_iff.1 hb).1
  rw [← hW0, Lib.bytesWorld_cell w 5 (bs s) i hi]
  have h1 := (List.getElem?_eq_some_iff.1 hb)
  obtain ⟨h1, h2⟩ := h1
  simp [bs, List.getD, hb, h2]
 have Hcell := hidC hcell
 have Hb0 := hidC hb0
 obtain ⟨cap, hcap⟩ : ∃ c, grownCap w (bs s).size 0 5 = c := ⟨_, rfl⟩
 have hconv : (convert 9 81 (sV s)).run Tryz.prog w = .ok (.slice (some ⟨w.heap.size, 0, none⟩) s.length cap) W0 := by
  rw [Lib.run_convert_string_bytes w 9 81 5 (bs s) Tryz.underlying9 Tryz.underlying81 Tryz.underlying5, hW0, hsz, ← hcap, hsz]
 obtain ⟨N, hN⟩ : ∃ N, s.length = N := ⟨_, rfl⟩
 rw [hN] at hconv hl
 clear hcell hb0 hW0 hcap hsz
 go_enter Tryz.func78, Tryz.ntmps78
 go_wp2_with fail
 go_loopg [3, 5, 9] (N + 1) (fun gk s3 s5 s9 wx => ∃ i : Nat, s9 = .int .i64 (i : Int) ∧ s3 = nV (check (s.take i)) ∧ i ≤ N ∧ N < i + gk ∧ wx = W0)
 case atStart => exact ⟨0, rfl, rfl, by omega, by omega, rfl⟩
 case round =>
  obtain ⟨i, rfl, rfl, hi, hg, rfl⟩ := hrel
  by_cases hlt : i < N
  ·obtain ⟨g', rfl⟩ : ∃ g', gk = g' + 1 := ⟨gk - 1, by omega⟩
   obtain ⟨b, hb⟩ : ∃ b, s[i]? = some b := ⟨_, List.getElem?_eq_getElem (by omega)⟩
   have hc := Hcell.out i b hb
   have hi1 : (0 : Int) ≤ (i : Int) := by omega
   have hi2 : (i : Int) < (N : Int) := by omega
   obtain ⟨n, hn⟩ : ∃ n, check (s.take i) = n := ⟨_, rfl⟩
   have hn4 : n ≤ 9940 := by rw [← hn]; exact check_lt
   have hb8 : b.toNat < 256 := UInt8.toNat_lt b
   have hw : RowKit.wrap64 (b.toNat : Int) = (b.toNat : Int) := by unfold RowKit.wrap64; omega
   have hnext : check (s.take (i + 1)) = chk1 n b := by
    rw [List.take_add_one, hb, ← hn]
    exact check_snoc
   have Hnext := hidC hnext
   rw [hn]
   clear hnext hn
   go_wp2_with fail
   go_roundg g'
   case measure => omega
   case rel => exact ⟨i + 1, by simp, by rw [Hnext.out]; unfold chk1; simp, by omega, by omega, rfl⟩
  ·obtain rfl : i = N := by omega
   have ht : s.take i = s := List.take_of_length_le (by omega)
   rw [ht]
   go_wp2_with fail
   go_ret
   exact ⟨rfl, Hb0.out⟩
end Go.Proofs.YtdhichidcomkmaaGreatDoor
