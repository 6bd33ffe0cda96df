/-
  The statement's own 'is a part of'.
  Conditions: none; lemmas.
-/
import Derived.Test.YtjeadhfponlnnaaGreatDoorText33
import Derived.Test.YtjeadhfponlnnaaGreatDoorLeft238
import Derived.Test.YtjeadhfponlnnaaGreatDoorFormsLaw2
set_option linter.unusedSimpArgs false
set_option linter.unusedVariables false
namespace Go.Proofs.YtjeadhfponlnnaaGreatDoor
open Go.RowKit Go.Pur Go.Clerk
open Go.Abs
set_option maxRecDepth 1000000
set_option maxHeartbeats 8000000
theorem part_calls (wd fm : Tx) (w : World) (hl : wd.length ≤ 100000) : Calls Tryz.prog 45 #[sV wd, sV fm] w fun e w' => RP w (.bool (leftC wd fm)) e w' := by
 have mixed : Tryz.prog.follows .mixedOrders = true := by kernel_rfl
 have hsz : (bs wd).size = wd.length := by simp [bs, ByteArray.size]
 obtain ⟨W0, hW0⟩ : ∃ W0, Lib.bytesWorld w 5 (bs wd) = W0 := ⟨_, rfl⟩
 have hb0 : Below w.heap.size w W0 := by rw [← hW0]; exact ⟨rfl, rfl, rfl, by rw [Lib.bytesWorld_size]; omega, fun j hj => Lib.bytesWorld_at_old w 5 (bs wd) j hj⟩
 have hcell : ∀ (i : Nat) (b : UInt8), wd[i]? = some b → W0.cell? ⟨w.heap.size, i, none⟩ = some (.int .u8 b.toNat) := fun i b hb => by
  have hi : i < (bs wd).size := by rw [hsz]; exact (List.getElem?_eq_some_iff.1 hb).1
  rw [← hW0, Lib.bytesWorld_cell w 5 (bs wd) i hi]
  have h1 := (List.getElem?_eq_some_iff.1 hb)
  obtain ⟨h1, h2⟩ := h1
  simp [bs, List.getD, hb, h2]
 have Hcell := hidC hcell
 have Hb0 := hidC hb0
 obtain ⟨cap, hcap⟩ : ∃ c, grownCap w (bs wd).size 0 5 = c := ⟨_, rfl⟩
 have hconv : (convert 9 81 (sV wd)).run Tryz.prog w = .ok (.slice (some ⟨w.heap.size, 0, none⟩) wd.length cap) W0 := by
  rw [Lib.run_convert_string_bytes w 9 81 5 (bs wd) Tryz.underlying9 Tryz.underlying81 Tryz.underlying5, hW0, hsz, ← hcap, hsz]
 obtain ⟨N, hN⟩ : ∃ N, wd.length = N := ⟨_, rfl⟩
 rw [hN] at hconv hl
 obtain ⟨T, hT⟩ : ∃ T, leftC wd fm = T := ⟨_, rfl⟩
 rw [hT]
 have HT := hidC hT
 clear hcell hb0 hW0 hcap hsz hT
 go_enter Tryz.func45, Tryz.ntmps45
 go_wp2_with fail
 go_loopg [1, 6, 10] (N + 1) (fun gk s1 s6 s10 wx => ∃ (i : Nat) (q : Tx), s1 = sV q ∧ s10 = .int .i64 (i : Int) ∧ i ≤ N ∧ N < i + gk ∧ leftC (wd.drop i) q = T ∧ wx = W0)
 case atStart => exact ⟨0, fm, rfl, rfl, by omega, by omega, HT.out, rfl⟩
 case round =>
  obtain ⟨i, q, rfl, rfl, hi, hg, hq, rfl⟩ := hrel
  by_cases hlt : i < N
  ·obtain ⟨g', rfl⟩ : ∃ g', gk = g' + 1 := ⟨gk - 1, by omega⟩
   obtain ⟨b, hb⟩ : ∃ b, wd[i]? = some b := ⟨_, List.getElem?_eq_getElem (by omega)⟩
   have hc := Hcell.out i b hb
   have hi1 : (0 : Int) ≤ (i : Int) := by omega
   have hi2 : (i : Int) < (N : Int) := by omega
   have hd : wd.drop i = b :: wd.drop (i + 1) := by
    obtain ⟨h1, h2⟩ := List.getElem?_eq_some_iff.1 hb
    rw [List.drop_eq_getElem_cons h1, h2]
   rw [hd] at hq
   clear hd hb
   cases q with
   | nil =>
    have HQ : Hid (leftC (wd.drop (i + 1)) [] = T) := hidC (by rw [leftC_nil] at hq ⊢; exact hq)
    clear hq
    go_wp2_with fail
    go_roundg g'
    case measure => omega
    case rel => exact ⟨i + 1, [], rfl, by simp, by omega, by omega, HQ.out, rfl⟩
   | cons c q =>
    rw [leftC_cons] at hq
    have HQ := hidC hq
    clear hq
    have hex : (bs (c :: q)).extract 1 (q.length + 1) = bs q := by rw [bs_extract]; simp
    have hc1 := bs_at (l := c :: q) (i := 0) (by simp) (by rw [bs_size]; simp)
    rw [List.getElem_cons_zero] at hc1
    by_cases hxc : b = c
    ·subst hxc
     rw [if_pos rfl] at HQ
     have hxe : (((b.toNat : Nat) : Int) == ((b.toNat : Nat) : Int)) = true := by simp
     go_wp2_with fail
     go_roundg g'
     case measure => omega
     case rel => exact ⟨i + 1, q, by first | rfl | rw [hex], by simp, by omega, by omega, HQ.out, rfl⟩
    ·rw [if_neg hxc] at HQ
     have hxe : (((b.toNat : Nat) : Int) == ((c.toNat : Nat) : Int)) = false := by
      rw [beq_eq_false_iff_ne]
      intro h
      exact hxc (UInt8.toNat_inj.1 (by omega))
     have Hxc := hidC hxc
     clear hxc
     go_wp2_with fail
     go_roundg g'
     case measure => omega
     case rel => exact ⟨i + 1, c :: q, rfl, by simp, by omega, by omega, HQ.out, rfl⟩
  ·obtain rfl : i = N := by omega
   rw [List.drop_of_length_le (by omega)] at hq
   cases q with
   | nil =>
    have HQ := hidC hq
    clear hq
    go_wp2_with fail
    go_ret
    exact ⟨by rw [← HQ.out]; rfl, Hb0.out⟩
   | cons c q =>
    have HQ := hidC hq
    clear hq
    go_wp2_with fail
    go_ret
    exact ⟨by rw [← HQ.out]; rfl, Hb0.out⟩
end Go.Proofs.YtjeadhfponlnnaaGreatDoor
