/-
  strings.Map at texts of ASCII, with a function that gives ASCII.
  Conditions: none; lemmas.
-/
import Derived.Test.YtcjephdjemapbaaDoorBuildM
set_option linter.unusedSimpArgs false
set_option linter.unusedVariables false
namespace Go.Proofs.YtcjephdjemapbaaDoor
open Go.RowKit Go.Shelf
set_option maxRecDepth 1000000
set_option maxHeartbeats 4000000
def MapFn (g : Nat) (lb : Array Value) (f : UInt8 → UInt8) (l : List UInt8) (w : World) : Prop :=
 ∀ (W : World) (x : UInt8), x ∈ l → Below w.heap.size w W → Calls Tryd.prog g (#[.int .i32 x.toNat] ++ lb) W fun e W' => e = .returned (.int .i32 (f x).toNat) ∧ W' = W
theorem mapText (g : Nat) (lb : Array Value) (eg : ∀ args w, (callFunc g args).run Tryd.prog w = .ok (.enter g args) w) (f : UInt8 → UInt8) (s : ByteArray) (w : World) (hs : s.size ≤ 1000)
  (ha : ∀ x ∈ s.data.toList, x.toNat < 128 ∧ (f x).toNat < 128) (hf : MapFn g lb f s.data.toList w) :
  Calls Tryd.prog 80 #[.func (.func g) #[] lb, .string s] w fun e w' => e = .returned (.string ⟨(s.data.toList.map f).toArray⟩) ∧ Below w.heap.size w w' := by
 obtain ⟨ANS, hANS⟩ : ∃ ANS, s.data.toList.map f = ANS := ⟨_, rfl⟩
 rw [hANS]
 have hlen : s.data.toList.length = s.size := by simp
 have mixed : Tryd.prog.follows .mixedOrders = true := by kernel_rfl
 go_enter Tryd.func80, Tryd.ntmps80
 go_wp2
 go_loopg [1] s.size (fun gk s1 wx => s1 = .string s ∧ ∃ pos : Nat, wx.heap[w.heap.size]? = some (.cells #[.pointer none, .slice none 0 0] 106 (0, 0)) ∧ wx.heap[w.heap.size + 1]? = some (.stringIter s pos) ∧ Below w.heap.size w wx ∧
  s.data.toList.take pos ++ (s.data.toList.drop pos).map f = ANS ∧ s.size ≤ pos + gk ∧ pos ≤ s.size)
 case atStart =>
  refine ⟨rfl, 0, ?_, ?_, ((Below.refl _ w).alloc (Nat.le_refl _) _).alloc (by simp) _, by simpa using hANS, by omega, by omega⟩
  ·have h1 := heap_alloc_new w (.cells #[.pointer none, .slice none 0 0] 106)
   exact (Below.heap_alloc _ _ _ (by simp)).trans h1
  ·have := World.iter_heap (w.alloc (.cells #[.pointer none, .slice none 0 0] 106)) s 0
   simpa using this
 case round =>
  obtain ⟨rfl, pos, hfr, hit, hbw, hsp, hfu, hps⟩ := hrel
  by_cases hlt : pos < s.size
  ·obtain ⟨g', rfl⟩ : ∃ g', gk = g' + 1 := ⟨gk - 1, by omega⟩
   have hx : s.data.toList[pos]? = some (s[pos]'hlt) := by
    rw [List.getElem?_eq_getElem (by rw [hlen]; exact hlt)]
    rfl
   obtain ⟨x, hxe⟩ : ∃ x, s[pos]'hlt = x := ⟨_, rfl⟩
   rw [hxe] at hx
   have hmem : x ∈ s.data.toList := List.mem_of_getElem? hx
   obtain ⟨hx1, hx2⟩ := ha x hmem
   have hnx : ∀ ty, (Instr.next (.pointer (some ⟨w.heap.size + 1, 0, none⟩)) true ty).run Tryd.prog wr = _ := fun ty => Lib.run_next_ascii_at wr (w.heap.size + 1) s pos ty hit hlt (by rw [hxe]; exact hx1)
   rw [hxe] at hnx
   have hdr : s.data.toList.drop pos = x :: s.data.toList.drop (pos + 1) := by
    rw [List.getElem?_eq_getElem (by rw [hlen]; exact hlt)] at hx
    rw [List.drop_eq_getElem_cons (by rw [hlen]; exact hlt), Option.some.inj hx]
   have hit2 := Lib.iterAt_heap wr (w.heap.size + 1) s pos (pos + 1) hit
   have hbw2 := Lib.below_iterAt hbw (k := w.heap.size + 1) (by omega) s (pos + 1)
   have hfr2 : (wr.iterAt (w.heap.size + 1) s (pos + 1)).heap[w.heap.size]? = _ := (Lib.iterAt_other wr (w.heap.size + 1) w.heap.size s (pos + 1) (by omega)).trans hfr
   obtain ⟨W, hWd⟩ : ∃ W, wr.iterAt (w.heap.size + 1) s (pos + 1) = W := ⟨_, rfl⟩
   rw [hWd] at hnx hit2 hbw2 hfr2
   have cS : Calls Tryd.prog g (#[.int .i32 (x.toNat : Int)] ++ lb) W _ := hf W x hmem hbw2
   obtain ⟨M, hM⟩ : ∃ M, (f x).toNat = M := ⟨_, rfl⟩
   rw [hM] at cS hx2
   obtain ⟨R, hR⟩ : ∃ R, x.toNat = R := ⟨_, rfl⟩
   rw [hR] at cS hx1 hnx
   have hstep : s.data.toList.take pos ++ (f x :: (s.data.toList.drop (pos + 1)).map f) = ANS := by rw [← hsp, hdr, List.map_cons]
   clear hit hbw hfr hWd
   by_cases hc : M = R
   ·subst hc
    have hsame : s.data.toList.take (pos + 1) ++ (s.data.toList.drop (pos + 1)).map f = ANS := by
     have hfx : f x = x := UInt8.toNat_inj.1 (by omega)
     rw [List.take_add_one, hx, ← hstep, hfx]
     simp
    have HS : Hid (s.data.toList.take (pos + 1) ++ (s.data.toList.drop (pos + 1)).map f = ANS) := hsame
    have hc2' : ¬ ((M : Int) = 65533) := by omega
    clear hsame hstep hsp hdr
    go_wp2_with (go_at_fn g; go_must (refine cS.mono ?_; rintro e W' ⟨rfl, rfl⟩))
    go_roundg g'
    case measure => omega
    case rel => exact ⟨rfl, pos + 1, hfr2, hit2, hbw2, HS.out, by omega, by omega⟩
   ·have HS : Hid (s.data.toList.take pos ++ (f x :: (s.data.toList.drop (pos + 1)).map f) = ANS) := hstep
    have hc' : ¬ ((M : Int) = (R : Int)) := by omega
    have hc2 : ¬ ((R : Int) = 65533) := by omega
    have hM0 : ¬ ((M : Int) < 0) := by omega
    clear hstep hsp hdr
    go_wp2_with (go_at_fn g; go_must (refine cS.mono ?_; rintro e W' ⟨rfl, rfl⟩))
    have hR1 : Lib.runeLen (R : Int) = 1 := by
     unfold Lib.runeLen
     rw [if_neg (by omega), if_pos (by omega)]
    have cR := Tryd.utf8_RuneLen (R : Int) W'
    rw [hR1] at cR
    refine cR.mono ?_
    rintro e W3 ⟨rfl, rfl⟩
    clear cS cR hnx
    have cG := growBuilder w.heap.size w.heap.size (s.size + 4) W3 (Nat.le_refl _) hfr2 hbw2.size (by omega)
    rw [show ((s.size + 4 : Nat) : Int) = (s.size : Int) + 4 by omega] at cG
    go_wp2_with fail
    refine cG.mono ?_
    rintro e W4 ⟨rfl, h4, b4⟩
    clear cG
    go_wp2_with fail
    have hxs : (s.extract 0 pos).size = pos := by rw [Lib.size_eq, Lib.extract_data, List.length_take, List.length_drop, hlen]; omega
    have hxd : (s.extract 0 pos).data.toList = s.data.toList.take pos := by rw [Lib.extract_data]; simp
    refine (writeStringK w.heap.size w.heap.size [] (s.extract 0 pos) W4 (Lib.IsBuilderF.of (Or.inr h4)) (by rw [hxs]; simp; omega) (Nat.le_trans hbw2.size b4.size)).mono ?_
    rintro e W5 ⟨rfl, h5w, b5, -⟩
    have hl5 : ([] ++ Lib.strCells (s.extract 0 pos)).length = pos := by simp [Lib.strCells_length, hxs]
    go_wp2_with fail
    refine (writeRuneK w.heap.size w.heap.size _ M (by omega) W5 (Or.inr h5w) (by rw [hl5]; omega) (Nat.le_trans hbw2.size (Nat.le_trans b4.size b5.size))).mono ?_
    rintro e W6 ⟨rfl, h6w, b6, -⟩
    have hb6 : Below w.heap.size w W6 := ((hbw2.trans b4).trans b5).trans b6
    have hcells : [] ++ Lib.strCells (s.extract 0 pos) ++ [.int .u8 (M : Int)] = Lib.byteCells (s.data.toList.take pos ++ [f x]) := by
     rw [List.nil_append, Lib.strCells_eq, hxd, Lib.byteCells_append, ← hM]
     rfl
    rw [hcells] at h6w
    obtain ⟨g6, cap6, hc6, hcap6⟩ : ∃ g6 cap6, W6.cell? ⟨w.heap.size, 1, none⟩ = some (.slice (some ⟨g6, 0, none⟩) (Lib.byteCells (s.data.toList.take pos ++ [f x])).length cap6) ∧ 1 ≤ cap6 := by
     obtain ⟨_, v6, hv6, hown6, _⟩ := h6w
     have hln : 1 ≤ (Lib.byteCells (s.data.toList.take pos ++ [f x])).length := by rw [Lib.byteCells_length, List.length_append]; simp
     rcases hown6.2 with ⟨_, h0⟩ | ⟨g6, cap6, _, _, rfl, _, _, _, hnc, _⟩
     ·omega
     ·exact ⟨g6, cap6, by rw [Lib.cell_of_heap hv6]; rfl, by omega⟩
    have hcapz : ¬ ((cap6 : Int) = 0) := by omega
    have hcapb : ((cap6 : Int) == 0) = false := by simp; omega
    have hpk : ((pos : Int) + 1).toNat = pos + 1 := by omega
    clear h4 b4 b5 b6 hfr2 hit2 h5w hbw2
    go_wp2_with fail
    refine (capBuilder w.heap.size _ _ cap6 W6 hc6).mono ?_
    rintro e W6' ⟨rfl, rfl⟩
    obtain ⟨s2, hs2⟩ : ∃ s2, s.extract (pos + 1) s.size = s2 := ⟨_, rfl⟩
    have hl2 : s2.data.toList = s.data.toList.drop (pos + 1) := by
     rw [← hs2, Lib.extract_data, List.take_of_length_le (by rw [List.length_drop, hlen]; omega)]
    have hz2 : s2.size = s.size - (pos + 1) := by rw [Lib.size_eq, hl2, List.length_drop, hlen]
    go_wp2_with fail
    clear hc6 hcapz hcapb hcap6
    go_loopg [] s2.size (fun gk wx => ∃ (p2 : Nat) (acc : List UInt8), Lib.IsBuilderF 106 5 w.heap.size w.heap.size (Lib.byteCells acc) wx ∧ wx.heap[W6'.heap.size]? = some (.stringIter s2 p2) ∧ Below w.heap.size w wx ∧
     acc ++ (s2.data.toList.drop p2).map f = ANS ∧ s2.size ≤ p2 + gk ∧ p2 ≤ s2.size ∧ acc.length ≤ pos + 1 + p2)
    case atStart =>
     refine ⟨0, s.data.toList.take pos ++ [f x], Lib.IsBuilderF.alloc (Or.inr h6w) _, World.iter_heap W6' s2 0, hb6.alloc hb6.size _, ?_, by omega, by omega, ?_⟩
     ·rw [List.drop_zero, hl2, List.append_assoc]; exact HS.out
     ·rw [List.length_append, List.length_take, hlen]; simp; omega
    case round =>
     obtain ⟨p2, acc, hI, hit, hbw, hacc, hfu2, hp2, hal⟩ := hrel
     have hszI : W6'.heap.size < wr.heap.size := (Array.getElem?_eq_some_iff.1 hit).1
     have hBI : w.heap.size ≤ W6'.heap.size := hb6.size
     have hBlt : w.heap.size < W6'.heap.size := h6w.lt
     by_cases hlt2 : p2 < s2.size
     ·obtain ⟨g2, rfl⟩ : ∃ g2, gk = g2 + 1 := ⟨gk - 1, by omega⟩
      have hlen2 : s2.data.toList.length = s2.size := by simp
      have hy : s2.data.toList[p2]? = some (s2[p2]'hlt2) := by
       rw [List.getElem?_eq_getElem (by rw [hlen2]; exact hlt2)]
       rfl
      obtain ⟨y, hye⟩ : ∃ y, s2[p2]'hlt2 = y := ⟨_, rfl⟩
      rw [hye] at hy
      have hmem2 : y ∈ s.data.toList := by
       have h1 := List.mem_of_getElem? hy
       rw [hl2] at h1
       exact List.mem_of_mem_drop h1
      obtain ⟨hy1, hy2⟩ := ha y hmem2
      have hnx : ∀ ty, (Instr.next (.pointer (some ⟨W6'.heap.size, 0, none⟩)) true ty).run Tryd.prog wr = _ := fun ty => Lib.run_next_ascii_at wr W6'.heap.size s2 p2 ty hit hlt2 (by rw [hye]; exact hy1)
      rw [hye] at hnx
      have hdr2 : s2.data.toList.drop p2 = y :: s2.data.toList.drop (p2 + 1) := by
       rw [List.getElem?_eq_getElem (by rw [hlen2]; exact hlt2)] at hy
       rw [List.drop_eq_getElem_cons (by rw [hlen2]; exact hlt2), Option.some.inj hy]
      have hI2 := hI.iterAt hit (p2 + 1)
      have hit2 := Lib.iterAt_heap wr W6'.heap.size s2 p2 (p2 + 1) hit
      have hbw2 := Lib.below_iterAt hbw (k := W6'.heap.size) hBI s2 (p2 + 1)
      have hsz2 : w.heap.size ≤ (wr.iterAt W6'.heap.size s2 (p2 + 1)).heap.size := by rw [Lib.iterAt_size]; omega
      obtain ⟨Wa, hWa⟩ : ∃ Wa, wr.iterAt W6'.heap.size s2 (p2 + 1) = Wa := ⟨_, rfl⟩
      rw [hWa] at hnx hI2 hit2 hbw2 hsz2
      have cS2 : Calls Tryd.prog g (#[.int .i32 (y.toNat : Int)] ++ lb) Wa _ := hf Wa y hmem2 hbw2
      obtain ⟨M2, hM2⟩ : ∃ M2, (f y).toNat = M2 := ⟨_, rfl⟩
      rw [hM2] at cS2 hy2
      have HS2 : Hid ((acc ++ [f y]) ++ (s2.data.toList.drop (p2 + 1)).map f = ANS) := by
       show _ = _
       rw [← hacc, hdr2, List.map_cons, List.append_assoc]
       rfl
      have u8w : IntKind.u8.wrap (M2 : Int) = M2 := by rw [IntWalk.u8_in] <;> omega
      have hN0 : ¬ ((M2 : Int) < 0) := by omega
      have h128 : (M2 : Int) < 128 := by omega
      clear hit hbw hI hWa hacc HS hdr2 hy
      go_wp2_with (go_at_fn g; go_must (refine cS2.mono ?_; rintro e W' ⟨rfl, rfl⟩))
      refine (writeByteK w.heap.size w.heap.size _ M2 W' hI2 (by rw [Lib.byteCells_length]; omega) hsz2).mono ?_
      rintro e W7 ⟨rfl, h7, b7, k7⟩
      go_wp2
      go_roundg g2
      case measure => omega
      case rel =>
       refine ⟨p2 + 1, acc ++ [f y], Or.inr ?_, k7.iter hit2 (by omega), hbw2.trans b7, HS2.out, by omega, by omega, by rw [List.length_append]; simp; omega⟩
       rw [Lib.byteCells_append]
       have : Lib.byteCells [f y] = [.int .u8 (M2 : Int)] := by rw [← hM2]; rfl
       rw [this]
       exact h7
     ·obtain rfl : p2 = s2.size := by omega
      have hnx : ∀ ty, (Instr.next (.pointer (some ⟨W6'.heap.size, 0, none⟩)) true ty).run Tryd.prog wr = _ := fun ty => Lib.run_next_end_at wr W6'.heap.size s2 s2.size ty hit hlt2
      go_wp2_with fail
      refine (stringK w.heap.size w.heap.size acc wr hI (by omega)).mono ?_
      rintro e W8 ⟨rfl, _, b8⟩
      go_wp2
      go_ret
      refine ⟨?_, hbw.trans b8⟩
      have hlen2 : s2.data.toList.length = s2.size := by simp
      rw [← hlen2, List.drop_length, List.map_nil, List.append_nil] at hacc
      subst hacc
      rfl
  ·obtain rfl : pos = s.size := by omega
   have hnx : ∀ ty, (Instr.next (.pointer (some ⟨w.heap.size + 1, 0, none⟩)) true ty).run Tryd.prog wr = _ := fun ty => Lib.run_next_end_at wr (w.heap.size + 1) s s.size ty hit hlt
   have cC := capBuilder w.heap.size none 0 0 wr (by rw [Lib.cell_of_heap hfr]; rfl)
   go_wp2_with fail
   refine cC.mono ?_
   rintro e W' ⟨rfl, rfl⟩
   go_wp2_with fail
   go_ret
   refine ⟨?_, hbw⟩
   rw [← hsp, ← hlen, List.drop_length, List.take_length, List.map_nil, List.append_nil]
   rfl
end Go.Proofs.YtcjephdjemapbaaDoor
