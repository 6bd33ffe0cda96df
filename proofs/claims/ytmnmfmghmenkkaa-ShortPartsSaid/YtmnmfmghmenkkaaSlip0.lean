/-
  The functions that build texts byte by byte: taken, sized, made.
  Conditions: none; lemmas.
-/
import Derived.Test.YtmnmfmghmenkkaaBuild
import Derived.Test.YtmnmfmghmenkkaaPurBase
import Derived.Handy
set_option linter.unusedSimpArgs false
set_option linter.unusedVariables false
namespace Go.Proofs.Ytmnmfmghmenkkaa
open Go.RowKit
set_option maxRecDepth 100000
set_option maxHeartbeats 1000000
theorem hid {p : Prop} (h : p) : Hid p := h
theorem tk_len (f : Nat → Bool) (l : List UInt8) : ∀ k, (tk f l k).length ≤ k
 | 0 => Nat.le_refl _
 | k + 1 => by
  have := tk_len f l k
  simp only [tk, List.length_append]
  split
  ·cases l[k]? <;> simp <;> omega
  ·simp; omega
theorem taken_calls (s : ByteArray) (m : Int) (w : World) (hs : s.size ≤ 140737488355327) :
  Calls Try.prog 53 #[.string s, .int .i64 m] w fun e w' => e = .returned (.string ⟨(tk (tkB m) s.data.toList s.size).toArray⟩) ∧ Below w.heap.size w w' := by
 go_enter Try.func53, Try.ntmps53
 go_wp2_with fail
 go_loopw [9] (fun i wr => ∃ k : Nat, k ≤ s.size ∧ i = .int .i64 k ∧ Hid (Lib.IsBuilder 94 5 w.heap.size w.heap.size (Lib.byteCells (tk (tkB m) s.data.toList k)) wr) ∧ Hid (Below w.heap.size w wr)) (fun i _ => s.size - (intOf i).toNat)
 case atStart => exact ⟨0, Nat.zero_le _, rfl, hid (Lib.fresh_isBuilder 94 5 w), hid ((Below.refl w.heap.size w).alloc (Nat.le_refl _) _)⟩
 case round =>
  obtain ⟨k, hk, rfl, HB, HW⟩ := hrel
  by_cases hkr : k < s.size
  ·go_wp2_with fail
   ·have hb : tkB m k = true := by assumption
    have hBw : w.heap.size ≤ wr.heap.size := HW.out.size
    have hl := tk_len (tkB m) s.data.toList k
    refine (writeByte w.heap.size w.heap.size _ _ wr HB.out (by rw [Lib.byteCells_length]; omega) hBw).mono ?_
    rintro e w3 ⟨rfl, h3, hb3⟩
    have hn : Lib.byteCells (tk (tkB m) s.data.toList k) ++ [.int .u8 (s[k].toNat : Int)] = Lib.byteCells (tk (tkB m) s.data.toList (k + 1)) := by
     have hg : s.data.toList[k]? = some s[k] := by
      rw [List.getElem?_eq_getElem (by simpa using hkr)]
      rfl
     simp only [tk, hb, if_true, hg, Option.toList_some, Lib.byteCells_append]
     rfl
    rw [hn] at h3
    have H3 : Hid (Lib.IsBuilder 94 5 w.heap.size w.heap.size (Lib.byteCells (tk (tkB m) s.data.toList (k + 1))) w3) := hid (Or.inr h3)
    have Hb3 : Hid (Below w.heap.size w w3) := hid (HW.out.trans hb3)
    clear h3 hb3 hn
    go_wp2
    exact ⟨⟨k + 1, by omega, by go_num, H3, Hb3⟩, by simp [intOf]; omega⟩
   ·have hb : tkB m k = false := by assumption
    have hn : tk (tkB m) s.data.toList (k + 1) = tk (tkB m) s.data.toList k := by simp [tk, hb]
    exact ⟨⟨k + 1, by omega, by go_num, by rw [hn]; exact HB, HW⟩, by simp [intOf]; omega⟩
  ·obtain rfl : k = s.size := by omega
   have hBw : w.heap.size ≤ wr.heap.size := HW.out.size
   go_wp2_with fail
   refine (builderString w.heap.size w.heap.size _ wr HB.out hBw).mono ?_
   rintro e w5 ⟨rfl, hb5⟩
   have Hb5 : Hid (Below w.heap.size w w5) := hid (HW.out.trans hb5)
   clear hb5
   go_wp2
   go_ret
   exact ⟨rfl, Hb5.out⟩
theorem abc_get (i : Nat) (h : i < (ByteArray.mk #[97, 98, 99, 100, 101, 102]).size) : (ByteArray.mk #[97, 98, 99, 100, 101, 102])[i] = abc.getD i 0 := by
 have h6 : i < 6 := h
 match i, h6 with
 | 0, _ | 1, _ | 2, _ | 3, _ | 4, _ | 5, _ => rfl
theorem wrap_u8 (c : UInt8) : wrap64 (c.toNat : Int) = c.toNat := by
 have := c.toNat_lt
 rw [IntWalk.wrap64_in] <;> omega
theorem idx (c : UInt8) (k : Int) (h : ((wrap64 (c.toNat : Int)).tmod k).toNat < (ByteArray.mk #[97, 98, 99, 100, 101, 102]).size) : (ByteArray.mk #[97, 98, 99, 100, 101, 102])[((wrap64 (c.toNat : Int)).tmod k).toNat]'h = lt k c := by
 rw [abc_get]
 unfold lt
 rw [wrap_u8]
theorem tmod_lt (a : Nat) (k : Nat) (hk : 1 ≤ k) (h6 : k ≤ 6) : 0 ≤ (a : Int).tmod k ∧ (a : Int).tmod k < 6 := by
 rw [Int.tmod_eq_emod_of_nonneg (by omega)]
 have h1 : (a : Int) % k = ((a % k : Nat) : Int) := by simp
 have := Nat.mod_lt a (show 0 < k by omega)
 rw [h1]
 omega
theorem slice52 (w : World) (b o n : Nat) (hn : n ≤ 10) : (Instr.sliceAt 52 (.pointer (some ⟨b, o, none⟩)) none (some (.int .i64 n)) none).run Try.prog w = .ok (.slice (some ⟨b, o, none⟩) n 10) w := by
 have ha : Try.prog.arrayLen 52 = 10 := by simp [Program.arrayLen, Try.underlying52]
 have he : Try.prog.elem 52 = 5 := by simp [Program.elem, Try.underlying52]
 obtain ⟨i0, hi, hz0, hz1, hz2⟩ := info_parts Try.Builder_Extra_169.infoByte
 rw [run_sliceAt_array_h w 52 ⟨b, o, none⟩ (by rw [ha, he]; exact Try.underlying52) .i64 (n : Int) (by omega) (by rw [ha]; omega), ha, he]
 have hs : (sizeOf 5).run Try.prog w = .ok 1 w := by
  have hi' : Try.prog.info? 5 = some i0 := hi
  simp [sizeOf, typeInfo, hi', hz1, go_sem]
 rw [hs]
 simp [Result.andThen, slicedAt, Addr.add]
theorem sized_calls (xs : List UInt8) (hx : xs.length = 11) (n k : Nat) (w : World) (hn : n ≤ 10) (hk : 1 ≤ k) (hk6 : k ≤ 6) :
  Calls Try.prog 48 #[.agg (Lib.byteCells xs).toArray, .int .i64 n, .int .i64 k] w fun e w' => e = .returned (.string ⟨(((xs.drop 1).take n).map (lt k)).toArray⟩) ∧ Below w.heap.size w w' := by
 go_enter Try.func48, Try.ntmps48
 go_wp2_with fail
 rw [slice52 _ _ _ _ hn]
 simp only [Result.andThen]
 rw [Oper.upon_value]
 go_wp2_with fail
 have hxb : ∀ j, j < 10 → ∃ c : UInt8, xs[1 + j]? = some c := fun j hj => ⟨_, List.getElem?_eq_getElem (by omega)⟩
 have Hx := hid hxb
 clear hxb
 go_loopw [14] (fun i wr => ∃ k1 : Nat, k1 ≤ n ∧ i = .int .i64 k1 ∧ Hid (Lib.IsBuilder 94 5 (w.heap.size + 1) (w.heap.size + 1) (Lib.byteCells (((xs.drop 1).take k1).map (lt k))) wr) ∧ Hid (Below (w.heap.size + 1) (w.alloc (.cells (Lib.byteCells xs).toArray 54)) wr)) (fun i _ => n - (intOf i).toNat)
 case atStart =>
  have h := Lib.fresh_isBuilder 94 5 (w.alloc (.cells (Lib.byteCells xs).toArray 54))
  have hs : (w.alloc (.cells (Lib.byteCells xs).toArray 54)).heap.size = w.heap.size + 1 := by simp
  rw [hs] at h
  exact ⟨0, Nat.zero_le _, rfl, hid (by simpa [Lib.byteCells] using h), hid ((Below.refl _ _).alloc (by simp) _)⟩
 case round =>
  obtain ⟨k1, hk1, rfl, HB, HW⟩ := hrel
  by_cases hkr : k1 < n
  ·obtain ⟨c, hc⟩ := Hx.out k1 (by omega)
   have hcell : wr.cell? ⟨w.heap.size, 1 + k1, none⟩ = some (.int .u8 c.toNat) := by
    rw [HW.out.cell (p := ⟨w.heap.size, 1 + k1, none⟩) (Nat.lt_succ_self _)]
    simp only [World.cell?, heap_alloc_new]
    simp [Lib.byteCells, hc]
   have hm := tmod_lt c.toNat k hk hk6
   go_wp2_with fail
   ·have hBw : w.heap.size + 1 ≤ wr.heap.size := by have := HW.out.size; simp at this; omega
    refine (writeByte _ _ _ _ wr HB.out (by rw [Lib.byteCells_length]; simp; omega) hBw).mono ?_
    rintro e w3 ⟨rfl, h3, hb3⟩
    have hn : Lib.byteCells (((xs.drop 1).take k1).map (lt k)) ++ [.int .u8 ((lt k c).toNat : Int)] = Lib.byteCells (((xs.drop 1).take (k1 + 1)).map (lt k)) := by
     have hd : (xs.drop 1)[k1]? = some c := by rw [List.getElem?_drop]; exact hc
     rw [List.take_add_one, hd, List.map_append, Lib.byteCells_append]
     rfl
    rw [idx c k _, hn] at h3
    have H3 := hid (Or.inr h3 : Lib.IsBuilder 94 5 (w.heap.size + 1) (w.heap.size + 1) (Lib.byteCells (((xs.drop 1).take (k1 + 1)).map (lt k))) w3)
    have Hb3 := hid (HW.out.trans hb3)
    clear h3 hb3 hn hm
    go_wp2
    exact ⟨⟨k1 + 1, by omega, by go_num, H3, Hb3⟩, by simp [intOf]; omega⟩
   ·rename_i hne
    rw [wrap_u8] at hne
    exact absurd hm hne
  ·obtain rfl : k1 = n := by omega
   have hBw : w.heap.size + 1 ≤ wr.heap.size := by have := HW.out.size; simp at this; omega
   go_wp2_with fail
   refine (builderString _ _ _ wr HB.out hBw).mono ?_
   rintro e w5 ⟨rfl, hb5⟩
   have Hb5 : Hid (Below w.heap.size w w5) := hid (((Below.refl w.heap.size w).alloc (Nat.le_refl _) _).trans ((HW.out.trans hb5).mono (by omega)))
   clear hb5
   go_wp2
   go_ret
   refine ⟨?_, Hb5.out⟩
   simp [go_sem]
theorem made_calls (xs : List UInt8) (hx : xs.length = 11) (n k : Nat) (w : World) (c0 : UInt8) (h0 : xs[0]? = some c0) (hn : n ≤ 10) (hk : 1 ≤ k) (hk6 : k ≤ 6) :
  Calls Try.prog 51 #[.agg (Lib.byteCells xs).toArray, .int .i64 n, .int .i64 k] w fun e w' => e = .returned (.string ⟨(((xs.drop 1).take (c0.toNat % (n + 1))).map (lt k)).toArray⟩) ∧ Below w.heap.size w w' := by
 go_enter Try.func51, Try.ntmps51
 have hcell0 : ((w.alloc (.cells (Lib.byteCells xs).toArray 54)).alloc (.cells #[.pointer none, .slice none 0 0] 94)).cell? ⟨w.heap.size, 0, none⟩ = some (.int .u8 c0.toNat) := by
  have hs : (w.alloc (.cells (Lib.byteCells xs).toArray 54)).heap.size = w.heap.size + 1 := by simp
  simp only [World.cell?]
  rw [heap_alloc_old _ _ (by rw [hs]; omega), heap_alloc_new]
  simp [Lib.byteCells, h0]
 go_wp2_with fail
 obtain ⟨m, hm, hmn⟩ : ∃ m : Nat, c0.toNat % (n + 1) = m ∧ m ≤ 10 := ⟨_, rfl, by have := Nat.mod_lt c0.toNat (show 0 < n + 1 by omega); omega⟩
 have hmi : (wrap64 (c0.toNat : Int)).tmod ((n : Int) + 1) = (m : Int) := by
  rw [wrap_u8, Int.tmod_eq_emod_of_nonneg (by omega), ← hm]
  simp
 rw [hmi, slice52 _ _ _ _ hmn]
 simp only [Result.andThen]
 rw [Oper.upon_value]
 go_wp2_with fail
 have hxb : ∀ j, j < 10 → ∃ c : UInt8, xs[1 + j]? = some c := fun j hj => ⟨_, List.getElem?_eq_getElem (by omega)⟩
 have Hx := hid hxb
 clear hxb
 go_loopw [19] (fun i wr => ∃ k1 : Nat, k1 ≤ m ∧ i = .int .i64 k1 ∧ Hid (Lib.IsBuilder 94 5 (w.heap.size + 1) (w.heap.size + 1) (Lib.byteCells (((xs.drop 1).take k1).map (lt k))) wr) ∧ Hid (Below (w.heap.size + 1) (w.alloc (.cells (Lib.byteCells xs).toArray 54)) wr)) (fun i _ => m - (intOf i).toNat)
 case atStart =>
  have h := Lib.fresh_isBuilder 94 5 (w.alloc (.cells (Lib.byteCells xs).toArray 54))
  have hs : (w.alloc (.cells (Lib.byteCells xs).toArray 54)).heap.size = w.heap.size + 1 := by simp
  rw [hs] at h
  exact ⟨0, Nat.zero_le _, rfl, hid (by simpa [Lib.byteCells] using h), hid ((Below.refl _ _).alloc (by simp) _)⟩
 case round =>
  obtain ⟨k1, hk1, rfl, HB, HW⟩ := hrel
  by_cases hkr : k1 < m
  ·obtain ⟨c, hc⟩ := Hx.out k1 (by omega)
   have hcell : wr.cell? ⟨w.heap.size, 1 + k1, none⟩ = some (.int .u8 c.toNat) := by
    rw [HW.out.cell (p := ⟨w.heap.size, 1 + k1, none⟩) (Nat.lt_succ_self _)]
    simp only [World.cell?, heap_alloc_new]
    simp [Lib.byteCells, hc]
   have hm1 := tmod_lt c.toNat k hk hk6
   go_wp2_with fail
   ·have hBw : w.heap.size + 1 ≤ wr.heap.size := by have := HW.out.size; simp at this; omega
    refine (writeByte _ _ _ _ wr HB.out (by rw [Lib.byteCells_length]; simp; omega) hBw).mono ?_
    rintro e w3 ⟨rfl, h3, hb3⟩
    have hn : Lib.byteCells (((xs.drop 1).take k1).map (lt k)) ++ [.int .u8 ((lt k c).toNat : Int)] = Lib.byteCells (((xs.drop 1).take (k1 + 1)).map (lt k)) := by
     have hd : (xs.drop 1)[k1]? = some c := by rw [List.getElem?_drop]; exact hc
     rw [List.take_add_one, hd, List.map_append, Lib.byteCells_append]
     rfl
    rw [idx c k _, hn] at h3
    have H3 := hid (Or.inr h3 : Lib.IsBuilder 94 5 (w.heap.size + 1) (w.heap.size + 1) (Lib.byteCells (((xs.drop 1).take (k1 + 1)).map (lt k))) w3)
    have Hb3 := hid (HW.out.trans hb3)
    clear h3 hb3 hn hm1
    go_wp2
    exact ⟨⟨k1 + 1, by omega, by go_num, H3, Hb3⟩, by simp [intOf]; omega⟩
   ·rename_i hne
    rw [wrap_u8] at hne
    exact absurd hm1 hne
  ·obtain rfl : k1 = m := by omega
   have hBw : w.heap.size + 1 ≤ wr.heap.size := by have := HW.out.size; simp at this; omega
   go_wp2_with fail
   refine (builderString _ _ _ wr HB.out hBw).mono ?_
   rintro e w5 ⟨rfl, hb5⟩
   have Hb5 : Hid (Below w.heap.size w w5) := hid (((Below.refl w.heap.size w).alloc (Nat.le_refl _) _).trans ((HW.out.trans hb5).mono (by omega)))
   clear hb5
   go_wp2
   go_ret
   refine ⟨?_, Hb5.out⟩
   rw [hm]
   simp [go_sem]
end Go.Proofs.Ytmnmfmghmenkkaa
