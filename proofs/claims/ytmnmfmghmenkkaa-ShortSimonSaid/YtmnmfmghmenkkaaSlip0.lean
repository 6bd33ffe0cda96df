/-
  A text that is built byte by byte: the functions of strings.Builder.
  The functions that build texts byte by byte: taken, sized, made.
  The opposite of a text (slices.Reverse: the kit's contract, laid for this seat by the kit's own programs).
  Conditions: none; definitions and lemmas.
-/
import Derived.Test.YtmnmfmghmenkkaaShelf
import Derived.WalkKit
import Derived.Test.YtmnmfmghmenkkaaPurBase
import Derived.Handy
import Derived.Shelf.SlicesE.Reverse
import Derived.Test.YtmnmfmghmenkkaaBase
set_option linter.unusedSimpArgs false
set_option linter.unusedVariables false
namespace Go.Proofs.Ytmnmfmghmenkkaa
open Go.RowKit
set_option maxRecDepth 100000
set_option maxHeartbeats 1000000
theorem sizeBuilder : ∃ j, Try.prog.info? 94 = some j ∧ j.size = 2 := Option.map_eq_some_iff.1 Try.Builder_Extra_169.sizeBuilder
theorem copyCheck_used (b : Nat) (w : World) (h0 : w.cell? ⟨b, 0, none⟩ = some (.pointer (some ⟨b, 0, none⟩))) :
  Calls Try.prog 83 #[.pointer (some ⟨b, 0, none⟩)] w fun e w' => e = .returned (.tuple #[]) ∧ w' = w := by
 obtain ⟨j, hj, _⟩ := sizeBuilder
 go_enter Try.func83, Try.ntmps83
 go_wp2
 rw [Lib.run_neq_ptr_same w _ Try.underlying92 hj]
 go_wp2
 go_end0
 exact ⟨rfl, rfl⟩
theorem copyCheck_fresh (b : Nat) (w : World) (h0 : w.cell? ⟨b, 0, none⟩ = some (.pointer none)) (hsh : w.shape? b = some (94, 2)) (hfz : w.frozen? ⟨b, 0, none⟩ = false) :
  Calls Try.prog 83 #[.pointer (some ⟨b, 0, none⟩)] w fun e w' => e = .returned (.tuple #[]) ∧ w' = w.setCell ⟨b, 0, none⟩ (.pointer (some ⟨b, 0, none⟩)) := by
 obtain ⟨j, hj, hjs⟩ := sizeBuilder
 go_enter Try.func83, Try.ntmps83
 go_wp2
 rw [Lib.run_to_unsafe w ⟨b, 0, none⟩ Try.underlying92 Try.underlying116 hj (by rw [hjs]; decide) hsh (Nat.zero_lt_succ 1)]
 simp only [Result.andThen]
 rw [Oper.upon_value]
 go_wp2
 rw [run_callFunc_extern Try.func87 (by kernel_rfl) (by kernel_rfl) (by kernel_rfl) (e := Extern.AbiNoEscape.same) (by kernel_rfl)]
 rw [Lib.run_noEscape]
 simp only [Result.andThen]
 rw [Oper.upon_value]
 go_wp2
 rw [Lib.run_from_unsafe w ⟨b, 0, none⟩ Try.underlying116 Try.underlying92 hj hsh Try.Builder_Extra_169.liesBuilder]
 simp only [Result.andThen]
 rw [Oper.upon_value]
 go_wp2
 go_end0
 exact ⟨rfl, rfl⟩
theorem copyCheck (B b : Nat) (bs : List Value) (w : World) (h : Lib.IsBuilder 94 5 B b bs w) :
  Calls Try.prog 83 #[.pointer (some ⟨b, 0, none⟩)] w fun e w' => e = .returned (.tuple #[]) ∧ (Lib.BuilderAt 94 5 B b (.pointer (some ⟨b, 0, none⟩)) bs w' ∧ Below B w w') := by
 rcases h with h | h
 ·refine (copyCheck_fresh b w h.cell0 h.shape h.frozen0).mono ?_
  rintro e w' ⟨rfl, rfl⟩
  exact ⟨rfl, h.used _, (Below.refl B w).setCell (p := ⟨b, 0, none⟩) h.1 _⟩
 ·refine (copyCheck_used b w h.cell0).mono ?_
  rintro e w' ⟨rfl, rfl⟩
  exact ⟨rfl, h, Below.refl B _⟩
theorem writeByte (B b : Nat) (bs : List Value) (c : Int) (w : World) (h : Lib.IsBuilder 94 5 B b bs w) (hlen : bs.length + 1 ≤ 140737488355328) (hBw : B ≤ w.heap.size) :
  Calls Try.prog 76 #[.pointer (some ⟨b, 0, none⟩), .int .u8 c] w fun e w' => e = .returned .nilIface ∧ (Lib.BuilderAt 94 5 B b (.pointer (some ⟨b, 0, none⟩)) (bs ++ [.int .u8 c]) w' ∧ Below B w w') := by
 obtain ⟨i0, hi, hz0, hz1, hz2⟩ := info_parts Try.Builder_Extra_169.infoByte
 go_enter Try.func76, Try.ntmps76
 go_wp2_with (go_at_call 83; refine (copyCheck B b bs _ h).mono ?_)
 rintro e w1 ⟨rfl, h1, hb1⟩
 obtain ⟨hB, v, hbk, hown, hne⟩ := h1
 have c0 : w1.cell? ⟨b, 0, none⟩ = some (.pointer (some ⟨b, 0, none⟩)) := by rw [Lib.cell_of_heap hbk]; rfl
 have c1 : w1.cell? ⟨b, 1, none⟩ = some v := by rw [Lib.cell_of_heap hbk]; rfl
 go_wp2_with (at_builtin; refine wpList_append_own _ rfl _ _ 75 rfl B 5 i0 (.int .u8 0) 1 1 Try.underlying75 hi hz0 hz1 hz2 rfl (by decide) _ _ _ rfl (hown.alloc _) ⟨w1.heap.size, 0, none⟩ 1 1 [.int .u8 c] rfl rfl ?c1 ?c2 ?c3 ?c4 ?c5 ?_)
 case c1 =>
  intro j u hj
  match j, hj with
  | 0, hj => simp at hj; subst hj; simp [Addr.add]
 case c2 => intro u hu; simp at hu; subst hu; rfl
 case c3 => unfold maxLen; omega
 case c4 => omega
 case c5 => have := hb1.size; simp; omega
 intro v' w2 hown' hgrow _
 have hlt : b < w1.heap.size := by
  rcases Nat.lt_or_ge b w1.heap.size with h' | h'
  ·exact h'
  ·simp [Array.getElem?_eq_none h'] at hbk
 have hb2 : w2.heap[b]? = some (.cells #[.pointer (some ⟨b, 0, none⟩), v] 94 (0, 0)) := by
  rw [hgrow.block b (by simp; omega) (fun e => hne e.symm), Lib.alloc_old w1 _ b hlt]
  exact hbk
 have d0 : w2.cell? ⟨b, 0, none⟩ = some (.pointer (some ⟨b, 0, none⟩)) := by rw [Lib.cell_of_heap hb2]; rfl
 have d1 : w2.cell? ⟨b, 1, none⟩ = some v := by rw [Lib.cell_of_heap hb2]; rfl
 have f1 : w2.frozen? ⟨b, 1, none⟩ = false := Lib.frozen_of_heap hb2 1
 obtain ⟨g, cap, rfl⟩ : ∃ g cap, v' = .slice (some ⟨g, 0, none⟩) (bs.length + 1) cap := by
  rcases hown'.2 with ⟨_, h0⟩ | ⟨g, cap, cur, hv, _⟩
  ·omega
  ·exact ⟨g, cap, hv⟩
 go_wp2
 go_ret
 refine ⟨rfl, ?_, ?_⟩
 ·exact Lib.BuilderAt.put (T := 94) (e := 5) hB hb2 (bs' := bs ++ [.int .u8 c]) (by simpa using hown') Try.Builder_Extra_169.neB5
 ·exact ((hb1.alloc (by have := hb1.size; omega) _).grown hgrow (by have := hb1.size; simp; omega) (fun k hk => (hown.lt k hk).1)).setCell (p := ⟨b, 1, none⟩) hB _
theorem builderString (B b : Nat) (l : List UInt8) (w : World) (h : Lib.IsBuilder 94 5 B b (Lib.byteCells l) w) (hBw : B ≤ w.heap.size) :
  Calls Try.prog 77 #[.pointer (some ⟨b, 0, none⟩)] w fun e w' => e = .returned (.string ⟨l.toArray⟩) ∧ Below B w w' := Any.Builder_String_any Try.lays169 Try.Builder_Extra_169 B b l w h hBw
end Go.Proofs.Ytmnmfmghmenkkaa
set_option linter.unusedSimpArgs false
set_option linter.unusedVariables false
namespace Go.Proofs.Ytmnmfmghmenkkaa
open Go.RowKit
set_option maxRecDepth 100000
set_option maxHeartbeats 1000000
theorem hid {p : Prop} (h : p) : Hid p := h
theorem tk_len (f : Nat → Bool) (l : List UInt8) : ∀ k, (tk f l k).length ≤ k
 | 0 => Nat.le_refl _
 | k + 1 => by
  have := tk_len f l k
  simp only [tk, List.length_append]
  split
  ·cases l[k]? <;> simp <;> omega
  ·simp; omega
theorem taken_calls (s : ByteArray) (m : Int) (w : World) (hs : s.size ≤ 140737488355327) :
  Calls Try.prog 53 #[.string s, .int .i64 m] w fun e w' => e = .returned (.string ⟨(tk (tkB m) s.data.toList s.size).toArray⟩) ∧ Below w.heap.size w w' := by
 go_enter Try.func53, Try.ntmps53
 go_wp2_with fail
 go_loopw [9] (fun i wr => ∃ k : Nat, k ≤ s.size ∧ i = .int .i64 k ∧ Hid (Lib.IsBuilder 94 5 w.heap.size w.heap.size (Lib.byteCells (tk (tkB m) s.data.toList k)) wr) ∧ Hid (Below w.heap.size w wr)) (fun i _ => s.size - (intOf i).toNat)
 case atStart => exact ⟨0, Nat.zero_le _, rfl, hid (Lib.fresh_isBuilder 94 5 w), hid ((Below.refl w.heap.size w).alloc (Nat.le_refl _) _)⟩
 case round =>
  obtain ⟨k, hk, rfl, HB, HW⟩ := hrel
  by_cases hkr : k < s.size
  ·go_wp2_with fail
   ·have hb : tkB m k = true := by assumption
    have hBw : w.heap.size ≤ wr.heap.size := HW.out.size
    have hl := tk_len (tkB m) s.data.toList k
    refine (writeByte w.heap.size w.heap.size _ _ wr HB.out (by rw [Lib.byteCells_length]; omega) hBw).mono ?_
    rintro e w3 ⟨rfl, h3, hb3⟩
    have hn : Lib.byteCells (tk (tkB m) s.data.toList k) ++ [.int .u8 (s[k].toNat : Int)] = Lib.byteCells (tk (tkB m) s.data.toList (k + 1)) := by
     have hg : s.data.toList[k]? = some s[k] := by
      rw [List.getElem?_eq_getElem (by simpa using hkr)]
      rfl
     simp only [tk, hb, if_true, hg, Option.toList_some, Lib.byteCells_append]
     rfl
    rw [hn] at h3
    have H3 : Hid (Lib.IsBuilder 94 5 w.heap.size w.heap.size (Lib.byteCells (tk (tkB m) s.data.toList (k + 1))) w3) := hid (Or.inr h3)
    have Hb3 : Hid (Below w.heap.size w w3) := hid (HW.out.trans hb3)
    clear h3 hb3 hn
    go_wp2
    exact ⟨⟨k + 1, by omega, by go_num, H3, Hb3⟩, by simp [intOf]; omega⟩
   ·have hb : tkB m k = false := by assumption
    have hn : tk (tkB m) s.data.toList (k + 1) = tk (tkB m) s.data.toList k := by simp [tk, hb]
    exact ⟨⟨k + 1, by omega, by go_num, by rw [hn]; exact HB, HW⟩, by simp [intOf]; omega⟩
  ·obtain rfl : k = s.size := by omega
   have hBw : w.heap.size ≤ wr.heap.size := HW.out.size
   go_wp2_with fail
   refine (builderString w.heap.size w.heap.size _ wr HB.out hBw).mono ?_
   rintro e w5 ⟨rfl, hb5⟩
   have Hb5 : Hid (Below w.heap.size w w5) := hid (HW.out.trans hb5)
   clear hb5
   go_wp2
   go_ret
   exact ⟨rfl, Hb5.out⟩
theorem abc_get (i : Nat) (h : i < (ByteArray.mk #[97, 98, 99, 100, 101, 102]).size) : (ByteArray.mk #[97, 98, 99, 100, 101, 102])[i] = abc.getD i 0 := by
 have h6 : i < 6 := h
 match i, h6 with
 | 0, _ | 1, _ | 2, _ | 3, _ | 4, _ | 5, _ => rfl
theorem wrap_u8 (c : UInt8) : wrap64 (c.toNat : Int) = c.toNat := by
 have := c.toNat_lt
 rw [IntWalk.wrap64_in] <;> omega
theorem idx (c : UInt8) (k : Int) (h : ((wrap64 (c.toNat : Int)).tmod k).toNat < (ByteArray.mk #[97, 98, 99, 100, 101, 102]).size) : (ByteArray.mk #[97, 98, 99, 100, 101, 102])[((wrap64 (c.toNat : Int)).tmod k).toNat]'h = lt k c := by
 rw [abc_get]
 unfold lt
 rw [wrap_u8]
theorem tmod_lt (a : Nat) (k : Nat) (hk : 1 ≤ k) (h6 : k ≤ 6) : 0 ≤ (a : Int).tmod k ∧ (a : Int).tmod k < 6 := by
 rw [Int.tmod_eq_emod_of_nonneg (by omega)]
 have h1 : (a : Int) % k = ((a % k : Nat) : Int) := by simp
 have := Nat.mod_lt a (show 0 < k by omega)
 rw [h1]
 omega
theorem slice52 (w : World) (b o n : Nat) (hn : n ≤ 10) : (Instr.sliceAt 52 (.pointer (some ⟨b, o, none⟩)) none (some (.int .i64 n)) none).run Try.prog w = .ok (.slice (some ⟨b, o, none⟩) n 10) w := by
 have ha : Try.prog.arrayLen 52 = 10 := by simp [Program.arrayLen, Try.underlying52]
 have he : Try.prog.elem 52 = 5 := by simp [Program.elem, Try.underlying52]
 obtain ⟨i0, hi, hz0, hz1, hz2⟩ := info_parts Try.Builder_Extra_169.infoByte
 rw [run_sliceAt_array_h w 52 ⟨b, o, none⟩ (by rw [ha, he]; exact Try.underlying52) .i64 (n : Int) (by omega) (by rw [ha]; omega), ha, he]
 have hs : (sizeOf 5).run Try.prog w = .ok 1 w := by
  have hi' : Try.prog.info? 5 = some i0 := hi
  simp [sizeOf, typeInfo, hi', hz1, go_sem]
 rw [hs]
 simp [Result.andThen, slicedAt, Addr.add]
theorem sized_calls (xs : List UInt8) (hx : xs.length = 11) (n k : Nat) (w : World) (hn : n ≤ 10) (hk : 1 ≤ k) (hk6 : k ≤ 6) :
  Calls Try.prog 48 #[.agg (Lib.byteCells xs).toArray, .int .i64 n, .int .i64 k] w fun e w' => e = .returned (.string ⟨(((xs.drop 1).take n).map (lt k)).toArray⟩) ∧ Below w.heap.size w w' := by
 go_enter Try.func48, Try.ntmps48
 go_wp2_with fail
 rw [slice52 _ _ _ _ hn]
 simp only [Result.andThen]
 rw [Oper.upon_value]
 go_wp2_with fail
 have hxb : ∀ j, j < 10 → ∃ c : UInt8, xs[1 + j]? = some c := fun j hj => ⟨_, List.getElem?_eq_getElem (by omega)⟩
 have Hx := hid hxb
 clear hxb
 go_loopw [14] (fun i wr => ∃ k1 : Nat, k1 ≤ n ∧ i = .int .i64 k1 ∧ Hid (Lib.IsBuilder 94 5 (w.heap.size + 1) (w.heap.size + 1) (Lib.byteCells (((xs.drop 1).take k1).map (lt k))) wr) ∧ Hid (Below (w.heap.size + 1) (w.alloc (.cells (Lib.byteCells xs).toArray 54)) wr)) (fun i _ => n - (intOf i).toNat)
 case atStart =>
  have h := Lib.fresh_isBuilder 94 5 (w.alloc (.cells (Lib.byteCells xs).toArray 54))
  have hs : (w.alloc (.cells (Lib.byteCells xs).toArray 54)).heap.size = w.heap.size + 1 := by simp
  rw [hs] at h
  exact ⟨0, Nat.zero_le _, rfl, hid (by simpa [Lib.byteCells] using h), hid ((Below.refl _ _).alloc (by simp) _)⟩
 case round =>
  obtain ⟨k1, hk1, rfl, HB, HW⟩ := hrel
  by_cases hkr : k1 < n
  ·obtain ⟨c, hc⟩ := Hx.out k1 (by omega)
   have hcell : wr.cell? ⟨w.heap.size, 1 + k1, none⟩ = some (.int .u8 c.toNat) := by
    rw [HW.out.cell (p := ⟨w.heap.size, 1 + k1, none⟩) (Nat.lt_succ_self _)]
    simp only [World.cell?, heap_alloc_new]
    simp [Lib.byteCells, hc]
   have hm := tmod_lt c.toNat k hk hk6
   go_wp2_with fail
   ·have hBw : w.heap.size + 1 ≤ wr.heap.size := by have := HW.out.size; simp at this; omega
    refine (writeByte _ _ _ _ wr HB.out (by rw [Lib.byteCells_length]; simp; omega) hBw).mono ?_
    rintro e w3 ⟨rfl, h3, hb3⟩
    have hn : Lib.byteCells (((xs.drop 1).take k1).map (lt k)) ++ [.int .u8 ((lt k c).toNat : Int)] = Lib.byteCells (((xs.drop 1).take (k1 + 1)).map (lt k)) := by
     have hd : (xs.drop 1)[k1]? = some c := by rw [List.getElem?_drop]; exact hc
     rw [List.take_add_one, hd, List.map_append, Lib.byteCells_append]
     rfl
    rw [idx c k _, hn] at h3
    have H3 := hid (Or.inr h3 : Lib.IsBuilder 94 5 (w.heap.size + 1) (w.heap.size + 1) (Lib.byteCells (((xs.drop 1).take (k1 + 1)).map (lt k))) w3)
    have Hb3 := hid (HW.out.trans hb3)
    clear h3 hb3 hn hm
    go_wp2
    exact ⟨⟨k1 + 1, by omega, by go_num, H3, Hb3⟩, by simp [intOf]; omega⟩
   ·rename_i hne
    rw [wrap_u8] at hne
    exact absurd hm hne
  ·obtain rfl : k1 = n := by omega
   have hBw : w.heap.size + 1 ≤ wr.heap.size := by have := HW.out.size; simp at this; omega
   go_wp2_with fail
   refine (builderString _ _ _ wr HB.out hBw).mono ?_
   rintro e w5 ⟨rfl, hb5⟩
   have Hb5 : Hid (Below w.heap.size w w5) := hid (((Below.refl w.heap.size w).alloc (Nat.le_refl _) _).trans ((HW.out.trans hb5).mono (by omega)))
   clear hb5
   go_wp2
   go_ret
   refine ⟨?_, Hb5.out⟩
   simp [go_sem]
theorem made_calls (xs : List UInt8) (hx : xs.length = 11) (n k : Nat) (w : World) (c0 : UInt8) (h0 : xs[0]? = some c0) (hn : n ≤ 10) (hk : 1 ≤ k) (hk6 : k ≤ 6) :
  Calls Try.prog 51 #[.agg (Lib.byteCells xs).toArray, .int .i64 n, .int .i64 k] w fun e w' => e = .returned (.string ⟨(((xs.drop 1).take (c0.toNat % (n + 1))).map (lt k)).toArray⟩) ∧ Below w.heap.size w w' := by
 go_enter Try.func51, Try.ntmps51
 have hcell0 : ((w.alloc (.cells (Lib.byteCells xs).toArray 54)).alloc (.cells #[.pointer none, .slice none 0 0] 94)).cell? ⟨w.heap.size, 0, none⟩ = some (.int .u8 c0.toNat) := by
  have hs : (w.alloc (.cells (Lib.byteCells xs).toArray 54)).heap.size = w.heap.size + 1 := by simp
  simp only [World.cell?]
  rw [heap_alloc_old _ _ (by rw [hs]; omega), heap_alloc_new]
  simp [Lib.byteCells, h0]
 go_wp2_with fail
 obtain ⟨m, hm, hmn⟩ : ∃ m : Nat, c0.toNat % (n + 1) = m ∧ m ≤ 10 := ⟨_, rfl, by have := Nat.mod_lt c0.toNat (show 0 < n + 1 by omega); omega⟩
 have hmi : (wrap64 (c0.toNat : Int)).tmod ((n : Int) + 1) = (m : Int) := by
  rw [wrap_u8, Int.tmod_eq_emod_of_nonneg (by omega), ← hm]
  simp
 rw [hmi, slice52 _ _ _ _ hmn]
 simp only [Result.andThen]
 rw [Oper.upon_value]
 go_wp2_with fail
 have hxb : ∀ j, j < 10 → ∃ c : UInt8, xs[1 + j]? = some c := fun j hj => ⟨_, List.getElem?_eq_getElem (by omega)⟩
 have Hx := hid hxb
 clear hxb
 go_loopw [19] (fun i wr => ∃ k1 : Nat, k1 ≤ m ∧ i = .int .i64 k1 ∧ Hid (Lib.IsBuilder 94 5 (w.heap.size + 1) (w.heap.size + 1) (Lib.byteCells (((xs.drop 1).take k1).map (lt k))) wr) ∧ Hid (Below (w.heap.size + 1) (w.alloc (.cells (Lib.byteCells xs).toArray 54)) wr)) (fun i _ => m - (intOf i).toNat)
 case atStart =>
  have h := Lib.fresh_isBuilder 94 5 (w.alloc (.cells (Lib.byteCells xs).toArray 54))
  have hs : (w.alloc (.cells (Lib.byteCells xs).toArray 54)).heap.size = w.heap.size + 1 := by simp
  rw [hs] at h
  exact ⟨0, Nat.zero_le _, rfl, hid (by simpa [Lib.byteCells] using h), hid ((Below.refl _ _).alloc (by simp) _)⟩
 case round =>
  obtain ⟨k1, hk1, rfl, HB, HW⟩ := hrel
  by_cases hkr : k1 < m
  ·obtain ⟨c, hc⟩ := Hx.out k1 (by omega)
   have hcell : wr.cell? ⟨w.heap.size, 1 + k1, none⟩ = some (.int .u8 c.toNat) := by
    rw [HW.out.cell (p := ⟨w.heap.size, 1 + k1, none⟩) (Nat.lt_succ_self _)]
    simp only [World.cell?, heap_alloc_new]
    simp [Lib.byteCells, hc]
   have hm1 := tmod_lt c.toNat k hk hk6
   go_wp2_with fail
   ·have hBw : w.heap.size + 1 ≤ wr.heap.size := by have := HW.out.size; simp at this; omega
    refine (writeByte _ _ _ _ wr HB.out (by rw [Lib.byteCells_length]; simp; omega) hBw).mono ?_
    rintro e w3 ⟨rfl, h3, hb3⟩
    have hn : Lib.byteCells (((xs.drop 1).take k1).map (lt k)) ++ [.int .u8 ((lt k c).toNat : Int)] = Lib.byteCells (((xs.drop 1).take (k1 + 1)).map (lt k)) := by
     have hd : (xs.drop 1)[k1]? = some c := by rw [List.getElem?_drop]; exact hc
     rw [List.take_add_one, hd, List.map_append, Lib.byteCells_append]
     rfl
    rw [idx c k _, hn] at h3
    have H3 := hid (Or.inr h3 : Lib.IsBuilder 94 5 (w.heap.size + 1) (w.heap.size + 1) (Lib.byteCells (((xs.drop 1).take (k1 + 1)).map (lt k))) w3)
    have Hb3 := hid (HW.out.trans hb3)
    clear h3 hb3 hn hm1
    go_wp2
    exact ⟨⟨k1 + 1, by omega, by go_num, H3, Hb3⟩, by simp [intOf]; omega⟩
   ·rename_i hne
    rw [wrap_u8] at hne
    exact absurd hm1 hne
  ·obtain rfl : k1 = m := by omega
   have hBw : w.heap.size + 1 ≤ wr.heap.size := by have := HW.out.size; simp at this; omega
   go_wp2_with fail
   refine (builderString _ _ _ wr HB.out hBw).mono ?_
   rintro e w5 ⟨rfl, hb5⟩
   have Hb5 : Hid (Below w.heap.size w w5) := hid (((Below.refl w.heap.size w).alloc (Nat.le_refl _) _).trans ((HW.out.trans hb5).mono (by omega)))
   clear hb5
   go_wp2
   go_ret
   refine ⟨?_, Hb5.out⟩
   rw [hm]
   simp [go_sem]
end Go.Proofs.Ytmnmfmghmenkkaa
set_option linter.unusedSimpArgs false
set_option linter.unusedVariables false
namespace Go.Proofs
open Go.Shelf
def Try.revByte_ren : Go.Shelf.Ren := ⟨fun | 35 => 79 | n => n, fun | 22 => 75 | 23 => 5 | 3 => 3 | 4 => 4 | 0 => 0 | n => n, fun | n => n⟩
theorem Try.revByte : Go.Proofs.SlLaysE.n35 Try.prog Try.revByte_ren := {
 mixed := by kernel_rfl
 f35 := ⟨Try.f79.name, by decide, Try.func79.trans (congrArg some (by kernel_rfl))⟩
 t0 := Try.underlying0
 a0 := Try.isAgg0
 z0 := Try.sizeOf0
 v0 := Try.zeroValue0
 t3 := Try.underlying3
 a3 := Try.isAgg3
 z3 := Try.sizeOf3
 v3 := Try.zeroValue3
 t4 := Try.underlying4
 a4 := Try.isAgg4
 z4 := Try.sizeOf4
 v4 := Try.zeroValue4
 t22 := Try.underlying75
 a22 := Try.isAgg75
 z22 := Try.sizeOf75
 v22 := Try.zeroValue75
 a23 := Try.isAgg5
 z23 := Try.sizeOf5 }
namespace Ytmnmfmghmenkkaa
open Go.RowKit
set_option maxRecDepth 100000
set_option maxHeartbeats 1000000
theorem hidR {p : Prop} (h : p) : Hid p := h
theorem opposite_calls (s : ByteArray) (w : World) (hs : s.size ≤ 1000) :
  Calls Try.prog 55 #[.string s] w fun e w' => e = .returned (.string ⟨s.data.toList.reverse.toArray⟩) ∧ Below w.heap.size w w' := by
 go_enter Try.func55, Try.ntmps55
 go_wp2_with fail
 rw [Lib.run_convert_string_bytes w 9 75 5 s Try.underlying9 Try.underlying75 Try.underlying5]
 simp only [Result.andThen]
 rw [Oper.upon_value]
 have hH : Sort.Holds (fun b : UInt8 => Value.int .u8 b.toNat) (Lib.bytesWorld w 5 s) w.heap.size 0 s.data.toList.toArray := by
  intro j hj
  have hj' : j < s.size := by simpa using hj
  refine ⟨?_, ?_⟩
  ·rw [Nat.zero_add, Lib.bytesWorld_cell w 5 s j hj']
   have h1 : s.data[j]? = some (s.data[j]'hj') := Array.getElem?_eq_getElem hj'
   simp [List.getD, getElem!_def, h1]
  ·rw [Nat.zero_add]
   simp [World.frozen?, Lib.bytesWorld_at_new]
   simp [Lib.bytesCells]
   intro h
   exact absurd hj' (by have : s.data.size = s.size := rfl; omega)
 have Hh := hidR hH
 clear hH
 have hb0 : Below w.heap.size w (Lib.bytesWorld w 5 s) := ⟨rfl, rfl, rfl, by rw [Lib.bytesWorld_size]; omega, fun j hj => Lib.bytesWorld_at_old w 5 s j hj⟩
 have Hb := hidR hb0
 clear hb0
 go_wp2_with fail
 have hsz : s.data.toList.length = s.size := by simp
 rw [← hsz]
 refine (AnyE.slices_Reverse Try.revByte (fun b : UInt8 => Value.int .u8 b.toNat) (fun _ => rfl) w.heap.size 0 (grownCap w s.data.toList.length 0 5) s.data.toList (Lib.bytesWorld w 5 s) Hh.out (by omega)).mono ?_
 rintro e w1 ⟨rfl, n, rfl⟩
 have hc1 : ∀ j (hj : j < s.data.toList.reverse.length), (Sort.putRow (fun b : UInt8 => Value.int .u8 b.toNat) (Sort.ahead (Lib.bytesWorld w 5 s) n) w.heap.size 0 s.data.toList.reverse.toArray).cell? ((⟨w.heap.size, 0, none⟩ : Addr).add j) = some (.int .u8 (s.data.toList.reverse[j].toNat : Int)) := by
  intro j hj
  have h := Sort.cell?_putRow (fun b : UInt8 => Value.int .u8 b.toNat) (Sort.ahead (Lib.bytesWorld w 5 s) n) w.heap.size 0 s.data.toList.toArray s.data.toList.reverse.toArray Hh.out (by simp) j (by simpa using hj)
  rw [Nat.zero_add] at h
  rw [show (⟨w.heap.size, 0, none⟩ : Addr).add j = ⟨w.heap.size, j, none⟩ by cases j <;> simp [Addr.add], h]
  have h2 : s.data.toList.reverse.toArray[j]! = s.data.toList.reverse[j] := by
   rw [getElem!_pos _ j (by simpa using hj)]
   simp
  rw [h2]
 have hb1 : Below w.heap.size w (Sort.putRow (fun b : UInt8 => Value.int .u8 b.toNat) (Sort.ahead (Lib.bytesWorld w 5 s) n) w.heap.size 0 s.data.toList.reverse.toArray) := by
  refine Hb.out.trans ⟨rfl, rfl, rfl, by simp [Sort.ahead], fun k hk => ?_⟩
  simp only [Sort.putRow, Sort.mapBlock, Sort.ahead, Array.getElem?_modify]
  rw [if_neg (by omega)]
 generalize Sort.putRow (fun b : UInt8 => Value.int .u8 b.toNat) (Sort.ahead (Lib.bytesWorld w 5 s) n) w.heap.size 0 s.data.toList.reverse.toArray = w2 at hc1 hb1
 have Hc1 := hidR hc1
 have Hb1 := hidR hb1
 clear hc1 hb1 Hh Hb
 have hconv := run_convert_bytes_back (P := Try.prog) w2 75 9 5 ⟨w.heap.size, 0, none⟩ (grownCap w s.data.toList.length 0 5) s.data.toList.reverse Try.underlying75 Try.underlying5 Try.underlying9 Hc1.out
 rw [List.length_reverse, hsz] at hconv
 have Hconv := hidR hconv
 clear hconv
 go_wp2_with fail
 rw [Hconv.out]
 simp only [Result.andThen]
 rw [Oper.upon_value]
 go_wp2
 go_ret
 exact ⟨rfl, Hb1.out⟩
end Ytmnmfmghmenkkaa
end Go.Proofs
