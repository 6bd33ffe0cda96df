/-
  first: the first of the shortest texts that one of two maps counts, and the other one does not.
  Conditions: none; lemmas.
-/
import Derived.Test.YtmnmfmghmenkkaaAll61
import Derived.Test.YtmnmfmghmenkkaaPurM
set_option linter.unusedSimpArgs false
set_option linter.unusedVariables false
namespace Go.Proofs.Ytmnmfmghmenkkaa
open Go.RowKit Go.Abs Go.Pur
set_option maxRecDepth 1000000
set_option maxHeartbeats 8000000
def C49 (w1 : World) (r bm c : Nat) (m : Mp (List UInt8) Int) (D : List UInt8 → Bool) (L0 : List (List UInt8)) (seen : Array Nat) (b : List UInt8) (is : Bool) (w : World) : Prop :=
 ∃ c0, w.heap[r]? = some (.mapIter (some bm) c seen c0) ∧ c ≤ c0 ∧ Below r w1 w ∧ ∃ L, (∀ k, k ∈ L ↔ k ∈ L0 ∨ ∃ e ∈ m, e.1 = k ∧ seen.contains e.2.2 = true) ∧ Bst D L b is
theorem bst_skip {D : List UInt8 → Bool} {L : List (List UInt8)} {b k : List UInt8} {is : Bool} (h : Bst D L b is) (hk : D k = false ∨ (is = true ∧ ¬ slt k b)) : Bst D (L ++ [k]) b is := by
 cases is with
 | false =>
  obtain ⟨h1, h2⟩ := h
  refine ⟨h1, fun x hx => ?_⟩
  rcases List.mem_append.1 hx with h | h
  ·exact h2 x h
  ·rw [List.mem_singleton.1 h]
   rcases hk with hk | ⟨hk, _⟩
   ·exact hk
   ·cases hk
 | true =>
  obtain ⟨h1, h2, h3⟩ := h
  refine ⟨List.mem_append_left _ h1, h2, fun x hx hd => ?_⟩
  rcases List.mem_append.1 hx with h | h
  ·exact h3 x h hd
  ·rw [List.mem_singleton.1 h] at hd ⊢
   rcases hk with hk | ⟨_, hk⟩
   ·rw [hk] at hd; cases hd
   ·exact hk
theorem slt_trans {a b c : List UInt8} (h1 : slt a b) (h2 : slt b c) : slt a c := by
 unfold slt at *
 rcases h1 with h1 | ⟨h1, h1'⟩ <;> rcases h2 with h2 | ⟨h2, h2'⟩
 ·exact .inl (by omega)
 ·exact .inl (by omega)
 ·exact .inl (by omega)
 ·exact .inr ⟨by omega, List.lt_trans h1' h2'⟩
theorem slt_irrefl {a : List UInt8} : ¬ slt a a := by
 rintro (h | ⟨_, h⟩)
 ·omega
 ·exact List.lt_irrefl _ h
theorem bst_take {D : List UInt8 → Bool} {L : List (List UInt8)} {b k : List UInt8} {is : Bool} (h : Bst D L b is) (hd : D k = true) (hk : is = false ∨ slt k b) : Bst D (L ++ [k]) k true := by
 refine ⟨List.mem_append_right _ (List.mem_singleton.2 rfl), hd, fun x hx hdx => ?_⟩
 rcases List.mem_append.1 hx with hx | hx
 ·cases is with
  | false => rw [h.2 x hx] at hdx; cases hdx
  | true =>
   have h3 := h.2.2 x hx hdx
   rcases hk with hk | hk
   ·cases hk
   ·exact fun h4 => h3 (slt_trans h4 hk)
 ·rw [List.mem_singleton.1 hx]; exact slt_irrefl
theorem bytesLess_lt {a b : List UInt8} : Op.bytesLess a b = true ↔ a < b := by
 rw [bytesLess_eq, decide_eq_true_iff]
theorem slt_of {k b : List UInt8} (h : k.length < b.length ∨ Op.bytesLess k b = true) (hl : (k.length : Int) = (b.length : Int)) : slt k b := by
 rcases h with h | h
 ·exact .inl h
 ·exact .inr ⟨by omega, bytesLess_lt.1 h⟩
theorem slt_not {k b : List UInt8} (h1 : ¬ k.length < b.length) (h2 : Op.bytesLess k b = false) : ¬ slt k b := by
 rintro (h | ⟨_, h⟩)
 ·exact h1 h
 ·rw [bytesLess_lt.2 h] at h2; cases h2
theorem hid49 {p : Prop} (h : p) : Hid p := h
def Post49 (w : World) (m1 m2 : Mp (List UInt8) Int) (e : Ending) (w' : World) : Prop :=
 ∃ L b is, e = .returned (.tuple #[.string ⟨b.toArray⟩, .bool is]) ∧ Below w.heap.size w w' ∧ (∀ k, k ∈ L ↔ k ∈ m1.map (·.1) ∨ k ∈ m2.map (·.1)) ∧ Bst (dif49 m1 m2) L b is
theorem first_calls (b1 b2 c1 c2 : Nat) (m1 m2 : Mp (List UInt8) Int) (w : World) (hw1 : w.heap[b1]? = some (.map (mE sV (Value.int .i64) m1).toArray c1)) (hw2 : w.heap[b2]? = some (.map (mE sV (Value.int .i64) m2).toArray c2))
  (s1 : (∀ s ∈ m1.map (·.2.2), s < c1) ∧ (m1.map (·.2.2)).Nodup) (s2 : (∀ s ∈ m2.map (·.2.2), s < c2) ∧ (m2.map (·.2.2)).Nodup) :
  Calls Try.prog 49 #[.map (some b1), .map (some b2)] w fun e w' => Post49 w m1 m2 e w' := by
 have mixed : Try.prog.follows .mixedOrders = true := by kernel_rfl
 have mty : mapTy Try.prog 58 = some (9, 3) := by kernel_rfl
 have kty : KeyT Try.prog 9 sV := key_str Try.underlying9
 obtain ⟨D, hD⟩ : ∃ D, dif49 m1 m2 = D := ⟨_, rfl⟩
 have hlook : ∀ (W : World) (bm c : Nat) (m : Mp (List UInt8) Int) (k : List UInt8), W.heap[bm]? = some (.map (mE sV (Value.int .i64) m).toArray c) → (Instr.lookup 58 (.map (some bm)) (.string ⟨k.toArray⟩) false).run Try.prog W = .ok (.int .i64 (mGetD 0 k m)) W := fun W bm c m k h =>
  alook_run h (look_m (kf := sV) (vf := Value.int .i64) (l := m) (k := k) (d := 0) mty kty (by kernel_rfl) (fun _ => rfl) (ok := false))
 have hrange : ∀ (W : World) (bm c : Nat) (m : Mp (List UInt8) Int), W.heap[bm]? = some (.map (mE sV (Value.int .i64) m).toArray c) → (Instr.range 58 (.map (some bm))).run Try.prog W = .ok (.pointer (some ⟨W.heap.size, 0, none⟩)) (W.alloc (.mapIter (some bm) c #[] c)) := fun W bm c m h =>
  run_range_map W 58 9 3 bm _ c Try.underlying58 h
 have Hlook := hid49 hlook
 have Hrange := hid49 hrange
 have HD := hid49 hD
 have Hw1 := hid49 hw1
 have Hw2 := hid49 hw2
 have S1 := hid49 s1
 have S2 := hid49 s2
 clear hlook hrange hD hw1 hw2 s1 s2 mty kty
 go_enter Try.func49, Try.ntmps49
 go_wp2_with fail
 obtain ⟨PK, hPK⟩ : ∃ PK : Nat → List (List UInt8), PK = fun t => match t with
   | 0 => []
   | 1 => m1.map (·.1)
   | _ => m1.map (·.1) ++ m2.map (·.1) := ⟨_, rfl⟩
 have HPK := hid49 hPK
 clear hPK
 obtain ⟨w1, hw1⟩ : ∃ w1, w.alloc (.cells #[.map (some b1), .map (some b2)] 58) = w1 := ⟨_, rfl⟩
 have hz1 : w1.heap.size = w.heap.size + 1 := by rw [← hw1]; simp
 have hcl : w1.heap[w.heap.size]? = some (.cells #[.map (some b1), .map (some b2)] 58) := by rw [← hw1]; exact heap_alloc_new _ _
 have hB1 : Below w.heap.size w w1 := by rw [← hw1]; exact (Below.refl _ _).alloc (Nat.le_refl _) _
 rw [hw1]
 have Hcl := hid49 hcl
 have HB1 := hid49 hB1
 clear hcl hB1 hw1
 go_loopg [6, 7, 15] 3 (fun gk s6 s7 s15 wx => ∃ (t : Nat) (b : List UInt8) (is : Bool) (L : List (List UInt8)), s6 = .string ⟨b.toArray⟩ ∧ s7 = .bool is ∧ s15 = .int .i64 t ∧ t ≤ 2 ∧ 2 < t + gk ∧ Below (w.heap.size + 1) w1 wx ∧ (∀ k, k ∈ L ↔ k ∈ PK t) ∧ Bst D L b is)
 case atStart => exact ⟨0, [], false, [], rfl, rfl, rfl, by omega, by omega, Below.refl _ _, fun k => by rw [HPK.out]; exact Iff.rfl, rfl, fun k hk => by cases hk⟩
 case round =>
  obtain ⟨t, b, is, L, rfl, rfl, rfl, ht, htg, hbl, hL, hbst⟩ := hrel
  obtain ⟨wo, rfl⟩ : ∃ wo, wo = wr := ⟨_, rfl⟩
  have hH1 : wo.heap[b1]? = some (.map (mE sV (Value.int .i64) m1).toArray c1) := by
   have h1 : b1 < w.heap.size := (Array.getElem?_eq_some_iff.1 Hw1.out).1
   rw [hbl.block b1 (by omega), HB1.out.block b1 h1]; exact Hw1.out
  have hH2 : wo.heap[b2]? = some (.map (mE sV (Value.int .i64) m2).toArray c2) := by
   have h1 : b2 < w.heap.size := (Array.getElem?_eq_some_iff.1 Hw2.out).1
   rw [hbl.block b2 (by omega), HB1.out.block b2 h1]; exact Hw2.out
  have hsz : w.heap.size + 1 ≤ wo.heap.size := by have := hbl.size; omega
  by_cases ht2 : t < 2
  ·obtain ⟨g', rfl⟩ : ∃ g', gk = g' + 1 := ⟨gk - 1, by omega⟩
   obtain ⟨bm, c, m, hcell, hmap, hst, hpk⟩ : ∃ bm c m, wo.cell? ⟨w.heap.size, t, none⟩ = some (.map (some bm)) ∧ wo.heap[bm]? = some (.map (mE sV (Value.int .i64) m).toArray c) ∧ ((∀ s ∈ m.map (·.2.2), s < c) ∧ (m.map (·.2.2)).Nodup) ∧ (∀ k, k ∈ PK (t + 1) ↔ k ∈ PK t ∨ k ∈ m.map (·.1)) := by
    have hc : ∀ i, wo.cell? ⟨w.heap.size, i, none⟩ = (#[Value.map (some b1), Value.map (some b2)])[i]? := fun i => by
     have : wo.heap[w.heap.size]? = some (.cells #[.map (some b1), .map (some b2)] 58) := by rw [hbl.block _ (by omega)]; exact Hcl.out
     simp [World.cell?, this]
    match t, ht2 with
    | 0, _ => exact ⟨b1, c1, m1, by rw [hc]; rfl, hH1, S1.out, fun k => by rw [HPK.out]; simp⟩
    | 1, _ => exact ⟨b2, c2, m2, by rw [hc]; rfl, hH2, S2.out, fun k => by rw [HPK.out]; simp⟩
   have hrg := Hrange.out wo bm c m hmap
   obtain ⟨W1, hW1⟩ : ∃ W1, wo.alloc (.mapIter (some bm) c #[] c) = W1 := ⟨_, rfl⟩
   have hC0 : C49 wo wo.heap.size bm c m D (PK t) #[] b is W1 := by
    refine ⟨c, by rw [← hW1]; exact heap_alloc_new _ _, Nat.le_refl _, by rw [← hW1]; exact (Below.refl _ _).alloc (Nat.le_refl _) _, L, fun k => ?_, hbst⟩
    rw [hL k]
    simp
   rw [hW1] at hrg
   have HC0 := hid49 hC0
   have HH1 := hid49 hH1
   have HH2 := hid49 hH2
   have Hmap := hid49 hmap
   have Hst := hid49 hst
   have Hpk := hid49 hpk
   have Hbl := hid49 hbl
   clear hC0 hH1 hH2 hmap hst hpk hbl hW1 hL hbst
   go_wp2_with fail
   go_loopg [6, 7] (m.length + 1) (fun gk2 s6 s7 wx => ∃ (seen : Array Nat) (b : List UInt8) (is : Bool), s6 = .string ⟨b.toArray⟩ ∧ s7 = .bool is ∧ C49 wo wo.heap.size bm c m D (PK t) seen b is wx ∧ (leftOf (mE sV (Value.int .i64) m).toArray seen).size < gk2)
   case atStart =>
    refine ⟨#[], b, is, rfl, rfl, HC0.out, ?_⟩
    have : (leftOf (mE sV (Value.int .i64) m).toArray #[]).size ≤ m.length := by
     unfold leftOf
     exact Nat.le_trans (Array.size_filter_le ..) (by simp [mE])
    omega
   case round =>
    clear HC0
    obtain ⟨seen, b', is', rfl, rfl, hC, hg⟩ := hrel
    obtain ⟨g2, rfl⟩ : ∃ g2, gk = g2 + 1 := ⟨gk - 1, by omega⟩
    obtain ⟨c0, q1, q2, q3, L', q4, q5⟩ := hC
    have hbr : bm < wo.heap.size := (Array.getElem?_eq_some_iff.1 Hmap.out).1
    have hmapw : wr.heap[bm]? = some (.map (mE sV (Value.int .i64) m).toArray c) := by rw [q3.block bm hbr]; exact Hmap.out
    have hborn : ∀ x ∈ (mE sV (Value.int .i64) m).toArray.toList, x.born < c := fun x hx => by
     have hx2 : x ∈ mE sV (Value.int .i64) m := by simpa using hx
     unfold mE at hx2
     obtain ⟨y, hy, rfl⟩ := List.mem_map.1 hx2
     exact Hst.out.1 _ (List.mem_map_of_mem hy)
    have hnb : ((mE sV (Value.int .i64) m).toArray.toList.map (·.born)).Nodup := by
     have : (mE sV (Value.int .i64) m).toArray.toList.map (·.born) = m.map (·.2.2) := by
      unfold mE
      simp [List.map_map, Function.comp_def]
     rw [this]; exact Hst.out.2
    rcases run_next_at (P := Try.prog) wr 0 wo.heap.size bm c c0 seen (mE sV (Value.int .i64) m).toArray c q1 hmapw hborn q2 with ⟨hl0, hrun⟩ | ⟨e, he, w2, hw2, hrun⟩
    ·have hall : ∀ x ∈ m, seen.contains x.2.2 = true := fun x hx => by
      cases hc : seen.contains x.2.2 with
      | true => rfl
      | false =>
       have : (⟨sV x.1, .int .i64 x.2.1, x.2.2⟩ : MapEntry) ∈ leftOf (mE sV (Value.int .i64) m).toArray seen := Array.mem_filter.2 ⟨List.mem_toArray.2 (List.mem_map_of_mem (f := fun e : List UInt8 × Int × Nat => (⟨sV e.1, .int .i64 e.2.1, e.2.2⟩ : MapEntry)) hx), by rw [hc]; rfl⟩
       rw [Array.eq_empty_of_size_eq_zero hl0] at this
       simp at this
     have hL2 : ∀ k, k ∈ L' ↔ k ∈ PK (t + 1) := fun k => by
      rw [q4 k, Hpk.out k, List.mem_map]
      constructor
      ·rintro (h | ⟨x, hx, h1, _⟩)
       ·exact .inl h
       ·exact .inr ⟨x, hx, h1⟩
      ·rintro (h | ⟨x, hx, h1⟩)
       ·exact .inl h
       ·exact .inr ⟨x, hx, h1, hall x hx⟩
     have hbl2 : Below (w.heap.size + 1) w1 wr := Hbl.out.trans (q3.mono hsz)
     have HL2 := hid49 hL2
     have Hbl2 := hid49 hbl2
     have Q5 := hid49 q5
     clear hL2 hbl2 q1 q3 q4 q5 hmapw hborn hnb hall hl0
     have htw : ((t + 1 : Nat) : Int) = (t : Int) + 1 := by omega
     go_wp2_with fail
     go_roundg g'
     case measure => omega
     case rel => exact ⟨t + 1, b', is', L', rfl, rfl, by first | rfl | rw [htw], by omega, by omega, Hbl2.out, HL2.out, Q5.out⟩
    ·obtain ⟨hm1, hm2⟩ := mem_left he
     obtain ⟨x, hx, rfl⟩ : ∃ x ∈ m, (⟨sV x.1, .int .i64 x.2.1, x.2.2⟩ : MapEntry) = e := by
      have h : e ∈ mE sV (Value.int .i64) m := by simpa using hm1
      unfold mE at h
      exact List.mem_map.1 h
     obtain ⟨k, v, s⟩ := x
     have hshr : (leftOf (mE sV (Value.int .i64) m).toArray (seen.push s)).size < (leftOf (mE sV (Value.int .i64) m).toArray seen).size := left_shrinks (mE sV (Value.int .i64) m).toArray seen _ he
     obtain ⟨W3, hW3⟩ : ∃ W3, ChangeMaps.setBlock w2 wo.heap.size (.mapIter (some bm) c (seen.push s) c) = W3 := ⟨_, rfl⟩
     have hheap : w2.heap = wr.heap := by rcases hw2 with rfl | rfl <;> rfl
     have hgr : wr.grownBy W3 (some wo.heap.size) := by
      rw [← hW3]
      refine ⟨by rcases hw2 with rfl | rfl <;> rfl, by rcases hw2 with rfl | rfl <;> rfl, by rcases hw2 with rfl | rfl <;> rfl, by simp [ChangeMaps.setBlock, hheap], fun j hj hne => ?_⟩
      simp only [ChangeMaps.setBlock, hheap]
      rw [Array.getElem?_setIfInBounds, if_neg (fun e => hne (by rw [e]))]
     have hit3 : W3.heap[wo.heap.size]? = some (.mapIter (some bm) c (seen.push s) c) := by
      rw [← hW3]
      simp only [ChangeMaps.setBlock, hheap]
      rw [Array.getElem?_setIfInBounds, if_pos rfl, if_pos (Array.getElem?_eq_some_iff.1 q1).1]
     have hb3 : Below wo.heap.size wo W3 := q3.grown hgr (by have := q3.size; omega) (fun k hk => by cases hk; exact Nat.le_refl _)
     have hmap3 : W3.heap[bm]? = some (.map (mE sV (Value.int .i64) m).toArray c) := by rw [hb3.block bm hbr]; exact Hmap.out
     have hen := run_entry_at (P := Try.prog) W3 wo.heap.size bm c seen (mE sV (Value.int .i64) m).toArray c _ hit3 hmap3 hm1 hnb
     have hlk1 := Hlook.out W3 b1 c1 m1 k (by rw [hb3.block b1 (Array.getElem?_eq_some_iff.1 HH1.out).1]; exact HH1.out)
     have hlk2 := Hlook.out W3 b2 c2 m2 k (by rw [hb3.block b2 (Array.getElem?_eq_some_iff.1 HH2.out).1]; exact HH2.out)
     have hmem : ∀ z, z ∈ L' ++ [k] ↔ z ∈ PK t ∨ ∃ e ∈ m, e.1 = z ∧ (seen.push s).contains e.2.2 = true := fun z => by
      rw [List.mem_append, List.mem_singleton, q4 z]
      have hse : ∀ y, (seen.push s).contains y = (seen.contains y || y == s) := fun y => contains_push _ _ _
      constructor
      ·rintro ((h | ⟨e, he, h1, h2⟩) | rfl)
       ·exact .inl h
       ·exact .inr ⟨e, he, h1, by rw [hse, h2]; rfl⟩
       ·exact .inr ⟨_, hx, rfl, by rw [hse, beq_self_eq_true, Bool.or_true]⟩
      ·rintro (h | ⟨e, he, h1, h2⟩)
       ·exact .inl (.inl h)
       ·rw [hse, Bool.or_eq_true] at h2
        rcases h2 with h2 | h2
        ·exact .inl (.inr ⟨e, he, h1, h2⟩)
        ·right
         have h3 : e.2.2 = s := by simpa using h2
         have h4 : e = (k, v, s) := by
          obtain ⟨i, hi, rfl⟩ := List.mem_iff_getElem.1 he
          obtain ⟨j, hj, hj2⟩ := List.mem_iff_getElem.1 hx
          have h5 : (m.map (·.2.2))[i]? = (m.map (·.2.2))[j]? := by
           rw [List.getElem?_map, List.getElem?_map, List.getElem?_eq_getElem hi, List.getElem?_eq_getElem hj, hj2]
           simp only [Option.map_some]
           rw [h3]
          have h6 := (List.getElem?_inj (by simpa using hi) Hst.out.2).1 h5
          subst h6
          exact hj2
         rw [h4] at h1
         exact h1.symm
     rw [hW3] at hrun
     have hDk : D k = (decide (0 < mGetD 0 k m1) != decide (0 < mGetD 0 k m2)) := by rw [← HD.out]; rfl
     obtain ⟨A1, hA1⟩ : ∃ A1, mGetD 0 k m1 = A1 := ⟨_, rfl⟩
     obtain ⟨A2, hA2⟩ : ∃ A2, mGetD 0 k m2 = A2 := ⟨_, rfl⟩
     rw [hA1] at hlk1 hDk
     rw [hA2] at hlk2 hDk
     have hsk : sV k = .string ⟨k.toArray⟩ := rfl
     simp only [hsk] at hrun hen
     have hend : ∀ b'' is'', Bst D (L' ++ [k]) b'' is'' → ∃ (seen : Array Nat) (b : List UInt8) (is : Bool), Value.string ⟨b''.toArray⟩ = .string ⟨b.toArray⟩ ∧ Value.bool is'' = .bool is ∧ C49 wo wo.heap.size bm c m D (PK t) seen b is W3 ∧ (leftOf (mE sV (Value.int .i64) m).toArray seen).size < g2 := fun b'' is'' h =>
      ⟨seen.push s, b'', is'', rfl, rfl, ⟨c, hit3, Nat.le_refl _, hb3, L' ++ [k], hmem, h⟩, by omega⟩
     have Hend := hid49 hend
     have Q5 := hid49 q5
     have HDk := hid49 hDk
     clear hend hmem hit3 hb3 hmap3 hgr hheap hW3 hw2 hm1 hm2 he hx q1 q3 q4 q5 hmapw hborn hnb hshr hDk hA1 hA2 hsk
     by_cases hP1 : 0 < A1 <;> by_cases hP2 : 0 < A2
     ·go_wp2_with fail
      go_roundg g2
      case measure => omega
      case rel => exact Hend.out _ _ (bst_skip Q5.out (.inl (by rw [HDk.out, decide_eq_true hP1, decide_eq_true hP2]; rfl)))
     ·cases is' with
      | false =>
       go_wp2_with fail
       go_roundg g2
       case measure => omega
       case rel => exact Hend.out _ _ (bst_take Q5.out (by rw [HDk.out, decide_eq_true hP1, decide_eq_false (show ¬ 0 < A2 by omega)]; rfl) (.inl rfl))
      | true =>
       go_wp2_with fail
       ·rename_i h1 h2 h3
        go_roundg g2
        case measure => omega
        case rel => exact Hend.out _ _ (bst_take Q5.out (by rw [HDk.out, decide_eq_true hP1, decide_eq_false (show ¬ 0 < A2 by omega)]; rfl) (.inr (slt_of h3 h2)))
       ·rename_i h1 h2 h3
        go_roundg g2
        case measure => omega
        case rel => exact Hend.out _ _ (bst_skip Q5.out (.inr ⟨rfl, slt_not h3.1 h3.2⟩))
       ·rename_i h1 h2 h3
        go_roundg g2
        case measure => omega
        case rel => exact Hend.out _ _ (bst_skip Q5.out (.inr ⟨rfl, fun h => by rcases h with h | ⟨h, _⟩ <;> omega⟩))
       ·rename_i h1
        go_roundg g2
        case measure => omega
        case rel => exact Hend.out _ _ (bst_take Q5.out (by rw [HDk.out, decide_eq_true hP1, decide_eq_false (show ¬ 0 < A2 by omega)]; rfl) (.inr (.inl (by omega))))
     ·cases is' with
      | false =>
       go_wp2_with fail
       go_roundg g2
       case measure => omega
       case rel => exact Hend.out _ _ (bst_take Q5.out (by rw [HDk.out, decide_eq_false (show ¬ 0 < A1 by omega), decide_eq_true hP2]; rfl) (.inl rfl))
      | true =>
       go_wp2_with fail
       ·rename_i h1 h2 h3
        go_roundg g2
        case measure => omega
        case rel => exact Hend.out _ _ (bst_take Q5.out (by rw [HDk.out, decide_eq_false (show ¬ 0 < A1 by omega), decide_eq_true hP2]; rfl) (.inr (slt_of h3 h2)))
       ·rename_i h1 h2 h3
        go_roundg g2
        case measure => omega
        case rel => exact Hend.out _ _ (bst_skip Q5.out (.inr ⟨rfl, slt_not h3.1 h3.2⟩))
       ·rename_i h1 h2 h3
        go_roundg g2
        case measure => omega
        case rel => exact Hend.out _ _ (bst_skip Q5.out (.inr ⟨rfl, fun h => by rcases h with h | ⟨h, _⟩ <;> omega⟩))
       ·rename_i h1
        go_roundg g2
        case measure => omega
        case rel => exact Hend.out _ _ (bst_take Q5.out (by rw [HDk.out, decide_eq_false (show ¬ 0 < A1 by omega), decide_eq_true hP2]; rfl) (.inr (.inl (by omega))))
     ·go_wp2_with fail
      go_roundg g2
      case measure => omega
      case rel => exact Hend.out _ _ (bst_skip Q5.out (.inl (by rw [HDk.out, decide_eq_false (show ¬ 0 < A1 by omega), decide_eq_false (show ¬ 0 < A2 by omega)]; rfl)))
  ·obtain rfl : t = 2 := by omega
   have hfin : Post49 w m1 m2 (.returned (.tuple #[.string ⟨b.toArray⟩, .bool is])) wo :=
    ⟨L, b, is, rfl, HB1.out.trans (hbl.mono (by omega)), fun k => by rw [hL k, HPK.out]; simp, by rw [HD.out]; exact hbst⟩
   have Hfin := hid49 hfin
   clear hfin hbl hL hbst hH1 hH2
   go_wp2_with fail
   go_ret2
   exact Hfin.out
end Go.Proofs.Ytmnmfmghmenkkaa
