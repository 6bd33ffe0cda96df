/-
  What is known of functions holds.
  Conditions: none; lemmas.
-/
import Derived.Test.YtmnmfmghmenkkaaWorks0
import Derived.Test.YtmnmfmghmenkkaaSlip0
import Derived.Test.YtmnmfmghmenkkaaAll61
import Derived.Test.YtmnmfmghmenkkaaFirst49
import Derived.Test.YtmnmfmghmenkkaaOk70
set_option linter.unusedSimpArgs false
set_option linter.unusedVariables false
namespace Go.Proofs.Ytmnmfmghmenkkaa
open Go.Abs Go.Pur Go.RowKit
set_option maxRecDepth 100000
theorem byV_ok {v : Value} {c : UInt8} (h : byV v = some c) : v = .int .u8 c.toNat := by
 unfold byV at h
 split at h
 ·rename_i c'
  split at h
  ·rename_i hc
   have h1 := Nat.le_of_ble_eq_true hc
   cases h
   have : (c'.toUInt8).toNat = c' := by
    simp only [Nat.toUInt8, UInt8.toNat_ofNat']
    omega
   rw [this]
   rfl
  ·cases h
 ·cases h
theorem bysV_ok : ∀ {l : List Value} {xs : List UInt8}, bysV l = some xs → l = Lib.byteCells xs
 | [], xs, h => by cases h; rfl
 | v :: l, xs, h => by
  unfold bysV at h
  split at h
  ·rename_i c r h1 h2
   cases h
   rw [byV_ok h1, bysV_ok h2]
   rfl
  ·cases h
theorem bysV_size {A : Array Value} {xs : List UInt8} (h : bysV A.toList = some xs) : A = (Lib.byteCells xs).toArray ∧ A.size = xs.length := by
 have h1 := bysV_ok h
 have h2 : A = (Lib.byteCells xs).toArray := by rw [← h1]
 exact ⟨h2, by rw [h2]; simp [Lib.byteCells]⟩
theorem ok53 : FnOK Try.prog Y0 53 := by
 refine fnOK_lib e53 rfl (by kernel_rfl) (fun xs rs he m h w hR args hd => ?_)
 unfold e53 at he
 split at he
 ·rename_i s z
  split at he
  ·rename_i hb
   cases he
   cases hd with
   | cons v a vs ks h1 ht =>
   cases ht with
   | cons v2 a2 vs2 ks2 h2 ht2 =>
   cases ht2; cases h1; cases h2
   exact (taken_calls s z w (by have := Nat.le_of_ble_eq_true hb; omega)).mono fun e w' ⟨h1, h2⟩ => ⟨[.string _], h1, h2, .cons _ _ _ _ (.p _) .nil⟩
  ·cases he
 ·cases he
theorem ok56 : FnOK Try.prog Y0 56 := by
 refine fnOK_lib e56 rfl (by kernel_rfl) (fun xs rs he m h w hR args hd => ?_)
 unfold e56 at he
 split at he
 ·rename_i s c
  cases he
  cases hd with
  | cons v a vs ks h1 ht =>
  cases ht with
  | cons v2 a2 vs2 ks2 h2 ht2 =>
  cases ht2; cases h1; cases h2
  refine (Try.strings_IndexByte s (Int.ofNat c) w).mono fun e w' ⟨h1, h2⟩ => ?_
  subst h2
  refine ⟨[.int .i64 _], ?_, Below.refl _ _, .cons _ _ _ _ (.p _) .nil⟩
  rw [h1]
  have : ∀ l x, Lib.indexByte l x = ixB l x := by
   intro l x
   induction l with
   | nil => rfl
   | cons b l ih => rw [Lib.indexByte, ixB, ih]
  rw [this]
  rfl
 ·cases he
theorem ok48 : FnOK Try.prog Y0 48 := by
 refine fnOK_lib e48 rfl (by kernel_rfl) (fun xs rs he m h w hR args hd => ?_)
 unfold e48 at he
 split at he
 ·rename_i A n k
  split at he
  ·rename_i ys hy hs hn h1k hk6
   cases he
   cases hd with
   | cons v a vs ks h1 ht =>
   cases ht with
   | cons v2 a2 vs2 ks2 h2 ht2 =>
   cases ht2 with
   | cons v3 a3 vs3 ks3 h3 ht3 =>
   cases ht3; cases h1; cases h2; cases h3
   obtain ⟨e1, e2⟩ := bysV_size hy
   have e3 := Nat.eq_of_beq_eq_true hs
   rw [e1]
   exact (sized_calls ys (by omega) n k w (Nat.le_of_ble_eq_true hn) (Nat.le_of_ble_eq_true h1k) (Nat.le_of_ble_eq_true hk6)).mono fun e w' ⟨h1, h2⟩ => ⟨[.string _], h1, h2, .cons _ _ _ _ (.p _) .nil⟩
  ·cases he
 ·cases he
theorem ok51 : FnOK Try.prog Y0 51 := by
 refine fnOK_lib e51 rfl (by kernel_rfl) (fun xs rs he m h w hR args hd => ?_)
 unfold e51 at he
 split at he
 ·rename_i A n k
  split at he
  ·rename_i c0 ys hy hs hn h1k hk6
   cases he
   cases hd with
   | cons v a vs ks h1 ht =>
   cases ht with
   | cons v2 a2 vs2 ks2 h2 ht2 =>
   cases ht2 with
   | cons v3 a3 vs3 ks3 h3 ht3 =>
   cases ht3; cases h1; cases h2; cases h3
   obtain ⟨e1, e2⟩ := bysV_size hy
   have e3 := Nat.eq_of_beq_eq_true hs
   rw [e1]
   exact (made_calls (c0 :: ys) (by omega) n k w c0 rfl (Nat.le_of_ble_eq_true hn) (Nat.le_of_ble_eq_true h1k) (Nat.le_of_ble_eq_true hk6)).mono fun e w' ⟨h1, h2⟩ => ⟨[.string _], h1, h2, .cons _ _ _ _ (.p _) .nil⟩
  ·cases he
 ·cases he
theorem ok55 : FnOK Try.prog Y0 55 := by
 refine fnOK_lib e55 rfl (by kernel_rfl) (fun xs rs he m h w hR args hd => ?_)
 unfold e55 at he
 split at he
 ·rename_i s
  split at he
  ·rename_i hb
   cases he
   cases hd with
   | cons v a vs ks h1 ht =>
   cases ht; cases h1
   exact (opposite_calls s w (Nat.le_of_ble_eq_true hb)).mono fun e w' ⟨h1, h2⟩ => ⟨[.string _], h1, h2, .cons _ _ _ _ (.p _) .nil⟩
  ·cases he
 ·cases he
theorem idens61 {B bo n : Nat} {V : Nat → Value} {rows : Nat → List (List UInt8)} {w : World} (h : RowsAt B bo n V rows w) (hne : ∀ i, i < n + 1 → rows i ≠ []) : ∀ {L : List Nat}, (∀ i ∈ L, i < n + 1) → IDens B w (L.map V) (L.map fun i => (rows i).map strV)
 | [], _ => .nil
 | i :: L, hL => by
  have hi := hL i List.mem_cons_self
  have hr := h.row i hi
  obtain ⟨g, cap, cur, hV, hB, hb, h1, h2, h3, h4⟩ := own_some hr (fun e => hne i hi (List.length_eq_zero_iff.1 e))
  have hc : ∀ j, j < ((rows i).map strV).length → ((rows i).map strV).getD j undef = cur.getD (0 + j) undef := fun j hj => by
   have hj' : j < (rows i).length := by simpa using hj
   have e1 : (cur.toList.take ((rows i).length * 1))[j]? = ((rows i).map strV)[j]? := by rw [h4]; rfl
   rw [List.getElem?_take, if_pos (by omega), Array.getElem?_toList] at e1
   rw [List.getD_eq_getElem?_getD, ← e1, Nat.zero_add]
   simp [Array.getD_eq_getD_getElem?]
  have key := IDens.cons (n := B) (w := w) g 0 cap ((rows i).map strV) cur 9 (0, 0) (L.map V) (L.map fun i => (rows i).map strV) (by simpa using h1) hB hb (by simp; omega) hc (idens61 h hne fun j hj => hL j (List.mem_cons_of_mem _ hj))
  rw [List.length_map, ← hV] at key
  exact key
theorem ok61 : FnOK Try.prog Y0 61 := by
 refine fnOK_lib e61 rfl (by kernel_rfl) (fun xs rs he m h w hR args hd => ?_)
 unfold e61 at he
 split at he
 ·rename_i s
  split at he
  ·rename_i hb hx
   cases he
   cases hd with
   | cons v a vs ks h1 ht =>
   cases ht; cases h1
   have hs := Nat.le_of_ble_eq_true hb
   refine (all_calls s w hs (fun x hx' => Nat.le_of_ble_eq_true (List.all_eq_true.1 hx x hx'))).mono fun e w' ⟨V, h1, h2, h3⟩ => ⟨[_], h1, h2, .cons _ _ _ _ ?_ .nil⟩
   have hlen : s.data.toList.length = s.size := by simp
   have hne : ∀ i, i < s.size + 1 → srtT (s.size + 1) (allR s.size s.data.toList) i ≠ [] := fun i hi e => by
    have h := ((allR_mem (n := s.size) (l := s.data.toList) (by omega)).2 i (s.data.toList.take i)).2 ⟨List.take_sublist _ _, by rw [List.length_take]; omega⟩
    unfold srtT at e
    rw [if_pos hi] at e
    have h2 := srt_mem.2 h
    rw [e] at h2
    cases h2
   obtain ⟨C, c1, c2, c3⟩ := h3.out
   have hI := idens61 h3 hne (L := List.range (s.size + 1)) (fun i hi => List.mem_range.1 hi)
   have hcss : (rows61 s.data.toList).map (fun l => l.map strV) = (List.range (s.size + 1)).map fun i => (srtT (s.size + 1) (allR s.size s.data.toList) i).map strV := by
    unfold rows61
    rw [List.map_map, hlen]
    refine List.map_congr_left fun i hi => ?_
    have := List.mem_range.1 hi
    simp only [Function.comp, srtT, if_pos this]
   rw [hcss]
   have key := RDen.ll (n := w.heap.size) (w := w') (w.heap.size + 1) 0 (s.size + 1) _ _ C 36 (0, 0) hI (by simp) (by omega) c1 (by simp; omega) (fun i hi => by
    have hi' : i < s.size + 1 := by simpa using hi
    rw [Nat.zero_add, List.getD_eq_getElem?_getD, List.getElem?_map, List.getElem?_range hi']
    simp [Array.getD_eq_getD_getElem?, c3 i hi'])
   rw [List.length_map, List.length_range] at key
   exact key
  ·cases he
 ·cases he
theorem keysS_ok : ∀ {es : List MapEntry} {ks : List (List UInt8)}, keysS es = some ks → es.map (·.key) = ks.map strV
 | [], ks, h => by cases h; rfl
 | e :: l, ks, h => by
  unfold keysS at h
  split at h
  ·rename_i k r h1 h2
   cases h
   rw [List.map_cons, List.map_cons, keysS_ok h2]
   congr 1
   unfold keyS at h1
   split at h1
   ·rename_i s e1
    cases h1
    rw [e1]
    unfold strV
    simp
   ·cases h1
  ·cases h
theorem ok52 : FnOK Try.prog Y0 52 := by
 refine fnOK_lib e52 rfl (by kernel_rfl) (fun xs rs he m h w hR args hd => ?_)
 unfold e52 at he
 split at he
 ·rename_i es c n
  split at he
  ·rename_i ks hks
   split at he
   ·rename_i hok
    cases he
    cases hd with
    | cons v a vs ks' h1 ht =>
    cases ht with
    | cons v2 a2 vs2 ks2 h2 ht2 =>
    cases ht2; cases h2
    cases h1 with
    | m bm _ _ hbm =>
    unfold ok52B at hok
    simp only [Bool.and_eq_true, decide_eq_true_eq] at hok
    obtain ⟨⟨⟨⟨o1, o2⟩, o3⟩, o4⟩, o5⟩ := hok
    refine (ofSize_calls bm es c n ks w hbm (keysS_ok hks) o1 o2 o3 o4 o5).mono fun e w' ⟨v, q1, q2, q3⟩ => ⟨[v], q1, q2, .cons _ _ _ _ ?_ .nil⟩
    have hn0 : (ofs n ks).length ≠ 0 := by
     unfold ofs
     rw [show (srt (ks.filter fun k => decide (k.length = n))).length = (ks.filter fun k => decide (k.length = n)).length by simp [srt]]
     exact fun e => o5 (List.length_eq_zero_iff.1 e)
    obtain ⟨g, cap, cur, rfl, hB, hb, h1, h2, h3, h4⟩ := own_some52 q3 hn0
    have hc : ∀ j, j < ((ofs n ks).map strV).length → ((ofs n ks).map strV).getD j undef = cur.getD (0 + j) undef := fun j hj => by
     have hj' : j < (ofs n ks).length := by simpa using hj
     have e1 : (cur.toList.take ((ofs n ks).length * 1))[j]? = ((ofs n ks).map strV)[j]? := by
      unfold ofs
      rw [h4]; rfl
     rw [List.getElem?_take, if_pos (by omega), Array.getElem?_toList] at e1
     rw [List.getD_eq_getElem?_getD, ← e1, Nat.zero_add]
     simp [Array.getD_eq_getD_getElem?]
    have key := RDen.l (n := w.heap.size) (w := w') g 0 cap ((ofs n ks).map strV) cur 9 (0, 0) (by rw [List.length_map]; exact h1) hB hb (by rw [List.length_map]; unfold ofs; omega) hc
    rw [List.length_map] at key
    exact key
   ·cases he
  ·cases he
 ·cases he
theorem decM_ok : ∀ {es : List MapEntry} {m : Mp (List UInt8) Int}, decM es = some m → es = mE sV (Value.int .i64) m
 | [], m, h => by cases h; rfl
 | e :: l, m, h => by
  unfold decM at h
  split at h
  ·rename_i s v r h1 h2 h3
   cases h
   have hr := decM_ok h3
   unfold mE at hr ⊢
   rw [List.map_cons, ← hr]
   congr 1
   obtain ⟨k, w, b⟩ := e
   simp only at h1 h2 ⊢
   rw [h1, h2]
  ·cases h
theorem slt_total {a b : List UInt8} (h1 : ¬ slt a b) (h2 : ¬ slt b a) : a = b := by
 unfold slt at h1 h2
 have hl : a.length = b.length := by
  rcases Nat.lt_trichotomy a.length b.length with h | h | h
  ·exact absurd (.inl h) h1
  ·exact h
  ·exact absurd (.inl h) h2
 refine List.le_antisymm (List.not_lt.1 fun h => h2 (.inr ⟨hl.symm, h⟩)) (List.not_lt.1 fun h => h1 (.inr ⟨hl, h⟩))
theorem bst_ok {D : List UInt8 → Bool} : ∀ {l L : List (List UInt8)} {s : List UInt8 × Bool}, Bst D L s.1 s.2 → Bst D (L ++ l) (bst D l s).1 (bst D l s).2
 | [], L, s, h => by rw [List.append_nil]; exact h
 | k :: l, L, (b, is), h => by
  rw [show L ++ k :: l = (L ++ [k]) ++ l by simp, bst]
  cases hc : D k && (!is || decide (slt k b)) with
  | true =>
   dsimp only
   rw [Bool.and_eq_true, Bool.or_eq_true, Bool.not_eq_true', decide_eq_true_iff] at hc
   exact bst_ok (s := (k, true)) (bst_take h hc.1 hc.2)
  | false =>
   dsimp only
   refine bst_ok (s := (b, is)) (bst_skip h ?_)
   rw [Bool.and_eq_false_iff, Bool.or_eq_false_iff, Bool.not_eq_false', decide_eq_false_iff_not] at hc
   exact hc
theorem bst_uniq {D : List UInt8 → Bool} {L L' : List (List UInt8)} {b b' : List UInt8} {is is' : Bool} (h : Bst D L b is) (h' : Bst D L' b' is') (hL : ∀ k, k ∈ L ↔ k ∈ L') : b = b' ∧ is = is' := by
 cases is <;> cases is'
 ·exact ⟨by rw [h.1, h'.1], rfl⟩
 ·have h1 := h.2 b' ((hL b').2 h'.1)
  rw [h'.2.1] at h1; cases h1
 ·have h1 := h'.2 b ((hL b).1 h.1)
  rw [h.2.1] at h1; cases h1
 ·exact ⟨slt_total (h'.2.2 b ((hL b).1 h.1) h.2.1) (h.2.2 b' ((hL b').2 h'.1) h'.2.1), rfl⟩
theorem ok49 : FnOK Try.prog Y0 49 := by
 refine fnOK_lib e49 rfl (by kernel_rfl) (fun xs rs he m h w hR args hd => ?_)
 unfold e49 at he
 split at he
 ·rename_i es1 c1 es2 c2
  split at he
  ·rename_i m1 m2 h1 h2
   split at he
   ·rename_i hok
    cases he
    cases hd with
    | cons v a vs ks' k1 ht =>
    cases ht with
    | cons v2 a2 vs2 ks2 k2 ht2 =>
    cases ht2
    cases k1 with
    | m b1 _ _ hb1 =>
    cases k2 with
    | m b2 _ _ hb2 =>
    unfold stOK at hok
    simp only [Bool.and_eq_true, decide_eq_true_eq] at hok
    rw [decM_ok h1] at hb1
    rw [decM_ok h2] at hb2
    refine (first_calls b1 b2 c1 c2 m1 m2 w hb1 hb2 hok.1 hok.2).mono fun e w' ⟨L, b, is, q1, q2, q3, q4⟩ => ⟨[.string ⟨b.toArray⟩, .bool is], q1, q2, ?_⟩
    have hB := bst_ok (D := dif49 m1 m2) (l := m1.map (·.1) ++ m2.map (·.1)) (L := []) (s := ([], false)) ⟨rfl, fun k hk => by cases hk⟩
    obtain ⟨e1, e2⟩ := bst_uniq q4 hB (fun k => by rw [q3 k, List.nil_append, List.mem_append])
    rw [e1, e2]
    exact .cons _ _ _ _ (.p _) (.cons _ _ _ _ (.p _) .nil)
   ·cases he
  ·cases he
 ·cases he
theorem ext_ok (g : FuncId) (hy : Y0.yes g = true) : FnOK Try.prog Y0 g := by
 have h : (Nat.beq g 17 || Nat.beq g 48 || Nat.beq g 51 || Nat.beq g 53 || Nat.beq g 55 || Nat.beq g 56 || Nat.beq g 61 || Nat.beq g 52 || Nat.beq g 49 || Nat.beq g 70) = true := hy
 simp only [Bool.or_eq_true] at h
 rcases h with ((((((((h | h) | h) | h) | h) | h) | h) | h) | h) | h <;> cases Nat.eq_of_beq_eq_true h
 ·exact ok17
 ·exact ok48
 ·exact ok51
 ·exact ok53
 ·exact ok55
 ·exact ok56
 ·exact ok61
 ·exact ok52
 ·exact ok49
 ·exact ok70
end Go.Proofs.Ytmnmfmghmenkkaa
