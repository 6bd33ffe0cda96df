/-
  first: the first of the shortest texts that one of two maps counts,and the other one does not.
  A queue of pairs with a text each,in a row that is appended to and shortened in front.
  Pairs of numbers as keys of a map.
  The bytes of a text,as numbers.
  What is known of the functions that build texts,as facts of the pure evaluator.
  The pure evaluator's answers,for proofs in the model: calls whose arguments lie in memory and whose answer is plain.
  short.differ: next,without what is known
  Printed by wip/tools/walk.py. Conditions: none; definitions and lemmas.
  slices.Clone,slices.Delete at texts,laid for this seat (by the kit's own programs lay-shelf,lay-plain).
  The error of a word; a string that is left of another one.
  Whether a string is left of another one.
  Arches.
  Printed by wip/tools/walk.py. Conditions: none; definitions and lemmas.
  short.differ: next
  Printed by wip/tools/walk.py. Conditions: none; definitions and lemmas.
  parts,different
  Printed by wip/tools/walk.py. Conditions: none; definitions and lemmas.
  Arches,and the first of the shortest words that are missing: the mathematics.
  Parts of words: all of them,each once; how many there are.
  The word with the most parts: the one in which the letters go around.
  Both ways of a word and a part: the plain law.
  The number of the places and the first of them: the plain law.
  Errors,and two equal lists: the plain law.
  The number of ways: the plain law.
  The number of ways,all of it: the plain law.
  Arches: what the functions compute.
  The first of the shortest words that are missing: what the functions compute.
  What the functions compute: how many parts.
  Words by numbers: what made,sized and taken answer.
  Parts by sets of letters.
  differ: the first of the shortest texts that one of two words has as a part,and the other one has not: a search over pairs of places.
  short.differ,for the evaluator.
  slices.ContainsFunc with short.Short's closure: has one of the words this part?
  short.Short: the first of the shortest parts of one word that no other word has.
  ShortParts: parts are counted and listed as stated.
  Check,Left: without what is known of short.Short.
  short.Short,for the evaluator.
  What is known of functions holds.
  Arguments,as the rows of this seat read them.
  Conditions: none; lemmas.
-/
import Derived.Deep.AppendSrc
import Derived.Deep.MidRow
import Derived.Deep.OwnRows
import Derived.Handy
import Derived.Maps.AppendAt
import Derived.WalkKit
import Derived.Shelf.Slices.Clone
import Derived.Shelf.Slices.Delete
import Derived.Deep.DeepCutAuto
import Derived.Deep.RegionHeld3
import Derived.Lib.OwnBridge
import Derived.Test.YtmnmfmghmenkkaaPart4
set_option linter.unusedSimpArgs false
set_option linter.unusedVariables false
namespace Go.Proofs.Ytmnmfmghmenkkaa
open Go.RowKit Go.Abs Go.Pur
set_option maxRecDepth 1000000
set_option maxHeartbeats 8000000
def C49 (w1 : World) (r bm c : Nat) (m : Mp (List UInt8) Int) (D : List UInt8 → Bool) (L0 : List (List UInt8)) (seen : Array Nat) (b : List UInt8) (is : Bool) (w : World) : Prop :=
 ∃ c0,w.heap[r]? = some (.mapIter (some bm) c seen c0) ∧ c ≤ c0 ∧ Below r w1 w ∧ ∃ L,(∀ k,k ∈ L ↔ k ∈ L0 ∨ ∃ e ∈ m,e.1 = k ∧ seen.contains e.2.2 = true) ∧ Bst D L b is
theorem bst_skip {D : List UInt8 → Bool} {L : List (List UInt8)} {b k : List UInt8} {is : Bool} (h : Bst D L b is) (hk : D k = false ∨ (is = true ∧ ¬ slt k b)) : Bst D (L ++ [k]) b is := by
 cases is with
 | false =>
  obtain ⟨h1,h2⟩ := h
  refine ⟨h1,fun x hx => ?_⟩
  rcases List.mem_append.1 hx with h | h
  ·exact h2 x h
  ·rw [List.mem_singleton.1 h]
   rcases hk with hk | ⟨hk,_⟩
   ·exact hk
   ·cases hk
 | true =>
  obtain ⟨h1,h2,h3⟩ := h
  refine ⟨List.mem_append_left _ h1,h2,fun x hx hd => ?_⟩
  rcases List.mem_append.1 hx with h | h
  ·exact h3 x h hd
  ·rw [List.mem_singleton.1 h] at hd ⊢
   rcases hk with hk | ⟨_,hk⟩
   ·rw [hk] at hd; cases hd
   ·exact hk
theorem slt_trans {a b c : List UInt8} (h1 : slt a b) (h2 : slt b c) : slt a c := by
 unfold slt at *
 rcases h1 with h1 | ⟨h1,h1'⟩ <;> rcases h2 with h2 | ⟨h2,h2'⟩
 ·exact .inl (by omega)
 ·exact .inl (by omega)
 ·exact .inl (by omega)
 ·exact .inr ⟨by omega,List.lt_trans h1' h2'⟩
theorem slt_irrefl {a : List UInt8} : ¬ slt a a := by
 rintro (h | ⟨_,h⟩)
 ·omega
 ·exact List.lt_irrefl _ h
theorem bst_take {D : List UInt8 → Bool} {L : List (List UInt8)} {b k : List UInt8} {is : Bool} (h : Bst D L b is) (hd : D k = true) (hk : is = false ∨ slt k b) : Bst D (L ++ [k]) k true := by
 refine ⟨List.mem_append_right _ (List.mem_singleton.2 rfl),hd,fun x hx hdx => ?_⟩
 rcases List.mem_append.1 hx with hx | hx
 ·cases is with
  | false => rw [h.2 x hx] at hdx; cases hdx
  | true =>
   have h3 := h.2.2 x hx hdx
   rcases hk with hk | hk
   ·cases hk
   ·exact fun h4 => h3 (slt_trans h4 hk)
 ·rw [List.mem_singleton.1 hx]; exact slt_irrefl
theorem bytesLess_lt {a b : List UInt8} : Op.bytesLess a b = true ↔ a < b := by
 rw [bytesLess_eq,decide_eq_true_iff]
theorem slt_of {k b : List UInt8} (h : k.length < b.length ∨ Op.bytesLess k b = true) (hl : (k.length : Int) = (b.length : Int)) : slt k b := by
 rcases h with h | h
 ·exact .inl h
 ·exact .inr ⟨by omega,bytesLess_lt.1 h⟩
theorem slt_not {k b : List UInt8} (h1 : ¬ k.length < b.length) (h2 : Op.bytesLess k b = false) : ¬ slt k b := by
 rintro (h | ⟨_,h⟩)
 ·exact h1 h
 ·rw [bytesLess_lt.2 h] at h2; cases h2
theorem hid49 {p : Prop} (h : p) : Hid p := h
def Post49 (w : World) (m1 m2 : Mp (List UInt8) Int) (e : Ending) (w' : World) : Prop :=
 ∃ L b is,e = .returned (.tuple #[.string ⟨b.toArray⟩,.bool is]) ∧ Below w.heap.size w w' ∧ (∀ k,k ∈ L ↔ k ∈ m1.map (·.1) ∨ k ∈ m2.map (·.1)) ∧ Bst (dif49 m1 m2) L b is
theorem first_calls (b1 b2 c1 c2 : Nat) (m1 m2 : Mp (List UInt8) Int) (w : World) (hw1 : w.heap[b1]? = some (.map (mE sV (Value.int .i64) m1).toArray c1)) (hw2 : w.heap[b2]? = some (.map (mE sV (Value.int .i64) m2).toArray c2))
  (s1 : (∀ s ∈ m1.map (·.2.2),s < c1) ∧ (m1.map (·.2.2)).Nodup) (s2 : (∀ s ∈ m2.map (·.2.2),s < c2) ∧ (m2.map (·.2.2)).Nodup) :
  Calls Try.prog 49 #[.map (some b1),.map (some b2)] w fun e w' => Post49 w m1 m2 e w' := by
 have mixed : Try.prog.follows .mixedOrders = true := by kernel_rfl
 have mty : mapTy Try.prog 58 = some (9,3) := by kernel_rfl
 have kty : KeyT Try.prog 9 sV := key_str Try.underlying9
 obtain ⟨D,hD⟩ : ∃ D,dif49 m1 m2 = D := ⟨_,rfl⟩
 have hlook : ∀ (W : World) (bm c : Nat) (m : Mp (List UInt8) Int) (k : List UInt8),W.heap[bm]? = some (.map (mE sV (Value.int .i64) m).toArray c) → (Instr.lookup 58 (.map (some bm)) (.string ⟨k.toArray⟩) false).run Try.prog W = .ok (.int .i64 (mGetD 0 k m)) W := fun W bm c m k h =>
  alook_run h (look_m (kf := sV) (vf := Value.int .i64) (l := m) (k := k) (d := 0) mty kty (by kernel_rfl) (fun _ => rfl) (ok := false))
 have hrange : ∀ (W : World) (bm c : Nat) (m : Mp (List UInt8) Int),W.heap[bm]? = some (.map (mE sV (Value.int .i64) m).toArray c) → (Instr.range 58 (.map (some bm))).run Try.prog W = .ok (.pointer (some ⟨W.heap.size,0,none⟩)) (W.alloc (.mapIter (some bm) c #[] c)) := fun W bm c m h =>
  run_range_map W 58 9 3 bm _ c Try.underlying58 h
 have Hlook := hid49 hlook
 have Hrange := hid49 hrange
 have HD := hid49 hD
 have Hw1 := hid49 hw1
 have Hw2 := hid49 hw2
 have S1 := hid49 s1
 have S2 := hid49 s2
 clear hlook hrange hD hw1 hw2 s1 s2 mty kty
 go_enter Try.func49,Try.ntmps49
 go_wp2_with fail
 obtain ⟨PK,hPK⟩ : ∃ PK : Nat → List (List UInt8),PK = fun t => match t with
   | 0 => []
   | 1 => m1.map (·.1)
   | _ => m1.map (·.1) ++ m2.map (·.1) := ⟨_,rfl⟩
 have HPK := hid49 hPK
 clear hPK
 obtain ⟨w1,hw1⟩ : ∃ w1,w.alloc (.cells #[.map (some b1),.map (some b2)] 58) = w1 := ⟨_,rfl⟩
 have hz1 : w1.heap.size = w.heap.size + 1 := by rw [← hw1]; simp
 have hcl : w1.heap[w.heap.size]? = some (.cells #[.map (some b1),.map (some b2)] 58) := by rw [← hw1]; exact heap_alloc_new _ _
 have hB1 : Below w.heap.size w w1 := by rw [← hw1]; exact (Below.refl _ _).alloc (Nat.le_refl _) _
 rw [hw1]
 have Hcl := hid49 hcl
 have HB1 := hid49 hB1
 clear hcl hB1 hw1
 go_loopg [6,7,15] 3 (fun gk s6 s7 s15 wx => ∃ (t : Nat) (b : List UInt8) (is : Bool) (L : List (List UInt8)),s6 = .string ⟨b.toArray⟩ ∧ s7 = .bool is ∧ s15 = .int .i64 t ∧ t ≤ 2 ∧ 2 < t + gk ∧ Below (w.heap.size + 1) w1 wx ∧ (∀ k,k ∈ L ↔ k ∈ PK t) ∧ Bst D L b is)
 case atStart => exact ⟨0,[],false,[],rfl,rfl,rfl,by omega,by omega,Below.refl _ _,fun k => by rw [HPK.out]; exact Iff.rfl,rfl,fun k hk => by cases hk⟩
 case round =>
  obtain ⟨t,b,is,L,rfl,rfl,rfl,ht,htg,hbl,hL,hbst⟩ := hrel
  obtain ⟨wo,rfl⟩ : ∃ wo,wo = wr := ⟨_,rfl⟩
  have hH1 : wo.heap[b1]? = some (.map (mE sV (Value.int .i64) m1).toArray c1) := by
   have h1 : b1 < w.heap.size := (Array.getElem?_eq_some_iff.1 Hw1.out).1
   rw [hbl.block b1 (by omega),HB1.out.block b1 h1]; exact Hw1.out
  have hH2 : wo.heap[b2]? = some (.map (mE sV (Value.int .i64) m2).toArray c2) := by
   have h1 : b2 < w.heap.size := (Array.getElem?_eq_some_iff.1 Hw2.out).1
   rw [hbl.block b2 (by omega),HB1.out.block b2 h1]; exact Hw2.out
  have hsz : w.heap.size + 1 ≤ wo.heap.size := by have := hbl.size; omega
  by_cases ht2 : t < 2
  ·obtain ⟨g',rfl⟩ : ∃ g',gk = g' + 1 := ⟨gk - 1,by omega⟩
   obtain ⟨bm,c,m,hcell,hmap,hst,hpk⟩ : ∃ bm c m,wo.cell? ⟨w.heap.size,t,none⟩ = some (.map (some bm)) ∧ wo.heap[bm]? = some (.map (mE sV (Value.int .i64) m).toArray c) ∧ ((∀ s ∈ m.map (·.2.2),s < c) ∧ (m.map (·.2.2)).Nodup) ∧ (∀ k,k ∈ PK (t + 1) ↔ k ∈ PK t ∨ k ∈ m.map (·.1)) := by
    have hc : ∀ i,wo.cell? ⟨w.heap.size,i,none⟩ = (#[Value.map (some b1),Value.map (some b2)])[i]? := fun i => by
     have : wo.heap[w.heap.size]? = some (.cells #[.map (some b1),.map (some b2)] 58) := by rw [hbl.block _ (by omega)]; exact Hcl.out
     simp [World.cell?,this]
    match t,ht2 with
    | 0,_ => exact ⟨b1,c1,m1,by rw [hc]; rfl,hH1,S1.out,fun k => by rw [HPK.out]; simp⟩
    | 1,_ => exact ⟨b2,c2,m2,by rw [hc]; rfl,hH2,S2.out,fun k => by rw [HPK.out]; simp⟩
   have hrg := Hrange.out wo bm c m hmap
   obtain ⟨W1,hW1⟩ : ∃ W1,wo.alloc (.mapIter (some bm) c #[] c) = W1 := ⟨_,rfl⟩
   have hC0 : C49 wo wo.heap.size bm c m D (PK t) #[] b is W1 := by
    refine ⟨c,by rw [← hW1]; exact heap_alloc_new _ _,Nat.le_refl _,by rw [← hW1]; exact (Below.refl _ _).alloc (Nat.le_refl _) _,L,fun k => ?_,hbst⟩
    rw [hL k]
    simp
   rw [hW1] at hrg
   have HC0 := hid49 hC0
   have HH1 := hid49 hH1
   have HH2 := hid49 hH2
   have Hmap := hid49 hmap
   have Hst := hid49 hst
   have Hpk := hid49 hpk
   have Hbl := hid49 hbl
   clear hC0 hH1 hH2 hmap hst hpk hbl hW1 hL hbst
   go_wp2_with fail
   go_loopg [6,7] (m.length + 1) (fun gk2 s6 s7 wx => ∃ (seen : Array Nat) (b : List UInt8) (is : Bool),s6 = .string ⟨b.toArray⟩ ∧ s7 = .bool is ∧ C49 wo wo.heap.size bm c m D (PK t) seen b is wx ∧ (leftOf (mE sV (Value.int .i64) m).toArray seen).size < gk2)
   case atStart =>
    refine ⟨#[],b,is,rfl,rfl,HC0.out, ?_⟩
    have : (leftOf (mE sV (Value.int .i64) m).toArray #[]).size ≤ m.length := by
     unfold leftOf
     exact Nat.le_trans (Array.size_filter_le ..) (by simp [mE])
    omega
   case round =>
    clear HC0
    obtain ⟨seen,b',is',rfl,rfl,hC,hg⟩ := hrel
    obtain ⟨g2,rfl⟩ : ∃ g2,gk = g2 + 1 := ⟨gk - 1,by omega⟩
    obtain ⟨c0,q1,q2,q3,L',q4,q5⟩ := hC
    have hbr : bm < wo.heap.size := (Array.getElem?_eq_some_iff.1 Hmap.out).1
    have hmapw : wr.heap[bm]? = some (.map (mE sV (Value.int .i64) m).toArray c) := by rw [q3.block bm hbr]; exact Hmap.out
    have hborn : ∀ x ∈ (mE sV (Value.int .i64) m).toArray.toList,x.born < c := fun x hx => by
     have hx2 : x ∈ mE sV (Value.int .i64) m := by simpa using hx
     unfold mE at hx2
     obtain ⟨y,hy,rfl⟩ := List.mem_map.1 hx2
     exact Hst.out.1 _ (List.mem_map_of_mem hy)
    have hnb : ((mE sV (Value.int .i64) m).toArray.toList.map (·.born)).Nodup := by
     have : (mE sV (Value.int .i64) m).toArray.toList.map (·.born) = m.map (·.2.2) := by
      unfold mE
      simp [List.map_map,Function.comp_def]
     rw [this]; exact Hst.out.2
    rcases run_next_at (P := Try.prog) wr 0 wo.heap.size bm c c0 seen (mE sV (Value.int .i64) m).toArray c q1 hmapw hborn q2 with ⟨hl0,hrun⟩ | ⟨e,he,w2,hw2,hrun⟩
    ·have hall : ∀ x ∈ m,seen.contains x.2.2 = true := fun x hx => by
      cases hc : seen.contains x.2.2 with
      | true => rfl
      | false =>
       have : (⟨sV x.1,.int .i64 x.2.1,x.2.2⟩ : MapEntry) ∈ leftOf (mE sV (Value.int .i64) m).toArray seen := Array.mem_filter.2 ⟨List.mem_toArray.2 (List.mem_map_of_mem (f := fun e : List UInt8 × Int × Nat => (⟨sV e.1,.int .i64 e.2.1,e.2.2⟩ : MapEntry)) hx),by rw [hc]; rfl⟩
       rw [Array.eq_empty_of_size_eq_zero hl0] at this
       simp at this
     have hL2 : ∀ k,k ∈ L' ↔ k ∈ PK (t + 1) := fun k => by
      rw [q4 k,Hpk.out k,List.mem_map]
      constructor
      ·rintro (h | ⟨x,hx,h1,_⟩)
       ·exact .inl h
       ·exact .inr ⟨x,hx,h1⟩
      ·rintro (h | ⟨x,hx,h1⟩)
       ·exact .inl h
       ·exact .inr ⟨x,hx,h1,hall x hx⟩
     have hbl2 : Below (w.heap.size + 1) w1 wr := Hbl.out.trans (q3.mono hsz)
     have HL2 := hid49 hL2
     have Hbl2 := hid49 hbl2
     have Q5 := hid49 q5
     clear hL2 hbl2 q1 q3 q4 q5 hmapw hborn hnb hall hl0
     have htw : ((t + 1 : Nat) : Int) = (t : Int) + 1 := by omega
     go_wp2_with fail
     go_roundg g'
     case measure => omega
     case rel => exact ⟨t + 1,b',is',L',rfl,rfl,by first | rfl | rw [htw],by omega,by omega,Hbl2.out,HL2.out,Q5.out⟩
    ·obtain ⟨hm1,hm2⟩ := mem_left he
     obtain ⟨x,hx,rfl⟩ : ∃ x ∈ m,(⟨sV x.1,.int .i64 x.2.1,x.2.2⟩ : MapEntry) = e := by
      have h : e ∈ mE sV (Value.int .i64) m := by simpa using hm1
      unfold mE at h
      exact List.mem_map.1 h
     obtain ⟨k,v,s⟩ := x
     have hshr : (leftOf (mE sV (Value.int .i64) m).toArray (seen.push s)).size < (leftOf (mE sV (Value.int .i64) m).toArray seen).size := left_shrinks (mE sV (Value.int .i64) m).toArray seen _ he
     obtain ⟨W3,hW3⟩ : ∃ W3,ChangeMaps.setBlock w2 wo.heap.size (.mapIter (some bm) c (seen.push s) c) = W3 := ⟨_,rfl⟩
     have hheap : w2.heap = wr.heap := by rcases hw2 with rfl | rfl <;> rfl
     have hgr : wr.grownBy W3 (some wo.heap.size) := by
      rw [← hW3]
      refine ⟨by rcases hw2 with rfl | rfl <;> rfl,by rcases hw2 with rfl | rfl <;> rfl,by rcases hw2 with rfl | rfl <;> rfl,by simp [ChangeMaps.setBlock,hheap],fun j hj hne => ?_⟩
      simp only [ChangeMaps.setBlock,hheap]
      rw [Array.getElem?_setIfInBounds,if_neg (fun e => hne (by rw [e]))]
     have hit3 : W3.heap[wo.heap.size]? = some (.mapIter (some bm) c (seen.push s) c) := by
      rw [← hW3]
      simp only [ChangeMaps.setBlock,hheap]
      rw [Array.getElem?_setIfInBounds,if_pos rfl,if_pos (Array.getElem?_eq_some_iff.1 q1).1]
     have hb3 : Below wo.heap.size wo W3 := q3.grown hgr (by have := q3.size; omega) (fun k hk => by cases hk; exact Nat.le_refl _)
     have hmap3 : W3.heap[bm]? = some (.map (mE sV (Value.int .i64) m).toArray c) := by rw [hb3.block bm hbr]; exact Hmap.out
     have hen := run_entry_at (P := Try.prog) W3 wo.heap.size bm c seen (mE sV (Value.int .i64) m).toArray c _ hit3 hmap3 hm1 hnb
     have hlk1 := Hlook.out W3 b1 c1 m1 k (by rw [hb3.block b1 (Array.getElem?_eq_some_iff.1 HH1.out).1]; exact HH1.out)
     have hlk2 := Hlook.out W3 b2 c2 m2 k (by rw [hb3.block b2 (Array.getElem?_eq_some_iff.1 HH2.out).1]; exact HH2.out)
     have hmem : ∀ z,z ∈ L' ++ [k] ↔ z ∈ PK t ∨ ∃ e ∈ m,e.1 = z ∧ (seen.push s).contains e.2.2 = true := fun z => by
      rw [List.mem_append,List.mem_singleton,q4 z]
      have hse : ∀ y,(seen.push s).contains y = (seen.contains y || y == s) := fun y => contains_push _ _ _
      constructor
      ·rintro ((h | ⟨e,he,h1,h2⟩) | rfl)
       ·exact .inl h
       ·exact .inr ⟨e,he,h1,by rw [hse,h2]; rfl⟩
       ·exact .inr ⟨_,hx,rfl,by rw [hse,beq_self_eq_true,Bool.or_true]⟩
      ·rintro (h | ⟨e,he,h1,h2⟩)
       ·exact .inl (.inl h)
       ·rw [hse,Bool.or_eq_true] at h2
        rcases h2 with h2 | h2
        ·exact .inl (.inr ⟨e,he,h1,h2⟩)
        ·right
         have h3 : e.2.2 = s := by simpa using h2
         have h4 : e = (k,v,s) := by
          obtain ⟨i,hi,rfl⟩ := List.mem_iff_getElem.1 he
          obtain ⟨j,hj,hj2⟩ := List.mem_iff_getElem.1 hx
          have h5 : (m.map (·.2.2))[i]? = (m.map (·.2.2))[j]? := by
           rw [List.getElem?_map,List.getElem?_map,List.getElem?_eq_getElem hi,List.getElem?_eq_getElem hj,hj2]
           simp only [Option.map_some]
           rw [h3]
          have h6 := (List.getElem?_inj (by simpa using hi) Hst.out.2).1 h5
          subst h6
          exact hj2
         rw [h4] at h1
         exact h1.symm
     rw [hW3] at hrun
     have hDk : D k = (decide (0 < mGetD 0 k m1) != decide (0 < mGetD 0 k m2)) := by rw [← HD.out]; rfl
     obtain ⟨A1,hA1⟩ : ∃ A1,mGetD 0 k m1 = A1 := ⟨_,rfl⟩
     obtain ⟨A2,hA2⟩ : ∃ A2,mGetD 0 k m2 = A2 := ⟨_,rfl⟩
     rw [hA1] at hlk1 hDk
     rw [hA2] at hlk2 hDk
     have hsk : sV k = .string ⟨k.toArray⟩ := rfl
     simp only [hsk] at hrun hen
     have hend : ∀ b'' is'',Bst D (L' ++ [k]) b'' is'' → ∃ (seen : Array Nat) (b : List UInt8) (is : Bool),Value.string ⟨b''.toArray⟩ = .string ⟨b.toArray⟩ ∧ Value.bool is'' = .bool is ∧ C49 wo wo.heap.size bm c m D (PK t) seen b is W3 ∧ (leftOf (mE sV (Value.int .i64) m).toArray seen).size < g2 := fun b'' is'' h =>
      ⟨seen.push s,b'',is'',rfl,rfl,⟨c,hit3,Nat.le_refl _,hb3,L' ++ [k],hmem,h⟩,by omega⟩
     have Hend := hid49 hend
     have Q5 := hid49 q5
     have HDk := hid49 hDk
     clear hend hmem hit3 hb3 hmap3 hgr hheap hW3 hw2 hm1 hm2 he hx q1 q3 q4 q5 hmapw hborn hnb hshr hDk hA1 hA2 hsk
     by_cases hP1 : 0 < A1 <;> by_cases hP2 : 0 < A2
     ·go_wp2_with fail
      go_roundg g2
      case measure => omega
      case rel => exact Hend.out _ _ (bst_skip Q5.out (.inl (by rw [HDk.out,decide_eq_true hP1,decide_eq_true hP2]; rfl)))
     ·cases is' with
      | false =>
       go_wp2_with fail
       go_roundg g2
       case measure => omega
       case rel => exact Hend.out _ _ (bst_take Q5.out (by rw [HDk.out,decide_eq_true hP1,decide_eq_false (show ¬ 0 < A2 by omega)]; rfl) (.inl rfl))
      | true =>
       go_wp2_with fail
       ·rename_i h1 h2 h3
        go_roundg g2
        case measure => omega
        case rel => exact Hend.out _ _ (bst_take Q5.out (by rw [HDk.out,decide_eq_true hP1,decide_eq_false (show ¬ 0 < A2 by omega)]; rfl) (.inr (slt_of h3 h2)))
       ·rename_i h1 h2 h3
        go_roundg g2
        case measure => omega
        case rel => exact Hend.out _ _ (bst_skip Q5.out (.inr ⟨rfl,slt_not h3.1 h3.2⟩))
       ·rename_i h1 h2 h3
        go_roundg g2
        case measure => omega
        case rel => exact Hend.out _ _ (bst_skip Q5.out (.inr ⟨rfl,fun h => by rcases h with h | ⟨h,_⟩ <;> omega⟩))
       ·rename_i h1
        go_roundg g2
        case measure => omega
        case rel => exact Hend.out _ _ (bst_take Q5.out (by rw [HDk.out,decide_eq_true hP1,decide_eq_false (show ¬ 0 < A2 by omega)]; rfl) (.inr (.inl (by omega))))
     ·cases is' with
      | false =>
       go_wp2_with fail
       go_roundg g2
       case measure => omega
       case rel => exact Hend.out _ _ (bst_take Q5.out (by rw [HDk.out,decide_eq_false (show ¬ 0 < A1 by omega),decide_eq_true hP2]; rfl) (.inl rfl))
      | true =>
       go_wp2_with fail
       ·rename_i h1 h2 h3
        go_roundg g2
        case measure => omega
        case rel => exact Hend.out _ _ (bst_take Q5.out (by rw [HDk.out,decide_eq_false (show ¬ 0 < A1 by omega),decide_eq_true hP2]; rfl) (.inr (slt_of h3 h2)))
       ·rename_i h1 h2 h3
        go_roundg g2
        case measure => omega
        case rel => exact Hend.out _ _ (bst_skip Q5.out (.inr ⟨rfl,slt_not h3.1 h3.2⟩))
       ·rename_i h1 h2 h3
        go_roundg g2
        case measure => omega
        case rel => exact Hend.out _ _ (bst_skip Q5.out (.inr ⟨rfl,fun h => by rcases h with h | ⟨h,_⟩ <;> omega⟩))
       ·rename_i h1
        go_roundg g2
        case measure => omega
        case rel => exact Hend.out _ _ (bst_take Q5.out (by rw [HDk.out,decide_eq_false (show ¬ 0 < A1 by omega),decide_eq_true hP2]; rfl) (.inr (.inl (by omega))))
     ·go_wp2_with fail
      go_roundg g2
      case measure => omega
      case rel => exact Hend.out _ _ (bst_skip Q5.out (.inl (by rw [HDk.out,decide_eq_false (show ¬ 0 < A1 by omega),decide_eq_false (show ¬ 0 < A2 by omega)]; rfl)))
  ·obtain rfl : t = 2 := by omega
   have hfin : Post49 w m1 m2 (.returned (.tuple #[.string ⟨b.toArray⟩,.bool is])) wo :=
    ⟨L,b,is,rfl,HB1.out.trans (hbl.mono (by omega)),fun k => by rw [hL k,HPK.out]; simp,by rw [HD.out]; exact hbst⟩
   have Hfin := hid49 hfin
   clear hfin hbl hL hbst hH1 hH2
   go_wp2_with fail
   go_ret2
   exact Hfin.out
end Go.Proofs.Ytmnmfmghmenkkaa
set_option linter.unusedSimpArgs false
set_option linter.unusedVariables false
namespace Go.Proofs.Ytmnmfmghmenkkaa
open Go.RowKit Go.Abs Go.Pur
set_option maxRecDepth 100000
def qc (e : Way) : List Value := [.int .i64 (e.1 : Int),.int .i64 (e.2.1 : Int),.string ⟨e.2.2.toArray⟩]
def qcs (Q : List Way) : List Value := Q.flatMap qc
theorem qcs_len : ∀ {Q : List Way},(qcs Q).length = Q.length * 3
 | [] => rfl
 | e :: Q => by
  unfold qcs at *
  rw [List.flatMap_cons,List.length_append,List.length_cons,show (Q.flatMap qc).length = Q.length * 3 from qcs_len (Q := Q),Nat.succ_mul]
  simp [qc]; omega
theorem qcs_one {Q : List Way} : ∀ u ∈ qcs Q,u.oneCell' = true := fun u hu => by
 obtain ⟨e,_,h⟩ := List.mem_flatMap.1 hu
 simp only [qc,List.mem_cons,List.not_mem_nil,or_false] at h
 rcases h with rfl | rfl | rfl <;> rfl
def QAt (B : Nat) (v : Value) (Q : List Way) (w : World) : Prop :=
 ∃ g off cap C,v = .slice (some ⟨g,off,none⟩) Q.length cap ∧ B ≤ g ∧ w.heap[g]? = some (.cells C 108 (0,0)) ∧ Q.length ≤ cap ∧ off + cap * 3 ≤ C.size ∧ w.rangeAt g off (qcs Q)
theorem range_kept {w w' : World} {g off : Nat} {cs : List Value} (h : w.rangeAt g off cs) (e : w'.heap[g]? = w.heap[g]?) : w'.rangeAt g off cs := fun j v hv => by
 rw [World.cell?_of_block (w := w) e]; exact h j v hv
theorem QAt.kept {B : Nat} {v : Value} {Q : List Way} {w w' : World} {row : Option Nat} (h : QAt B v Q w) (hg : w.grownBy w' row) (hr : v.ownBlock ≠ row) : QAt B v Q w' := by
 obtain ⟨g,off,cap,C,rfl,h1,h2,h3,h4,h5⟩ := h
 have e := hg.block g (Array.getElem?_eq_some_iff.1 h2).1 (fun e => hr (by rw [← e]; rfl))
 exact ⟨g,off,cap,C,rfl,h1,e.trans h2,h3,h4,range_kept h5 e⟩
theorem QAt.ne {B : Nat} {v : Value} {Q : List Way} {w : World} (h : QAt B v Q w) {g : Nat} {o : Obj} (hm : w.heap[g]? = some o) (ho : ∀ c t fr,o ≠ .cells c t fr) : v.ownBlock ≠ some g := by
 obtain ⟨g',off,cap,C,rfl,h1,h2,_⟩ := h
 intro e
 cases e
 rw [h2] at hm
 exact ho _ _ _ (Option.some.inj hm).symm
theorem QAt.pop {B : Nat} {g off n cap : Nat} {e : Way} {Q : List Way} {w : World} (h : QAt B (.slice (some ⟨g,off,none⟩) n cap) (e :: Q) w) : QAt B (.slice (some ⟨g,off + 3,none⟩) (n - 1) (cap - 1)) Q w := by
 obtain ⟨g',off',cap',C,e1,h1,h2,h3,h4,h5⟩ := h
 injection e1 with e1 e2 e3
 injection e1 with e1
 injection e1 with e1 e4 _
 subst e1; subst e4; subst e2; subst e3
 rw [List.length_cons] at h3
 refine ⟨g,off + 3,cap - 1,C,by rw [List.length_cons]; rfl,h1,h2,by omega,by omega,fun k u hk => ?_⟩
 have := h5 (k + 3) u (by
  unfold qcs at hk ⊢
  rw [List.flatMap_cons,List.getElem?_append_right (by simp [qc])]
  simpa [qc] using hk)
 rwa [show off + 3 + k = off + (k + 3) by omega]
theorem setCells_heap {g : Nat} : ∀ {vs : List Value} {o : Nat} {w : World} {C : Array Value} {t : TypeId} {fr : Nat × Nat},w.heap[g]? = some (.cells C t fr) → ∃ C',(w.setCells g o vs).heap[g]? = some (.cells C' t fr) ∧ C'.size = C.size
 | [],o,w,C,t,fr,h => ⟨C,h,rfl⟩
 | v :: vs,o,w,C,t,fr,h => by
  have h1 : (w.setCell ⟨g,o,none⟩ v).heap[g]? = some (.cells (C.setIfInBounds o v) t fr) := by
   simp [World.setCell,Array.getElem?_modify,h]
  obtain ⟨C',h2,h3⟩ := setCells_heap (vs := vs) (o := o + 1) h1
  exact ⟨C',h2,by simpa using h3⟩
theorem setCells_grown {g : Nat} : ∀ {vs : List Value} {o : Nat} {w : World},w.grownBy (w.setCells g o vs) (some g)
 | [],o,w => ⟨rfl,rfl,rfl,Nat.le_refl _,fun _ _ _ => rfl⟩
 | v :: vs,o,w => by
  have h := setCells_grown (g := g) (vs := vs) (o := o + 1) (w := w.setCell ⟨g,o,none⟩ v)
  have hs : (w.setCell ⟨g,o,none⟩ v).heap.size = w.heap.size := by simp [World.setCell]
  refine ⟨h.os,h.tape,h.output,by rw [← hs]; exact h.size,fun k hk hne => ?_⟩
  rw [show (w.setCells g o (v :: vs)).heap[k]? = ((w.setCell ⟨g,o,none⟩ v).setCells g (o + 1) vs).heap[k]? from rfl,h.block k (by rw [hs]; exact hk) hne]
  exact Deep.blk_setCell_other _ _ _ _ (fun e => hne (by rw [e]))
theorem wpList_append_eq {P : Program} {w : World} {ops : Array Oper} {rest : List Oper} {o : Oper} {a : Act} {Q : Exit → Act → World → Prop} (hgd : o.guard = none) (s x : Operand) (t : TypeId)
  (ho : o.op = .call { callee := .builtin .append,args := #[s,x],argTypes := #[t,t] }) (v vx v' : Value) (w' : World) (hs : a.eval s = v) (hx : a.eval x = vx)
  (hr : (Builtin.append_ #[t,t] o.type #[v,vx]).run P w = .ok v' w') (h : wpList P ops Q rest (a.put o.dst v') w') : wpList P ops Q (o :: rest) a w := by
 refine wpList_plain hgd fun K hK => ?_
 unfold Oper.wp execOp
 simp only [ho,resolve,invoke,builtin,Sem.run_bind,Sem.run_pure,Result.andThen_ok,List.map_toArray,List.map_cons,List.map_nil,hs,hx,hr]
 exact hK _ _ h
theorem append_q {B g off n cap gn : Nat} {Q : List Way} {e : Way} {w : World} (ty : TypeId) (h : QAt B (.slice (some ⟨g,off,none⟩) n cap) Q w) (hB : B ≤ w.heap.size) (hn : Q.length ≤ 1000)
  (hnew : ∀ j u,(qc e)[j]? = some u → w.cell? ((⟨gn,0,none⟩ : Addr).add j) = some u) :
  ∃ g' off' n' cap' w',(Builtin.append_ #[109,109] ty #[.slice (some ⟨g,off,none⟩) n cap,.slice (some ⟨gn,0,none⟩) 1 1]).run Try.prog w = .ok (.slice (some ⟨g',off',none⟩) n' cap') w' ∧ QAt B (.slice (some ⟨g',off',none⟩) n' cap') (Q ++ [e]) w' ∧ w.grownBy w' (some g) ∧ (g' = g ∨ w.heap.size ≤ g') := by
 obtain ⟨i0,hi0,hz0,hs0,hb0⟩ := info_parts (show (Try.prog.info? 108).map (fun i => (i.zero,i.size,i.bytes)) = some (some (.agg #[.int .i64 0,.int .i64 0,.string ⟨#[]⟩]),3,32) by kernel_rfl)
 obtain ⟨g',off',cap',C,e1,h1,h2,h3,h4,h5⟩ := h
 injection e1 with e1 e2 e3
 injection e1 with e1
 injection e1 with e1 e4 _
 subst e1; subst e4; subst e2; subst e3
 have hsrc : Src Try.prog i0.size 109 (.slice (some ⟨gn,0,none⟩) 1 1) 1 (qc e) w := Src.ofSlice w Try.underlying109 ⟨gn,0,none⟩ 1 1 (qc e) (by rw [hs0]; rfl) hnew (fun u hu => qcs_one (Q := [e]) u (by simpa [qcs] using hu))
 have hqe : (qc e).length = 3 := rfl
 have hql := @qcs_len Q
 have happ : qcs (Q ++ [e]) = qcs Q ++ qc e := by unfold qcs; rw [List.flatMap_append]; simp
 by_cases hroom : Q.length + 1 ≤ cap
 ·have hth : w.there g (off + Q.length * 3) (qc e).length := fun j hj => by
   rw [hqe] at hj
   refine ⟨?_,by simp [World.frozen?,h2]⟩
   have : off + Q.length * 3 + j < C.size := by omega
   simp [World.cell?,h2,this]
  have hr := run_append_room_src w 109 109 ty 108 i0 Try.underlying109 hi0 g off Q.length cap _ 1 (qc e) hsrc hroom (fun j hj => by rw [hs0]; exact (hth j hj).1) (fun j hj => by rw [hs0]; exact (hth j hj).2)
  rw [hs0] at hr
  obtain ⟨C',c1,c2⟩ := setCells_heap (g := g) (vs := qc e) (o := off + Q.length * 3) h2
  refine ⟨_,_,_,_,_,hr,⟨g,off,cap,C',by rw [List.length_append]; rfl,h1,c1,by rw [List.length_append]; exact hroom,by rw [c2]; exact h4, ?_⟩,setCells_grown,.inl rfl⟩
  rw [happ]
  intro j u hj
  rcases Nat.lt_or_ge j (qcs Q).length with hlt | hge
  ·rw [List.getElem?_append_left hlt] at hj
   exact World.rangeAt_setCells_apart h5 g _ _ (.inr (.inl (by omega))) j u hj
  ·rw [List.getElem?_append_right hge] at hj
   have := World.rangeAt_setCells_same w g (off + Q.length * 3) (qc e) hth _ u hj
   rwa [show off + Q.length * 3 + (j - (qcs Q).length) = off + j by omega] at this
 ·have hold : (Builtin.firstCells i0.size Q.length (.slice (some ⟨g,off,none⟩) Q.length cap)).run Try.prog w.drew = .ok (qcs Q).toArray w.drew :=
   run_firstCells_some w.drew i0.size Q.length ⟨g,off,none⟩ Q.length cap (qcs Q) (by rw [hs0]; exact hql) (fun j u hj => by rw [Addr.add_lit]; exact h5 j u hj)
  have hr := run_append_grow_src (P := Try.prog) w 109 109 ty 108 i0 (.agg #[.int .i64 0,.int .i64 0,.string ⟨#[]⟩]) Try.underlying109 hi0 hz0 (some ⟨g,off,none⟩) Q.length cap (qcs Q) hold _ 1 (qc e) hsrc (by omega) (by omega) (growslice_fits (by omega) (by rw [hb0]; omega))
  have hcapge := grownCap_ge w (Q.length + 1) cap 108
  refine ⟨_,_,_,_,_,hr,⟨w.heap.size,0,_,_,by rw [List.length_append]; rfl,hB,heap_alloc_new _ _,by rw [List.length_append]; exact hcapge, ?_, ?_⟩,⟨rfl,rfl,rfl,by simp,fun k hk hne => heap_alloc_old _ _ hk⟩,.inr (Nat.le_refl _)⟩
  ·have hz3 : (Value.agg #[.int .i64 0,.int .i64 0,.string ⟨#[]⟩]).cells.size = 3 := rfl
   simp only [Builtin.zeroCells,Array.size_append,List.size_toArray,List.length_append,Array.size_map,Array.size_range,hql,hqe,hz3]
   omega
  ·rw [happ]
   intro j u hj
   have hlt : j < (qcs Q ++ qc e).length := (List.getElem?_eq_some_iff.1 hj).1
   have hc : (w.drew.alloc (.cells ((qcs Q ++ qc e).toArray ++ Builtin.zeroCells (Value.agg #[.int .i64 0,.int .i64 0,.string ⟨#[]⟩]).cells (grownCap w (Q.length + 1) cap 108 - (Q.length + 1))) 108)).heap[w.heap.size]? = _ := heap_alloc_new w.drew _
   simp only [World.cell?,hc,Nat.zero_add]
   simp only [Option.isSome_none,Bool.false_eq_true,if_false]
   rw [Array.getElem?_append_left (by simpa using hlt)]
   simpa using hj
end Go.Proofs.Ytmnmfmghmenkkaa
set_option linter.unusedSimpArgs false
set_option linter.unusedVariables false
namespace Go.Proofs.Ytmnmfmghmenkkaa
open Go.Abs Go.Pur
set_option maxRecDepth 100000
def pV2 (p : Int × Int) : Value := .agg #[.int .i64 p.1,.int .i64 p.2]
theorem prun_prog {P : Program} : prun P (program) = some P := rfl
theorem held106 : Try.prog.stoodInHeld 106 = false := by kernel_rfl
theorem part0 {a b : Int} : prun Try.prog (part 3 #[.int .i64 a,.int .i64 b] 0) = some (.int .i64 a) := by kernel_rfl
theorem part1 {a b : Int} : prun Try.prog (part 3 #[.int .i64 a,.int .i64 b] 1) = some (.int .i64 b) := by kernel_rfl
theorem eqint {k : Nat} {a b : Int} : prun Try.prog (Op.equalIn (k + 1) 3 (.int .i64 a) (.int .i64 b)) = some (decide (a = b)) := by
 rw [Op.equalIn]
 rw [prun_bind _ _ (prun_und Try.underlying3)]
 rfl
theorem equal106 {k : Nat} {a b c d : Int} : prun Try.prog (Op.equalIn (k + 1 + 1) 106 (.agg #[.int .i64 a,.int .i64 b]) (.agg #[.int .i64 c,.int .i64 d])) = some (decide (a = c) && decide (b = d)) := by
 rw [Op.equalIn]
 simp [prun_bnd,prun_pure,prun_und Try.underlying106,prun_prog,held106]
 rw [part0,part0]
 dsimp only
 rw [eqint]
 by_cases h1 : a = c
 ·rw [decide_eq_true h1]
  simp [prun_bnd,prun_pure,part1,eqint,h1]
  by_cases h2 : b = d
  ·simp [h2,prun_pure]
  ·simp [h2,prun_pure]
 ·rw [decide_eq_false h1]
  simp [prun_bnd,prun_pure,h1]
theorem ask_pair {W : Type} {vf : W → Value} {p : Int × Int} : ∀ {l : Mp (Int × Int) W} {i : Nat},prun Try.prog (Instr.findAsking 106 (pV2 p) (mE pV2 vf l) i) = some ((mIdx p l i).map fun q => (q.1,vf q.2))
 | [],i => rfl
 | e :: l,i => by
  show prun Try.prog (Instr.findAsking 106 (pV2 p) (⟨pV2 e.1,vf e.2.1,e.2.2⟩ :: mE pV2 vf l) i) = _
  rw [Instr.findAsking]
  have he : prun Try.prog (Op.equal 106 (pV2 p) (pV2 e.1)) = some (decide (e.1 = p)) := by
   unfold Op.equal pV2
   rw [show Op.maxDepth = 9998 + 1 + 1 from rfl,equal106]
   congr 1
   obtain ⟨a,b⟩ := p
   obtain ⟨⟨c,d⟩,v,s⟩ := e
   by_cases h1 : a = c
   ·by_cases h2 : b = d
    ·subst h1 h2; simp
    ·have : ¬ (c,d) = (a,b) := fun h => h2 (by simpa using (Prod.mk.inj h).2.symm)
     rw [decide_eq_false h2,decide_eq_false this]; simp
   ·have : ¬ (c,d) = (a,b) := fun h => h1 (by simpa using (Prod.mk.inj h).1.symm)
    rw [decide_eq_false h1,decide_eq_false this]; simp
  rw [prun_bind _ _ he,mIdx]
  cases decide (e.1 = p) with
  | true => rfl
  | false =>
   simp only [Bool.false_eq_true,if_false]
   exact ask_pair
theorem key_pair : KeyT Try.prog 106 pV2 := by
 refine ⟨fun emp k => by cases emp <;> kernel_rfl,fun {W} vf l k => ?_,fun k => ?_,fun k => rfl⟩
 ·unfold Instr.findKey
  rw [prun_bind _ _ (prun_und Try.underlying106)]
  cases l with
  | nil => rfl
  | cons e l =>
   exact ask_pair (l := e :: l) (i := 0)
 ·unfold pV2
  show ((IntKind.i64 == IntKind.i64 && k.1 == k.1) && ((IntKind.i64 == IntKind.i64 && k.2 == k.2) && true)) = true
  simp
end Go.Proofs.Ytmnmfmghmenkkaa
set_option linter.unusedSimpArgs false
set_option linter.unusedVariables false
set_option linter.unusedSectionVars false
namespace Go.Pur
open Go.Abs
def bytO (l : List UInt8) : Option (List Int) := match Nat.ble l.length 1000000 with
 | true => some (l.map fun b => (b.toNat : Int))
 | false => none
theorem bytO_ok {l : List UInt8} {x : List Int} (h : bytO l = some x) : l.length = x.length ∧ (l.map fun b => PV.v (.int .u8 b.toNat)) = x.map (kv .u8) ∧ Nat.ble (x.length + 1) unkCap = true := by
 unfold bytO at h
 split at h
 ·rename_i hb
  cases h
  refine ⟨by simp,by simp, ?_⟩
  refine Nat.ble_eq_true_of_le ?_
  have := Nat.le_of_ble_eq_true hb
  simp only [List.length_map]
  exact Nat.lt_of_le_of_lt this (show 1000000 < unkCap by decide)
 ·cases h
theorem bytO_at {l : List UInt8} (h : l.length ≤ 1000000) : bytO l = some (l.map fun b => (b.toNat : Int)) := by
 unfold bytO
 rw [Nat.ble_eq_true_of_le h]
end Go.Pur
set_option linter.unusedSimpArgs false
set_option linter.unusedVariables false
namespace Go.Proofs.Ytmnmfmghmenkkaa
open Go.Abs Go.Pur
theorem pvOf_mnil : pvOf (.map none) = some (.v (.map none)) := rfl
def txtO : Option (List KR) → Option (List UInt8)
 | some [.p (.string s)] => some s.data.toList
 | _ => none
theorem known_txt {g : FuncId} {args : List PV} {ks : List KA} {r : List UInt8} {hp : List (Option (List PV))} (hy : Y0.yes g = true) (ha : paArgs args = some ks) (h : txtO (extN g ks) = some r) : E Try.prog Y0 g args hp = some (.v (.string (bs r)),hp,none) := by
 refine E_known hy ?_
 show libP (extN g) args hp = _
 unfold libP
 rw [ha]
 unfold txtO at h
 split at h
 ·rename_i s e
  cases h
  simp only [e]
  rfl
 ·cases h
def f53O (l : List UInt8) (m : Int) : Option (List UInt8) := txtO (e53 [.p (.string (bs l)),.p (.int .i64 m)])
theorem f53_is {l : List UInt8} {m : Int} {r : List UInt8} {hp : List (Option (List PV))} (h : f53O l m = some r) : E Try.prog Y0 53 [.v (.string (bs l)),.v (.int .i64 m)] hp = some (.v (.string (bs r)),hp,none) := known_txt rfl rfl h
def lstO : Option (List KR) → Option (List (List UInt8))
 | some [.l cs] => txs cs
 | _ => none
where txs : List Value → Option (List (List UInt8))
 | [] => some []
 | v :: l => match keyS v,txs l with
  | some k,some r => some (k :: r)
  | _,_ => none
end Go.Proofs.Ytmnmfmghmenkkaa
set_option linter.unusedSimpArgs false
set_option linter.unusedVariables false
set_option linter.unusedSectionVars false
namespace Go.Pur
open Go.Abs Go.RowKit
theorem pplains_map : ∀ {rs : List Value},pplains (rs.map .v) = some rs
 | [] => rfl
 | r :: rs => by
  show (match (PV.v r :: rs.map .v) with
   | [] => some []
   | .v x :: l => match pplains l with
    | some r => some (x :: r)
    | none => none
   | _ :: _ => none) = _
  simp only [pplains_map]
theorem vr_packed {C : Ctx} {h : AHeap} {π : Option Pl} {rs : List Value} {x : Value} (hv : VR C h π (pPack (rs.map .v)) x) : x = packed rs := by
 have two : ∀ {rs : List Value} {x : Value},VR C h π (.t (rs.map .v)) x → x = .tuple rs.toArray := fun {rs x} hv => by
  obtain ⟨l,rfl,hl⟩ := hv.inv_t
  obtain ⟨e,_⟩ := pplains_lr pplains_map hl
  rw [e]
 match rs,hv with
 | [],hv => exact two hv
 | [v],hv => exact hv.inv_v.1
 | a :: b :: r,hv => exact two hv
theorem vrel_packed {m : BMap} {rs : List Value} {v : Value} (hok : rs.all okP = true) (h : VRel m (packed rs) v) : v = packed rs := by
 have two : ∀ {rs : List Value} {v : Value},rs.all okP = true → VRel m (.tuple rs.toArray) v → v = .tuple rs.toArray := fun {rs v} hok h => by
  obtain ⟨l,rfl,hl⟩ := h.inv_tuple
  have := LRel.all_plain hl (List.all_eq_true.2 fun v hv => okP_plain (List.all_eq_true.1 hok v hv))
  have e : l = rs.toArray := Array.toList_inj.1 this
  rw [e]
 match rs,hok,h with
 | [],hok,h => exact two hok h
 | [a],hok,h => exact h.inv_plain (v := a) (okP_plain (by simpa using hok))
 | a :: b :: r,hok,h => exact two hok h
section
variable {P : Program} {Y : Pol} {W : World}
theorem Lies.below {B : Blk} {L : Abs.Loc} {n : Nat} {W W' : World} (h : Lies W B L) (hL : L.b < n) (hb : Below n W W') : Lies W' B L := by
 obtain ⟨h1,h2,h3,h4,h5⟩ := h
 have e : W'.heap[L.b]? = W.heap[L.b]? := hb.block _ hL
 refine ⟨h1,h2,Nat.lt_of_lt_of_le h3 hb.size,h4.imp (fun h => h) (fun ⟨C,t,fr,h⟩ => ⟨C,t,fr,by rw [e]; exact h⟩),fun k v hk => ?_⟩
 obtain ⟨c1,c2⟩ := h5 k v hk
 exact ⟨by rw [World.cell?_of_block (w := W) e]; exact c1,c2⟩
theorem pure_calls (hmix : P.follows .mixedOrders = true) (hok : progOK P = true) (hlib : ∀ g,Y.yes g = true → FnOK P Y g) {G : List Blk} {GL : List Abs.Loc} (hG : G ≠ []) (hlen : G.length = GL.length) (hw : ∀ B ∈ G,B.wr = false)
  (hT : ∀ (i : Nat) (B : Blk) (L : Abs.Loc),G[i]? = some B → GL[i]? = some L → Lies W B L) (hgl : ∀ g,g < P.globals.size → GL[g]? = some ⟨g,0,0⟩)
  (hgr : ∀ l : List Blk,GR P Y (C0 P (G ++ l).length) (heapOf (G ++ l)))
  {f : FuncId} {us : List PV} {vs : List Value} {rs : List Value} {hp' : List (Option (List PV))} {wl : Option Nat} (hrs : rs.all okP = true) (hA : ArgsIn W vs us) (hE : E P Y f us [] = some (pPack (rs.map .v),hp',wl)) :
  Calls P f vs.toArray W fun e W' => e = .returned (packed rs) ∧ Below W.heap.size W W' := by
 obtain ⟨l,ls,xs,a1,a2,a3⟩ := args_in (P := P) hA hG hlen
 obtain ⟨b1,b2⟩ := a3 [] []
 simp only [List.append_nil] at b1 b2
 obtain ⟨n,hn⟩ := E_iff.1 hE
 obtain ⟨O,hl,hO,hOe⟩ := lib_of hlib
 obtain ⟨C',h',x',r1,r2⟩ := purRun_sim hl hok n f us [] _ hp' wl hn (C0 P (G ++ l).length) (heapOf (G ++ l)) xs 0
  ⟨rfl,⟨fun _ h => h,fun id h => ⟨h,rfl⟩,fun _ _ h => (by cases h),fun _ _ h => (by cases h),fun _ _ _ h => (by cases h),fun _ _ h => (by simp at h),fun _ _ h => (by simp at h)⟩,hgr l,fun _ _ h => (by cases h),b2⟩
 obtain rfl := vr_packed r2.res
 have hR : Rel P (mapOf (GL ++ ls)) (heapOf (G ++ l)) W := by
  refine rel_init _ _ (by simp [a1,hlen]) (fun i B L hB hL => ?_) (fun g hg => ?_)
  ·by_cases hi : i < G.length
   ·rw [List.getElem?_append_left hi] at hB
    rw [List.getElem?_append_left (hlen ▸ hi)] at hL
    exact hT i B L hB hL
   ·rw [List.getElem?_append_right (Nat.not_lt.1 hi)] at hB
    rw [List.getElem?_append_right (hlen ▸ Nat.not_lt.1 hi)] at hL
    rw [← hlen] at hL
    exact a2 _ B L hB hL
  ·have h := hgl g hg
   rw [List.getElem?_append_left (List.getElem?_eq_some_iff.1 h).1]
   exact h
 obtain ⟨_,hc⟩ := sound_call hmix hOe hO n f xs (heapOf (G ++ l)) (packed rs) h' r1
 refine (hc _ W vs hR b1).mono fun e W' ⟨m',v',he,hv,_,hs⟩ => ?_
 rw [vrel_packed hrs hv] at he
 refine ⟨he,⟨hs.os,hs.tape,hs.output,hs.size,fun k hk => hs.frame k hk (fun a B L hB hwr _ _ => ?_) (fun a x L hx => (by cases hx))⟩⟩
 rw [heapOf_get] at hB
 have hmem := List.mem_of_getElem? hB
 rw [List.mem_append] at hmem
 rcases hmem with hm | hm
 ·rw [hw B hm] at hwr; cases hwr
 ·obtain ⟨i,hi,rfl⟩ := List.mem_iff_getElem.1 hm
  rw [(a2 i _ (ls[i]'(a1 ▸ hi)) (List.getElem?_eq_getElem hi) (List.getElem?_eq_getElem _)).1] at hwr
  cases hwr
theorem pure_den (hmix : P.follows .mixedOrders = true) (hok : progOK P = true) (hlib : ∀ g,Y.yes g = true → FnOK P Y g) {G : List Blk} {GL : List Abs.Loc} (hG : G ≠ []) (hlen : G.length = GL.length) (hw : ∀ B ∈ G,B.wr = false)
  (hT : ∀ (i : Nat) (B : Blk) (L : Abs.Loc),G[i]? = some B → GL[i]? = some L → Lies W B L) (hgl : ∀ g,g < P.globals.size → GL[g]? = some ⟨g,0,0⟩)
  (hgr : ∀ l : List Blk,GR P Y (C0 P (G ++ l).length) (heapOf (G ++ l)))
  {f : FuncId} {us : List PV} {vs : List Value} {r : PV} {a : KA} {hp' : List (Option (List PV))} {wl : Option Nat} (hra : paArg r = some a) (hA : ArgsIn W vs us) (hE : E P Y f us [] = some (r,hp',wl)) :
  Calls P f vs.toArray W fun e W' => ∃ v,e = .returned v ∧ LDen W' v a ∧ Below W.heap.size W W' := by
 obtain ⟨l,ls,xs,a1,a2,a3⟩ := args_in (P := P) hA hG hlen
 obtain ⟨b1,b2⟩ := a3 [] []
 simp only [List.append_nil] at b1 b2
 obtain ⟨n,hn⟩ := E_iff.1 hE
 obtain ⟨O,hl,hO,hOe⟩ := lib_of hlib
 obtain ⟨C',h',x',r1,r2⟩ := purRun_sim hl hok n f us [] _ hp' wl hn (C0 P (G ++ l).length) (heapOf (G ++ l)) xs 0
  ⟨rfl,⟨fun _ h => h,fun id h => ⟨h,rfl⟩,fun _ _ h => (by cases h),fun _ _ h => (by cases h),fun _ _ _ h => (by cases h),fun _ _ h => (by simp at h),fun _ _ h => (by simp at h)⟩,hgr l,fun _ _ h => (by cases h),b2⟩
 have hra' := paArg_vr hra r2.res
 have hR : Rel P (mapOf (GL ++ ls)) (heapOf (G ++ l)) W := by
  refine rel_init _ _ (by simp [a1,hlen]) (fun i B L hB hL => ?_) (fun g hg => ?_)
  ·by_cases hi : i < G.length
   ·rw [List.getElem?_append_left hi] at hB
    rw [List.getElem?_append_left (hlen ▸ hi)] at hL
    exact hT i B L hB hL
   ·rw [List.getElem?_append_right (Nat.not_lt.1 hi)] at hB
    rw [List.getElem?_append_right (hlen ▸ Nat.not_lt.1 hi)] at hL
    rw [← hlen] at hL
    exact a2 _ B L hB hL
  ·have h := hgl g hg
   rw [List.getElem?_append_left (List.getElem?_eq_some_iff.1 h).1]
   exact h
 obtain ⟨_,hc⟩ := sound_call hmix hOe hO n f xs (heapOf (G ++ l)) x' h' r1
 refine (hc _ W vs hR b1).mono fun e W' ⟨m',v',he,hv,hR',hs⟩ => ?_
 refine ⟨v',he,aaArg_den hR' hra' hv,⟨hs.os,hs.tape,hs.output,hs.size,fun k hk => hs.frame k hk (fun a B L hB hwr _ _ => ?_) (fun a x L hx => (by cases hx))⟩⟩
 rw [heapOf_get] at hB
 have hmem := List.mem_of_getElem? hB
 rw [List.mem_append] at hmem
 rcases hmem with hm | hm
 ·rw [hw B hm] at hwr; cases hwr
 ·obtain ⟨i,hi,rfl⟩ := List.mem_iff_getElem.1 hm
  rw [(a2 i _ (ls[i]'(a1 ▸ hi)) (List.getElem?_eq_getElem hi) (List.getElem?_eq_getElem _)).1] at hwr
  cases hwr
theorem rel_bare {m : BMap} {h : AHeap} (hR : Rel P m h W) : Rel P m ⟨h.next,h.next,.nil,.nil⟩ W :=
 ⟨hR.lt,hR.fresh,(fun a B L hg => by cases hg),(fun a a' B B' L L' hg => by cases hg),hR.glob,fun _ _ => rfl,⟨(fun a x L hx => by cases hx),(fun a a' x x' L L' hx => by cases hx),fun _ _ => rfl⟩⟩
theorem lp_plain {C : Ctx} {h : AHeap} : ∀ {vs : List Value},(∀ v ∈ vs,plain v = true ∧ ∀ n c,v ≠ .slice none n c) → LP1 C h (vs.map .v) vs
 | [],_ => trivial
 | v :: vs,hv => ⟨⟨fun d => .v _ v (hv v List.mem_cons_self).1 (hv v List.mem_cons_self).2,rfl⟩,lp_plain fun x hx => hv x (List.mem_cons_of_mem _ hx)⟩
theorem pure_plain (hmix : P.follows .mixedOrders = true) (hok : progOK P = true) (hlib : ∀ g,Y.yes g = true → FnOK P Y g) (hgl : Y.glob = []) {m : BMap} {h : AHeap} (hR : Rel P m h W)
  {f : FuncId} {vs : List Value} {rs : List Value} {hp' : List (Option (List PV))} {wl : Option Nat} (hrs : rs.all okP = true) (hv : ∀ v ∈ vs,plain v = true ∧ ∀ n c,v ≠ .slice none n c) (hE : E P Y f (vs.map .v) [] = some (pPack (rs.map .v),hp',wl)) :
  Calls P f vs.toArray W fun e W' => e = .returned (packed rs) ∧ Below W.heap.size W W' := by
 have hR0 := rel_bare hR
 obtain ⟨n,hn⟩ := E_iff.1 hE
 obtain ⟨O,hl,hO,hOe⟩ := lib_of hlib
 obtain ⟨C',h',x',r1,r2⟩ := purRun_sim hl hok n f (vs.map .v) [] _ hp' wl hn (C0 P 0) ⟨h.next,h.next,.nil,.nil⟩ vs 0
  ⟨rfl,⟨fun _ h => h,fun id h => absurd h (Nat.not_lt_zero _),fun _ _ h => (by cases h),fun _ _ h => (by cases h),fun _ _ _ h => (by cases h),fun _ _ h => (by simp at h),fun _ _ h => (by simp at h)⟩,(fun g cs hg => by rw [hgl] at hg; cases hg),fun _ _ h => (by cases h),lp_plain hv⟩
 obtain rfl := vr_packed r2.res
 have hL : LRel m vs vs := ⟨rfl,fun i hi => by
  have e : vs.getD i undef = vs[i] := by rw [List.getD_eq_getElem?_getD,List.getElem?_eq_getElem hi]; rfl
  rw [e]
  exact .plain _ (hv _ (List.getElem_mem hi)).1⟩
 obtain ⟨_,hc⟩ := sound_call hmix hOe hO n f vs _ (packed rs) h' r1
 refine (hc _ W vs hR0 hL).mono fun e W' ⟨m',v',he,hv,_,hs⟩ => ?_
 rw [vrel_packed hrs hv] at he
 exact ⟨he,⟨hs.os,hs.tape,hs.output,hs.size,fun k hk => hs.frame k hk (fun a B L hB hwr _ _ => by cases hB) (fun a x L hx => (by cases hx))⟩⟩
end
end Go.Pur
set_option linter.unusedSimpArgs false
set_option linter.unusedVariables false
namespace Go.Proofs.Ytmnmfmghmenkkaa.Q
open Go.Abs Go.Pur
set_option maxRecDepth 100000
set_option maxHeartbeats 2000000
def Y0 : Pol := { keep := keepOf,glob := [],mv := mvOf }
theorem Y0_fzm {f t : Nat} : Y0.fzm f t = fzmOf f t := rfl
theorem Y0_keep {f t : Nat} : Y0.keep f t = keepOf f t := rfl
theorem Y0_how {f g : Nat} : Y0.how f g = howOf f g := rfl
theorem Y0_mv {f t : Nat} : Y0.mv f t = mvOf f t := rfl
theorem Y0_part {f : Nat} : Y0.part f = partOf f := rfl
attribute [local simp] EK_region EK_seq EK_cond EK_block EK_blk EK_loop EK_exit EK.ex EK_ret EK_skip EK_nil EO_cons EO_nil EO1_true EO1_false EO2_some EO3_some EB_true EB_false pwanted poper pq pev Go.Pur.look pputT isAssign drOf pinit Tr.get_set lget pvOf_int pvOf_bool pvOf_str pvOf_nil rdv_ak notOwn_ak prt_ak loose_ak rdv_own rdv_fz rdv_bor rdv_rf rdv_pt rdv_v rdv_a rdv_t rdv_r rdv_p rdv_s rdv_f pbin plen pload ppart idxAddr pcond Nat.blt goInt_eq prun_not prun_neg mayLoad ER_ret ER_normal presL presOne moved stor okDrop settle_v settle_l settle_a settle_p settle_f noref_v noref_fz noref_a norefs_nil norefs_cons pclose given dropB Y0_keep pevParts stors pvCells pvCells.go vcells pfill reps zipParts ownFz pcells cellOK one psrcLen srcFits psrc takeP pgrow take getPl setPl mapL plEq elder isList lowP pevs frzs addP partAt ble_lim24 killV_v killV_a killV_t killV_f killV_i killV_p killV_s killV_un killV_dead killV_lfz killV_lbor killV_lown killV_rfz killV_rbor killV_lak killV_rak frzV_v frzV_a frzV_t frzV_f frzV_i frzV_p frzV_s frzV_un frzV_dead frzV_lfz frzV_lbor frzV_lown frzV_rfz frzV_rbor frzV_lak frzV_rak killCell_v killCell_a killCell_t killCell_f killCell_i killCell_p killCell_s killCell_un killCell_dead killCell_lfz killCell_lbor killCell_lown killCell_rfz killCell_rbor killCell_lak killCell_rak killV_lrf killV_lpt killV_rpt frzV_lrf frzV_lpt frzV_rpt killCell_lrft killCell_lptt killCell_rptt killCell_lrfc killCell_lptc killCell_rptc argv_lak argv_rak argv_v argv_a argv_p argv_f argv_fz argv_bor argv_rf argv_pt argv_rc argv_own mayTurn_none argvs pcallOp firm refsTo_v refsTo_l refsTo_p refsTo_s refsTo_a refsTo_dead refsTo_nil refsTo_cons isOwn_lak ownFz_lak evSafe pskip plain pnewBlk fldAddr isOwn pput notOwn_fz notOwn_bor notOwn_own notOwn_rf notOwn_pt prt_fz prt_bor prt_own prt_rf prt_pt Go.Pur.freeze presM settles abin_and abin_or abin_andNot abin_mul abin_shr abin_shl abin_add abin_sub abin_eql abin_neq abin_lss abin_leq abin_gtr abin_geq hows pcallIn Y0_how Y0_part howOf partOf rdv_mown rdv_mfz rdv_mbor rdv_mrf killV_mown killV_mfz killV_mbor killV_mrf frzV_mown frzV_mfz frzV_mbor frzV_mrf killCell_mown killCell_mfz killCell_mbor killCell_mrf argv_mfz argv_mbor argv_mrf settle_m kls_v kls_l kls_a kls_t kls_r kls_p kls_s kls_f kls_i kls_it kls_un kls_dead kls_mown kls_mrf kls_mbor kls_mfz fzOf takable mapHere mapOwn mapTo flat toPlain toPlain.go ofFlat ofPair mapEs plook lookRes Y0_mv mvOf mvBlk premv Y0_fzm fzmOf poperX pconv mvOp keep68 keep81 sz3 by3 row3 zero3 sz4 by4 row4 zero4 sz5 by5 row5 zero5 sz9 by9 row9 shape9 zero9 sz21 by21 row21 zero21 sz22 by22 row22 zero22 sz24 by24 row24 zero24 sz29 by29 row29 shape29 zero29 sz36 by36 row36 shape36 zero36 sz52 by52 row52 shape52 zero52 parts52 sz54 by54 row54 zero54 parts54 field54_0 field54_1 sz58 by58 row58 zero58 mt58 az3 sz63 by63 row63 zero63 sz66 by66 row66 shape66 zero66 parts66 sz67 by67 row67 shape67 zero67 sz75 by75 row75 shape75 zero75 sz76 by76 row76 shape76 zero76 sz78 by78 row78 zero78 mt78 sz79 by79 row79 shape79 zero79 sz92 by92 row92 zero92 sz94 by94 row94 zero94 parts94 field94_0 field94_1 sz99 by99 row99 shape99 zero99 sz102 by102 row102 zero102 mt102 az4 sz103 by103 row103 zero103 mt103 sz106 by106 row106 zero106 parts106 field106_0 field106_1 sz108 by108 row108 zero108 parts108 field108_0 field108_1 sz109 by109 row109 shape109 zero109 sz110 by110 row110 zero110 mt110 sz112 by112 row112 zero112 sz115 by115 row115 zero115 sz116 by116 row116 zero116 sz119 by119 row119 zero119 sz127 by127 row127 zero127 sz129 by129 row129 zero129 sz130 by130 row130 zero130 sz134 by134 row134 zero134 bs_size gAt gAt0 sAt sAt0 optPlain rows_len noMaker_eq kindOf vlOf abin_rem abin_quo mayTurn_none lowOf_none Go.Pur.partAt rows_nil rows_cons ble_add ble_add0 ble_same toPlain toPlain.go intIn2_0 intIn2_1 ble12 ble22 tv lv max_int min_int pplains ak_true ak_false apartP beq_add beq_add0 beq_add1 argv_s wok_none wok_low_iff lowOf_wok
def f68_L0 (F : Nat) (p0 : List Int) (p1 : Int) (x1 : Int) (K : Unit → Option (Int)) : Nat → Int → Option (Int)
  | 0,_ => none
  | n + 1,v2 => (some (decide (v2 < x1))).bind fun x3 =>
    (match x3 with
    | true => ((gI p0 v2).bind fun y4 =>
    (some (decide (p1 = y4))).bind fun x5 =>
    (match x5 with
    | true => (some v2)
    | false => ((some (IntKind.i64.wrap (v2 + 1))).bind fun x6 =>
    f68_L0 F p0 p1 x1 K n x6)))
    | false => (K ()))
def f68S (F : Nat) (p0 : List Int) (p1 : Int) : Option (Int) :=
  (some ((p0.length : Int))).bind fun x1 =>
  f68_L0 F p0 p1 x1 (fun _ =>
    some (-1)) F 0
theorem f68_is {a0 : Bool} {c0 : Ck} {p0 : List Int} {p1 : Int} {hp : List (Option (List PV))} {F : Nat} {r : (Int)}  (h : f68S F p0 p1 = some r) :
    E Try.prog Y0 68 [.l (ak a0) c0 p0.length (p0.map (kv .u8)),kv .u8 p1] hp = some (iv r,hp,none) := by
  rw [E_bodyN 2 body68 rfl (by decide) rfl]
  simp only [Try.f68,Option.get_some]
  unfold f68S at h
  obtain ⟨x1,ex1,h⟩ := bindT h
  simp [ex1]
  have hL0 := h; clear h
  refine loopS (S := f68_L0 F p0 p1 x1) (fun v2 σ => ∃ (ts : Tr PV) (w : Option Nat),wok hp.length w ∧ σ = ⟨[],ts,hp,w⟩ ∧ ts.get 0 = some (.l (ak a0) c0 p0.length (p0.map (kv .u8))) ∧ ts.get 1 = some (kv .u8 p1) ∧ ts.get 7 = some (iv x1) ∧ ts.get 8 = some (iv v2) ∧ True) (fun _ σ => ∃ (ts : Tr PV) (w : Option Nat),wok hp.length w ∧ σ = ⟨[],ts,hp,w⟩ ∧ True) (fun _ => rfl) hL0 ?_ ?_ ?_
  · exact ⟨_,_,by simp,rfl,by simp [ex1]⟩
  · rintro ⟨⟩ σ ⟨ts,w,hw,rfl,-⟩ h
    clear hL0
    try dsimp only at h
    obtain rfl := inj_ok h
    simp [hw]
  · rintro k n v2 σ ⟨ts,w,hw,rfl,g0,g1,g7,g8,-⟩ h ih ex
    clear hL0
    rw [f68_L0] at h
    obtain ⟨x3,ex3,h⟩ := bindT h
    cases x3
    case false =>
     simp [g0,g1,g7,g8,ex3]
     refine ex () _ ?_ h
     exact ⟨_,_,by simp [hw],rfl,by simp [g0,g1,g7,g8,ex3]⟩
    obtain ⟨y4,ey4,h⟩ := bind_ok h
    obtain ⟨ey4a,ey4e,ey4b,ey4c,ey4g⟩ := gI_ok rfl ey4
    obtain ⟨x5,ex5,h⟩ := bindT h
    cases x5
    case true =>
     obtain rfl := inj_ok h
     simp [g0,g1,g7,g8,ex3,ey4a,ey4b,ey4c,ex5,hw]
    obtain ⟨x6,ex6,h⟩ := bindT h
    simp [g0,g1,g7,g8,ex3,ey4a,ey4b,ey4c,ex5,ex6]
    refine ih x6 _ ?_ h
    exact ⟨_,_,by simp [hw],rfl,by simp [g0,g1,g7,g8,ex3,ey4a,ey4b,ey4c,ex5,ex6]⟩
def f81S (F : Nat) (p0 : List UInt8) (p1 : Int) (p2 : Int) : Option (Int) :=
  (some (decide (p1 < 0))).bind fun x1 =>
  (match x1 with
  | true => (some (-1))
  | false => ((subF p0 p1).bind fun x2 =>
  (bytO x2).bind fun x3 =>
  (f68S F x3 p2).bind fun x4 =>
  (some (decide (x4 < 0))).bind fun x6 =>
  (match x6 with
  | true => (some (-1))
  | false => ((some (IntKind.i64.wrap (p1 + x4))).bind fun x7 =>
  (some (IntKind.i64.wrap (x7 + 1))).bind fun x8 =>
  some x8))))
theorem f81_is {p0 : List UInt8} {p1 : Int} {p2 : Int} {hp : List (Option (List PV))} {F : Nat} {r : (Int)}  (h : f81S F p0 p1 p2 = some r) :
    E Try.prog Y0 81 [.v (.string (bs p0)),iv p1,kv .u8 p2] hp = some (iv r,hp,none) := by
  rw [E_bodyN 3 body81 rfl (by decide) rfl]
  simp only [Try.f81,Option.get_some]
  unfold f81S at h
  obtain ⟨x1,ex1,h⟩ := bindT h
  cases x1
  case true =>
   obtain rfl := inj_ok h
   simp [ex1]
  obtain ⟨x2,ex2,h⟩ := bind_ok h
  have ex2 := fun {k : IntKind} => subF_ok (P := Try.prog) (t := 9) Try.underlying9 ex2 (k := k)
  obtain ⟨x3,ex3,h⟩ := bind_ok h
  obtain ⟨ex3l,ex3m,ex3s⟩ := bytO_ok ex3
  obtain ⟨x4,e5,h⟩ := bind_ok h
  have e5 : ∀ hp,E Try.prog Y0 68 [.l .fz .any x3.length (x3.map (kv .u8)),kv .u8 p2] hp = some (iv x4,hp,none) := fun hp => f68_is (a0 := false) (c0 := .any) e5
  obtain ⟨x6,ex6,h⟩ := bindT h
  cases x6
  case true =>
   obtain rfl := inj_ok h
   simp [ex1,ex2,shape9,pqSlice,ex3l,ex3m,ex3s,e5,ex6]
  obtain ⟨x7,ex7,h⟩ := bindT h
  obtain ⟨x8,ex8,h⟩ := bindT h
  obtain rfl := inj_ok h
  simp [ex1,ex2,shape9,pqSlice,ex3l,ex3m,ex3s,e5,ex6,ex7,ex8]
end Go.Proofs.Ytmnmfmghmenkkaa.Q
namespace Go.Proofs
open Go.Shelf
def Try.lays16c_ren : Go.Shelf.Ren := ⟨fun | 16 => 73 | n => n,fun | 24 => 36 | 9 => 9 | 4 => 4 | n => n,fun | n => n⟩
theorem Try.lays16c : Go.Proofs.Lays2.n16 Try.prog Try.lays16c_ren := {
 mixed := by kernel_rfl
 f16 := Try.func73.trans (congrArg some (by kernel_rfl))
 t4 := Try.underlying4
 a4 := Try.isAgg4
 z4 := Try.sizeOf4
 v4 := Try.zeroValue4
 t9 := Try.underlying9
 a9 := Try.isAgg9
 z9 := Try.sizeOf9
 v9 := Try.zeroValue9
 t24 := Try.underlying36
 a24 := Try.isAgg36
 z24 := Try.sizeOf36
 v24 := Try.zeroValue36
 i9 := by kernel_rfl }
def Try.lays24c_ren : Go.Shelf.Ren := ⟨fun | 24 => 72 | n => n,fun | 24 => 36 | 9 => 9 | 3 => 3 | 4 => 4 | 0 => 0 | n => n,fun | n => n⟩
theorem Try.lays24c : Go.Proofs.Lays2.n24 Try.prog Try.lays24c_ren := {
 mixed := by kernel_rfl
 f24 := Try.func72.trans (congrArg some (by kernel_rfl))
 t0 := Try.underlying0
 a0 := Try.isAgg0
 z0 := Try.sizeOf0
 v0 := Try.zeroValue0
 t3 := Try.underlying3
 a3 := Try.isAgg3
 z3 := Try.sizeOf3
 v3 := Try.zeroValue3
 t4 := Try.underlying4
 a4 := Try.isAgg4
 z4 := Try.sizeOf4
 v4 := Try.zeroValue4
 t9 := Try.underlying9
 a9 := Try.isAgg9
 z9 := Try.sizeOf9
 v9 := Try.zeroValue9
 t24 := Try.underlying36
 a24 := Try.isAgg36
 z24 := Try.sizeOf36
 v24 := Try.zeroValue36
 i9 := by kernel_rfl }
end Go.Proofs
set_option linter.unusedSimpArgs false
set_option linter.unusedVariables false
namespace Go.Proofs.Ytmnmfmghmenkkaa
open Go.Abs Go.Pur
set_option maxRecDepth 100000
set_option maxHeartbeats 2000000
attribute [local simp] Go.Pur.EK_region Go.Pur.EK_seq Go.Pur.EK_cond Go.Pur.EK_block Go.Pur.EK_blk Go.Pur.EK_loop Go.Pur.EK_exit EK.ex Go.Pur.EK_ret Go.Pur.EK_skip Go.Pur.EK_nil Go.Pur.EO_cons Go.Pur.EO_nil Go.Pur.EO1_true Go.Pur.EO1_false Go.Pur.EO2_some Go.Pur.EO3_some Go.Pur.EB_true Go.Pur.EB_false Go.Pur.pwanted Go.Pur.poper Go.Pur.pq Go.Pur.pev Go.Pur.look Go.Pur.pputT Go.Pur.isAssign Go.Pur.drOf Go.Pur.pinit Go.Abs.Tr.get_set Go.Pur.lget Go.Pur.pvOf_int Go.Pur.pvOf_bool Go.Pur.pvOf_str Go.Pur.pvOf_nil Go.Pur.rdv_ak Go.Pur.notOwn_ak Go.Pur.prt_ak Go.Pur.loose_ak Go.Pur.rdv_own Go.Pur.rdv_fz Go.Pur.rdv_bor Go.Pur.rdv_rf Go.Pur.rdv_pt Go.Pur.rdv_v Go.Pur.rdv_a Go.Pur.rdv_t Go.Pur.rdv_r Go.Pur.rdv_p Go.Pur.rdv_s Go.Pur.rdv_f Go.Pur.pbin Go.Pur.plen Go.Pur.pload Go.Pur.ppart Go.Pur.idxAddr Go.Pur.pcond Nat.blt Go.Pur.goInt_eq Go.Pur.prun_not Go.Pur.prun_neg Go.Pur.mayLoad Go.Pur.ER_ret Go.Pur.ER_normal Go.Pur.presL Go.Pur.presOne Go.Pur.moved Go.Pur.stor Go.Pur.okDrop Go.Pur.settle_v Go.Pur.settle_l Go.Pur.settle_a Go.Pur.settle_p Go.Pur.settle_f Go.Pur.noref_v Go.Pur.noref_fz Go.Pur.noref_a Go.Pur.norefs_nil Go.Pur.norefs_cons Go.Pur.pclose Go.Pur.given Go.Pur.dropB Y0_keep Go.Pur.pevParts Go.Pur.stors Go.Pur.pvCells pvCells.go Go.Abs.vcells Go.Pur.pfill Go.Pur.reps Go.Pur.zipParts Go.Pur.ownFz Go.Pur.pcells Go.Pur.cellOK Go.Pur.one Go.Pur.psrcLen Go.Pur.srcFits Go.Pur.psrc Go.Pur.takeP Go.Pur.pgrow Go.Pur.take Go.Pur.getPl Go.Pur.setPl Go.Pur.mapL Go.Pur.plEq Go.Pur.elder Go.Pur.isList Go.Pur.lowP Go.Pur.pevs Go.Pur.frzs Go.Pur.addP Go.Pur.partAt Go.Pur.ble_lim24 Go.Pur.killV_v Go.Pur.killV_a Go.Pur.killV_t Go.Pur.killV_f Go.Pur.killV_i Go.Pur.killV_p Go.Pur.killV_s Go.Pur.killV_un Go.Pur.killV_dead Go.Pur.killV_lfz Go.Pur.killV_lbor Go.Pur.killV_lown Go.Pur.killV_rfz Go.Pur.killV_rbor Go.Pur.killV_lak Go.Pur.killV_rak Go.Pur.frzV_v Go.Pur.frzV_a Go.Pur.frzV_t Go.Pur.frzV_f Go.Pur.frzV_i Go.Pur.frzV_p Go.Pur.frzV_s Go.Pur.frzV_un Go.Pur.frzV_dead Go.Pur.frzV_lfz Go.Pur.frzV_lbor Go.Pur.frzV_lown Go.Pur.frzV_rfz Go.Pur.frzV_rbor Go.Pur.frzV_lak Go.Pur.frzV_rak Go.Pur.killCell_v Go.Pur.killCell_a Go.Pur.killCell_t Go.Pur.killCell_f Go.Pur.killCell_i Go.Pur.killCell_p Go.Pur.killCell_s Go.Pur.killCell_un Go.Pur.killCell_dead Go.Pur.killCell_lfz Go.Pur.killCell_lbor Go.Pur.killCell_lown Go.Pur.killCell_rfz Go.Pur.killCell_rbor Go.Pur.killCell_lak Go.Pur.killCell_rak Go.Pur.killV_lrf Go.Pur.killV_lpt Go.Pur.killV_rpt Go.Pur.frzV_lrf Go.Pur.frzV_lpt Go.Pur.frzV_rpt Go.Pur.killCell_lrft Go.Pur.killCell_lptt Go.Pur.killCell_rptt Go.Pur.killCell_lrfc Go.Pur.killCell_lptc Go.Pur.killCell_rptc Go.Pur.argv_lak Go.Pur.argv_rak Go.Pur.argv_v Go.Pur.argv_a Go.Pur.argv_p Go.Pur.argv_f Go.Pur.argv_fz Go.Pur.argv_bor Go.Pur.argv_rf Go.Pur.argv_pt Go.Pur.argv_rc Go.Pur.argv_own Go.Pur.mayTurn_none Go.Pur.argvs Go.Pur.pcallOp Go.Pur.firm Go.Pur.refsTo_v Go.Pur.refsTo_l Go.Pur.refsTo_p Go.Pur.refsTo_s Go.Pur.refsTo_a Go.Pur.refsTo_dead Go.Pur.refsTo_nil Go.Pur.refsTo_cons Go.Pur.isOwn_lak Go.Pur.ownFz_lak Go.Pur.evSafe Go.Pur.pskip Go.Abs.plain Go.Pur.pnewBlk Go.Pur.fldAddr Go.Pur.isOwn Go.Pur.pput Go.Pur.notOwn_fz Go.Pur.notOwn_bor Go.Pur.notOwn_own Go.Pur.notOwn_rf Go.Pur.notOwn_pt Go.Pur.prt_fz Go.Pur.prt_bor Go.Pur.prt_own Go.Pur.prt_rf Go.Pur.prt_pt Go.Pur.freeze Go.Pur.presM Go.Pur.settles Go.Pur.abin_and Go.Pur.abin_or Go.Pur.abin_andNot Go.Pur.abin_mul Go.Pur.abin_shr Go.Pur.abin_shl Go.Pur.abin_add Go.Pur.abin_sub Go.Pur.abin_eql Go.Pur.abin_neq Go.Pur.abin_lss Go.Pur.abin_leq Go.Pur.abin_gtr Go.Pur.abin_geq Go.Pur.hows Go.Pur.pcallIn Y0_how Y0_part howOf partOf Go.Pur.rdv_mown Go.Pur.rdv_mfz Go.Pur.rdv_mbor Go.Pur.rdv_mrf Go.Pur.killV_mown Go.Pur.killV_mfz Go.Pur.killV_mbor Go.Pur.killV_mrf Go.Pur.frzV_mown Go.Pur.frzV_mfz Go.Pur.frzV_mbor Go.Pur.frzV_mrf Go.Pur.killCell_mown Go.Pur.killCell_mfz Go.Pur.killCell_mbor Go.Pur.killCell_mrf Go.Pur.argv_mfz Go.Pur.argv_mbor Go.Pur.argv_mrf Go.Pur.settle_m Go.Pur.kls_v Go.Pur.kls_l Go.Pur.kls_a Go.Pur.kls_t Go.Pur.kls_r Go.Pur.kls_p Go.Pur.kls_s Go.Pur.kls_f Go.Pur.kls_i Go.Pur.kls_it Go.Pur.kls_un Go.Pur.kls_dead Go.Pur.kls_mown Go.Pur.kls_mrf Go.Pur.kls_mbor Go.Pur.kls_mfz Go.Pur.fzOf Go.Pur.takable Go.Pur.mapHere Go.Pur.mapOwn Go.Pur.mapTo Go.Pur.flat Go.Pur.toPlain toPlain.go Go.Pur.ofFlat Go.Pur.ofPair Go.Pur.mapEs Go.Pur.plook Go.Abs.lookRes Y0_mv mvOf Go.Pur.mvBlk Go.Pur.premv Y0_fzm fzmOf Go.Pur.poperX Go.Pur.pconv Go.Pur.mvOp keep25 sz3 by3 row3 zero3 sz4 by4 row4 zero4 sz5 by5 row5 zero5 sz9 by9 row9 shape9 zero9 sz21 by21 row21 zero21 sz22 by22 row22 zero22 sz24 by24 row24 zero24 sz29 by29 row29 shape29 zero29 sz36 by36 row36 shape36 zero36 sz52 by52 row52 shape52 zero52 parts52 sz54 by54 row54 zero54 parts54 field54_0 field54_1 sz58 by58 row58 zero58 mt58 az3 sz63 by63 row63 zero63 sz66 by66 row66 shape66 zero66 parts66 sz67 by67 row67 shape67 zero67 sz75 by75 row75 shape75 zero75 sz76 by76 row76 shape76 zero76 sz78 by78 row78 zero78 mt78 sz79 by79 row79 shape79 zero79 sz92 by92 row92 zero92 sz94 by94 row94 zero94 parts94 field94_0 field94_1 sz99 by99 row99 shape99 zero99 sz102 by102 row102 zero102 mt102 az4 sz103 by103 row103 zero103 mt103 sz106 by106 row106 zero106 parts106 field106_0 field106_1 sz108 by108 row108 zero108 parts108 field108_0 field108_1 sz109 by109 row109 shape109 zero109 sz110 by110 row110 zero110 mt110 sz112 by112 row112 zero112 sz115 by115 row115 zero115 sz116 by116 row116 zero116 sz119 by119 row119 zero119 sz127 by127 row127 zero127 sz129 by129 row129 zero129 sz130 by130 row130 zero130 sz134 by134 row134 zero134 Go.Pur.bs_size Go.Pur.gAt Go.Pur.gAt0 Go.Pur.sAt Go.Pur.sAt0 Go.Pur.optPlain Go.Pur.rows_len Go.Pur.noMaker_eq Go.Abs.kindOf Go.Pur.vlOf Go.Pur.abin_rem Go.Pur.abin_quo Go.Pur.mayTurn_none Go.Pur.lowOf_none Go.Pur.partAt Go.Pur.rows_nil Go.Pur.rows_cons Go.Pur.ble_add Go.Pur.ble_add0 Go.Pur.ble_same Go.Pur.toPlain toPlain.go Go.Pur.intIn2_0 Go.Pur.intIn2_1 Go.Pur.ble12 Go.Pur.ble22 Go.Pur.tv Go.Pur.lv Go.Pur.max_int Go.Pur.min_int Go.Pur.pplains Go.Pur.ak_true Go.Pur.ak_false Go.Pur.apartP Go.Pur.beq_add Go.Pur.beq_add0 Go.Pur.beq_add1 Go.Pur.argv_s Go.Pur.wok_none Go.Pur.wok_low_iff Go.Pur.lowOf_wok keep27 keep36 keep37 keep62 keep64 keep65 keep66 keep67 keep68 keep81 keep50 keep54
theorem decode_hi {s : ByteArray} {i : Nat} (h : 128 ≤ (s.get! i).toNat) : 128 ≤ (Utf8.decode s i).1 := by
 unfold Utf8.decode
 simp only [Nat.add_zero]
 rw [if_neg (by omega)]
 repeat' split
 all_goals first
  | (simp only [Bool.and_eq_true,decide_eq_true_eq,ge_iff_le] at *; omega)
  | (simp only [Utf8.runeError]; omega)
theorem bs_get {l : List UInt8} {k : Nat} (h : k < l.length) : (bs l).get! k = l[k] := by
 simp [ByteArray.get!,h]
theorem f25_is {l : List UInt8} {r : Int} {hp : List (Option (List PV))} (h : some (checkW l) = some r) : E Try.prog Y0 25 [.v (.string (bs l))] hp = some (iv r,hp,none) := by
 cases h
 rw [E_bodyN 1 body25 rfl (by decide) rfl]
 simp only [Try.f25,Option.get_some]
 unfold checkW
 by_cases h10 : 10 < l.length
 ·have h1 : (10 : Int) < (l.length : Int) := by omega
  rw [if_pos h10]
  simp [h1]
 ·have h1 : ¬ (10 : Int) < (l.length : Int) := by omega
  rw [if_neg h10]
  obtain ⟨r0,hr0⟩ : ∃ r0,(if l.all letW = true then (0 : Int) else 10) = r0 := ⟨_,rfl⟩
  rw [hr0]
  simp [h1]
  refine loop_ind (fun m σ => ∃ (k : Nat) (ts : Tr PV) (w : Option Nat),m + k = l.length ∧ wok hp.length w ∧ (l.take k).all letW = true ∧ σ = ⟨[],ts,hp,w⟩ ∧ ts.get 9 = some (.it (bs l) k)) (n0 := l.length) ?_ ?_
  ·exact ⟨0,_,_,by omega,by simp,by simp,rfl,by simp⟩
  ·rintro m σ ⟨k,ts,w,hm,hw,hall,rfl,g9⟩ ih
   by_cases hk : k < l.length
   ·have hb : Nat.ble (k + 1) l.length = true := ble_true hk
    by_cases hc : letW l[k] = true
    ·have hl : 97 ≤ l[k].toNat ∧ l[k].toNat < 103 := by simpa [letW] using hc
     have hd : Utf8.decode (bs l) k = (l[k].toNat,1) := gA_ok (by
      unfold gA
      rw [List.getElem?_eq_getElem hk]
      simp only []
      rw [show Nat.blt l[k].toNat 128 = true from Nat.ble_eq_true_of_le (by omega)])
     have c1 : ¬ (l[k].toNat : Int) < 97 := by omega
     have c2 : ¬ (103 : Int) ≤ (l[k].toNat : Int) := by omega
     generalize hx : l[k] = x at *
     simp [g9,hb,hd,c1,c2]
     refine ih (m - 1) _ (by omega) ⟨k + 1,_,_,by omega,by simp [hw], ?_,rfl,by simp⟩
     rw [List.take_add_one,List.getElem?_eq_getElem hk,List.all_append,hall,hx]
     simp [hc]
    ·have hf : l.all letW = false := by
      rw [← Bool.not_eq_true,List.all_eq_true]
      intro h
      exact hc (h _ (List.getElem_mem hk))
     have hd : (Utf8.decode (bs l) k).1 < 97 ∨ 103 ≤ (Utf8.decode (bs l) k).1 := by
      by_cases h128 : 128 ≤ l[k].toNat
      ·have := decode_hi (s := bs l) (i := k) (by rw [bs_get hk]; exact h128)
       omega
      ·have hd : Utf8.decode (bs l) k = (l[k].toNat,1) := gA_ok (by
        unfold gA
        rw [List.getElem?_eq_getElem hk]
        simp only []
        rw [show Nat.blt l[k].toNat 128 = true from Nat.ble_eq_true_of_le (by omega)])
       rw [hd]
       have : ¬ (97 ≤ l[k].toNat ∧ l[k].toNat < 103) := by simpa [letW] using hc
       simp only []
       omega
     rw [hf] at hr0
     obtain rfl : (10 : Int) = r0 := hr0
     clear ih
     rcases hd with hd | hd
     ·have c1 : ((Utf8.decode (bs l) k).1 : Int) < 97 := by omega
      simp [g9,hb,c1,hw]
     ·have c1 : ¬ ((Utf8.decode (bs l) k).1 : Int) < 97 := by omega
      have c2 : (103 : Int) ≤ ((Utf8.decode (bs l) k).1 : Int) := by omega
      simp [g9,hb,c1,c2,hw]
   ·have hb : Nat.ble (k + 1) l.length = false := bleF (by omega)
    rw [List.take_of_length_le (by omega)] at hall
    rw [hall] at hr0
    obtain rfl : (0 : Int) = r0 := hr0
    clear ih
    simp [g9,hb,hw]
theorem extract_tail {d : UInt8} {p : List UInt8} : (bs (d :: p)).extract 1 (bs (d :: p)).size = bs p := by
 apply ByteArray.ext
 apply Array.ext'
 simp [ByteArray.data_extract]
theorem slice_tail {d : UInt8} {p : List UInt8} : pqSlice Try.prog 9 (.v (.string (bs (d :: p)))) (some (.int .i64 1)) none none = some (.v (.string (bs p))) := by
 unfold pqSlice
 rw [shape9]
 simp only []
 have h := str_from (P := Try.prog) (t := 9) Try.underlying9 (s := bs (d :: p)) (k := .i64) (a := 1) (by rw [bs_size]; simp)
 rw [show ((1 : Nat) : Int) = 1 from rfl] at h
 rw [h,extract_tail]
 rfl
theorem left_nil {w : List UInt8} : leftW w [] = true := by cases w <;> rfl
theorem left_drop {w p : List UInt8} {k : Nat} (h : k < w.length) (d : UInt8) : leftW (w.drop k) (d :: p) = if w[k] = d then leftW (w.drop (k + 1)) p else leftW (w.drop (k + 1)) (d :: p) := by
 rw [List.drop_eq_getElem_cons h,leftW]
theorem left_is {w p : List UInt8} {r : Bool} {hp : List (Option (List PV))} (hw : w.length < 1000000000) (h : some (leftW w p) = some r) : E Try.prog Y0 27 [.v (.string (bs w)),.v (.string (bs p))] hp = some (.v (.bool r),hp,none) := by
 cases h
 obtain ⟨r0,hr0⟩ : ∃ r0,leftW w p = r0 := ⟨_,rfl⟩
 rw [hr0]
 rw [E_bodyN 2 body27 rfl (by decide) rfl]
 simp only [Try.f27,Option.get_some]
 simp
 refine loop_ind (fun m σ => ∃ (k : Nat) (p' : List UInt8) (ts : Tr PV) (wl : Option Nat),m + k = w.length ∧ wok hp.length wl ∧ leftW (w.drop k) p' = r0 ∧ σ = ⟨[],ts,hp,wl⟩ ∧ ts.get 0 = some (.v (.string (bs w))) ∧ ts.get 1 = some (.v (.string (bs p'))) ∧ ts.get 5 = some (iv k)) (n0 := w.length) ?_ ?_
 ·exact ⟨0,p,_,_,by omega,by simp,hr0,rfl,by simp,by simp,by simp⟩
 ·rintro m σ ⟨k,p',ts,wl,hm,hwl,hr,rfl,g0,g1,g5⟩ ih
  have hsz : (bs w).size = w.length := bs_size
  cases p' with
  | nil =>
   rw [left_nil] at hr
   subst hr
   have q1 : ∀ x y,abin Try.prog .neq 9 x y (.string (bs [])) (.string ⟨#[]⟩) = some (.bool false) := fun x y => by kernel_rfl
   have q2 : ∀ x y,abin Try.prog .eql 9 x y (.string (bs [])) (.string ⟨#[]⟩) = some (.bool true) := fun x y => by kernel_rfl
   clear ih
   by_cases hk : (k : Int) < (w.length : Int)
   ·simp [g0,g1,g5,hsz,hk,q1,q2,hwl]
   ·simp [g0,g1,g5,hsz,hk,q1,q2,hwl]
  | cons d p' =>
   have q1 : ∀ x y,abin Try.prog .neq 9 x y (.string (bs (d :: p'))) (.string ⟨#[]⟩) = some (.bool true) := fun x y => by
    rw [abin_sneq]; simp
   have q2 : ∀ x y,abin Try.prog .eql 9 x y (.string (bs (d :: p'))) (.string ⟨#[]⟩) = some (.bool false) := fun x y => by
    rw [abin_seql]; simp
   by_cases hk : k < w.length
   ·have h1 : (k : Int) < (w.length : Int) := by omega
    have w1 : IntKind.i64.wrap ((k : Int) + 1) = ((k + 1 : Nat) : Int) := wrap_nat (by omega)
    have hg : gS w (k : Int) = some (w[k].toNat : Int) := by
     show (match w[k]? with | some c => some (c.toNat : Int) | none => none) = _
     rw [List.getElem?_eq_getElem hk]
    have e1 := (gS_ok (P := Try.prog) (t := 9) (k := .i64) Try.underlying9 shape9 hg).1
    have e2 := (gS_ok (P := Try.prog) (t := 9) (k := .i64) Try.underlying9 shape9 (show gS (d :: p') ((0 : Nat) : Int) = some (d.toNat : Int) from rfl)).1
    rw [show ((0 : Nat) : Int) = 0 from rfl] at e2
    rw [left_drop hk] at hr
    generalize w[k] = c at *
    by_cases hc : c = d
    ·subst hc
     rw [if_pos rfl] at hr
     simp [g0,g1,g5,hsz,h1,q1,q2,e1,e2,optPlain,slice_tail,w1]
     exact ih (m - 1) _ (by omega) ⟨k + 1,p',_,_,by omega,hwl,hr,rfl,by simp [g0],by simp,by simp⟩
    ·rw [if_neg hc] at hr
     have hc2 : ¬ (c.toNat : Int) = (d.toNat : Int) := fun e => hc (UInt8.toNat.inj (by omega))
     simp [g0,g1,g5,hsz,h1,q1,q2,e1,e2,hc2,w1]
     exact ih (m - 1) _ (by omega) ⟨k + 1,d :: p',_,_,by omega,hwl,hr,rfl,by simp [g0],by simp [g1],by simp⟩
   ·have h1 : ¬ (k : Int) < (w.length : Int) := by omega
    rw [List.drop_of_length_le (by omega)] at hr
    obtain rfl : false = r0 := hr
    clear ih
    simp [g0,g1,g5,hsz,h1,q1,q2,hwl]
def f68_L0 (F : Nat) (p0 : List Int) (p1 : Int) (x1 : Int) (K : Unit → Option (Int)) : Nat → Int → Option (Int)
  | 0,_ => none
  | n + 1,v2 => (some (decide (v2 < x1))).bind fun x3 =>
    (match x3 with
    | true => ((gI p0 v2).bind fun y4 =>
    (some (decide (p1 = y4))).bind fun x5 =>
    (match x5 with
    | true => (some v2)
    | false => ((some (IntKind.i64.wrap (v2 + 1))).bind fun x6 =>
    f68_L0 F p0 p1 x1 K n x6)))
    | false => (K ()))
def f68S (F : Nat) (p0 : List Int) (p1 : Int) : Option (Int) :=
  (some ((p0.length : Int))).bind fun x1 =>
  f68_L0 F p0 p1 x1 (fun _ =>
    some (-1)) F 0
theorem f68_is {a0 : Bool} {c0 : Ck} {p0 : List Int} {p1 : Int} {hp : List (Option (List PV))} {F : Nat} {r : (Int)}  (h : f68S F p0 p1 = some r) :
    E Try.prog Y0 68 [.l (ak a0) c0 p0.length (p0.map (kv .u8)),kv .u8 p1] hp = some (iv r,hp,none) := by
  rw [E_bodyN 2 body68 rfl (by decide) rfl]
  simp only [Try.f68,Option.get_some]
  unfold f68S at h
  obtain ⟨x1,ex1,h⟩ := bindT h
  simp [ex1]
  have hL0 := h; clear h
  refine loopS (S := f68_L0 F p0 p1 x1) (fun v2 σ => ∃ (ts : Tr PV) (w : Option Nat),wok hp.length w ∧ σ = ⟨[],ts,hp,w⟩ ∧ ts.get 0 = some (.l (ak a0) c0 p0.length (p0.map (kv .u8))) ∧ ts.get 1 = some (kv .u8 p1) ∧ ts.get 7 = some (iv x1) ∧ ts.get 8 = some (iv v2) ∧ True) (fun _ σ => ∃ (ts : Tr PV) (w : Option Nat),wok hp.length w ∧ σ = ⟨[],ts,hp,w⟩ ∧ True) (fun _ => rfl) hL0 ?_ ?_ ?_
  · exact ⟨_,_,by simp,rfl,by simp [ex1]⟩
  · rintro ⟨⟩ σ ⟨ts,w,hw,rfl,-⟩ h
    clear hL0
    try dsimp only at h
    obtain rfl := inj_ok h
    simp [hw]
  · rintro k n v2 σ ⟨ts,w,hw,rfl,g0,g1,g7,g8,-⟩ h ih ex
    clear hL0
    rw [f68_L0] at h
    obtain ⟨x3,ex3,h⟩ := bindT h
    cases x3
    case false =>
     simp [g0,g1,g7,g8,ex3]
     refine ex () _ ?_ h
     exact ⟨_,_,by simp [hw],rfl,by simp [g0,g1,g7,g8,ex3]⟩
    obtain ⟨y4,ey4,h⟩ := bind_ok h
    obtain ⟨ey4a,ey4e,ey4b,ey4c,ey4g⟩ := gI_ok rfl ey4
    obtain ⟨x5,ex5,h⟩ := bindT h
    cases x5
    case true =>
     obtain rfl := inj_ok h
     simp [g0,g1,g7,g8,ex3,ey4a,ey4b,ey4c,ex5,hw]
    obtain ⟨x6,ex6,h⟩ := bindT h
    simp [g0,g1,g7,g8,ex3,ey4a,ey4b,ey4c,ex5,ex6]
    refine ih x6 _ ?_ h
    exact ⟨_,_,by simp [hw],rfl,by simp [g0,g1,g7,g8,ex3,ey4a,ey4b,ey4c,ex5,ex6]⟩
def f81S (F : Nat) (p0 : List UInt8) (p1 : Int) (p2 : Int) : Option (Int) :=
  (some (decide (p1 < 0))).bind fun x1 =>
  (match x1 with
  | true => (some (-1))
  | false => ((subF p0 p1).bind fun x2 =>
  (bytO x2).bind fun x3 =>
  (f68S F x3 p2).bind fun x4 =>
  (some (decide (x4 < 0))).bind fun x6 =>
  (match x6 with
  | true => (some (-1))
  | false => ((some (IntKind.i64.wrap (p1 + x4))).bind fun x7 =>
  (some (IntKind.i64.wrap (x7 + 1))).bind fun x8 =>
  some x8))))
theorem f81_is {p0 : List UInt8} {p1 : Int} {p2 : Int} {hp : List (Option (List PV))} {F : Nat} {r : (Int)}  (h : f81S F p0 p1 p2 = some r) :
    E Try.prog Y0 81 [.v (.string (bs p0)),iv p1,kv .u8 p2] hp = some (iv r,hp,none) := by
  rw [E_bodyN 3 body81 rfl (by decide) rfl]
  simp only [Try.f81,Option.get_some]
  unfold f81S at h
  obtain ⟨x1,ex1,h⟩ := bindT h
  cases x1
  case true =>
   obtain rfl := inj_ok h
   simp [ex1]
  obtain ⟨x2,ex2,h⟩ := bind_ok h
  have ex2 := fun {k : IntKind} => subF_ok (P := Try.prog) (t := 9) Try.underlying9 ex2 (k := k)
  obtain ⟨x3,ex3,h⟩ := bind_ok h
  obtain ⟨ex3l,ex3m,ex3s⟩ := bytO_ok ex3
  obtain ⟨x4,e5,h⟩ := bind_ok h
  have e5 : ∀ hp,E Try.prog Y0 68 [.l .fz .any x3.length (x3.map (kv .u8)),kv .u8 p2] hp = some (iv x4,hp,none) := fun hp => f68_is (a0 := false) (c0 := .any) e5
  obtain ⟨x6,ex6,h⟩ := bindT h
  cases x6
  case true =>
   obtain rfl := inj_ok h
   simp [ex1,ex2,shape9,pqSlice,ex3l,ex3m,ex3s,e5,ex6]
  obtain ⟨x7,ex7,h⟩ := bindT h
  obtain ⟨x8,ex8,h⟩ := bindT h
  obtain rfl := inj_ok h
  simp [ex1,ex2,shape9,pqSlice,ex3l,ex3m,ex3s,e5,ex6,ex7,ex8]
theorem mty58Parts50 : mapTy Try.prog 58 = some (9,3) := by kernel_rfl
theorem shm58Parts50 : shapeOf Try.prog 58 = none := by kernel_rfl
theorem kty9Parts50 : KeyT Try.prog 9 sV := key_str Try.underlying9
def f50_L0 (F : Nat) (p0 : List UInt8) (x2 : Int) (K : Mp (List UInt8) Int × Nat → Option ((Mp (List UInt8) Int × Nat))) : Nat → Mp (List UInt8) Int × Nat × Int → Option ((Mp (List UInt8) Int × Nat))
  | 0,_ => none
  | n + 1,(m3,k4,v5) => (some (decide (v5 < x2))).bind fun x6 =>
    (match x6 with
    | true => ((f53O p0 v5).bind fun x7 =>
    (some (mGetD 0 x7 m3)).bind fun x9 =>
    (some (IntKind.i64.wrap (x9 + 1))).bind fun x10 =>
    (some (mSet k4 x7 x10 m3)).bind fun x11 =>
    (some (mClk k4 x7 m3)).bind fun x12 =>
    (some (IntKind.i64.wrap (v5 + 1))).bind fun x14 =>
    f50_L0 F p0 x2 K n (x11,x12,x14))
    | false => (K (m3,k4)))
def f50S (F : Nat) (p0 : List UInt8) : Option ((Mp (List UInt8) Int × Nat)) :=
  (some ((p0.length : Int))).bind fun x1 =>
  (shlO .i64 1 x1).bind fun x2 =>
  f50_L0 F p0 x2 (fun (m15,k16) =>
    some (m15,k16)) F ([],0,0)
theorem f50_is {p0 : List UInt8} {hp : List (Option (List PV))} {F : Nat} {r : ((Mp (List UInt8) Int × Nat))}  (h : f50S F p0 = some r) :
    E Try.prog Y0 50 [.v (.string (bs p0))] hp = some (.m .own (mE sV (Value.int .i64) r.1) r.2,hp,none) := by
  rw [E_bodyN 1 body50 rfl (by decide) rfl]
  simp only [Try.f50,Option.get_some]
  unfold f50S at h
  obtain ⟨x1,ex1,h⟩ := bindT h
  obtain ⟨x2,ex2,h⟩ := bind_ok h
  obtain ⟨ex2a,ex2⟩ := shlO_ok ex2
  simp [pvOf_mnil,mE_nil,ex1,ex2,ex2a]
  have hL0 := h; clear h
  refine loopS (S := f50_L0 F p0 x2) (fun (m3,k4,v5) σ => ∃ (ts : Tr PV) (w : Option Nat),wok hp.length w ∧ σ = ⟨[],ts,hp,w⟩ ∧ ts.get 0 = some (.v (.string (bs p0))) ∧ ts.get 3 = some (.m .own (mE sV (Value.int .i64) m3) k4) ∧ ts.get 8 = some (iv x2) ∧ ts.get 9 = some (iv v5) ∧ True) (fun (m15,k16) σ => ∃ (ts : Tr PV) (w : Option Nat),wok hp.length w ∧ σ = ⟨[],ts,hp,w⟩ ∧ ts.get 3 = some (.m .own (mE sV (Value.int .i64) m15) k16) ∧ True) (fun _ => rfl) hL0 ?_ ?_ ?_
  · exact ⟨_,_,by simp,rfl,by simp [pvOf_mnil,mE_nil,ex1,ex2,ex2a]⟩
  · rintro ⟨m15,k16⟩ σ ⟨ts,w,hw,rfl,g3,-⟩ h
    clear hL0
    try dsimp only at h
    obtain rfl := inj_ok h
    simp [g3,hw]
  · rintro k n ⟨m3,k4,v5⟩ σ ⟨ts,w,hw,rfl,g0,g3,g8,g9,-⟩ h ih ex
    clear hL0
    rw [f50_L0] at h
    obtain ⟨x6,ex6,h⟩ := bindT h
    cases x6
    case false =>
     simp [g0,g3,g8,g9,ex6]
     refine ex (m3,k4) _ ?_ h
     exact ⟨_,_,by simp [hw],rfl,by simp [g0,g3,g8,g9,ex6]⟩
    obtain ⟨x7,ex7,h⟩ := bind_ok h
    have ex7 : ∀ hp,E Try.prog Y0 53 [.v (.string (bs p0)),iv v5] hp = some (.v (.string (bs x7)),hp,none) := fun hp => f53_is ex7
    obtain ⟨x9,ex9,h⟩ := bindT h
    have q8 : alook Try.prog 58 (mE sV (Value.int .i64) m3) (.string (bs x7)) false = some (.int .i64 x9) := (look_m (kf := sV) (vf := (Value.int .i64)) (l := m3) (k := x7) (d := 0) mty58Parts50 kty9Parts50 (by kernel_rfl) (fun _ => rfl) (ok := false)).trans (by rw [ex9]; rfl)
    obtain ⟨x10,ex10,h⟩ := bindT h
    obtain ⟨x11,ex11,h⟩ := bindT h
    obtain ⟨x12,ex12,h⟩ := bindT h
    have q13 : aupd Try.prog 58 (mE sV (Value.int .i64) m3) k4 (.string (bs x7)) (.int .i64 x10) = some ((mE sV (Value.int .i64) x11),x12) := (upd_m (kf := sV) (vf := (Value.int .i64)) (l := m3) (k := x7) (v := x10) mty58Parts50 kty9Parts50).trans (by rw [ex11,ex12])
    obtain ⟨x14,ex14,h⟩ := bindT h
    simp [g0,g3,g8,g9,ex6,ex7,mty58Parts50,Try.underlying58,mE_nil,shm58Parts50,ex9,q8,ex10,ex11,ex12,q13,ex14]
    refine ih (x11,x12,x14) _ ?_ h
    exact ⟨_,_,by simp [hw],rfl,by simp [g0,g3,g8,g9,ex6,ex7,mty58Parts50,Try.underlying58,mE_nil,shm58Parts50,ex9,q8,ex10,ex11,ex12,q13,ex14]⟩
end Go.Proofs.Ytmnmfmghmenkkaa
set_option linter.unusedSimpArgs false
set_option linter.unusedVariables false
namespace Go.Proofs.Ytmnmfmghmenkkaa
theorem nodup_le {α : Type} [DecidableEq α] : ∀ {l m : List α},l.Nodup → (∀ x ∈ l,x ∈ m) → l.length ≤ m.length
 | [],m,_,_ => Nat.zero_le _
 | x :: l,m,hn,hs => by
  have h1 := List.nodup_cons.1 hn
  have hx := hs x List.mem_cons_self
  have h2 : ∀ y ∈ l,y ∈ m.erase x := fun y hy => (List.mem_erase_of_ne (fun e => h1.1 (by rw [← e]; exact hy))).2 (hs y (List.mem_cons_of_mem _ hy))
  have h3 := nodup_le h1.2 h2
  rw [List.length_erase_of_mem hx] at h3
  have h4 : 0 < m.length := List.length_pos_of_mem hx
  simp only [List.length_cons]
  omega
theorem lets_len {k : Nat} : (lets k).length = k := by simp [lets]
theorem lets_mem {k : Nat} (hk : k ≤ 6) {c : UInt8} : c ∈ lets k ↔ 97 ≤ c.toNat ∧ c.toNat < 97 + k := by
 unfold lets
 rw [List.mem_map]
 constructor
 ·rintro ⟨j,hj,rfl⟩
  have := List.mem_range.1 hj
  have e : (UInt8.ofNat (97 + j)).toNat = 97 + j := by
   rw [UInt8.toNat_ofNat']; omega
  omega
 ·rintro ⟨h1,h2⟩
  refine ⟨c.toNat - 97,List.mem_range.2 (by omega), ?_⟩
  apply UInt8.toNat_inj.1
  rw [UInt8.toNat_ofNat']
  omega
theorem bhd_left {c : UInt8} {p : List UInt8} : ∀ {w : List UInt8},leftW w (c :: p) = match bhd w c with
  | some w' => leftW w' p
  | none => false
 | [] => by rw [leftW,bhd]
 | x :: w => by
  rw [leftW,bhd]
  by_cases h : x = c
  ·rw [if_pos h,if_pos h]
  ·rw [if_neg h,if_neg h]; exact bhd_left
theorem bhd_all {c : UInt8} {p : UInt8 → Prop} : ∀ {w w' : List UInt8},bhd w c = some w' → (∀ x ∈ w,p x) → ∀ x ∈ w',p x
 | [],_,h,_ => by cases h
 | x :: w,w',h,ha => by
  unfold bhd at h
  split at h
  ·cases h; exact fun y hy => ha y (List.mem_cons_of_mem _ hy)
  ·exact bhd_all h (fun y hy => ha y (List.mem_cons_of_mem _ hy))
end Go.Proofs.Ytmnmfmghmenkkaa
set_option linter.unusedSimpArgs false
set_option linter.unusedVariables false
namespace Go.Proofs.Ytmnmfmghmenkkaa
open Go.Abs Go.Pur
set_option maxRecDepth 100000
theorem leftW_sub : ∀ {w p : List UInt8},leftW w p = true ↔ p.Sublist w
 | w,[] => by simp [left_nil]
 | [],d :: p => by rw [leftW]; simp
 | c :: w,d :: p => by
  rw [leftW]
  by_cases h : c = d
  ·subst h
   rw [if_pos rfl,leftW_sub,List.cons_sublist_cons]
  ·rw [if_neg h,leftW_sub]
   constructor
   ·exact fun e => e.cons _
   ·intro e
    cases e with
    | cons _ e => exact e
    | cons_cons => exact absurd rfl h
def prt : List UInt8 → List (List UInt8)
 | [] => [[]]
 | c :: w => prt w ++ ((prt w).filter fun p => !leftW w (c :: p)).map (c :: ·)
theorem prt_mem : ∀ {w p : List UInt8},p ∈ prt w ↔ leftW w p = true
 | [],p => by
  cases p with
  | nil => simp [prt,leftW]
  | cons d p => simp [prt,leftW]
 | c :: w,p => by
  rw [prt,List.mem_append,List.mem_map,prt_mem]
  cases p with
  | nil => simp [left_nil]
  | cons d p =>
   rw [leftW]
   by_cases h : c = d
   ·subst h
    rw [if_pos rfl]
    constructor
    ·rintro (h | ⟨q,hq,e⟩)
     ·exact leftW_sub.2 ((List.sublist_cons_self _ _).trans (leftW_sub.1 h))
     ·cases e
      exact prt_mem.1 (List.mem_filter.1 hq).1
    ·intro h
     by_cases h2 : leftW w (c :: p) = true
     ·exact .inl h2
     ·exact .inr ⟨p,List.mem_filter.2 ⟨prt_mem.2 h,by simp [h2]⟩,rfl⟩
   ·rw [if_neg h]
    constructor
    ·rintro (h | ⟨q,hq,e⟩)
     ·exact h
     ·cases e; exact absurd rfl h
    ·exact .inl
theorem prt_nodup : ∀ {w : List UInt8},(prt w).Nodup
 | [] => by simp [prt]
 | c :: w => by
  rw [prt,List.nodup_append]
  refine ⟨prt_nodup, ?_, ?_⟩
  ·unfold List.Nodup
   rw [List.pairwise_map]
   exact (prt_nodup.filter _).imp fun h e => h (List.cons.inj e).2
  ·intro a ha b hb e
   subst e
   obtain ⟨q,hq,rfl⟩ := List.mem_map.1 hb
   have h1 := (List.mem_filter.1 hq).2
   rw [prt_mem.1 ha] at h1
   cases h1
theorem same_len {α : Type} [DecidableEq α] {l m : List α} (hl : l.Nodup) (hm : m.Nodup) (h : ∀ x,x ∈ l ↔ x ∈ m) : l.length = m.length :=
 Nat.le_antisymm (nodup_le hl fun x hx => (h x).1 hx) (nodup_le hm fun x hx => (h x).2 hx)
theorem len_parts {α : Type} (f : α → Bool) : ∀ l : List α,l.length = (l.filter f).length + (l.filter fun x => !f x).length
 | [] => rfl
 | a :: l => by
  have h := len_parts f l
  cases hf : f a <;> simp [hf] <;> omega
def dl (w : List UInt8) : Nat := (prt w).length
theorem tk_sub {f : Nat → Bool} {l : List UInt8} : ∀ k,(tk f l k).Sublist (l.take k)
 | 0 => by simp [tk]
 | k + 1 => by
  rw [tk,List.take_add_one]
  refine List.Sublist.append (tk_sub k) ?_
  split
  ·exact List.Sublist.refl _
  ·exact List.nil_sublist _
end Go.Proofs.Ytmnmfmghmenkkaa
set_option linter.unusedSimpArgs false
set_option linter.unusedVariables false
namespace Go.Proofs.Ytmnmfmghmenkkaa
open Go.Abs Go.Pur
set_option maxRecDepth 100000
def gD : List UInt8 → List UInt8 → Nat
 | _,[] => 0
 | m,c :: w => if c ∈ m then gD m w else dl w + gD (c :: m) w
def hdNot (m : List UInt8) : List UInt8 → Bool
 | [] => false
 | c :: _ => decide (c ∉ m)
def hdIs (c : UInt8) : List UInt8 → Bool
 | [] => false
 | d :: _ => decide (d = c)
theorem filt_or {α : Type} {f g h : α → Bool} : ∀ {l : List α},(∀ x ∈ l,f x = (g x || h x) ∧ (g x && h x) = false) → (l.filter f).length = (l.filter g).length + (l.filter h).length
 | [],_ => rfl
 | a :: l,H => by
  have ih := filt_or (l := l) fun x hx => H x (List.mem_cons_of_mem _ hx)
  obtain ⟨h1,h2⟩ := H a List.mem_cons_self
  cases hg : g a <;> cases hh : h a <;> simp_all <;> omega
theorem heads (c : UInt8) {w : List UInt8} : ((prt w).filter (hdIs c)).length = ((prt w).filter fun p => leftW w (c :: p)).length := by
 suffices h : ((prt w).filter (hdIs c)).length = (((prt w).filter fun p => leftW w (c :: p)).map (c :: ·)).length by rwa [List.length_map] at h
 refine same_len (prt_nodup.filter _) ?_ fun p => ?_
 ·unfold List.Nodup
  rw [List.pairwise_map]
  exact (prt_nodup.filter _).imp fun h e => h (List.cons.inj e).2
 ·rw [List.mem_filter,prt_mem,List.mem_map]
  constructor
  ·rintro ⟨h1,h2⟩
   cases p with
   | nil => cases h2
   | cons d p =>
    have : d = c := of_decide_eq_true h2
    subst this
    refine ⟨p,List.mem_filter.2 ⟨prt_mem.2 ?_,h1⟩,rfl⟩
    exact leftW_sub.2 ((List.sublist_cons_self _ _).trans (leftW_sub.1 h1))
  ·rintro ⟨q,hq,rfl⟩
   exact ⟨(List.mem_filter.1 hq).2,by simp [hdIs]⟩
theorem gD_is : ∀ {w m : List UInt8},gD m w = ((prt w).filter (hdNot m)).length
 | [],m => rfl
 | c :: w,m => by
  rw [gD,prt,List.filter_append,List.length_append,List.filter_map,List.length_map]
  by_cases h : c ∈ m
  ·rw [if_pos h,gD_is]
   have : (((prt w).filter fun p => !leftW w (c :: p)).filter (hdNot m ∘ (c :: ·))) = [] := by
    rw [List.filter_eq_nil_iff]
    intro p _
    simp [hdNot,h]
   rw [this]; rfl
  ·rw [if_neg h,gD_is]
   have h1 : (((prt w).filter fun p => !leftW w (c :: p)).filter (hdNot m ∘ (c :: ·))) = ((prt w).filter fun p => !leftW w (c :: p)) := by
    rw [List.filter_eq_self]
    intro p _
    simp [hdNot,h]
   have h2 : ((prt w).filter (hdNot m)).length = ((prt w).filter (hdNot (c :: m))).length + ((prt w).filter (hdIs c)).length := by
    refine filt_or fun p _ => ?_
    cases p with
    | nil => exact ⟨rfl,rfl⟩
    | cons d p =>
     simp only [hdNot,hdIs,List.mem_cons]
     by_cases h3 : d = c
     ·subst h3
      simp [h]
     ·simp [h3]
   have h3 := len_parts (fun p => leftW w (c :: p)) (prt w)
   have h4 := heads c (w := w)
   rw [h1]
   unfold dl
   omega
theorem dl_gD {w : List UInt8} : dl w = 1 + gD [] w := by
 rw [gD_is]
 have h1 := len_parts (hdNot []) (prt w)
 have h2 : ((prt w).filter fun p => !hdNot [] p).length = 1 := by
  have : ((prt w).filter fun p => !hdNot [] p).length = [([] : List UInt8)].length := by
   refine same_len (prt_nodup.filter _) (by simp) fun p => ?_
   rw [List.mem_filter,prt_mem]
   cases p with
   | nil => simp [left_nil,hdNot]
   | cons d p => simp [hdNot]
  rw [this]; rfl
 unfold dl
 omega
def hH (k : Nat) : Nat → List Nat
 | 0 => [1]
 | n + 1 => (1 + ((hH k n).take k).sum) :: hH k n
def sS (k j : Nat) : Nat → Nat
 | 0 => 0
 | n + 1 => ((hH k n).take j).sum
theorem sS_zero {k : Nat} : ∀ {n},sS k 0 n = 0
 | 0 => rfl
 | n + 1 => by simp [sS]
theorem sS_succ {k j : Nat} : ∀ {n},sS k (j + 1) (n + 1) = 1 + sS k k n + sS k j n
 | 0 => by simp [sS,hH]
 | n + 1 => by
  rw [sS,hH,List.take_succ_cons,List.sum_cons]
  simp only [sS]
theorem sS_mono {k : Nat} : ∀ {n j},sS k j n ≤ sS k j (n + 1)
 | 0,j => Nat.zero_le _
 | n + 1,0 => by rw [sS_zero]; exact Nat.zero_le _
 | n + 1,j + 1 => by
  rw [sS_succ,sS_succ]
  have h1 := sS_mono (k := k) (n := n) (j := k)
  have h2 := sS_mono (k := k) (n := n) (j := j)
  omega
theorem gD_le {k : Nat} : ∀ {w m : List UInt8},m.Nodup → (∀ c ∈ m,c ∈ lets k) → (∀ c ∈ w,c ∈ lets k) → gD m w ≤ sS k (k - m.length) w.length
 | [],m,_,_,_ => Nat.zero_le _
 | c :: w,m,h1,h2,h3 => by
  rw [gD,List.length_cons]
  have h3' : ∀ x ∈ w,x ∈ lets k := fun x hx => h3 x (List.mem_cons_of_mem _ hx)
  by_cases h : c ∈ m
  ·rw [if_pos h]
   exact Nat.le_trans (gD_le h1 h2 h3') sS_mono
  ·rw [if_neg h]
   have hn : (c :: m).Nodup := List.nodup_cons.2 ⟨h,h1⟩
   have hs : ∀ x ∈ c :: m,x ∈ lets k := fun x hx => by
    rcases List.mem_cons.1 hx with rfl | hx
    ·exact h3 _ List.mem_cons_self
    ·exact h2 x hx
   have hk := nodup_le hn hs
   rw [lets_len,List.length_cons] at hk
   have g1 := gD_le (w := w) (m := []) (by simp) (by simp) h3'
   have g2 := gD_le hn hs h3'
   rw [List.length_cons] at g2
   rw [show k - m.length = (k - (m.length + 1)) + 1 by omega,sS_succ,dl_gD]
   simp only [List.length_nil,Nat.sub_zero] at g1
   omega
def cyL (k i : Nat) : UInt8 := UInt8.ofNat (97 + i % k)
def cyc (k : Nat) : Nat → Nat → List UInt8
 | _,0 => []
 | i,n + 1 => cyL k i :: cyc k (i + 1) n
theorem cyL_mem {k i : Nat} (hk : 0 < k) : cyL k i ∈ lets k := List.mem_map.2 ⟨i % k,List.mem_range.2 (Nat.mod_lt _ hk),rfl⟩
theorem cyL_ne {k i t : Nat} (hk : k ≤ 6) (h0 : 0 < t) (ht : t < k) : cyL k (i + t) ≠ cyL k i := by
 intro e
 have h1 := Nat.mod_lt (i + t) (show 0 < k by omega)
 have h2 := Nat.mod_lt i (show 0 < k by omega)
 have := congrArg UInt8.toNat e
 unfold cyL at this
 rw [UInt8.toNat_ofNat',UInt8.toNat_ofNat'] at this
 have h3 : (i + t) % k = i % k := by omega
 have h4 := Nat.div_add_mod (i + t) k
 have h5 := Nat.div_add_mod i k
 rw [h3] at h4
 have h6 : k * ((i + t) / k) = k * (i / k) + t := by omega
 have h7 : k * ((i + t) / k - i / k) = t := by rw [Nat.mul_sub]; omega
 rcases Nat.eq_zero_or_pos ((i + t) / k - i / k) with hz | hz
 ·rw [hz] at h7; omega
 ·have := Nat.le_mul_of_pos_right k hz
  omega
theorem gD_cyc {k : Nat} (hk0 : 0 < k) (hk : k ≤ 6) : ∀ {n i : Nat} {m : List UInt8},m.Nodup → (∀ c ∈ m,c ∈ lets k) → (∀ t,t < k - m.length → cyL k (i + t) ∉ m) → gD m (cyc k i n) = sS k (k - m.length) n
 | 0,i,m,_,_,_ => rfl
 | n + 1,i,m,h1,h2,h3 => by
  rw [cyc,gD]
  by_cases h : cyL k i ∈ m
  ·rw [if_pos h]
   have hz : k - m.length = 0 := by
    rcases Nat.eq_zero_or_pos (k - m.length) with hz | hz
    ·exact hz
    ·exact absurd h (h3 0 hz)
   rw [gD_cyc hk0 hk h1 h2 (fun t ht => by omega),hz,sS_zero,sS_zero]
  ·rw [if_neg h]
   have hn : (cyL k i :: m).Nodup := List.nodup_cons.2 ⟨h,h1⟩
   have hs : ∀ x ∈ cyL k i :: m,x ∈ lets k := fun x hx => by
    rcases List.mem_cons.1 hx with rfl | hx
    ·exact cyL_mem hk0
    ·exact h2 x hx
   have hl := nodup_le hn hs
   rw [lets_len,List.length_cons] at hl
   rw [gD_cyc hk0 hk hn hs (fun t ht => ?_),dl_gD,gD_cyc hk0 hk (m := []) (by simp) (by simp) (by simp),List.length_cons,show k - m.length = (k - (m.length + 1)) + 1 by omega,sS_succ]
   ·rfl
   ·rw [List.length_cons] at ht
    rw [List.mem_cons]
    rintro (e | e)
    ·rw [show i + 1 + t = i + (t + 1) by omega] at e
     exact cyL_ne hk (by omega) (by omega) e
    ·rw [show i + 1 + t = i + (t + 1) by omega] at e
     exact h3 (t + 1) (by omega) e
theorem most {k : Nat} (hk0 : 0 < k) (hk : k ≤ 6) {w : List UInt8} (hw : ∀ c ∈ w,c ∈ lets k) : dl w ≤ dl (cyc k 0 w.length) := by
 rw [dl_gD,dl_gD,gD_cyc hk0 hk (m := []) (by simp) (by simp) (by simp)]
 exact Nat.add_le_add_left (gD_le (by simp) (by simp) hw) 1
end Go.Proofs.Ytmnmfmghmenkkaa
set_option linter.unusedSimpArgs false
set_option linter.unusedVariables false
namespace Go.Proofs.Ytmnmfmghmenkkaa
open Go.Abs Go.Pur
set_option maxRecDepth 100000
theorem gI_at {l : List Int} {k : Nat} (h : k < l.length) : gI l (k : Int) = some l[k] := by
 show gI l (Int.ofNat k) = _
 simp only [gI]
 rw [List.getElem?_eq_getElem h]
end Go.Proofs.Ytmnmfmghmenkkaa
set_option linter.unusedSimpArgs false
set_option linter.unusedVariables false
namespace Go.Proofs.Ytmnmfmghmenkkaa
open Go.Abs Go.Pur
set_option maxRecDepth 100000
end Go.Proofs.Ytmnmfmghmenkkaa
set_option linter.unusedSimpArgs false
set_option linter.unusedVariables false
namespace Go.Proofs.Ytmnmfmghmenkkaa
open Go.Abs Go.Pur
set_option maxRecDepth 100000
end Go.Proofs.Ytmnmfmghmenkkaa
set_option linter.unusedSimpArgs false
set_option linter.unusedVariables false
namespace Go.Proofs.Ytmnmfmghmenkkaa
open Go.Abs Go.Pur
set_option maxRecDepth 100000
end Go.Proofs.Ytmnmfmghmenkkaa
set_option linter.unusedSimpArgs false
set_option linter.unusedVariables false
namespace Go.Proofs.Ytmnmfmghmenkkaa
open Go.Abs Go.Pur
set_option maxRecDepth 100000
end Go.Proofs.Ytmnmfmghmenkkaa
set_option linter.unusedSimpArgs false
set_option linter.unusedVariables false
namespace Go.Proofs.Ytmnmfmghmenkkaa
open Go.Abs Go.Pur
set_option maxRecDepth 100000
theorem mSet_keys {K V : Type} [DecidableEq K] {c : Nat} {k : K} {v : V} : ∀ {l : Mp K V},(mSet c k v l).map (·.1) = if k ∈ l.map (·.1) then l.map (·.1) else l.map (·.1) ++ [k]
 | [] => rfl
 | e :: l => by
  unfold mSet
  by_cases h : e.1 = k
  ·rw [decide_eq_true h]
   simp [h]
  ·rw [decide_eq_false h]
   simp only [List.map_cons,mSet_keys (l := l),List.mem_cons]
   by_cases h2 : k ∈ l.map (·.1)
   ·rw [if_pos h2,if_pos (.inr h2)]
   ·rw [if_neg h2,if_neg (fun e' => e'.elim (fun e' => h e'.symm) h2)]; rfl
end Go.Proofs.Ytmnmfmghmenkkaa
set_option linter.unusedSimpArgs false
set_option linter.unusedVariables false
namespace Go.Proofs.Ytmnmfmghmenkkaa
open Go.Abs Go.Pur
set_option maxRecDepth 100000
def ints (w : List UInt8) : List Int := w.map fun b => (b.toNat : Int)
theorem ints_at {w : List UInt8} {i : Nat} (h : i < w.length) : gI (ints w) (i : Int) = some (w[i].toNat : Int) := by
 rw [gI_at (by simpa [ints] using h)]
 simp [ints]
theorem f68_run {w : List UInt8} {c : UInt8} {F : Nat} (hw : w.length ≤ 1000) : ∀ (n i : Nat),w.length + 1 ≤ n + i → i ≤ w.length →
  (bhd (w.drop i) c = none → f68_L0 F (ints w) (c.toNat : Int) (w.length : Int) (fun _ => some (-1)) n i = some (-1)) ∧
  ∀ w',bhd (w.drop i) c = some w' → ∃ j,j < w.length ∧ w' = w.drop (j + 1) ∧ f68_L0 F (ints w) (c.toNat : Int) (w.length : Int) (fun _ => some (-1)) n i = some (j : Int)
 | 0,i,h,hi => absurd h (by omega)
 | n + 1,i,h,hi => by
  unfold f68_L0
  simp only [Option.bind_some]
  by_cases hi' : i < w.length
  ·rw [decide_eq_true (show (i : Int) < (w.length : Int) by omega)]
   simp only [ints_at hi',Option.bind_some]
   rw [List.drop_eq_getElem_cons hi',bhd]
   by_cases hc : w[i] = c
   ·rw [if_pos hc,decide_eq_true (show (c.toNat : Int) = (w[i].toNat : Int) by rw [hc])]
    exact ⟨fun e => (by cases e),fun w' e => ⟨i,hi',(Option.some.inj e).symm,rfl⟩⟩
   ·have hn : ¬ (c.toNat : Int) = (w[i].toNat : Int) := fun e => hc (UInt8.toNat_inj.1 (by omega))
    rw [if_neg hc,decide_eq_false hn]
    simp only []
    rw [wrap_nat (by omega)]
    exact f68_run hw n (i + 1) (by omega) (by omega)
  ·rw [decide_eq_false (show ¬ (i : Int) < (w.length : Int) by omega),List.drop_eq_nil_of_le (by omega)]
   exact ⟨fun _ => rfl,fun w' e => by cases e⟩
theorem f68_law {w : List UInt8} {c : UInt8} {F : Nat} (hw : w.length ≤ 1000) (hF : w.length + 1 ≤ F) :
  (bhd w c = none → f68S F (ints w) (c.toNat : Int) = some (-1)) ∧ ∀ w',bhd w c = some w' → ∃ j,j < w.length ∧ w' = w.drop (j + 1) ∧ f68S F (ints w) (c.toNat : Int) = some (j : Int) := by
 have hl : (ints w).length = w.length := by simp [ints]
 have := f68_run (w := w) (c := c) (F := F) hw F 0 (by omega) (by omega)
 unfold f68S
 rw [hl]
 simpa using this
theorem lets_at {k j : Nat} (h : j < k) : (lets k)[j]'(by rw [lets_len]; exact h) = UInt8.ofNat (97 + j) := by simp [lets]
theorem subF_at {w : List UInt8} {j : Nat} (h : j ≤ w.length) : subF w (j : Int) = some (w.drop j) := by
 show subF w (Int.ofNat j) = _
 simp only [subF]
 rw [Nat.ble_eq_true_of_le h]
end Go.Proofs.Ytmnmfmghmenkkaa
set_option linter.unusedSimpArgs false
set_option linter.unusedVariables false
namespace Go.Proofs.Ytmnmfmghmenkkaa
open Go.Abs Go.Pur
set_option maxRecDepth 100000
theorem mGet_set {K V : Type} [DecidableEq K] {c : Nat} {k k' : K} {v : V} : ∀ {l : Mp K V},mGet k (mSet c k' v l) = if k' = k then some v else mGet k l
 | [] => by
  simp only [mSet,mGet]
  by_cases h : k' = k
  ·rw [decide_eq_true h,if_pos h]
  ·rw [decide_eq_false h,if_neg h]
 | e :: l => by
  rw [mSet]
  by_cases h1 : e.1 = k'
  ·rw [decide_eq_true h1]
   simp only [mGet]
   by_cases h : k' = k
   ·rw [decide_eq_true h,if_pos h]
   ·rw [decide_eq_false h,if_neg h,decide_eq_false (show ¬ e.1 = k by rw [h1]; exact h)]
  ·rw [decide_eq_false h1]
   simp only [mGet,mGet_set (l := l)]
   by_cases h : k' = k
   ·subst h
    rw [decide_eq_false h1]
   ·rw [if_neg h,if_neg h]
end Go.Proofs.Ytmnmfmghmenkkaa
set_option linter.unusedSimpArgs false
set_option linter.unusedVariables false
namespace Go.Proofs.Ytmnmfmghmenkkaa
open Go.Abs Go.Pur
set_option maxRecDepth 100000
def byteI (z : Int) : Prop := 0 ≤ z ∧ z ≤ 255
theorem checkW_ok {w : List UInt8} (hw : w.length ≤ 10) (hl : ∀ c ∈ w,c ∈ lets 6) : checkW w = 0 := by
 unfold checkW
 rw [if_neg (by omega),if_pos]
 rw [List.all_eq_true]
 intro c hc
 have := (lets_mem (k := 6) (Nat.le_refl 6)).1 (hl c hc)
 unfold letW
 simp only [Bool.and_eq_true,decide_eq_true_eq]
 omega
theorem lets_up {k : Nat} (hk : k ≤ 6) {c : UInt8} (h : c ∈ lets k) : c ∈ lets 6 := by
 rw [lets_mem hk] at h
 rw [lets_mem (Nat.le_refl 6)]
 omega
end Go.Proofs.Ytmnmfmghmenkkaa
set_option linter.unusedSimpArgs false
set_option linter.unusedVariables false
namespace Go.Proofs.Ytmnmfmghmenkkaa
open Go.Abs Go.Pur
set_option maxRecDepth 100000
theorem and1_nat {x : Nat} (h : x < 4096) : bits .and .i64 (x : Int) 1 = ((x % 2 : Nat) : Int) := by
 have e1 : ((BitVec.ofInt 64 (x : Int)) &&& (BitVec.ofInt 64 1)).toNat = x % 2 := by
  rw [BitVec.toNat_and,BitVec.toNat_ofInt,BitVec.toNat_ofInt,show ((x : Int) % ((2 ^ 64 : Nat) : Int)).toNat = x by omega,show ((1 : Int) % ((2 ^ 64 : Nat) : Int)).toNat = 1 by decide,Nat.and_one_is_mod]
 show IntKind.i64.wrap (((BitVec.ofInt 64 (x : Int)) &&& (BitVec.ofInt 64 1)).toNat : Int) = _
 rw [e1,wrap64 (by omega) (by omega)]
theorem tkB_nat {M k : Nat} (hM : M < 4096) (hk : k < 64) : tkB (M : Int) k = M.testBit k := by
 unfold tkB
 have h1 : (M : Int) / 2 ^ min k 64 = ((M / 2 ^ k : Nat) : Int) := by
  rw [show min k 64 = k by omega]
  simp
 have h2 : M / 2 ^ k ≤ M := Nat.div_le_self _ _
 rw [h1,and1_nat (by omega),Nat.testBit_eq_decide_div_mod_eq]
 rcases Nat.mod_two_eq_zero_or_one (M / 2 ^ k) with h | h <;> rw [h] <;> rfl
theorem tk_congr {f g : Nat → Bool} {l : List UInt8} : ∀ {k : Nat},(∀ j,j < k → f j = g j) → tk f l k = tk g l k
 | 0,_ => rfl
 | k + 1,h => by rw [tk,tk,tk_congr fun j hj => h j (by omega),h k (by omega)]
def tkN (M : Nat) (w : List UInt8) : List UInt8 := tk M.testBit w w.length
theorem f53_nat {w : List UInt8} {M : Nat} (hw : w.length ≤ 10) (hM : M < 4096) : f53O w (M : Int) = some (tkN M w) := by
 unfold f53O
 simp only [e53]
 rw [show Nat.ble (bs w).size 1000 = true from Nat.ble_eq_true_of_le (show w.length ≤ 1000 by omega)]
 simp only [txtO]
 refine congrArg some ?_
 show tk (tkB (M : Int)) w w.length = tkN M w
 exact tk_congr fun j hj => tkB_nat hM (by omega)
theorem tk_all {w : List UInt8} : ∀ {k : Nat},k ≤ w.length → ∀ {p : List UInt8},p.Sublist (w.take k) → ∃ M,M < 2 ^ k ∧ tk M.testBit w k = p
 | 0,_,p,h => ⟨0,by simp,by simp at h; simp [tk,h]⟩
 | k + 1,hk,p,h => by
  rw [List.take_add_one,List.getElem?_eq_getElem (show k < w.length by omega),Option.toList_some,List.sublist_append_iff] at h
  obtain ⟨p1,p2,rfl,h1,h2⟩ := h
  obtain ⟨M,hM,he⟩ := tk_all (k := k) (by omega) h1
  have h2' : p2 = [] ∨ p2 = [w[k]] := by
   cases h2 with
   | cons _ h2 => left; simpa using h2
   | cons_cons _ h2 => right; simp at h2; rw [h2]
  rw [Nat.pow_succ]
  rcases h2' with rfl | rfl
  ·refine ⟨M,by omega, ?_⟩
   rw [tk,he,Nat.testBit_lt_two_pow hM]
   simp
  ·refine ⟨2 ^ k + M,by omega, ?_⟩
   rw [tk,Nat.testBit_two_pow_add_eq,Nat.testBit_lt_two_pow hM,tk_congr (g := M.testBit) (fun j hj => Nat.testBit_two_pow_add_gt hj M),he]
   simp [List.getElem?_eq_getElem (show k < w.length by omega)]
theorem tkN_all {w p : List UInt8} (h : p.Sublist w) : ∃ M,M < 2 ^ w.length ∧ tkN M w = p := tk_all (Nat.le_refl _) (by rwa [List.take_length])
theorem tkN_sub {w : List UInt8} {M : Nat} : (tkN M w).Sublist w := by
 have := tk_sub (f := M.testBit) (l := w) w.length
 rwa [List.take_length] at this
def prtM (w : List UInt8) : Nat → Mp (List UInt8) Int × Nat
 | 0 => ([],0)
 | v + 1 => (mSet (prtM w v).2 (tkN v w) (mGetD 0 (tkN v w) (prtM w v).1 + 1) (prtM w v).1,mClk (prtM w v).2 (tkN v w) (prtM w v).1)
theorem prtM_get {w p : List UInt8} : ∀ {v : Nat},mGetD 0 p (prtM w v).1 = (((List.range v).filter fun M => decide (tkN M w = p)).length : Int)
 | 0 => rfl
 | v + 1 => by
  rw [List.range_succ,List.filter_append,List.length_append,prtM]
  unfold mGetD
  rw [mGet_set]
  have ih := prtM_get (w := w) (p := p) (v := v)
  unfold mGetD at ih
  by_cases h : tkN v w = p
  ·rw [if_pos h,h,Option.getD_some,ih]
   simp [h]
  ·rw [if_neg h,ih]
   simp [h]
theorem mSet_mem {K V : Type} [DecidableEq K] {c : Nat} {k p : K} {v : V} {l : Mp K V} : p ∈ (mSet c k v l).map (·.1) ↔ (p ∈ l.map (·.1) ∨ k = p) := by
 rw [mSet_keys]
 split
 ·rename_i h
  exact ⟨.inl,fun e => e.elim id fun e => e ▸ h⟩
 ·rw [List.mem_append,List.mem_singleton,eq_comm (a := p)]
theorem prtM_keys {w p : List UInt8} : ∀ {v : Nat},p ∈ (prtM w v).1.map (·.1) ↔ ∃ M,M < v ∧ tkN M w = p
 | 0 => by simp [prtM]
 | v + 1 => by
  rw [prtM]
  rw [show p ∈ (mSet (prtM w v).2 (tkN v w) (mGetD 0 (tkN v w) (prtM w v).1 + 1) (prtM w v).1,mClk (prtM w v).2 (tkN v w) (prtM w v).1).1.map (·.1) ↔ (p ∈ (prtM w v).1.map (·.1) ∨ tkN v w = p) from mSet_mem,prtM_keys]
  constructor
  ·rintro (⟨M,h,e⟩ | e)
   ·exact ⟨M,by omega,e⟩
   ·exact ⟨v,by omega,e⟩
  ·rintro ⟨M,h,e⟩
   rcases Nat.lt_or_ge M v with h2 | h2
   ·exact .inl ⟨M,h2,e⟩
   ·obtain rfl : M = v := by omega
    exact .inr e
theorem prtM_has {w p : List UInt8} : (0 < mGetD 0 p (prtM w (2 ^ w.length)).1) ↔ leftW w p = true := by
 rw [prtM_get,leftW_sub]
 constructor
 ·intro h
  obtain ⟨M,hM⟩ := List.exists_mem_of_length_pos (l := (List.range (2 ^ w.length)).filter fun M => decide (tkN M w = p)) (by omega)
  have := of_decide_eq_true (List.mem_filter.1 hM).2
  exact this ▸ tkN_sub
 ·intro h
  obtain ⟨M,h1,h2⟩ := tkN_all h
  have := List.length_pos_of_mem (l := (List.range (2 ^ w.length)).filter fun M => decide (tkN M w = p)) (List.mem_filter.2 ⟨List.mem_range.2 h1,by simp [h2]⟩)
  omega
theorem prtM_le {w p : List UInt8} {v : Nat} : mGetD 0 p (prtM w v).1 ≤ v := by
 rw [prtM_get]
 have := List.length_filter_le (fun M => decide (tkN M w = p)) (List.range v)
 rw [List.length_range] at this
 omega
theorem f50_run {w : List UInt8} {F : Nat} (hw : w.length ≤ 10) {K : Mp (List UInt8) Int × Nat → Option (Mp (List UInt8) Int × Nat)} : ∀ (n v : Nat),2 ^ w.length + 1 ≤ n + v → v ≤ 2 ^ w.length → f50_L0 F w ((2 ^ w.length : Nat) : Int) K n ((prtM w v).1,(prtM w v).2,(v : Int)) = K (prtM w (2 ^ w.length))
 | 0,v,h,hv => absurd h (by omega)
 | n + 1,v,h,hv => by
  have h10 : 2 ^ w.length ≤ 2 ^ 10 := Nat.pow_le_pow_right (by omega) hw
  rw [f50_L0]
  simp only [Option.bind_some]
  by_cases hv' : v < 2 ^ w.length
  ·rw [decide_eq_true (show (v : Int) < ((2 ^ w.length : Nat) : Int) by omega)]
   simp only []
   rw [f53_nat hw (by omega)]
   simp only [Option.bind_some]
   have h1 := prtM_le (w := w) (p := tkN v w) (v := v)
   have h2 : 0 ≤ mGetD 0 (tkN v w) (prtM w v).1 := by rw [prtM_get]; omega
   rw [wrap64 (z := mGetD 0 (tkN v w) (prtM w v).1 + 1) (by omega) (by omega),wrap_nat (by omega)]
   exact f50_run hw n (v + 1) (by omega) (by omega)
  ·obtain rfl : v = 2 ^ w.length := by omega
   rw [decide_eq_false (by omega)]
theorem f50_law {w : List UInt8} {F : Nat} (hw : w.length ≤ 10) (hF : 1100 ≤ F) : f50S F w = some (prtM w (2 ^ w.length)) := by
 have h10 : 2 ^ w.length ≤ 2 ^ 10 := Nat.pow_le_pow_right (by omega) hw
 unfold f50S
 simp only [Option.bind_some]
 have h1 : shlO .i64 1 (w.length : Int) = some ((2 ^ w.length : Nat) : Int) := by
  show some (IntKind.i64.wrap (1 * 2 ^ min (w.length : Int).toNat 64)) = _
  rw [show min (w.length : Int).toNat 64 = w.length by omega,Int.one_mul]
  have h2 : ((2 : Int) ^ w.length) = ((2 ^ w.length : Nat) : Int) := by simp
  rw [h2]
  generalize 2 ^ w.length = N at h10
  rw [wrap64 (by omega) (by omega)]
 rw [h1]
 simp only [Option.bind_some]
 exact f50_run hw F 0 (by omega) (Nat.zero_le _)
theorem mSet_st {K V : Type} [DecidableEq K] {c : Nat} {k : K} {v : V} : ∀ {l : Mp K V},((mSet c k v l).map (·.2.2) = l.map (·.2.2) ∧ mClk c k l = c) ∨ ((mSet c k v l).map (·.2.2) = l.map (·.2.2) ++ [c] ∧ mClk c k l = c + 1)
 | [] => .inr ⟨rfl,rfl⟩
 | e :: l => by
  by_cases h : e.1 = k
  ·refine .inl ?_
   rw [mSet,mClk,decide_eq_true h]
   exact ⟨rfl,rfl⟩
  ·rw [mSet,mClk,decide_eq_false h]
   rcases mSet_st (c := c) (k := k) (v := v) (l := l) with ⟨h1,h2⟩ | ⟨h1,h2⟩
   ·refine .inl ⟨?_,h2⟩
    dsimp only
    rw [List.map_cons,List.map_cons,h1]
   ·refine .inr ⟨?_,h2⟩
    dsimp only
    rw [List.map_cons,List.map_cons,h1]
    rfl
theorem prtM_st {w : List UInt8} : ∀ {v : Nat},(∀ s ∈ (prtM w v).1.map (·.2.2),s < (prtM w v).2) ∧ ((prtM w v).1.map (·.2.2)).Nodup
 | 0 => by simp [prtM]
 | v + 1 => by
  obtain ⟨h1,h2⟩ := prtM_st (w := w) (v := v)
  rw [prtM]
  dsimp only
  rcases mSet_st (c := (prtM w v).2) (k := tkN v w) (v := mGetD 0 (tkN v w) (prtM w v).1 + 1) (l := (prtM w v).1) with ⟨h3,h4⟩ | ⟨h3,h4⟩
  ·rw [h3,h4]; exact ⟨h1,h2⟩
  ·rw [h3,h4]
   refine ⟨fun s hs => ?_, ?_⟩
   ·rcases List.mem_append.1 hs with h | h
    ·have := h1 s h; omega
    ·rw [List.mem_singleton.1 h]; omega
   ·rw [List.nodup_append]
    refine ⟨h2,by simp,fun a ha b hb e => ?_⟩
    rw [List.mem_singleton] at hb
    subst hb; subst e
    exact absurd (h1 _ ha) (Nat.lt_irrefl _)
end Go.Proofs.Ytmnmfmghmenkkaa
set_option linter.unusedSimpArgs false
set_option linter.unusedVariables false
namespace Go.Proofs.Ytmnmfmghmenkkaa
open Go.RowKit Go.Abs Go.Pur
set_option maxRecDepth 1000000
set_option maxHeartbeats 8000000
theorem cell_al {w : World} {p : Addr} {v : Value} {o : Obj} (h : w.cell? p = some v) : (w.alloc o).cell? p = some v := by
 have hl : p.block < w.heap.size := by
  rcases Nat.lt_or_ge p.block w.heap.size with h1 | h1
  ·exact h1
  ·simp [World.cell?,Array.getElem?_eq_none h1] at h
 rw [World.cell?_of_block (w := w) (heap_alloc_old w o hl)]
 exact h
theorem hid70 {p : Prop} (h : p) : Hid p := h
def S70 (B : Nat) (a b : List UInt8) (v : Value) (met : List (Nat × Nat)) (Q : List Way) (w0 w : World) : Prop :=
 ∃ (m : Mp (Int × Int) Bool) (c : Nat),QAt B v Q w ∧ w.heap[B + 1]? = some (.map (mE pV2 Value.bool m).toArray c) ∧ (∀ x y : Nat,mGetD false ((x : Int),(y : Int)) m = decide ((x,y) ∈ met)) ∧ Below B w0 w ∧
  met.Nodup ∧ (∀ p ∈ met,p.1 ≤ 10 ∧ p.2 ≤ 10) ∧ (∀ e ∈ Q,e.1 ≤ a.length ∧ e.2.1 ≤ b.length) ∧ Q.length ≤ met.length ∧ met.length ≤ 121
def Post70 (a b : List UInt8) (most : Int) (w : World) (e : Ending) (w' : World) : Prop :=
 ∃ R,bfs a b most 200 [(0,0)] [(0,0,[])] = R ∧ e = .returned (.tuple #[.string ⟨(R.getD []).toArray⟩,.bool R.isSome]) ∧ Below w.heap.size w w'
theorem al_cells {W w' : World} {x y v : Value} (gw : Nat) (h : Below (W.alloc (.cells #[x,y] 106)).heap.size (W.alloc (.cells #[x,y] 106)) w') (c0 : W.cell? ⟨gw,0,none⟩ = some v) : w'.heap[W.heap.size]? = some (.cells #[x,y] 106) ∧ w'.cell? ⟨W.heap.size,0,none⟩ = some x ∧ w'.cell? ⟨W.heap.size,1,none⟩ = some y ∧ w'.frozen? ⟨W.heap.size,0,none⟩ = false ∧ w'.frozen? ⟨W.heap.size,1,none⟩ = false ∧ W.heap.size ≠ gw := by
 have e : w'.heap[W.heap.size]? = some (.cells #[x,y] 106) := (h.block _ (by simp)).trans (heap_alloc_new _ _)
 have e2 : W.heap.size ≠ gw := fun e => by
  subst e
  simp [World.cell?] at c0
 refine ⟨e, ?_, ?_, ?_, ?_,e2⟩ <;> simp [World.cell?,World.frozen?,e]
theorem al_cellsD {W w' : World} {x y v : Value} (gw : Nat) (h : Below (W.alloc (.cells #[x,y] 106)).drew.heap.size (W.alloc (.cells #[x,y] 106)).drew w') (c0 : W.cell? ⟨gw,0,none⟩ = some v) : w'.heap[W.heap.size]? = some (.cells #[x,y] 106) ∧ w'.cell? ⟨W.heap.size,0,none⟩ = some x ∧ w'.cell? ⟨W.heap.size,1,none⟩ = some y ∧ w'.frozen? ⟨W.heap.size,0,none⟩ = false ∧ w'.frozen? ⟨W.heap.size,1,none⟩ = false ∧ W.heap.size ≠ gw :=
 al_cells gw ⟨h.os,h.tape,h.output,h.size,h.block⟩ c0
theorem set_far {w : World} {gp gw k k1 k2 : Nat} {x y v : Value} (h : gp ≠ gw) (c : w.cell? ⟨gw,k,none⟩ = some v) : ((w.setCell ⟨gp,k1,none⟩ x).setCell ⟨gp,k2,none⟩ y).cell? ⟨gw,k,none⟩ = some v := by
 rw [World.cell?_of_block (w := w),c]
 rw [Below.heap_setCell _ _ _ _ (fun e => h e.symm),Below.heap_setCell _ _ _ _ (fun e => h e.symm)]
theorem al_keep {W w' : World} {x y : Value} {g : Nat} (h : Below W.heap.size W w') (e0 : W.heap[g]? = some (.cells #[x,y] 106)) : w'.heap[g]? = some (.cells #[x,y] 106) ∧ w'.cell? ⟨g,0,none⟩ = some x ∧ w'.cell? ⟨g,1,none⟩ = some y ∧ w'.frozen? ⟨g,0,none⟩ = false ∧ w'.frozen? ⟨g,1,none⟩ = false := by
 have e : w'.heap[g]? = some (.cells #[x,y] 106) := (h.block _ (Array.getElem?_eq_some_iff.1 e0).1).trans e0
 refine ⟨e, ?_, ?_, ?_, ?_⟩ <;> simp [World.cell?,World.frozen?,e]
theorem two_set {w : World} {g : Nat} {x y X Y : Value} (e : w.heap[g]? = some (.cells #[x,y] 106)) : ((w.setCell ⟨g,0,none⟩ X).setCell ⟨g,1,none⟩ Y).heap[g]? = some (.cells #[X,Y] 106) := by
 simp [World.setCell,Array.getElem?_modify,e]
theorem set_below {w w' : World} {B g : Nat} {X Y : Value} (h : Below B w w') (hg : B ≤ g) : Below B w ((w'.setCell ⟨g,0,none⟩ X).setCell ⟨g,1,none⟩ Y) := (h.setCell (p := ⟨g,0,none⟩) hg X).setCell (p := ⟨g,1,none⟩) hg Y
theorem grown_of {w w' : World} (h : Below w.heap.size w w') : w.grownBy w' none := ⟨h.os,h.tape,h.output,h.size,fun k hk _ => h.block k hk⟩
theorem undrew {w w' : World} (h : Below w.drew.heap.size w.drew w') : Below w.heap.size w w' := ⟨h.os,h.tape,h.output,h.size,h.block⟩
theorem unal {w w' : World} {o : Obj} (h : Below (w.alloc o).heap.size (w.alloc o) w') : Below w.heap.size w w' := ((Below.refl _ _).alloc (Nat.le_refl _) o).trans (h.mono (by simp))
theorem out1 {wr wa wb : World} {X Y : Value} (h1 : Below wr.drew.heap.size wr.drew wa) (h2 : Below wa.heap.size wa wb) : wr.heap.size ≤ wb.heap.size ∧ wr.grownBy (wb.alloc (.cells #[X,Y] 106)) none ∧ (wb.alloc (.cells #[X,Y] 106)).heap[wb.heap.size]? = some (.cells #[X,Y] 106) := by
 have h := (undrew h1).trans (h2.mono (undrew h1).size)
 exact ⟨h.size,grown_of (h.alloc h.size _),heap_alloc_new _ _⟩
theorem out2 {wr wa wb : World} {x y X Y : Value} (h1 : Below wr.drew.heap.size wr.drew wa) (h2 : Below (wa.alloc (.cells #[x,y] 106)).heap.size (wa.alloc (.cells #[x,y] 106)) wb) : wr.heap.size ≤ wa.heap.size ∧ wr.grownBy ((wb.setCell ⟨wa.heap.size,0,none⟩ X).setCell ⟨wa.heap.size,1,none⟩ Y) none ∧ ((wb.setCell ⟨wa.heap.size,0,none⟩ X).setCell ⟨wa.heap.size,1,none⟩ Y).heap[wa.heap.size]? = some (.cells #[X,Y] 106) := by
 have h := (undrew h1).trans ((unal h2).mono (undrew h1).size)
 exact ⟨(undrew h1).size,grown_of (set_below h (undrew h1).size),two_set ((h2.block _ (by simp)).trans (heap_alloc_new _ _))⟩
theorem out3 {wr wa wb : World} {x y X Y : Value} (h1 : Below (wr.alloc (.cells #[x,y] 106)).drew.heap.size (wr.alloc (.cells #[x,y] 106)).drew wa) (h2 : Below wa.heap.size wa wb) : wr.heap.size ≤ wr.heap.size ∧ wr.grownBy ((wb.setCell ⟨wr.heap.size,0,none⟩ X).setCell ⟨wr.heap.size,1,none⟩ Y) none ∧ ((wb.setCell ⟨wr.heap.size,0,none⟩ X).setCell ⟨wr.heap.size,1,none⟩ Y).heap[wr.heap.size]? = some (.cells #[X,Y] 106) := by
 have h3 := undrew h1
 have hs := h3.size
 have h4 := (unal h3).trans (h2.mono (by simp at hs; omega))
 refine ⟨Nat.le_refl _,grown_of (set_below h4 (Nat.le_refl _)),two_set (x := x) (y := y) ?_⟩
 rw [h2.block _ (by simp at hs; omega),h3.block _ (by simp),heap_alloc_new]
theorem S70.kept {B : Nat} {a b : List UInt8} {v : Value} {met : List (Nat × Nat)} {Q : List Way} {w0 w w' : World} (h : S70 B a b v met Q w0 w) (hB : B ≤ w.heap.size) (hg : w.grownBy w' none) : S70 B a b v met Q w0 w' := by
 obtain ⟨m,c,q1,q2,q3,q4,q5⟩ := h
 refine ⟨m,c,q1.kept hg (fun e => ?_), ?_,q3,q4.grown hg hB (fun k hk => by cases hk),q5⟩
 ·obtain ⟨g,off,cap,C,e1,_⟩ := q1
  rw [e1] at e
  cases e
 ·rw [hg.block _ (Array.getElem?_eq_some_iff.1 q2).1 (by simp)]
  exact q2
theorem mGetD_pair {c : Nat} {k k' : Int × Int} {l : Mp (Int × Int) Bool} : mGetD false k (mSet c k' true l) = if k' = k then true else mGetD false k l := by
 unfold mGetD
 rw [mGet_set61]
 split <;> rfl
theorem pairs_len {l : List (Nat × Nat)} (hn : l.Nodup) (h : ∀ p ∈ l,p.1 ≤ 10 ∧ p.2 ≤ 10) : l.length ≤ 121 :=
 nodup_le (m := (List.range 11).flatMap fun i => (List.range 11).map fun j => (i,j)) hn fun p hp => by
  have := h p hp
  exact List.mem_flatMap.2 ⟨p.1,List.mem_range.2 (by omega),List.mem_map.2 ⟨p.2,List.mem_range.2 (by omega),rfl⟩⟩
theorem nx_le {w : List UInt8} {i k : Nat} {c : UInt8} (h : nxN w i c = some k) : k ≤ w.length := by
 unfold nxN at h
 cases hb : bhd (w.drop i) c with
 | none => rw [hb] at h; cases h
 | some w' => rw [hb] at h; cases h; exact Nat.sub_le _ _
theorem drop_at {l : List UInt8} {t : Nat} {x : UInt8} (h : l[t]? = some x) : l.drop t = x :: l.drop (t + 1) := by
 obtain ⟨h1,h2⟩ := List.getElem?_eq_some_iff.1 h
 rw [List.drop_eq_getElem_cons h1,h2]
theorem stL_none {a b : List UInt8} {i j t : Nat} {part l : List UInt8} {x : UInt8} {m : List (Nat × Nat)} {q : List Way} (hx : l[t]? = some x) (ha : nxN a i x = none) (hb : nxN b j x = none) : stL a b i j part (l.drop t) m q = stL a b i j part (l.drop (t + 1)) m q := by
 rw [drop_at hx,stL,ha,hb]
theorem stL_met {a b : List UInt8} {i j t p' q' : Nat} {part l : List UInt8} {x : UInt8} {m : List (Nat × Nat)} {q : List Way} (hx : l[t]? = some x) (ha : nxN a i x = some p') (hb : nxN b j x = some q') (hm : (p',q') ∈ m) : stL a b i j part (l.drop t) m q = stL a b i j part (l.drop (t + 1)) m q := by
 rw [drop_at hx,stL,ha,hb]
 exact if_pos hm
theorem stL_new {a b : List UInt8} {i j t p' q' : Nat} {part l : List UInt8} {x : UInt8} {m : List (Nat × Nat)} {q : List Way} (hx : l[t]? = some x) (ha : nxN a i x = some p') (hb : nxN b j x = some q') (hm : (p',q') ∉ m) : stL a b i j part (l.drop t) m q = stL a b i j part (l.drop (t + 1)) ((p',q') :: m) (q ++ [(p',q',part ++ [x])]) := by
 rw [drop_at hx,stL,ha,hb]
 exact if_neg hm
theorem stL_out1 {a b : List UInt8} {i j t q' : Nat} {part l : List UInt8} {x : UInt8} {m : List (Nat × Nat)} {q : List Way} (hx : l[t]? = some x) (ha : nxN a i x = none) (hb : nxN b j x = some q') : stL a b i j part (l.drop t) m q = (some (part ++ [x]),m,q) := by
 rw [drop_at hx,stL,ha,hb]
theorem stL_out2 {a b : List UInt8} {i j t p' : Nat} {part l : List UInt8} {x : UInt8} {m : List (Nat × Nat)} {q : List Way} (hx : l[t]? = some x) (ha : nxN a i x = some p') (hb : nxN b j x = none) : stL a b i j part (l.drop t) m q = (some (part ++ [x]),m,q) := by
 rw [drop_at hx,stL,ha,hb]
theorem push70 {B p q gp : Nat} {a b s : List UInt8} {v : Value} {met : List (Nat × Nat)} {Q : List Way} {w0 w : World} (h : S70 B a b v met Q w0 w) (hB : B + 1 < w.heap.size) (ha : a.length ≤ 10) (hb : b.length ≤ 10) (hnm : (p,q) ∉ met) (hp : p ≤ a.length) (hq : q ≤ b.length)
  (hgp : w.heap[gp]? = some (.cells #[.int .i64 (p : Int),.int .i64 (q : Int)] 106)) (mty : mapTy Try.prog 110 = some (106,4)) :
  ∃ gq offq capq wd g' off' n' cap' w4,v = .slice (some ⟨gq,offq,none⟩) Q.length capq ∧ (Instr.mapUpdate 110 (.map (some (B + 1))) (.agg #[.int .i64 (p : Int),.int .i64 (q : Int)]) (.bool true)).run Try.prog w = .ok () wd ∧
   wd.cell? ⟨gp,0,none⟩ = some (.int .i64 (p : Int)) ∧ wd.cell? ⟨gp,1,none⟩ = some (.int .i64 (q : Int)) ∧
   (Builtin.append_ #[109,109] 109 #[.slice (some ⟨gq,offq,none⟩) Q.length capq,.slice (some ⟨wd.heap.size,0,none⟩) 1 1]).run Try.prog (wd.alloc (.cells #[.int .i64 (p : Int),.int .i64 (q : Int),.string ⟨s.toArray⟩] 108)) = .ok (.slice (some ⟨g',off',none⟩) n' cap') w4 ∧
   S70 B a b (.slice (some ⟨g',off',none⟩) n' cap') ((p,q) :: met) (Q ++ [(p,q,s)]) w0 w4 ∧ (g' = gq ∨ w.heap.size ≤ g') ∧ (∀ k,k < w.heap.size → k ≠ B + 1 → k ≠ gq → w4.heap[k]? = w.heap[k]?) := by
 obtain ⟨mm,cc,r1,r2,r3,r4,r5,r6,r7,r8,r9⟩ := h
 have hins : (Instr.mapUpdate 110 (.map (some (B + 1))) (.agg #[.int .i64 (p : Int),.int .i64 (q : Int)]) (.bool true)).run Try.prog w = .ok () _ :=
  aupd_run (P := Try.prog) r2 (upd_m (kf := pV2) (vf := Value.bool) (l := mm) (k := ((p : Int),(q : Int))) (v := true) (c := cc) mty key_pair)
 have hne := r1.ne r2 (fun _ _ _ e => by cases e)
 obtain ⟨gq,offq,capq,Cq,rfl,s1,s2,s3,s4,s5⟩ := id r1
 have hgq : gq ≠ B + 1 := fun e => hne (by rw [e]; rfl)
 have hgpB : gp ≠ B + 1 := fun e => by rw [e,r2] at hgp; cases hgp
 obtain ⟨wd,hwd⟩ : ∃ wd,itSet w (B + 1) (.map (mE pV2 Value.bool (mSet cc ((p : Int),(q : Int)) true mm)).toArray (mClk cc ((p : Int),(q : Int)) mm)) = wd := ⟨_,rfl⟩
 rw [hwd] at hins
 have hds : wd.heap.size = w.heap.size := by rw [← hwd]; simp [itSet]
 have hgd : w.grownBy wd (some (B + 1)) := by
  rw [← hwd]
  refine ⟨rfl,rfl,rfl,by simp [itSet],fun k hk hne => ?_⟩
  simp only [itSet]
  rw [Array.getElem?_setIfInBounds,if_neg (fun e => hne (by rw [e]))]
 have hmd : wd.heap[B + 1]? = some (.map (mE pV2 Value.bool (mSet cc ((p : Int),(q : Int)) true mm)).toArray (mClk cc ((p : Int),(q : Int)) mm)) := by
  rw [← hwd]
  simp only [itSet]
  rw [Array.getElem?_setIfInBounds,if_pos rfl,if_pos hB]
 have hgpd : wd.heap[gp]? = some (.cells #[.int .i64 (p : Int),.int .i64 (q : Int)] 106) := (hgd.block gp (Array.getElem?_eq_some_iff.1 hgp).1 (fun e => hgpB (Option.some.inj e))).trans hgp
 have hQd := r1.kept hgd hne
 have hga : wd.grownBy (wd.alloc (.cells #[.int .i64 (p : Int),.int .i64 (q : Int),.string ⟨s.toArray⟩] 108)) none := ⟨rfl,rfl,rfl,by simp,fun k hk _ => heap_alloc_old _ _ hk⟩
 have hQe := hQd.kept hga (fun e => by cases e)
 obtain ⟨g',off',n',cap',w4,hap,hq4,hg4,hgg⟩ := append_q (gn := wd.heap.size) (e := (p,q,s)) 109 hQe (by simp; omega) (by omega) (fun j u hj => by
  rw [Addr.add_lit]
  have hc : (wd.alloc (.cells #[.int .i64 (p : Int),.int .i64 (q : Int),.string ⟨s.toArray⟩] 108)).heap[wd.heap.size]? = _ := heap_alloc_new wd _
  simp only [World.cell?,hc,Nat.zero_add]
  simp only [Option.isSome_none,Bool.false_eq_true,if_false]
  simpa [qc] using hj)
 have hkeep : ∀ k,k < w.heap.size → k ≠ B + 1 → k ≠ gq → w4.heap[k]? = w.heap[k]? := fun k hk h1 h2 => by
  rw [hg4.block k (by simp; omega) (fun e => h2 (Option.some.inj e)),heap_alloc_old _ _ (by omega),hgd.block k hk (fun e => h1 (Option.some.inj e))]
 refine ⟨gq,offq,capq,wd,g',off',n',cap',w4,rfl,hins,by simp [World.cell?,hgpd],by simp [World.cell?,hgpd],hap,⟨mSet cc ((p : Int),(q : Int)) true mm,mClk cc ((p : Int),(q : Int)) mm,hq4, ?_,fun x y => ?_, ?_, ?_, ?_, ?_, ?_, ?_⟩, ?_,hkeep⟩
 ·rw [hg4.block (B + 1) (by simp; omega) (fun e => hgq (Option.some.inj e).symm),heap_alloc_old _ _ (by omega)]
  exact hmd
 ·rw [mGetD_pair]
  by_cases h : (p,q) = (x,y)
  ·cases h
   rw [if_pos rfl]
   simp
  ·have h1 : ¬ ((p : Int),(q : Int)) = ((x : Int),(y : Int)) := fun e => h (by
    have := Prod.mk.inj e
    exact Prod.ext (by simp only; omega) (by simp only; omega))
   rw [if_neg h1,r3]
   have h2 : ¬ (x,y) = (p,q) := fun e => h e.symm
   simp [List.mem_cons,h2]
 ·have h1 := (r4.grown hgd (by omega) (fun k hk => by cases hk; omega)).grown hga (by omega) (fun k hk => by cases hk)
  exact h1.grown hg4 (by simp; omega) (fun k hk => by cases hk; exact s1)
 ·exact List.nodup_cons.2 ⟨hnm,r5⟩
 ·intro e he
  rcases List.mem_cons.1 he with rfl | he
  ·exact ⟨by simp only; omega,by simp only; omega⟩
  ·exact r6 e he
 ·intro e he
  rcases List.mem_append.1 he with he | he
  ·exact r7 e he
  ·rw [List.mem_singleton.1 he]; exact ⟨hp,hq⟩
 ·simp only [List.length_append,List.length_cons,List.length_nil]; omega
 ·exact pairs_len (List.nodup_cons.2 ⟨hnm,r5⟩) (fun e he => by
   rcases List.mem_cons.1 he with rfl | he
   ·exact ⟨by simp only; omega,by simp only; omega⟩
   ·exact r6 e he)
 ·simp only [World.alloc,Array.size_push] at hgg
  rcases hgg with h | h
  ·exact .inl h
  ·exact .inr (by omega)
theorem differ_calls (a b : List UInt8) (most : Int) (w : World) (ha : a.length ≤ 10) (hb : b.length ≤ 10) (hm : most ≤ 10)
  (h81 : ∀ W : World,Below w.heap.size w W → ∀ (s : List UInt8) (i : Nat) (c : UInt8),(s = a ∨ s = b) → i ≤ s.length → c ∈ lets 6 → Calls Try.prog 81 #[.string ⟨s.toArray⟩,.int .i64 i,.int .u8 c.toNat] W fun e W' => e = .returned (.int .i64 (nxI s i c)) ∧ Below W.heap.size W W') :
  Calls Try.prog 70 #[.string ⟨a.toArray⟩,.string ⟨b.toArray⟩,.int .i64 most] w fun e w' => Post70 a b most w e w' := by
 have mixed : Try.prog.follows .mixedOrders = true := by kernel_rfl
 have hmm := fun w => run_makeMap (P := Try.prog) 110 w
 have mty : mapTy Try.prog 110 = some (106,4) := by kernel_rfl
 obtain ⟨w0,hw0⟩ : ∃ w0,w.alloc (.cells #[.int .i64 0,.int .i64 0,.string ⟨#[]⟩] 108) = w0 := ⟨_,rfl⟩
 have hz0 : w0.heap.size = w.heap.size + 1 := by rw [← hw0]; simp
 have hins : (Instr.mapUpdate 110 (.map (some (w.heap.size + 1))) (.agg #[.int .i64 0,.int .i64 0]) (.bool true)).run Try.prog (w0.alloc (.map #[] 0)) = .ok () (itSet (w0.alloc (.map #[] 0)) (w.heap.size + 1) (.map (mE pV2 Value.bool [((0,0),true,0)]).toArray 1)) :=
  aupd_run (es := mE pV2 Value.bool []) (c := 0) (by rw [← hz0]; exact heap_alloc_new w0 _) (upd_m (kf := pV2) (vf := Value.bool) (l := []) (k := (0,0)) (v := true) (c := 0) mty key_pair)
 obtain ⟨w1,hw1⟩ : ∃ w1,itSet (w0.alloc (.map #[] 0)) (w.heap.size + 1) (.map (mE pV2 Value.bool [((0,0),true,0)]).toArray 1) = w1 := ⟨_,rfl⟩
 have hS0 : S70 w.heap.size a b (.slice (some ⟨w.heap.size,0,none⟩) 1 1) [(0,0)] [(0,0,[])] w w1 := by
  have hb0 : w1.heap[w.heap.size]? = some (.cells #[.int .i64 0,.int .i64 0,.string ⟨#[]⟩] 108) := by
   rw [← hw1]
   simp only [itSet]
   rw [Array.getElem?_setIfInBounds,if_neg (by omega),heap_alloc_old _ _ (by omega),← hw0]
   exact heap_alloc_new _ _
  refine ⟨[((0,0),true,0)],1,⟨w.heap.size,0,1,_,rfl,Nat.le_refl _,hb0,Nat.le_refl _,Nat.le_refl _,fun j u hj => ?_⟩, ?_,fun x y => ?_, ?_,by simp,by simp,by simp,Nat.le_refl _,by simp⟩
  ·simp only [World.cell?,hb0]
   simp only [Option.isSome_none,Bool.false_eq_true,if_false,Nat.zero_add]
   simpa [qcs,qc] using hj
  ·rw [← hw1]
   simp [itSet,hz0]
  ·simp only [mGetD,mGet]
   by_cases h : x = 0 ∧ y = 0
   ·obtain ⟨rfl,rfl⟩ := h; rfl
   ·have h1 : ¬ ((0,0) : Int × Int) = ((x : Int),(y : Int)) := fun e => h (by
     have := Prod.mk.inj e
     omega)
    have h2 : ¬ (x,y) ∈ [((0 : Nat),(0 : Nat))] := fun e => h (by simpa using e)
    rw [decide_eq_false h1,decide_eq_false h2]
    rfl
  ·rw [← hw1,← hw0]
   refine ⟨rfl,rfl,rfl,by simp [itSet]; omega,fun k hk => ?_⟩
   simp only [itSet]
   rw [Array.getElem?_setIfInBounds,if_neg (by omega),heap_alloc_old _ _ (by simp; omega),heap_alloc_old _ _ hk]
 rw [hw1] at hins
 have HS0 := hid70 hS0
 have H81 := hid70 h81
 clear hS0 hw1 h81
 obtain ⟨R,hR⟩ : ∃ R,bfs a b most 200 [(0,0)] [(0,0,[])] = R := ⟨_,rfl⟩
 have HR := hid70 hR
 clear hR
 go_enter Try.func70,Try.ntmps70
 go_wp2_with fail
 clear hw0 hins hmm hz0
 go_loopg [9] 200 (fun gk s9 wx => ∃ (met : List (Nat × Nat)) (Q : List Way),S70 w.heap.size a b s9 met Q w wx ∧ bfs a b most gk met Q = R ∧ (121 - met.length) + Q.length < gk)
 case atStart => exact ⟨_,_,HS0.out,HR.out,by simp⟩
 case round =>
  clear HS0
  obtain ⟨met,Q,hS,hbf,hg⟩ := hrel
  obtain ⟨g',rfl⟩ : ∃ g',gk = g' + 1 := ⟨gk - 1,by omega⟩
  obtain ⟨m,c,q1,q2,q3,q4,q5,q6,q7,q8,q9⟩ := hS
  cases Q with
  | nil =>
   have hres : bfs a b most 200 [(0,0)] [(0,0,[])] = none := by rw [HR.out,← hbf,bfs]
   have hfin : Post70 a b most w (.returned (.tuple #[.string ⟨#[]⟩,.bool false])) wr := ⟨_,hres,rfl,q4⟩
   obtain ⟨g,off,cap,C,hv,p1,p2,p3,p4,p5⟩ := id q1
   subst hv
   have Hfin := hid70 hfin
   clear hres hfin H81 q1 q2 q3 q4 q5 q6 q7 q8 q9 p1 p2 p3 p4 p5 hbf
   go_wp2_with fail
   go_ret2
   exact Hfin.out
  | cons e Q =>
   obtain ⟨i,j,part⟩ := e
   obtain ⟨g,off,cap,C,hv,p1,p2,p3,p4,p5⟩ := id q1
   subst hv
   have hc0 : wr.cell? ⟨g,off,none⟩ = some (.int .i64 (i : Int)) := p5 0 _ rfl
   have hc1 : wr.cell? ⟨g,off + 1,none⟩ = some (.int .i64 (j : Int)) := p5 1 _ rfl
   have hc2 : wr.cell? ⟨g,off + 2,none⟩ = some (.string ⟨part.toArray⟩) := p5 2 _ rfl
   have Q1 := hid70 q1
   have Q2 := hid70 q2
   have Q3 := hid70 q3
   have Q4 := hid70 q4
   have Q5 := hid70 q5
   have Q6 := hid70 q6
   have Q7 := hid70 q7
   have Hbf := hid70 hbf
   have P2 := hid70 p2
   clear q1 q2 q3 q4 q5 q6 q7 hbf p1 p2 p3 p4 p5
   by_cases hlen : (part.length : Int) < most
   ·have hq0 : (0 : Int) < ((Q.length : Int) + 1) := by omega
    have hQ9a : cap = 1 → QAt w.heap.size (.slice (some ⟨g,off,none⟩) Q.length 0) Q wr := fun h => by
     obtain ⟨g',off',cap',C',e1,h1,h2,h3,h4,h5⟩ := Q1.out
     injection e1 with e1 e2 e3
     injection e1 with e1
     injection e1 with e1 e4 _
     subst e1; subst e4; subst e3
     rw [List.length_cons] at h3
     have hq : Q = [] := List.length_eq_zero_iff.1 (by omega)
     subst hq
     exact ⟨g,off,0,C',rfl,h1,h2,Nat.le_refl _,by omega,fun k u hk => by cases hk⟩
    have hQ9b : QAt w.heap.size (.slice (some ⟨g,off + 3,none⟩) Q.length (cap - 1)) Q wr := Q1.out.pop
    have HQ9a := hid70 hQ9a
    have HQ9b := hid70 hQ9b
    clear hQ9a hQ9b
    obtain ⟨Wv,hWv⟩ : ∃ Wv,wr.alloc (.cells #[.int .i64 (i : Int),.int .i64 (j : Int),.string ⟨part.toArray⟩] 108) = Wv := ⟨_,rfl⟩
    have hgv : wr.grownBy Wv none := by rw [← hWv]; exact ⟨rfl,rfl,rfl,by simp,fun k hk _ => heap_alloc_old _ _ hk⟩
    have hcv : Wv.heap[wr.heap.size]? = some (.cells #[.int .i64 (i : Int),.int .i64 (j : Int),.string ⟨part.toArray⟩] 108) := by rw [← hWv]; exact heap_alloc_new _ _
    have Hgv := hid70 hgv
    have Hcv := hid70 hcv
    clear hgv hcv
    go_wp2_with fail
    all_goals rename_i hcap
    ·have hq9 := HQ9a.out (by assumption)
     have hne9 : (Value.slice (some ⟨g,off,none⟩) Q.length 0).ownBlock ≠ some wr.heap.size := fun e => by
      have e2 : g = wr.heap.size := Option.some.inj e
      have := (Array.getElem?_eq_some_iff.1 P2.out).1
      omega
     generalize Value.slice (some ⟨g,off,none⟩) Q.length 0 = v9 at hq9 hne9 ⊢
     have HQ9 := hid70 hq9
     have Hne9 := hid70 hne9
     clear hq9 hne9
     obtain ⟨gw,hgw⟩ : ∃ gw,wr.heap.size = gw := ⟨_,rfl⟩
     have hQlen : Q.length + 1 ≤ met.length ∧ Q.length + 1 ≤ 1000 := by
      rw [List.length_cons] at q8
      omega
     have hS1 : S70 w.heap.size a b v9 met Q w Wv := by
      refine ⟨m,c,HQ9.out.kept Hgv.out (fun e => ?_), ?_,Q3.out,Q4.out.grown Hgv.out (by have := Q4.out.size; omega) (fun k hk => by cases hk),Q5.out,Q6.out,fun e he => Q7.out e (List.mem_cons_of_mem _ he),by omega,q9⟩
      ·obtain ⟨_,_,_,_,ev,_⟩ := HQ9.out
       rw [ev] at e; cases e
      ·rw [Hgv.out.block _ (Array.getElem?_eq_some_iff.1 Q2.out).1 (by simp)]
       exact Q2.out
     have hcv2 : Wv.heap[gw]? = some (.cells #[.int .i64 (i : Int),.int .i64 (j : Int),.string ⟨part.toArray⟩] 108) := by rw [← hgw]; exact Hcv.out
     have hB : w.heap.size ≤ gw := by rw [← hgw]; have := Q4.out.size; omega
     have hij : i ≤ a.length ∧ j ≤ b.length := Q7.out _ List.mem_cons_self
     have HS1 := hid70 hS1
     have Hcv2 := hid70 hcv2
     rw [hgw] at Hne9 ⊢
     clear hS1 hcv2 HQ9 HQ9a HQ9b hWv Hgv Hcv P2 Q1 Q2 Q3 Q4 Q5 Q6 Q7 hc0 hc1 hc2 hgw
     go_loopg [9,12] 7 (fun gk2 s9 s12 wx => ∃ (t : Nat) (met' : List (Nat × Nat)) (Q' : List Way),s12 = .int .u8 (97 + (t : Int)) ∧ t ≤ 6 ∧ 6 < t + gk2 ∧ S70 w.heap.size a b s9 met' Q' w wx ∧ s9.ownBlock ≠ some gw ∧ wx.heap[gw]? = some (.cells #[.int .i64 (i : Int),.int .i64 (j : Int),.string ⟨part.toArray⟩] 108) ∧
      stL a b i j part ((lets 6).drop t) met' Q' = stL a b i j part (lets 6) met Q ∧ Q'.length + met.length = Q.length + met'.length)
     case atStart => exact ⟨0,met,Q,by first | rfl | simp,by omega,by omega,HS1.out,Hne9.out,Hcv2.out,rfl,rfl⟩
     case round =>
      clear HS1 Hcv2 Hne9
      obtain ⟨t,met',Q',rfl,ht,htg,hS,hne9,hcw,hst,hacc⟩ := hrel
      obtain ⟨g2,rfl⟩ : ∃ g2,gk = g2 + 1 := ⟨gk - 1,by omega⟩
      obtain ⟨m',c',q1,q2,q3,q4,q5,q6,q7,q8',q9'⟩ := hS
      have HS := hid70 (⟨m',c',q1,q2,q3,q4,q5,q6,q7,q8',q9'⟩ : S70 w.heap.size a b u9 met' Q' w wr)
      have Q4 := hid70 q4
      have Hcw := hid70 hcw
      have Hst := hid70 hst
      have Hne9 := hid70 hne9
      clear hne9
      by_cases ht6 : t < 6
      ·obtain ⟨x,hx⟩ : ∃ x,(lets 6)[t]? = some x := ⟨_,List.getElem?_eq_getElem (by rw [lets_len]; exact ht6)⟩
       have hxt : x.toNat = 97 + t := by
        have : x = UInt8.ofNat (97 + t) := by
         rw [List.getElem?_eq_getElem (by rw [lets_len]; exact ht6),lets_at ht6] at hx
         exact (Option.some.inj hx).symm
        rw [this,UInt8.toNat_ofNat']
        omega
       have hxl : x ∈ lets 6 := List.mem_of_getElem? hx
       have hxi : (97 + (t : Int)) = (x.toNat : Int) := by omega
       have hlt6 : (x.toNat : Int) < 103 := by omega
       have k0 : wr.cell? ⟨gw,0,none⟩ = some (.int .i64 (i : Int)) := by simp [World.cell?,hcw]
       have k1 : wr.cell? ⟨gw,1,none⟩ = some (.int .i64 (j : Int)) := by simp [World.cell?,hcw]
       have k2 : wr.cell? ⟨gw,2,none⟩ = some (.string ⟨part.toArray⟩) := by simp [World.cell?,hcw]
       have hcall : ∀ (s : List UInt8) (z : Nat),(s = a ∨ s = b) → z ≤ s.length → ∀ W : World,Below w.heap.size w W → W.cell? ⟨gw,0,none⟩ = some (.int .i64 (i : Int)) → W.cell? ⟨gw,1,none⟩ = some (.int .i64 (j : Int)) →
         Calls Try.prog 81 #[.string ⟨s.toArray⟩,.int .i64 (z : Int),.int .u8 (97 + (t : Int))] W fun e W' => e = .returned (.int .i64 (nxI s z x)) ∧ Below w.heap.size w W' ∧ Below W.heap.size W W' ∧ W'.cell? ⟨gw,0,none⟩ = some (.int .i64 (i : Int)) ∧ W'.cell? ⟨gw,1,none⟩ = some (.int .i64 (j : Int)) := fun s z hs hz W hW c0 c1 => by
        rw [hxi]
        refine (H81.out W hW s z x hs hz hxl).mono fun e W' ⟨e1,e2⟩ => ?_
        have hg : gw < W.heap.size := by
         rcases Nat.lt_or_ge gw W.heap.size with h | h
         ·exact h
         ·simp [World.cell?,Array.getElem?_eq_none h] at c0
        exact ⟨e1,hW.trans (e2.mono hW.size),e2,(e2.cell (p := ⟨gw,0,none⟩) hg).trans c0,(e2.cell (p := ⟨gw,1,none⟩) hg).trans c1⟩
       have CC := hid70 hcall
       have Hxx := hid70 (⟨hx,hxt,hxl⟩ : (lets 6)[t]? = some x ∧ x.toNat = 97 + t ∧ x ∈ lets 6)
       have ht103 : 97 + (t : Int) < 103 := by omega
       have henc : Utf8.encode (97 + (t : Int)) = ⟨#[x]⟩ := by rw [hxi]; exact enc_ascii (by omega)
       have hadd : (⟨part.toArray⟩ : ByteArray) ++ ⟨#[x]⟩ = ⟨(part ++ [x]).toArray⟩ := add_ascii
       have hpl63 : ¬ (9223372036854775807 < part.length + 1) := by omega
       clear q1 q2 q3 q4 q5 q6 q7 hcw hst hxi hcall hx hxt hxl hlt6
       have n0 := World.new_ne wr ⟨gw,0,none⟩ k0
       go_upto_region 10 with fail
       go_cut [13] (fun s13 wx => ∃ gp,s13 = .pointer (some ⟨gp,0,none⟩) ∧ wr.heap.size ≤ gp ∧ wr.grownBy wx none ∧ wx.heap[gp]? = some (.cells #[.int .i64 (nxI a i x),.int .i64 (nxI b j x)] 106))
       case first =>
        clear Hst Hxx henc hadd hpl63 HS hQlen HR
        go_region_held3 (fun w' => w'.cell? ⟨gw,0,none⟩ = some (.int .i64 (i : Int)) ∧ w'.cell? ⟨gw,1,none⟩ = some (.int .i64 (j : Int))) (first | go_keep | exact ⟨set_far bq6 ba3,set_far bq6 ba4⟩)
          (first | (go_at_call 81; refine (CC.out _ _ (by first | exact .inl rfl | exact .inr rfl) (by first | exact hij.1 | exact hij.2) _ (by first | exact Q4.out.drew | exact Q4.out.drew.alloc Q4.out.size _ | assumption | exact Below.alloc (by assumption) (Below.size (by assumption)) _) (by first | exact k0 | exact cell_al k0 | assumption | exact cell_al (by assumption)) (by first | exact k1 | exact cell_al k1 | assumption | exact cell_al (by assumption))).mono ?_; rintro e wa ⟨rfl,ba1,ba2,ba3,ba4⟩; first | (have bq := al_cells (v := .int .i64 (i : Int)) gw ba2 (by assumption); obtain ⟨bq1,bq2,bq3,bq4,bq5,bq6⟩ := bq; try dsimp only [World.drew] at bq1 bq2 bq3 bq4 bq5 bq6) | (have bq := al_cellsD (v := .int .i64 (i : Int)) gw ba2 (by assumption); obtain ⟨bq1,bq2,bq3,bq4,bq5,bq6⟩ := bq) | (have bq := al_keep ba2 bq1; obtain ⟨bq1,bq2,bq3,bq4,bq5⟩ := bq) | skip))
        all_goals (go_wp2_with fail; go_meet)
        ·exact ⟨_,rfl,out1 (by assumption) ba2⟩
        ·exact ⟨_,rfl,out2 (by assumption) ba2⟩
        ·exact ⟨_,rfl,out3 (by assumption) ba2⟩
       case rest =>
        obtain ⟨gp,rfl,hgp,hgr,hcp⟩ := hcut
        have hgwlt : gw < wr.heap.size := (Array.getElem?_eq_some_iff.1 Hcw.out).1
        have hSc : S70 w.heap.size a b u9 met' Q' w wc := S70.kept (w := wr) HS.out (by have := Q4.out.size; omega) hgr
        have hcwc := (hgr.block gw hgwlt (by simp)).trans Hcw.out
        have d2 : wc.cell? ⟨gw,2,none⟩ = some (.string ⟨part.toArray⟩) := by simp [World.cell?,hcwc]
        have e0 : wc.cell? ⟨gp,0,none⟩ = some (.int .i64 (nxI a i x)) := by simp [World.cell?,hcp]
        have e1 : wc.cell? ⟨gp,1,none⟩ = some (.int .i64 (nxI b j x)) := by simp [World.cell?,hcp]
        have HSc := hid70 hSc
        have Hcwc := hid70 hcwc
        have Hcp := hid70 hcp
        have Hgp := hid70 hgp
        clear HS Hcw Q4 CC hSc hcwc hcp k0 k1 n0 hgr hgp hgwlt H81
        rcases hna : nxN a i x with _ | p <;> rcases hnb : nxN b j x with _ | q
        ·have hX : nxI a i x = -1 := by unfold nxI; rw [hna]
         have hY : nxI b j x = -1 := by unfold nxI; rw [hnb]
         rw [hX] at e0
         rw [hY] at e1
         have Hst2 := hid70 ((stL_none Hxx.out.1 hna hnb).symm.trans Hst.out)
         clear hX hY hna hnb Hst
         go_wp2_with fail
         go_roundg g2
         case measure => omega
         case rel => exact ⟨t + 1,met',Q',by rw [show (97 : Int) + ((t + 1 : Nat) : Int) = 97 + (t : Int) + 1 by omega],by omega,by omega,HSc.out,Hne9.out,Hcwc.out,Hst2.out,hacc⟩
        ·have hX : nxI a i x = -1 := by unfold nxI; rw [hna]
         have hY : nxI b j x = (q : Int) := by unfold nxI; rw [hnb]
         have hq0' : ¬ (q : Int) < 0 := by omega
         rw [hX] at e0
         rw [hY] at e1
         have hres : bfs a b most 200 [(0,0)] [(0,0,[])] = some (part ++ [x]) := by rw [HR.out,← Hbf.out,bfs,if_pos hlen,← Hst.out,stL_out1 Hxx.out.1 hna hnb]
         have hfin : Post70 a b most w (.returned (.tuple #[.string ⟨(part ++ [x]).toArray⟩,.bool true])) wc := ⟨_,hres,rfl,by obtain ⟨_,_,_,_,_,hb,_⟩ := HSc.out; exact hb⟩
         have Hfin := hid70 hfin
         clear hres hfin hX hY hna hnb
         go_wp2_with fail
         go_ret2
         exact Hfin.out
        ·have hX : nxI a i x = (p : Int) := by unfold nxI; rw [hna]
         have hY : nxI b j x = -1 := by unfold nxI; rw [hnb]
         have hq0' : ¬ (p : Int) < 0 := by omega
         rw [hX] at e0
         rw [hY] at e1
         have hres : bfs a b most 200 [(0,0)] [(0,0,[])] = some (part ++ [x]) := by rw [HR.out,← Hbf.out,bfs,if_pos hlen,← Hst.out,stL_out2 Hxx.out.1 hna hnb]
         have hfin : Post70 a b most w (.returned (.tuple #[.string ⟨(part ++ [x]).toArray⟩,.bool true])) wc := ⟨_,hres,rfl,by obtain ⟨_,_,_,_,_,hb,_⟩ := HSc.out; exact hb⟩
         have Hfin := hid70 hfin
         clear hres hfin hX hY hna hnb
         go_wp2_with fail
         go_ret2
         exact Hfin.out
        ·have hX : nxI a i x = (p : Int) := by unfold nxI; rw [hna]
         have hY : nxI b j x = (q : Int) := by unfold nxI; rw [hnb]
         have hp0' : ¬ (p : Int) < 0 := by omega
         have hq0' : ¬ (q : Int) < 0 := by omega
         have hp1' : (0 : Int) ≤ (p : Int) := by omega
         rw [hX] at e0
         rw [hY] at e1
         have hcp2 := Hcp.out
         rw [hX,hY] at hcp2
         obtain ⟨mm,cc,r1,r2,r3,r4,r5,r6,r7,r8,r9⟩ := id HSc.out
         have hlk : (Instr.lookup 110 (.map (some (w.heap.size + 1))) (.agg #[.int .i64 (p : Int),.int .i64 (q : Int)]) false).run Try.prog wc = .ok (.bool (decide ((p,q) ∈ met'))) wc := by
          have h := alook_run r2 (look_m (kf := pV2) (vf := Value.bool) (l := mm) (k := ((p : Int),(q : Int))) (d := false) mty key_pair (by kernel_rfl) (fun _ => rfl) (ok := false))
          rw [r3 p q] at h
          exact h
         by_cases hmt : (p,q) ∈ met'
         ·rw [decide_eq_true hmt] at hlk
          have Hst2 := hid70 ((stL_met Hxx.out.1 hna hnb hmt).symm.trans Hst.out)
          clear hX hY hna hnb Hst hmt r1 r2 r3 r4 r5 r6 r7 r8 r9 hcp2 Hcp
          go_wp2_with fail
          go_roundg g2
          case measure => omega
          case rel => exact ⟨t + 1,met',Q',by rw [show (97 : Int) + ((t + 1 : Nat) : Int) = 97 + (t : Int) + 1 by omega],by omega,by omega,HSc.out,Hne9.out,Hcwc.out,Hst2.out,hacc⟩
         ·rw [decide_eq_false hmt] at hlk
          have hBw : w.heap.size + 1 < wc.heap.size := (Array.getElem?_eq_some_iff.1 r2).1
          have hgwB : gw ≠ w.heap.size + 1 := fun e => by
           have h := Hcwc.out
           rw [e,r2] at h
           cases h
          obtain ⟨gq,offq,capq,wd,gr,off',n',cap',w4,rfl,hins,f0,f1,hap,hS4,hgg,hkeep⟩ := push70 (s := part ++ [x]) HSc.out hBw ha hb hmt (nx_le hna) (nx_le hnb) hcp2 mty
          have hgwq : gw ≠ gq := fun e => Hne9.out (by rw [e]; rfl)
          have hgwl : gw < wc.heap.size := (Array.getElem?_eq_some_iff.1 Hcwc.out).1
          have Hcw4 := hid70 ((hkeep gw hgwl hgwB hgwq).trans Hcwc.out)
          have Hne4 := hid70 (show (Value.slice (some ⟨gr,off',none⟩) n' cap').ownBlock ≠ some gw from fun e => by
           have e2 : gr = gw := Option.some.inj e
           rcases hgg with h | h <;> omega)
          have HS4 := hid70 hS4
          have HAP := hid70 hap
          have Hst2 := hid70 ((stL_new Hxx.out.1 hna hnb hmt).symm.trans Hst.out)
          clear hX hY hna hnb Hst hmt r1 r2 r3 r4 r5 r6 r7 r8 r9 hcp2 Hcp hS4 hap hkeep hgg HSc Hcwc Hne9 hgwB hgwq hgwl hBw
          go_wp2_with (at_builtin; refine wpList_append_eq rfl _ _ 109 rfl _ _ _ _ rfl rfl HAP.out ?_)
          go_roundg g2
          case measure => omega
          case rel => exact ⟨t + 1,(p,q) :: met',Q' ++ [(p,q,part ++ [x])],by rw [show (97 : Int) + ((t + 1 : Nat) : Int) = 97 + (t : Int) + 1 by omega],by omega,by omega,HS4.out,Hne4.out,Hcw4.out,Hst2.out,by simp only [List.length_append,List.length_cons,List.length_nil]; omega⟩
      ·have e6 : t = 6 := by omega
       have hst6 := Hst.out
       rw [e6] at hst6
       have hend : bfs a b most g' met' Q' = R := by
        rw [← Hbf.out,bfs,if_pos hlen,← hst6,show (lets 6).drop 6 = [] from rfl,stL]
       have Hend := hid70 hend
       have Hm : Hid (121 - met'.length + Q'.length < g') := hid70 (by rw [List.length_cons] at hg; omega)
       have h103 : ¬ (97 + (t : Int) < 103) := by omega
       clear hend e6 hst6 Hst q1 q2 q3 q4 q5 q6 q7 hcw hst H81 HR
       go_wp2_with fail
       go_roundg g'
       case measure => omega
       case rel => exact ⟨met',Q',by first | exact HS.out | exact HS.out,Hend.out,Hm.out⟩
    ·have hq9 := HQ9b.out
     have hne9 : (Value.slice (some ⟨g,off + 3,none⟩) Q.length (cap - 1)).ownBlock ≠ some wr.heap.size := fun e => by
      have e2 : g = wr.heap.size := Option.some.inj e
      have := (Array.getElem?_eq_some_iff.1 P2.out).1
      omega
     generalize Value.slice (some ⟨g,off + 3,none⟩) Q.length (cap - 1) = v9 at hq9 hne9 ⊢
     have HQ9 := hid70 hq9
     have Hne9 := hid70 hne9
     clear hq9 hne9
     obtain ⟨gw,hgw⟩ : ∃ gw,wr.heap.size = gw := ⟨_,rfl⟩
     have hQlen : Q.length + 1 ≤ met.length ∧ Q.length + 1 ≤ 1000 := by
      rw [List.length_cons] at q8
      omega
     have hS1 : S70 w.heap.size a b v9 met Q w Wv := by
      refine ⟨m,c,HQ9.out.kept Hgv.out (fun e => ?_), ?_,Q3.out,Q4.out.grown Hgv.out (by have := Q4.out.size; omega) (fun k hk => by cases hk),Q5.out,Q6.out,fun e he => Q7.out e (List.mem_cons_of_mem _ he),by omega,q9⟩
      ·obtain ⟨_,_,_,_,ev,_⟩ := HQ9.out
       rw [ev] at e; cases e
      ·rw [Hgv.out.block _ (Array.getElem?_eq_some_iff.1 Q2.out).1 (by simp)]
       exact Q2.out
     have hcv2 : Wv.heap[gw]? = some (.cells #[.int .i64 (i : Int),.int .i64 (j : Int),.string ⟨part.toArray⟩] 108) := by rw [← hgw]; exact Hcv.out
     have hB : w.heap.size ≤ gw := by rw [← hgw]; have := Q4.out.size; omega
     have hij : i ≤ a.length ∧ j ≤ b.length := Q7.out _ List.mem_cons_self
     have HS1 := hid70 hS1
     have Hcv2 := hid70 hcv2
     rw [hgw] at Hne9 ⊢
     clear hS1 hcv2 HQ9 HQ9a HQ9b hWv Hgv Hcv P2 Q1 Q2 Q3 Q4 Q5 Q6 Q7 hc0 hc1 hc2 hgw
     go_loopg [9,12] 7 (fun gk2 s9 s12 wx => ∃ (t : Nat) (met' : List (Nat × Nat)) (Q' : List Way),s12 = .int .u8 (97 + (t : Int)) ∧ t ≤ 6 ∧ 6 < t + gk2 ∧ S70 w.heap.size a b s9 met' Q' w wx ∧ s9.ownBlock ≠ some gw ∧ wx.heap[gw]? = some (.cells #[.int .i64 (i : Int),.int .i64 (j : Int),.string ⟨part.toArray⟩] 108) ∧
      stL a b i j part ((lets 6).drop t) met' Q' = stL a b i j part (lets 6) met Q ∧ Q'.length + met.length = Q.length + met'.length)
     case atStart => exact ⟨0,met,Q,by first | rfl | simp,by omega,by omega,HS1.out,Hne9.out,Hcv2.out,rfl,rfl⟩
     case round =>
      clear HS1 Hcv2 Hne9
      obtain ⟨t,met',Q',rfl,ht,htg,hS,hne9,hcw,hst,hacc⟩ := hrel
      obtain ⟨g2,rfl⟩ : ∃ g2,gk = g2 + 1 := ⟨gk - 1,by omega⟩
      obtain ⟨m',c',q1,q2,q3,q4,q5,q6,q7,q8',q9'⟩ := hS
      have HS := hid70 (⟨m',c',q1,q2,q3,q4,q5,q6,q7,q8',q9'⟩ : S70 w.heap.size a b u9 met' Q' w wr)
      have Q4 := hid70 q4
      have Hcw := hid70 hcw
      have Hst := hid70 hst
      have Hne9 := hid70 hne9
      clear hne9
      by_cases ht6 : t < 6
      ·obtain ⟨x,hx⟩ : ∃ x,(lets 6)[t]? = some x := ⟨_,List.getElem?_eq_getElem (by rw [lets_len]; exact ht6)⟩
       have hxt : x.toNat = 97 + t := by
        have : x = UInt8.ofNat (97 + t) := by
         rw [List.getElem?_eq_getElem (by rw [lets_len]; exact ht6),lets_at ht6] at hx
         exact (Option.some.inj hx).symm
        rw [this,UInt8.toNat_ofNat']
        omega
       have hxl : x ∈ lets 6 := List.mem_of_getElem? hx
       have hxi : (97 + (t : Int)) = (x.toNat : Int) := by omega
       have hlt6 : (x.toNat : Int) < 103 := by omega
       have k0 : wr.cell? ⟨gw,0,none⟩ = some (.int .i64 (i : Int)) := by simp [World.cell?,hcw]
       have k1 : wr.cell? ⟨gw,1,none⟩ = some (.int .i64 (j : Int)) := by simp [World.cell?,hcw]
       have k2 : wr.cell? ⟨gw,2,none⟩ = some (.string ⟨part.toArray⟩) := by simp [World.cell?,hcw]
       have hcall : ∀ (s : List UInt8) (z : Nat),(s = a ∨ s = b) → z ≤ s.length → ∀ W : World,Below w.heap.size w W → W.cell? ⟨gw,0,none⟩ = some (.int .i64 (i : Int)) → W.cell? ⟨gw,1,none⟩ = some (.int .i64 (j : Int)) →
         Calls Try.prog 81 #[.string ⟨s.toArray⟩,.int .i64 (z : Int),.int .u8 (97 + (t : Int))] W fun e W' => e = .returned (.int .i64 (nxI s z x)) ∧ Below w.heap.size w W' ∧ Below W.heap.size W W' ∧ W'.cell? ⟨gw,0,none⟩ = some (.int .i64 (i : Int)) ∧ W'.cell? ⟨gw,1,none⟩ = some (.int .i64 (j : Int)) := fun s z hs hz W hW c0 c1 => by
        rw [hxi]
        refine (H81.out W hW s z x hs hz hxl).mono fun e W' ⟨e1,e2⟩ => ?_
        have hg : gw < W.heap.size := by
         rcases Nat.lt_or_ge gw W.heap.size with h | h
         ·exact h
         ·simp [World.cell?,Array.getElem?_eq_none h] at c0
        exact ⟨e1,hW.trans (e2.mono hW.size),e2,(e2.cell (p := ⟨gw,0,none⟩) hg).trans c0,(e2.cell (p := ⟨gw,1,none⟩) hg).trans c1⟩
       have CC := hid70 hcall
       have Hxx := hid70 (⟨hx,hxt,hxl⟩ : (lets 6)[t]? = some x ∧ x.toNat = 97 + t ∧ x ∈ lets 6)
       have ht103 : 97 + (t : Int) < 103 := by omega
       have henc : Utf8.encode (97 + (t : Int)) = ⟨#[x]⟩ := by rw [hxi]; exact enc_ascii (by omega)
       have hadd : (⟨part.toArray⟩ : ByteArray) ++ ⟨#[x]⟩ = ⟨(part ++ [x]).toArray⟩ := add_ascii
       have hpl63 : ¬ (9223372036854775807 < part.length + 1) := by omega
       clear q1 q2 q3 q4 q5 q6 q7 hcw hst hxi hcall hx hxt hxl hlt6
       have n0 := World.new_ne wr ⟨gw,0,none⟩ k0
       go_upto_region 10 with fail
       go_cut [13] (fun s13 wx => ∃ gp,s13 = .pointer (some ⟨gp,0,none⟩) ∧ wr.heap.size ≤ gp ∧ wr.grownBy wx none ∧ wx.heap[gp]? = some (.cells #[.int .i64 (nxI a i x),.int .i64 (nxI b j x)] 106))
       case first =>
        clear Hst Hxx henc hadd hpl63 HS hQlen HR
        go_region_held3 (fun w' => w'.cell? ⟨gw,0,none⟩ = some (.int .i64 (i : Int)) ∧ w'.cell? ⟨gw,1,none⟩ = some (.int .i64 (j : Int))) (first | go_keep | exact ⟨set_far bq6 ba3,set_far bq6 ba4⟩)
          (first | (go_at_call 81; refine (CC.out _ _ (by first | exact .inl rfl | exact .inr rfl) (by first | exact hij.1 | exact hij.2) _ (by first | exact Q4.out.drew | exact Q4.out.drew.alloc Q4.out.size _ | assumption | exact Below.alloc (by assumption) (Below.size (by assumption)) _) (by first | exact k0 | exact cell_al k0 | assumption | exact cell_al (by assumption)) (by first | exact k1 | exact cell_al k1 | assumption | exact cell_al (by assumption))).mono ?_; rintro e wa ⟨rfl,ba1,ba2,ba3,ba4⟩; first | (have bq := al_cells (v := .int .i64 (i : Int)) gw ba2 (by assumption); obtain ⟨bq1,bq2,bq3,bq4,bq5,bq6⟩ := bq; try dsimp only [World.drew] at bq1 bq2 bq3 bq4 bq5 bq6) | (have bq := al_cellsD (v := .int .i64 (i : Int)) gw ba2 (by assumption); obtain ⟨bq1,bq2,bq3,bq4,bq5,bq6⟩ := bq) | (have bq := al_keep ba2 bq1; obtain ⟨bq1,bq2,bq3,bq4,bq5⟩ := bq) | skip))
        all_goals (go_wp2_with fail; go_meet)
        ·exact ⟨_,rfl,out1 (by assumption) ba2⟩
        ·exact ⟨_,rfl,out2 (by assumption) ba2⟩
        ·exact ⟨_,rfl,out3 (by assumption) ba2⟩
       case rest =>
        obtain ⟨gp,rfl,hgp,hgr,hcp⟩ := hcut
        have hgwlt : gw < wr.heap.size := (Array.getElem?_eq_some_iff.1 Hcw.out).1
        have hSc : S70 w.heap.size a b u9 met' Q' w wc := S70.kept (w := wr) HS.out (by have := Q4.out.size; omega) hgr
        have hcwc := (hgr.block gw hgwlt (by simp)).trans Hcw.out
        have d2 : wc.cell? ⟨gw,2,none⟩ = some (.string ⟨part.toArray⟩) := by simp [World.cell?,hcwc]
        have e0 : wc.cell? ⟨gp,0,none⟩ = some (.int .i64 (nxI a i x)) := by simp [World.cell?,hcp]
        have e1 : wc.cell? ⟨gp,1,none⟩ = some (.int .i64 (nxI b j x)) := by simp [World.cell?,hcp]
        have HSc := hid70 hSc
        have Hcwc := hid70 hcwc
        have Hcp := hid70 hcp
        have Hgp := hid70 hgp
        clear HS Hcw Q4 CC hSc hcwc hcp k0 k1 n0 hgr hgp hgwlt H81
        rcases hna : nxN a i x with _ | p <;> rcases hnb : nxN b j x with _ | q
        ·have hX : nxI a i x = -1 := by unfold nxI; rw [hna]
         have hY : nxI b j x = -1 := by unfold nxI; rw [hnb]
         rw [hX] at e0
         rw [hY] at e1
         have Hst2 := hid70 ((stL_none Hxx.out.1 hna hnb).symm.trans Hst.out)
         clear hX hY hna hnb Hst
         go_wp2_with fail
         go_roundg g2
         case measure => omega
         case rel => exact ⟨t + 1,met',Q',by rw [show (97 : Int) + ((t + 1 : Nat) : Int) = 97 + (t : Int) + 1 by omega],by omega,by omega,HSc.out,Hne9.out,Hcwc.out,Hst2.out,hacc⟩
        ·have hX : nxI a i x = -1 := by unfold nxI; rw [hna]
         have hY : nxI b j x = (q : Int) := by unfold nxI; rw [hnb]
         have hq0' : ¬ (q : Int) < 0 := by omega
         rw [hX] at e0
         rw [hY] at e1
         have hres : bfs a b most 200 [(0,0)] [(0,0,[])] = some (part ++ [x]) := by rw [HR.out,← Hbf.out,bfs,if_pos hlen,← Hst.out,stL_out1 Hxx.out.1 hna hnb]
         have hfin : Post70 a b most w (.returned (.tuple #[.string ⟨(part ++ [x]).toArray⟩,.bool true])) wc := ⟨_,hres,rfl,by obtain ⟨_,_,_,_,_,hb,_⟩ := HSc.out; exact hb⟩
         have Hfin := hid70 hfin
         clear hres hfin hX hY hna hnb
         go_wp2_with fail
         go_ret2
         exact Hfin.out
        ·have hX : nxI a i x = (p : Int) := by unfold nxI; rw [hna]
         have hY : nxI b j x = -1 := by unfold nxI; rw [hnb]
         have hq0' : ¬ (p : Int) < 0 := by omega
         rw [hX] at e0
         rw [hY] at e1
         have hres : bfs a b most 200 [(0,0)] [(0,0,[])] = some (part ++ [x]) := by rw [HR.out,← Hbf.out,bfs,if_pos hlen,← Hst.out,stL_out2 Hxx.out.1 hna hnb]
         have hfin : Post70 a b most w (.returned (.tuple #[.string ⟨(part ++ [x]).toArray⟩,.bool true])) wc := ⟨_,hres,rfl,by obtain ⟨_,_,_,_,_,hb,_⟩ := HSc.out; exact hb⟩
         have Hfin := hid70 hfin
         clear hres hfin hX hY hna hnb
         go_wp2_with fail
         go_ret2
         exact Hfin.out
        ·have hX : nxI a i x = (p : Int) := by unfold nxI; rw [hna]
         have hY : nxI b j x = (q : Int) := by unfold nxI; rw [hnb]
         have hp0' : ¬ (p : Int) < 0 := by omega
         have hq0' : ¬ (q : Int) < 0 := by omega
         have hp1' : (0 : Int) ≤ (p : Int) := by omega
         rw [hX] at e0
         rw [hY] at e1
         have hcp2 := Hcp.out
         rw [hX,hY] at hcp2
         obtain ⟨mm,cc,r1,r2,r3,r4,r5,r6,r7,r8,r9⟩ := id HSc.out
         have hlk : (Instr.lookup 110 (.map (some (w.heap.size + 1))) (.agg #[.int .i64 (p : Int),.int .i64 (q : Int)]) false).run Try.prog wc = .ok (.bool (decide ((p,q) ∈ met'))) wc := by
          have h := alook_run r2 (look_m (kf := pV2) (vf := Value.bool) (l := mm) (k := ((p : Int),(q : Int))) (d := false) mty key_pair (by kernel_rfl) (fun _ => rfl) (ok := false))
          rw [r3 p q] at h
          exact h
         by_cases hmt : (p,q) ∈ met'
         ·rw [decide_eq_true hmt] at hlk
          have Hst2 := hid70 ((stL_met Hxx.out.1 hna hnb hmt).symm.trans Hst.out)
          clear hX hY hna hnb Hst hmt r1 r2 r3 r4 r5 r6 r7 r8 r9 hcp2 Hcp
          go_wp2_with fail
          go_roundg g2
          case measure => omega
          case rel => exact ⟨t + 1,met',Q',by rw [show (97 : Int) + ((t + 1 : Nat) : Int) = 97 + (t : Int) + 1 by omega],by omega,by omega,HSc.out,Hne9.out,Hcwc.out,Hst2.out,hacc⟩
         ·rw [decide_eq_false hmt] at hlk
          have hBw : w.heap.size + 1 < wc.heap.size := (Array.getElem?_eq_some_iff.1 r2).1
          have hgwB : gw ≠ w.heap.size + 1 := fun e => by
           have h := Hcwc.out
           rw [e,r2] at h
           cases h
          obtain ⟨gq,offq,capq,wd,gr,off',n',cap',w4,rfl,hins,f0,f1,hap,hS4,hgg,hkeep⟩ := push70 (s := part ++ [x]) HSc.out hBw ha hb hmt (nx_le hna) (nx_le hnb) hcp2 mty
          have hgwq : gw ≠ gq := fun e => Hne9.out (by rw [e]; rfl)
          have hgwl : gw < wc.heap.size := (Array.getElem?_eq_some_iff.1 Hcwc.out).1
          have Hcw4 := hid70 ((hkeep gw hgwl hgwB hgwq).trans Hcwc.out)
          have Hne4 := hid70 (show (Value.slice (some ⟨gr,off',none⟩) n' cap').ownBlock ≠ some gw from fun e => by
           have e2 : gr = gw := Option.some.inj e
           rcases hgg with h | h <;> omega)
          have HS4 := hid70 hS4
          have HAP := hid70 hap
          have Hst2 := hid70 ((stL_new Hxx.out.1 hna hnb hmt).symm.trans Hst.out)
          clear hX hY hna hnb Hst hmt r1 r2 r3 r4 r5 r6 r7 r8 r9 hcp2 Hcp hS4 hap hkeep hgg HSc Hcwc Hne9 hgwB hgwq hgwl hBw
          go_wp2_with (at_builtin; refine wpList_append_eq rfl _ _ 109 rfl _ _ _ _ rfl rfl HAP.out ?_)
          go_roundg g2
          case measure => omega
          case rel => exact ⟨t + 1,(p,q) :: met',Q' ++ [(p,q,part ++ [x])],by rw [show (97 : Int) + ((t + 1 : Nat) : Int) = 97 + (t : Int) + 1 by omega],by omega,by omega,HS4.out,Hne4.out,Hcw4.out,Hst2.out,by simp only [List.length_append,List.length_cons,List.length_nil]; omega⟩
      ·have e6 : t = 6 := by omega
       have hst6 := Hst.out
       rw [e6] at hst6
       have hend : bfs a b most g' met' Q' = R := by
        rw [← Hbf.out,bfs,if_pos hlen,← hst6,show (lets 6).drop 6 = [] from rfl,stL]
       have Hend := hid70 hend
       have Hm : Hid (121 - met'.length + Q'.length < g') := hid70 (by rw [List.length_cons] at hg; omega)
       have h103 : ¬ (97 + (t : Int) < 103) := by omega
       clear hend e6 hst6 Hst q1 q2 q3 q4 q5 q6 q7 hcw hst H81 HR
       go_wp2_with fail
       go_roundg g'
       case measure => omega
       case rel => exact ⟨met',Q',by first | exact HS.out | exact HS.out,Hend.out,Hm.out⟩
   ·have hres : bfs a b most 200 [(0,0)] [(0,0,[])] = none := by rw [HR.out,← Hbf.out,bfs,if_neg hlen]
    have hfin : Post70 a b most w (.returned (.tuple #[.string ⟨#[]⟩,.bool false])) wr := ⟨_,hres,rfl,Q4.out⟩
    have Hfin := hid70 hfin
    have hq0 : (0 : Int) < ((Q.length : Int) + 1) := by omega
    clear hres hfin H81
    go_wp2_with fail
    go_ret2
    exact Hfin.out
end Go.Proofs.Ytmnmfmghmenkkaa
set_option linter.unusedSimpArgs false
set_option linter.unusedVariables false
namespace Go.Proofs.Ytmnmfmghmenkkaa
open Go.RowKit Go.Abs Go.Pur
set_option maxRecDepth 1000000
theorem q68_law {w : List UInt8} {c : UInt8} {F : Nat} (hw : w.length ≤ 1000) (hF : w.length + 1 ≤ F) :
  (bhd w c = none → Q.f68S F (ints w) (c.toNat : Int) = some (-1)) ∧ ∀ w',bhd w c = some w' → ∃ j,j < w.length ∧ w' = w.drop (j + 1) ∧ Q.f68S F (ints w) (c.toNat : Int) = some (j : Int) := by
 have e : @Q.f68S = @f68S := by kernel_rfl
 rw [e]
 exact f68_law hw hF
theorem wr70 {z : Nat} (hz : z ≤ 1000) : IntKind.i64.wrap (z : Int) = z := by
 unfold IntKind.wrap
 simp [IntKind.bits,IntKind.signed]
 omega
theorem q81_law {w : List UInt8} {i : Nat} {c : UInt8} (hw : w.length ≤ 10) (hi : i ≤ w.length) : Q.f81S 100 w (i : Int) (c.toNat : Int) = some (nxI w i c) := by
 have hd : (w.drop i).length ≤ 10 := by rw [List.length_drop]; omega
 have hL := q68_law (w := w.drop i) (c := c) (F := 100) (by omega) (by omega)
 unfold Q.f81S
 rw [Option.bind_some,decide_eq_false (by omega)]
 dsimp only
 rw [subF_at hi,Option.bind_some,bytO_at (by omega),Option.bind_some,show ((w.drop i).map fun b => (b.toNat : Int)) = ints (w.drop i) from rfl]
 unfold nxI nxN
 cases hb : bhd (w.drop i) c with
 | none =>
  rw [hL.1 hb]
  rfl
 | some w' =>
  obtain ⟨j,hj,e1,e2⟩ := hL.2 w' hb
  rw [e2,Option.bind_some,Option.bind_some,decide_eq_false (by omega)]
  dsimp only [Option.map_some]
  rw [Option.bind_some,Option.bind_some]
  rw [List.length_drop] at hj
  rw [show ((i : Int) + (j : Int)) = ((i + j : Nat) : Int) by omega,wr70 (by omega),show (((i + j : Nat) : Int) + 1) = ((i + j + 1 : Nat) : Int) by omega,wr70 (by omega)]
  rw [e1,List.length_drop,List.length_drop]
  congr 1
  omega
theorem ok70 : FnOK Try.prog Y0 70 := by
 refine fnOK_lib e70 rfl (by kernel_rfl) (fun xs rs he m h w hR args hd => ?_)
 unfold e70 at he
 split at he
 ·rename_i s t most
  split at he
  ·rename_i hok
   cases he
   cases hd with
   | cons v a vs ks' k1 ht =>
   cases ht with
   | cons v2 a2 vs2 ks2 k2 ht2 =>
   cases ht2 with
   | cons v3 a3 vs3 ks3 k3 ht3 =>
   cases ht3
   cases k1
   cases k2
   cases k3
   simp only [Bool.and_eq_true,decide_eq_true_eq] at hok
   refine (differ_calls s.data.toList t.data.toList most w hok.1.1 hok.1.2 hok.2 (fun W hB x i c hx hi hc => ?_)).mono fun e w' hp => ?_
   ·have hxl : x.length ≤ 10 := by rcases hx with rfl | rfl <;> omega
    have h1 := Q.f81_is (hp := []) (q81_law (c := c) hxl hi)
    refine (pure_plain (Y := Q.Y0) (f := 81) (vs := [.string ⟨x.toArray⟩,.int .i64 (i : Int),.int .u8 (c.toNat : Int)]) (rs := [.int .i64 (nxI x i c)]) (by kernel_rfl) progFine (fun g hg => by cases hg) rfl (hR.below hB).1 rfl ?_ h1)
    intro v hv
    simp only [List.mem_cons,List.not_mem_nil,or_false] at hv
    rcases hv with rfl | rfl | rfl <;> exact ⟨rfl,fun n c e => by cases e⟩
   ·obtain ⟨R,e1,e2,e3⟩ := hp
    have e4 : bfs0 s.data.toList t.data.toList most = R := e1
    rw [e4]
    exact ⟨[.string ⟨(R.getD []).toArray⟩,.bool R.isSome],e2,e3,.cons _ _ _ _ (.p _) (.cons _ _ _ _ (.p _) .nil)⟩
  ·cases he
 ·cases he
end Go.Proofs.Ytmnmfmghmenkkaa
set_option linter.unusedSimpArgs false
set_option linter.unusedVariables false
namespace Go.Proofs.Ytmnmfmghmenkkaa
open Go.RowKit Go.Abs Go.Pur
set_option maxRecDepth 1000000
set_option maxHeartbeats 4000000
theorem func75_calls (v x : List UInt8) (g : Nat) (w : World) (hx : w.cell? ⟨g,0,none⟩ = some (.string ⟨x.toArray⟩))
  (h27 : Calls Try.prog 27 #[.string ⟨v.toArray⟩,.string ⟨x.toArray⟩] w fun e W' => e = .returned (.bool (leftW v x)) ∧ Below w.heap.size w W') :
  Calls Try.prog 75 #[.string ⟨v.toArray⟩,.pointer (some ⟨g,0,none⟩)] w fun e w' => e = .returned (.bool (leftW v x)) ∧ Below w.heap.size w w' := by
 have mixed : Try.prog.follows .mixedOrders = true := by kernel_rfl
 have H27 := hid70 h27
 clear h27
 go_enter Try.func75,Try.ntmps75
 go_wp2_with (go_at_call 27; refine H27.out.mono ?_; rintro e wa ⟨rfl,ba⟩)
 go_ret
 exact ⟨rfl,ba⟩
theorem func82_calls (vs : List (List UInt8)) (x : List UInt8) (b off cap g : Nat) (w : World) (hl : vs.length ≤ 1000) (hx : w.cell? ⟨g,0,none⟩ = some (.string ⟨x.toArray⟩))
  (hv : ∀ (j : Nat) v,vs[j]? = some v → w.cell? ⟨b,off + j,none⟩ = some (.string ⟨v.toArray⟩))
  (h27 : ∀ W,Below w.heap.size w W → ∀ v ∈ vs,Calls Try.prog 27 #[.string ⟨v.toArray⟩,.string ⟨x.toArray⟩] W fun e W' => e = .returned (.bool (leftW v x)) ∧ Below W.heap.size W W') :
  Calls Try.prog 82 #[.slice (some ⟨b,off,none⟩) vs.length cap,.func (.func 75) #[] #[.pointer (some ⟨g,0,none⟩)]] w fun e w' => ∃ z : Int,e = .returned (.int .i64 z) ∧ decide (0 ≤ z) = (vs.any fun v => leftW v x) ∧ Below w.heap.size w w' := by
 have mixed : Try.prog.follows .mixedOrders = true := by kernel_rfl
 have H27 := hid70 h27
 have Hx := hid70 hx
 have Hv := hid70 hv
 clear h27 hx hv
 go_enter Try.func82,Try.ntmps82
 go_wp2_with fail
 go_loopg [8] (vs.length + 1) (fun gk s8 wx => ∃ j : Nat,s8 = .int .i64 (j : Int) ∧ j ≤ vs.length ∧ vs.length < j + gk ∧ ((vs.take j).any fun v => leftW v x) = false ∧ Below w.heap.size w wx)
 case atStart => exact ⟨0,by first | rfl | simp,by omega,by omega,rfl,Below.refl _ _⟩
 case round =>
  obtain ⟨j,rfl,hj,hg,hno,hb⟩ := hrel
  obtain ⟨g2,rfl⟩ : ∃ g2,gk = g2 + 1 := ⟨gk - 1,by omega⟩
  by_cases hlt : j < vs.length
  ·obtain ⟨v,hvj⟩ : ∃ v,vs[j]? = some v := ⟨_,List.getElem?_eq_getElem hlt⟩
   have hc : wr.cell? ⟨b,off + j,none⟩ = some (.string ⟨v.toArray⟩) := (hb.cell (World.block_lt_of_cell? w _ (Hv.out j v hvj))).trans (Hv.out j v hvj)
   have hcx : wr.cell? ⟨g,0,none⟩ = some (.string ⟨x.toArray⟩) := (hb.cell (World.block_lt_of_cell? w _ Hx.out)).trans Hx.out
   have hcall := func75_calls v x g wr hcx (H27.out wr hb v (List.mem_of_getElem? hvj))
   have HC := hid70 hcall
   have Hb := hid70 hb
   have Hno := hid70 hno
   have Hvj := hid70 hvj
   clear hcall hcx hb hno hvj
   have hj1 : (0 : Int) ≤ (j : Int) := by omega
   have hj2 : (j : Int) < (vs.length : Int) := by omega
   have hjw : (j : Int) + 1 = ((j + 1 : Nat) : Int) := by omega
   have HJW := hid70 hjw
   clear hjw
   cases hlv : leftW v x with
   | true =>
    have hfin : ∃ z : Int,Ending.returned (.int .i64 (j : Int)) = .returned (.int .i64 z) ∧ decide (0 ≤ z) = (vs.any fun v => leftW v x) := ⟨j,rfl,by
     rw [decide_eq_true (by omega),eq_comm]
     exact List.any_eq_true.2 ⟨v,List.mem_of_getElem? Hvj.out,hlv⟩⟩
    have Hfin := hid70 hfin
    rw [hlv] at HC
    clear hfin hlv
    go_wp2_with (go_at_call 75; refine HC.out.mono ?_; rintro e wa ⟨rfl,ba⟩)
    go_ret
    obtain ⟨z,e1,e2⟩ := Hfin.out
    exact ⟨z,e1,e2,Hb.out.trans (ba.mono Hb.out.size)⟩
   | false =>
    have hno2 : ((vs.take (j + 1)).any fun v => leftW v x) = false := by
     rw [List.take_add_one,Hvj.out]
     simp [Hno.out,hlv]
    have Hno2 := hid70 hno2
    rw [hlv] at HC
    clear hno2 hlv
    go_wp2_with (go_at_call 75; refine HC.out.mono ?_; rintro e wa ⟨rfl,ba⟩)
    go_roundg g2
    case measure => omega
    case rel => exact ⟨j + 1,by rw [← HJW.out],by omega,by omega,Hno2.out,Hb.out.trans (ba.mono Hb.out.size)⟩
  ·obtain rfl : j = vs.length := by omega
   rw [List.take_length] at hno
   have Hno := hid70 hno
   have Hb := hid70 hb
   clear hno hb
   go_wp2_with fail
   go_ret
   exact ⟨-1,rfl,by rw [Hno.out]; rfl,Hb.out⟩
theorem func74_calls (vs : List (List UInt8)) (x : List UInt8) (b off cap g : Nat) (w : World) (hl : vs.length ≤ 1000) (hx : w.cell? ⟨g,0,none⟩ = some (.string ⟨x.toArray⟩))
  (hv : ∀ (j : Nat) v,vs[j]? = some v → w.cell? ⟨b,off + j,none⟩ = some (.string ⟨v.toArray⟩))
  (h27 : ∀ W,Below w.heap.size w W → ∀ v ∈ vs,Calls Try.prog 27 #[.string ⟨v.toArray⟩,.string ⟨x.toArray⟩] W fun e W' => e = .returned (.bool (leftW v x)) ∧ Below W.heap.size W W') :
  Calls Try.prog 74 #[.slice (some ⟨b,off,none⟩) vs.length cap,.func (.func 75) #[] #[.pointer (some ⟨g,0,none⟩)]] w fun e w' => e = .returned (.bool (vs.any fun v => leftW v x)) ∧ Below w.heap.size w w' := by
 have mixed : Try.prog.follows .mixedOrders = true := by kernel_rfl
 have H82 := hid70 (func82_calls vs x b off cap g w hl hx hv h27)
 clear h27 hx hv
 go_enter Try.func74,Try.ntmps74
 go_wp2_with (go_at_call 82; refine H82.out.mono ?_; rintro e wa ⟨z,rfl,hz,ba⟩; have hz := hid70 hz)
 go_ret
 exact ⟨by rw [← hz.out]; rfl,ba⟩
theorem func57_calls (vs : List (List UInt8)) (b off cap : Nat) (w : World) (hl : vs.length ≤ 1000)
  (hv : ∀ (j : Nat) v,vs[j]? = some v → w.cell? ⟨b,off + j,none⟩ = some (.string ⟨v.toArray⟩))
  (h25 : ∀ W,Below w.heap.size w W → ∀ v ∈ vs,Calls Try.prog 25 #[.string ⟨v.toArray⟩] W fun e W' => e = .returned (.int .i64 (checkW v)) ∧ Below W.heap.size W W') :
  Calls Try.prog 57 #[.slice (some ⟨b,off,none⟩) vs.length cap] w fun e w' => e = .returned (.int .i64 (chkL vs)) ∧ Below w.heap.size w w' := by
 have mixed : Try.prog.follows .mixedOrders = true := by kernel_rfl
 have H25 := hid70 h25
 have Hv := hid70 hv
 clear h25 hv
 go_enter Try.func57,Try.ntmps57
 go_wp2_with fail
 go_loopg [8] (vs.length + 1) (fun gk s8 wx => ∃ j : Nat,s8 = .int .i64 (j : Int) ∧ j ≤ vs.length ∧ vs.length < j + gk ∧ chkL (vs.drop j) = chkL vs ∧ Below w.heap.size w wx)
 case atStart => exact ⟨0,by first | rfl | simp,by omega,by omega,rfl,Below.refl _ _⟩
 case round =>
  obtain ⟨j,rfl,hj,hg,hno,hb⟩ := hrel
  obtain ⟨g2,rfl⟩ : ∃ g2,gk = g2 + 1 := ⟨gk - 1,by omega⟩
  by_cases hlt : j < vs.length
  ·obtain ⟨v,hvj⟩ : ∃ v,vs[j]? = some v := ⟨_,List.getElem?_eq_getElem hlt⟩
   have hc : wr.cell? ⟨b,off + j,none⟩ = some (.string ⟨v.toArray⟩) := (hb.cell (World.block_lt_of_cell? w _ (Hv.out j v hvj))).trans (Hv.out j v hvj)
   have hd : vs.drop j = v :: vs.drop (j + 1) := by
    obtain ⟨h1,h2⟩ := List.getElem?_eq_some_iff.1 hvj
    rw [List.drop_eq_getElem_cons h1,h2]
   have HC := hid70 (H25.out wr hb v (List.mem_of_getElem? hvj))
   rw [hd,chkL] at hno
   have Hb := hid70 hb
   have hj1 : (0 : Int) ≤ (j : Int) := by omega
   have hj2 : (j : Int) < (vs.length : Int) := by omega
   have HJW := hid70 (show (j : Int) + 1 = ((j + 1 : Nat) : Int) by omega)
   clear hb hvj hd
   by_cases hz : checkW v = 0
   ·rw [if_pos hz] at hno
    have Hno := hid70 hno
    rw [hz] at HC
    clear hno hz
    go_wp2_with (go_at_call 25; refine HC.out.mono ?_; rintro e wa ⟨rfl,ba⟩)
    go_roundg g2
    case measure => omega
    case rel => exact ⟨j + 1,by rw [← HJW.out],by omega,by omega,Hno.out,Hb.out.trans (ba.mono Hb.out.size)⟩
   ·rw [if_neg hz] at hno
    have Hno := hid70 hno
    clear hno
    go_wp2_with (go_at_call 25; refine HC.out.mono ?_; rintro e wa ⟨rfl,ba⟩)
    go_ret
    exact ⟨by rw [← Hno.out]; rfl,Hb.out.trans (ba.mono Hb.out.size)⟩
  ·obtain rfl : j = vs.length := by omega
   rw [List.drop_length] at hno
   have Hno := hid70 hno
   have Hb := hid70 hb
   clear hno hb
   go_wp2_with fail
   go_ret
   exact ⟨by rw [← Hno.out]; rfl,Hb.out⟩
end Go.Proofs.Ytmnmfmghmenkkaa
set_option linter.unusedSimpArgs false
set_option linter.unusedVariables false
namespace Go.Proofs.Ytmnmfmghmenkkaa
open Go.RowKit Go.Abs Go.Pur Go.Lib Go.Sort
set_option maxRecDepth 1000000
set_option maxHeartbeats 4000000
def Post44 (vs : List (List UInt8)) (i : Int) (w : World) (e : Ending) (w' : World) : Prop := e = .returned (.tuple #[.string ⟨(shortL vs i).1.toArray⟩,.int .i64 (shortL vs i).2]) ∧ Below w.heap.size w w'
theorem clone44 (vs : List (List UInt8)) (b off cap : Nat) (W : World) (hl : vs.length ≤ 1000) (hv : ∀ (j : Nat) v,vs[j]? = some v → W.cell? ⟨b,off + j,none⟩ = some (.string ⟨v.toArray⟩)) :
  Calls Try.prog 73 #[.slice (some ⟨b,off,none⟩) vs.length cap] W fun e W' => ∃ g cap2,e = .returned (.slice (some ⟨g,0,none⟩) vs.length cap2) ∧ W.heap.size ≤ g ∧ W'.ownsRow W.heap.size 9 1 (.slice (some ⟨g,0,none⟩) vs.length cap2) vs.length (vs.map encStr) ∧ Below W.heap.size W W' := by
 have h := Any.slices_Clone_string Try.lays16c b off vs.length cap (vs.map fun v => ⟨v.toArray⟩) W (by simp) (by omega) (fun j hj => by
  rw [List.length_map] at hj
  rw [hv j _ (List.getElem?_eq_getElem hj)]
  simp [List.getD,hj])
 refine h.mono fun e W' ⟨v',e1,e2,e3,e4⟩ => ?_
 have e5 : (((vs.map fun v => (⟨v.toArray⟩ : ByteArray)).take vs.length).map Value.string) = vs.map encStr := by
  rw [List.take_of_length_le (by simp),List.map_map]
  rfl
 rw [e5] at e2
 have e2' : W'.ownsRow W.heap.size 9 1 v' vs.length (vs.map encStr) := e2
 obtain ⟨g,cap2,rfl,q1,_⟩ := holds_of_ownsRow e2' e3
 exact ⟨g,cap2,e1,q1,e2',e4⟩
theorem del44 (vs : List (List UInt8)) (g cap2 base k : Nat) (W : World) (ho : W.ownsRow base 9 1 (.slice (some ⟨g,0,none⟩) vs.length cap2) vs.length (vs.map encStr)) (hk : k < vs.length) :
  Calls Try.prog 72 #[.slice (some ⟨g,0,none⟩) vs.length cap2,.int .i64 (k : Int),.int .i64 ((k : Int) + 1)] W fun e W' => e = .returned (.slice (some ⟨g,0,none⟩) (vs.length - 1) cap2) ∧
   W'.ownsRow base 9 1 (.slice (some ⟨g,0,none⟩) (vs.length - 1) cap2) (vs.length - 1) ((othL vs k).map encStr) ∧ W.grownBy W' (some g) := by
 obtain ⟨g',cap',e0,hb,hlt,hn,hm,hl,hH⟩ := holds_of_ownsRow ho (by simp)
 injection e0 with e1 e2 e3
 injection e1 with e1
 injection e1 with e1 _ _
 subst e1; subst e3
 have h := Any.slices_Delete_string Try.lays24c g 0 cap2 k (k + 1) vs W hH (by omega) (by unfold maxLen at hm; omega) (by omega) (by omega)
 refine h.mono fun e W' ⟨q1,q,q2⟩ => ?_
 subst q2
 have hw : (putRow encStr (Sort.ahead W q) g 0 (vs.take k ++ vs.drop (k + 1) ++ List.replicate (k + 1 - k) []).toArray).ownsRow base 9 1 (.slice (some ⟨g,0,none⟩) (vs.length - 1) cap2) (vs.length - 1) (((vs.take k ++ vs.drop (k + 1) ++ List.replicate (k + 1 - k) []).take (vs.length - 1)).map encStr) :=
  ownsRow_putRow ho (by simp only [List.length_append,List.length_take,List.length_drop,List.length_replicate]; omega) (by omega)
 have e5 : (vs.take k ++ vs.drop (k + 1) ++ List.replicate (k + 1 - k) ([] : List UInt8)).take (vs.length - 1) = othL vs k := by
  have hl2 : (vs.take k ++ vs.drop (k + 1)).length = vs.length - 1 := by simp only [List.length_append,List.length_take,List.length_drop]; omega
  rw [List.take_append_of_le_length (by omega),List.take_of_length_le (by omega)]
  rfl
 rw [e5] at hw
 refine ⟨by rw [q1]; congr 2; omega,hw,rfl,rfl,rfl,by simp [putRow,mapBlock,Sort.ahead],fun j hj hne => ?_⟩
 have hgj : g ≠ j := fun e => hne (by rw [e])
 simp [putRow,mapBlock,Sort.ahead,Array.getElem?_modify,hgj]
theorem wr44 {t : Nat} (h2 : (t : Int) + 1 ≤ 9223372036854775807) : RowKit.wrap64 ((t : Int) + 1) = (t : Int) + 1 := by
 unfold RowKit.wrap64
 omega
theorem find_at {R : Nat → List (List UInt8)} {pred : List UInt8 → Bool} {n r t : Nat} {p : List UInt8} (hr : r < n + 1) (h1 : ((List.range r).flatMap R).find? pred = none) (h2 : ((R r).take t).find? pred = none) (h3 : (R r)[t]? = some p) (h4 : pred p = true) :
  ((List.range (n + 1)).flatMap R).find? pred = some p := by
 obtain ⟨m,hm⟩ : ∃ m,n + 1 = r + (1 + m) := ⟨n - r,by omega⟩
 have e1 : (R r).find? pred = some p := by
  obtain ⟨q1,q2⟩ := List.getElem?_eq_some_iff.1 h3
  rw [← List.take_append_drop t (R r),List.find?_append,h2,List.drop_eq_getElem_cons q1,q2,List.find?_cons_of_pos h4]
  rfl
 rw [hm,List.range_add,List.flatMap_append,List.find?_append,h1,Nat.add_comm 1 m,List.range_succ_eq_map,List.map_cons,List.flatMap_cons,List.find?_append,Nat.add_zero,e1]
 rfl
theorem shortL_at {vs : List (List UInt8)} {k : Nat} {v : List UInt8} {R : Nat → List (List UInt8)} {pred : List UInt8 → Bool} (h8 : vs.length ≤ 8) (hch : chkL vs = 0) (hk : k < vs.length) (hvk : vs[k]? = some v) (hRe : srtT (v.length + 1) (allR v.length v) = R)
  (hPr : (fun p => !((othL vs k).any fun u => leftW u p)) = pred) : shortL vs (k : Int) = match ((List.range (v.length + 1)).flatMap R).find? pred with
   | some p => (p,0)
   | none => ([],12) := by
 unfold shortL
 rw [if_neg (by omega),if_neg (by rw [hch]; simp),if_neg (by omega)]
 have e1 : vs.getD (k : Int).toNat [] = v := by rw [Int.toNat_natCast,List.getD_eq_getElem?_getD,hvk]; rfl
 have e2 : ptsL v = (List.range (v.length + 1)).flatMap R := by
  unfold ptsL
  rw [← hRe,List.flatMap_def,List.flatMap_def]
  congr 1
  refine List.map_congr_left fun t ht => ?_
  unfold srtT
  rw [if_pos (List.mem_range.1 ht)]
 rw [e1,e2,Int.toNat_natCast,hPr]
 rfl
theorem short_calls (vs : List (List UInt8)) (b off cap : Nat) (i : Int) (w : World) (hl : vs.length ≤ 1000)
  (hv : ∀ (j : Nat) v,vs[j]? = some v → w.cell? ⟨b,off + j,none⟩ = some (.string ⟨v.toArray⟩))
  (h25 : ∀ W,Below w.heap.size w W → ∀ v ∈ vs,Calls Try.prog 25 #[.string ⟨v.toArray⟩] W fun e W' => e = .returned (.int .i64 (checkW v)) ∧ Below W.heap.size W W')
  (h27 : ∀ W,Below w.heap.size w W → ∀ v ∈ vs,∀ x : List UInt8,x.length ≤ 10 → Calls Try.prog 27 #[.string ⟨v.toArray⟩,.string ⟨x.toArray⟩] W fun e W' => e = .returned (.bool (leftW v x)) ∧ Below W.heap.size W W') :
  Calls Try.prog 44 #[.slice (some ⟨b,off,none⟩) vs.length cap,.int .i64 i] w fun e w' => Post44 vs i w e w' := by
 have mixed : Try.prog.follows .mixedOrders = true := by kernel_rfl
 have H25 := hid70 h25
 have H27 := hid70 h27
 have Hv := hid70 hv
 have H57 := hid70 (func57_calls vs b off cap w hl hv h25)
 clear h25 h27 hv
 by_cases h8 : (8 : Int) < (vs.length : Int)
 ·have hfin : Post44 vs i w (.returned (.tuple #[.string ⟨#[]⟩,.int .i64 3])) w := ⟨by unfold shortL; rw [if_pos (by omega)],Below.refl _ _⟩
  have Hfin := hid70 hfin
  clear hfin
  go_enter Try.func44,Try.ntmps44
  go_wp2_with fail
  go_ret2
  exact Hfin.out
 ·by_cases hch : chkL vs = 0
  ·rw [hch] at H57
   by_cases hi0 : i < 0
   ·have hfin : ∀ w',Below w.heap.size w w' → Post44 vs i w (.returned (.tuple #[.string ⟨#[]⟩,.int .i64 2])) w' := fun w' hb => ⟨by unfold shortL; rw [if_neg (by omega),if_neg (by rw [hch]; simp),if_pos (.inl hi0)],hb⟩
    have Hfin := hid70 hfin
    clear hfin hch
    go_enter Try.func44,Try.ntmps44
    go_wp2_with (go_at_call 57; refine H57.out.mono ?_; rintro e wa ⟨rfl,ba⟩)
    go_ret2
    exact Hfin.out _ ba
   ·by_cases hi1 : (vs.length : Int) ≤ i
    ·have hfin : ∀ w',Below w.heap.size w w' → Post44 vs i w (.returned (.tuple #[.string ⟨#[]⟩,.int .i64 2])) w' := fun w' hb => ⟨by unfold shortL; rw [if_neg (by omega),if_neg (by rw [hch]; simp),if_pos (.inr hi1)],hb⟩
     have Hfin := hid70 hfin
     clear hfin hch
     go_enter Try.func44,Try.ntmps44
     go_wp2_with (go_at_call 57; refine H57.out.mono ?_; rintro e wa ⟨rfl,ba⟩)
     go_ret2
     exact Hfin.out _ ba
    ·obtain ⟨k,rfl⟩ : ∃ k : Nat,i = k := ⟨i.toNat,by omega⟩
     have hk : k < vs.length := by omega
     obtain ⟨v,hvk⟩ : ∃ v,vs[k]? = some v := ⟨_,List.getElem?_eq_getElem hk⟩
     have hvm := List.mem_of_getElem? hvk
     have hv10 := (checkW_zero (chkL_zero hch v hvm)).1
     have hva := (checkW_zero (chkL_zero hch v hvm)).2
     have hck0 := Hv.out k v hvk
     have hbl : b < w.heap.size := World.block_lt_of_cell? w _ hck0
     have HCl : Hid (∀ W,Below w.heap.size w W → Calls Try.prog 73 #[.slice (some ⟨b,off,none⟩) vs.length cap] W fun e W' => ∃ g cap2,e = .returned (.slice (some ⟨g,0,none⟩) vs.length cap2) ∧ W.heap.size ≤ g ∧ W'.ownsRow W.heap.size 9 1 (.slice (some ⟨g,0,none⟩) vs.length cap2) vs.length (vs.map encStr) ∧ Below W.heap.size W W') :=
      hid70 fun W hW => clone44 vs b off cap W hl fun j u hu => (hW.cell (World.block_lt_of_cell? w _ (Hv.out j u hu))).trans (Hv.out j u hu)
     have HDl := hid70 (fun W base g cap2 ho => del44 vs g cap2 base k W ho hk)
     have Hck0 := hid70 hck0
     have hcell : ∀ (wa wb wc : World) (g : Nat),Below w.heap.size w wa → wa.heap.size ≤ g → Below wa.heap.size wa wb → wb.grownBy wc (some g) → wc.cell? ⟨b,off + k,none⟩ = some (.string ⟨v.toArray⟩) ∧ Below w.heap.size w wc := fun wa wb wc g h1 h2 h3 h4 => by
      have h5 : Below w.heap.size w wc := (h1.trans (h3.mono h1.size)).grown h4 (Nat.le_trans h1.size h3.size) (fun j hj => by cases hj; exact Nat.le_trans h1.size h2)
      exact ⟨(h5.cell hbl).trans Hck0.out,h5⟩
     have Hcell := hid70 hcell
     have HAll : Hid (∀ W,Calls Try.prog 61 #[.string ⟨v.toArray⟩] W fun e w' => ∃ V,e = .returned (.slice (some ⟨W.heap.size + 1,0,none⟩) (v.length + 1) (v.length + 1)) ∧ Below W.heap.size W w' ∧ RowsAt W.heap.size (W.heap.size + 1) v.length V (srtT (v.length + 1) (allR v.length v)) w') :=
      hid70 fun W => all_calls ⟨v.toArray⟩ W (show v.toArray.size ≤ 10 by simpa using hv10) (by simpa using hva)
     have Hvk := hid70 hvk
     have Hch := hid70 hch
     have Hva := hid70 hva
     have hk1 : (0 : Int) ≤ (k : Int) := by omega
     have hk2 : (k : Int) < (vs.length : Int) := by omega
     clear hcell hck0 hvk hva hch hbl Hck0
     go_enter Try.func44,Try.ntmps44
     go_wp2_with (first | (go_at_call 57; refine H57.out.mono ?_; rintro e wa ⟨rfl,ba⟩) | (go_at_call 73; refine (HCl.out _ ba).mono ?_; rintro e wb ⟨g,cap2,rfl,hgl,hown,bb⟩) | (go_at_call 72; refine (HDl.out _ _ _ _ hown).mono ?_; rintro e wc ⟨rfl,ho2,hg2⟩; have hcb := Hcell.out _ _ _ _ ba hgl bb hg2; obtain ⟨hck,bc⟩ := hcb) | (go_at_call 61; refine (HAll.out _).mono ?_; rintro e wd ⟨V,rfl,bd,hR⟩))
     obtain ⟨R,hRe⟩ : ∃ R,srtT (v.length + 1) (allR v.length v) = R := ⟨_,rfl⟩
     rw [hRe] at hR
     obtain ⟨pred,hpred⟩ : ∃ pred : List UInt8 → Bool,(fun p => !((othL vs k).any fun u => leftW u p)) = pred := ⟨_,rfl⟩
     have hol : (othL vs k).length = vs.length - 1 := by unfold othL; simp only [List.length_append,List.length_take,List.length_drop]; omega
     have hoth : ∀ W,Below wd.heap.size wd W → ∀ (j : Nat) u,(othL vs k)[j]? = some u → W.cell? ⟨g,0 + j,none⟩ = some (.string ⟨u.toArray⟩) := fun W hW j u hu => by
      have h1 := ho2.cells rfl j (encStr u) (by rw [List.getElem?_map,hu]; rfl)
      rw [Addr.add_lit] at h1
      have h2 := (bd.cell (World.block_lt_of_cell? wc _ h1)).trans h1
      exact (hW.cell (World.block_lt_of_cell? wd _ h2)).trans h2
     have hfall : ∀ W,Below wd.heap.size wd W → ∀ (gx : Nat) (p : List UInt8),p.length ≤ 10 → W.cell? ⟨gx,0,none⟩ = some (.string ⟨p.toArray⟩) →
       Calls Try.prog 74 #[.slice (some ⟨g,0,none⟩) (vs.length - 1) cap2,.func (.func 75) #[] #[.pointer (some ⟨gx,0,none⟩)]] W fun e w' => e = .returned (.bool (!pred p)) ∧ Below W.heap.size W w' := fun W hW gx p hp hx => by
      have hb2 : Below w.heap.size w W := (bc.trans (bd.mono bc.size)).trans (hW.mono (Nat.le_trans bc.size bd.size))
      have h := func74_calls (othL vs k) p g 0 cap2 gx W (by rw [hol]; omega) hx (fun j u hu => hoth W hW j u hu) (fun W' hW' u hu => H27.out W' (hb2.trans (hW'.mono hb2.size)) u (by
       unfold othL at hu
       rcases List.mem_append.1 hu with h | h
       ·exact List.mem_of_mem_take h
       ·exact List.mem_of_mem_drop h) p hp)
      rw [hol] at h
      rw [← hpred]
      simpa using h
     have HF := hid70 hfall
     have HRe := hid70 hRe
     have HPr := hid70 hpred
     have HR := hid70 hR
     have Hbd := hid70 bd
     have Hbc := hid70 bc
     clear hfall hoth hRe hpred hR bd bc ho2 hg2 hown bb ba hck HCl HDl Hcell HAll H57 H25 H27 hol
     go_loopg [40] (v.length + 2) (fun gk s40 wx => ∃ r : Nat,s40 = .int .i64 (r : Int) ∧ r ≤ v.length + 1 ∧ v.length + 1 < r + gk ∧ ((List.range r).flatMap R).find? pred = none ∧ Below wd.heap.size wd wx)
     case atStart => exact ⟨0,by first | rfl | simp,by omega,by omega,rfl,Below.refl _ _⟩
     case round =>
      obtain ⟨r,rfl,hr,hg,hno,hb⟩ := hrel
      obtain ⟨g2,rfl⟩ : ∃ g2,gk = g2 + 1 := ⟨gk - 1,by omega⟩
      by_cases hlt : r < v.length + 1
      ·have hcr : wr.cell? ⟨wc.heap.size + 1,r,none⟩ = some (V r) := (hb.cell (World.block_lt_of_cell? wd _ (HR.out.out.cell hlt))).trans (HR.out.out.cell hlt)
       have hr1 : (0 : Int) ≤ (r : Int) := by omega
       have hr2 : (r : Int) < (v.length : Int) + 1 := by omega
       have HJ := hid70 (show (r : Int) + 1 = ((r + 1 : Nat) : Int) by omega)
       have Hb := hid70 hb
       have Hno := hid70 hno
       have hsucc : (List.range (r + 1)).flatMap R = (List.range r).flatMap R ++ R r := by rw [List.range_succ,List.flatMap_append]; simp
       have Hsucc := hid70 hsucc
       have hplen : ∀ p ∈ R r,p.length ≤ 10 := fun p hp => by have := HR.out.len r hlt p hp; omega
       have Hpl := hid70 hplen
       clear hb hno hsucc hplen
       rcases hRe0 : R r with _ | ⟨p0,ps⟩
       ·have hVn : V r = .slice none 0 0 := HR.out.emp r hlt hRe0
        rw [hVn] at hcr
        have Hno2 : Hid (((List.range (r + 1)).flatMap R).find? pred = none) := hid70 (by rw [Hsucc.out,hRe0,List.append_nil]; exact Hno.out)
        clear hVn hRe0
        go_wp2_with fail
        go_loopg [46] 1 (fun gk2 s46 wx => s46 = .int .i64 0 ∧ 0 < gk2 ∧ Below wd.heap.size wd wx)
        case atStart => exact ⟨by first | rfl | simp,by omega,Hb.out⟩
        case round =>
         obtain ⟨rfl,h1,h2⟩ := hrel
         have Hb2 := hid70 h2
         clear h2
         go_wp2_with fail
         go_roundg g2
         case measure => omega
         case rel => exact ⟨r + 1,by rw [← HJ.out],by omega,by omega,Hno2.out,Hb2.out⟩
       ·have hne : (R r).length ≠ 0 := by rw [hRe0]; simp
        obtain ⟨gr,capr,cur,hVs,z1,z2,hn1,hn2,z3⟩ := own_some (HR.out.row r hlt) hne
        have Hn12 : Hid ((R r).length ≤ 9223372036854775807) := hid70 (Nat.le_trans hn1 hn2)
        have hcells : ∀ (j : Nat) p,(R r)[j]? = some p → wd.cell? ⟨gr,j,none⟩ = some (.string ⟨p.toArray⟩) := fun j p hp => by
         have h1 := (HR.out.row r hlt).cells (g := gr) (by rw [hVs]; rfl) j (encStr p) (by rw [List.getElem?_map,hp]; rfl)
         rw [Addr.add_lit,Nat.zero_add] at h1
         exact h1
        have Hcells := hid70 hcells
        rw [hVs] at hcr
        clear hVs hcells hne hRe0 hn1 hn2 z1 z2 z3
        go_wp2_with fail
        go_loopg [46] ((R r).length + 1) (fun gk2 s46 wx => ∃ t : Nat,s46 = .int .i64 (t : Int) ∧ t ≤ (R r).length ∧ (R r).length < t + gk2 ∧ ((R r).take t).find? pred = none ∧ Below wd.heap.size wd wx)
        case atStart => exact ⟨0,by first | rfl | simp,by omega,by omega,rfl,Hb.out⟩
        case round =>
         clear Hb
         obtain ⟨t,rfl,ht,htg,hnt,hb⟩ := hrel
         obtain ⟨g3,rfl⟩ : ∃ g3,gk = g3 + 1 := ⟨gk - 1,by omega⟩
         by_cases htl : t < (R r).length
         ·obtain ⟨p,hpt⟩ : ∃ p,(R r)[t]? = some p := ⟨_,List.getElem?_eq_getElem htl⟩
          have hcp : wr.cell? ⟨gr,t,none⟩ = some (.string ⟨p.toArray⟩) := (hb.cell (World.block_lt_of_cell? wd _ (Hcells.out t p hpt))).trans (Hcells.out t p hpt)
          have ht1 : (0 : Int) ≤ (t : Int) := by omega
          have ht2 : (t : Int) < ((R r).length : Int) := by omega
          have HJ3 := hid70 (show (t : Int) + 1 = ((t + 1 : Nat) : Int) by omega)
          have hw64 : Hid (RowKit.wrap64 ((t : Int) + 1) = (t : Int) + 1) := by
           have h1 := Hn12.out
           have h2 : (t : Int) + 1 ≤ 9223372036854775807 := by omega
           have h3 : (-9223372036854775808 : Int) ≤ (t : Int) + 1 := by omega
           exact hid70 (wr44 h2)
          have hbW : Below wd.heap.size wd (wr.alloc (.cells #[.string ⟨p.toArray⟩] 9)) := hb.alloc hb.size _
          have hxW : (wr.alloc (.cells #[.string ⟨p.toArray⟩] 9)).cell? ⟨wr.heap.size,0,none⟩ = some (.string ⟨p.toArray⟩) := by
           have e : (wr.alloc (.cells #[.string ⟨p.toArray⟩] 9)).heap[wr.heap.size]? = _ := heap_alloc_new wr _
           simp only [World.cell?,e]
           rfl
          have HC := hid70 (HF.out _ hbW wr.heap.size p (Hpl.out p (List.mem_of_getElem? hpt)) hxW)
          have HbW := hid70 hbW
          have HxW := hid70 hxW
          have Hb := hid70 hb
          have Hnt := hid70 hnt
          have Hpt := hid70 hpt
          clear hb hnt hpt hbW hxW
          cases hpp : pred p with
          | true =>
           rw [hpp] at HC
           have hfin : ∀ W,Below (wr.alloc (.cells #[.string ⟨p.toArray⟩] 9)).heap.size (wr.alloc (.cells #[.string ⟨p.toArray⟩] 9)) W → Post44 vs (k : Int) w (.returned (.tuple #[.string ⟨p.toArray⟩,.int .i64 0])) W ∧ W.cell? ⟨wr.heap.size,0,none⟩ = some (.string ⟨p.toArray⟩) := fun W hW =>
            ⟨⟨by rw [shortL_at (by omega) Hch.out hk Hvk.out HRe.out HPr.out,find_at hlt Hno.out Hnt.out Hpt.out hpp],(Hbc.out.trans (Hbd.out.mono Hbc.out.size)).trans ((HbW.out.trans (hW.mono HbW.out.size)).mono (Nat.le_trans Hbc.out.size Hbd.out.size))⟩,(hW.cell (World.block_lt_of_cell? _ _ HxW.out)).trans HxW.out⟩
           have Hfin := hid70 hfin
           clear hfin hpp
           go_wp2_with (go_at_call 74; refine HC.out.mono ?_; rintro e wx ⟨rfl,bx⟩; have hcx := (Hfin.out _ bx).2)
           go_ret2
           exact (Hfin.out _ bx).1
          | false =>
           rw [hpp] at HC
           have Hnt2 : Hid (((R r).take (t + 1)).find? pred = none) := hid70 (by
            rw [List.take_add_one,Hpt.out,List.find?_append,Hnt.out]
            simp [hpp])
           clear hpp
           go_wp2_with (go_at_call 74; refine HC.out.mono ?_; rintro e wx ⟨rfl,bx⟩)
           go_roundg g3
           case measure => omega
           case rel => exact ⟨t + 1,by rw [← HJ3.out,hw64.out],by omega,by omega,Hnt2.out,HbW.out.trans (bx.mono HbW.out.size)⟩
         ·obtain rfl : t = (R r).length := by omega
          rw [List.take_length] at hnt
          have Hno2 : Hid (((List.range (r + 1)).flatMap R).find? pred = none) := hid70 (by rw [Hsucc.out,List.find?_append,Hno.out,hnt]; rfl)
          have Hb := hid70 hb
          clear hnt hb
          go_wp2_with fail
          go_roundg g2
          case measure => omega
          case rel => exact ⟨r + 1,by rw [← HJ.out],by omega,by omega,Hno2.out,Hb.out⟩
      ·obtain rfl : r = v.length + 1 := by omega
       have hsh : shortL vs (k : Int) = ([],12) := by
        rw [shortL_at (by omega) Hch.out hk Hvk.out HRe.out HPr.out,hno]
       have hfin : Post44 vs (k : Int) w (.returned (.tuple #[.string ⟨#[]⟩,.int .i64 12])) wr := ⟨by rw [hsh],(Hbc.out.trans (Hbd.out.mono Hbc.out.size)).trans (hb.mono (Nat.le_trans Hbc.out.size Hbd.out.size))⟩
       have Hfin := hid70 hfin
       clear hfin hsh hno hb
       go_wp2_with fail
       go_ret2
       exact Hfin.out
  ·have hfin : ∀ w',Below w.heap.size w w' → Post44 vs i w (.returned (.tuple #[.string ⟨#[]⟩,.int .i64 (chkL vs)])) w' := fun w' hb => ⟨by unfold shortL; rw [if_neg (by omega),if_pos hch],hb⟩
   have Hfin := hid70 hfin
   clear hfin
   go_enter Try.func44,Try.ntmps44
   go_wp2_with (go_at_call 57; refine H57.out.mono ?_; rintro e wa ⟨rfl,ba⟩)
   go_ret2
   exact Hfin.out _ ba
end Go.Proofs.Ytmnmfmghmenkkaa
set_option linter.unusedSimpArgs false
set_option linter.unusedVariables false
namespace Go.Proofs.Ytmnmfmghmenkkaa
open Go.Abs Go.Pur
set_option maxRecDepth 100000
def sz : Nat → List UInt8 → List (List UInt8)
 | 0,_ => [[]]
 | n + 1,w => (lets 6).flatMap fun c => match bhd w c with
  | some w' => (sz n w').map (c :: ·)
  | none => []
theorem sz_mem : ∀ {n : Nat} {w p : List UInt8},p ∈ sz n w → leftW w p = true ∧ p.length = n
 | 0,w,p,h => by
  rw [sz,List.mem_singleton] at h
  subst h
  exact ⟨left_nil,rfl⟩
 | n + 1,w,p,h => by
  rw [sz,List.mem_flatMap] at h
  obtain ⟨c,hc,h⟩ := h
  split at h
  ·rename_i w' hb
   obtain ⟨q,hq,rfl⟩ := List.mem_map.1 h
   obtain ⟨h1,h2⟩ := sz_mem hq
   exact ⟨by rw [bhd_left,hb]; exact h1,by simp [h2]⟩
  ·cases h
theorem sz_all : ∀ {n : Nat} {w p : List UInt8},(∀ c ∈ w,c ∈ lets 6) → leftW w p = true → p.length = n → p ∈ sz n w
 | 0,w,p,hw,h,hn => by
  rw [sz,List.mem_singleton]
  exact List.length_eq_zero_iff.1 hn
 | n + 1,w,[],hw,h,hn => by cases hn
 | n + 1,w,c :: p,hw,h,hn => by
  rw [sz,List.mem_flatMap]
  have hs := leftW_sub.1 h
  refine ⟨c,hw c (hs.mem List.mem_cons_self), ?_⟩
  rw [bhd_left] at h
  cases hb : bhd w c with
  | none => rw [hb] at h; cases h
  | some w' =>
   rw [hb] at h
   exact List.mem_map.2 ⟨p,sz_all (bhd_all hb hw) h (by simpa using hn),rfl⟩
theorem lets6_lt : (lets 6).Pairwise (· < ·) := by decide
theorem sz_sorted : ∀ {n : Nat} {w : List UInt8},(sz n w).Pairwise (· < ·)
 | 0,w => by rw [sz]; exact List.pairwise_singleton _ _
 | n + 1,w => by
  rw [sz,List.pairwise_flatMap]
  refine ⟨fun c _ => ?_,lets6_lt.imp ?_⟩
  ·split
   ·rw [List.pairwise_map]
    exact sz_sorted.imp fun h => List.cons_lt_cons_iff.2 (.inr ⟨rfl,h⟩)
   ·exact List.Pairwise.nil
  ·intro c d h x hx y hy
   split at hx
   ·split at hy
    ·obtain ⟨p,_,rfl⟩ := List.mem_map.1 hx
     obtain ⟨q,_,rfl⟩ := List.mem_map.1 hy
     exact List.cons_lt_cons_iff.2 (.inl h)
    ·cases hy
   ·cases hx
theorem eq_of_sorted : ∀ {l m : List (List UInt8)},l.Pairwise (· < ·) → m.Pairwise (· ≤ ·) → m.Nodup → (∀ x,x ∈ l ↔ x ∈ m) → l = m
 | [],[],_,_,_,_ => rfl
 | [],b :: m,_,_,_,h => absurd ((h b).2 List.mem_cons_self) (by simp)
 | a :: l,[],_,_,_,h => absurd ((h a).1 List.mem_cons_self) (by simp)
 | a :: l,b :: m,hl,hm,hn,h => by
  rw [List.pairwise_cons] at hl hm
  rw [List.nodup_cons] at hn
  have e : a = b := Classical.byContradiction fun ne => by
   have h1 : a ∈ m := ((List.mem_cons.1 ((h a).1 List.mem_cons_self)).resolve_left ne)
   have h2 : b ∈ l := ((List.mem_cons.1 ((h b).2 List.mem_cons_self)).resolve_left (Ne.symm ne))
   exact List.not_lt.2 (hm.1 a h1) (hl.1 b h2)
  subst e
  congr 1
  refine eq_of_sorted hl.2 hm.2 hn.2 fun x => ?_
  constructor
  ·intro hx
   refine (List.mem_cons.1 ((h x).1 (List.mem_cons_of_mem _ hx))).resolve_left fun e => ?_
   subst e
   exact List.lt_irrefl _ (hl.1 x hx)
  ·intro hx
   refine (List.mem_cons.1 ((h x).2 (List.mem_cons_of_mem _ hx))).resolve_left fun e => ?_
   subst e
   exact hn.1 hx
theorem srt_eq {n : Nat} {w : List UInt8} (hw : ∀ c ∈ w,c ∈ lets 6) (hn : n ≤ w.length) : srt (allR w.length w n) = sz n w := by
 obtain ⟨h1,h2⟩ := allR_mem (n := w.length) (l := w) (Nat.le_refl _)
 have hp : (srt (allR w.length w n)).Perm (allR w.length w n) := List.mergeSort_perm _ _
 refine (eq_of_sorted sz_sorted ?_ (hp.nodup_iff.2 (h1 n)) fun x => ?_).symm
 ·have := List.pairwise_mergeSort (le := fun (x y : List UInt8) => decide (x ≤ y)) (fun a b c h1 h2 => by
   simp only [decide_eq_true_eq] at *
   exact List.le_trans h1 h2) (fun a b => by
   simp only [Bool.or_eq_true,decide_eq_true_eq]
   exact List.le_total a b) (allR w.length w n)
  exact this.imp fun h => by simpa using h
 ·rw [hp.mem_iff,h2]
  constructor
  ·intro h
   obtain ⟨h3,h4⟩ := sz_mem h
   exact ⟨leftW_sub.1 h3,h4⟩
  ·rintro ⟨h3,h4⟩
   exact sz_all hw (leftW_sub.2 h3) h4
end Go.Proofs.Ytmnmfmghmenkkaa
set_option linter.unusedSimpArgs false
set_option linter.unusedVariables false
namespace Go.Proofs.Ytmnmfmghmenkkaa.Q
open Go.Abs Go.Pur
set_option maxRecDepth 100000
set_option maxHeartbeats 2000000
attribute [local simp] Go.Pur.EK_region Go.Pur.EK_seq Go.Pur.EK_cond Go.Pur.EK_block Go.Pur.EK_blk Go.Pur.EK_loop Go.Pur.EK_exit EK.ex Go.Pur.EK_ret Go.Pur.EK_skip Go.Pur.EK_nil Go.Pur.EO_cons Go.Pur.EO_nil Go.Pur.EO1_true Go.Pur.EO1_false Go.Pur.EO2_some Go.Pur.EO3_some Go.Pur.EB_true Go.Pur.EB_false Go.Pur.pwanted Go.Pur.poper Go.Pur.pq Go.Pur.pev Go.Pur.look Go.Pur.pputT Go.Pur.isAssign Go.Pur.drOf Go.Pur.pinit Go.Abs.Tr.get_set Go.Pur.lget Go.Pur.pvOf_int Go.Pur.pvOf_bool Go.Pur.pvOf_str Go.Pur.pvOf_nil Go.Pur.rdv_ak Go.Pur.notOwn_ak Go.Pur.prt_ak Go.Pur.loose_ak Go.Pur.rdv_own Go.Pur.rdv_fz Go.Pur.rdv_bor Go.Pur.rdv_rf Go.Pur.rdv_pt Go.Pur.rdv_v Go.Pur.rdv_a Go.Pur.rdv_t Go.Pur.rdv_r Go.Pur.rdv_p Go.Pur.rdv_s Go.Pur.rdv_f Go.Pur.pbin Go.Pur.plen Go.Pur.pload Go.Pur.ppart Go.Pur.idxAddr Go.Pur.pcond Nat.blt Go.Pur.goInt_eq Go.Pur.prun_not Go.Pur.prun_neg Go.Pur.mayLoad Go.Pur.ER_ret Go.Pur.ER_normal Go.Pur.presL Go.Pur.presOne Go.Pur.moved Go.Pur.stor Go.Pur.okDrop Go.Pur.settle_v Go.Pur.settle_l Go.Pur.settle_a Go.Pur.settle_p Go.Pur.settle_f Go.Pur.noref_v Go.Pur.noref_fz Go.Pur.noref_a Go.Pur.norefs_nil Go.Pur.norefs_cons Go.Pur.pclose Go.Pur.given Go.Pur.dropB Y0_keep Go.Pur.pevParts Go.Pur.stors Go.Pur.pvCells pvCells.go Go.Abs.vcells Go.Pur.pfill Go.Pur.reps Go.Pur.zipParts Go.Pur.ownFz Go.Pur.pcells Go.Pur.cellOK Go.Pur.one Go.Pur.psrcLen Go.Pur.srcFits Go.Pur.psrc Go.Pur.takeP Go.Pur.pgrow Go.Pur.take Go.Pur.getPl Go.Pur.setPl Go.Pur.mapL Go.Pur.plEq Go.Pur.elder Go.Pur.isList Go.Pur.lowP Go.Pur.pevs Go.Pur.frzs Go.Pur.addP Go.Pur.partAt Go.Pur.ble_lim24 Go.Pur.killV_v Go.Pur.killV_a Go.Pur.killV_t Go.Pur.killV_f Go.Pur.killV_i Go.Pur.killV_p Go.Pur.killV_s Go.Pur.killV_un Go.Pur.killV_dead Go.Pur.killV_lfz Go.Pur.killV_lbor Go.Pur.killV_lown Go.Pur.killV_rfz Go.Pur.killV_rbor Go.Pur.killV_lak Go.Pur.killV_rak Go.Pur.frzV_v Go.Pur.frzV_a Go.Pur.frzV_t Go.Pur.frzV_f Go.Pur.frzV_i Go.Pur.frzV_p Go.Pur.frzV_s Go.Pur.frzV_un Go.Pur.frzV_dead Go.Pur.frzV_lfz Go.Pur.frzV_lbor Go.Pur.frzV_lown Go.Pur.frzV_rfz Go.Pur.frzV_rbor Go.Pur.frzV_lak Go.Pur.frzV_rak Go.Pur.killCell_v Go.Pur.killCell_a Go.Pur.killCell_t Go.Pur.killCell_f Go.Pur.killCell_i Go.Pur.killCell_p Go.Pur.killCell_s Go.Pur.killCell_un Go.Pur.killCell_dead Go.Pur.killCell_lfz Go.Pur.killCell_lbor Go.Pur.killCell_lown Go.Pur.killCell_rfz Go.Pur.killCell_rbor Go.Pur.killCell_lak Go.Pur.killCell_rak Go.Pur.killV_lrf Go.Pur.killV_lpt Go.Pur.killV_rpt Go.Pur.frzV_lrf Go.Pur.frzV_lpt Go.Pur.frzV_rpt Go.Pur.killCell_lrft Go.Pur.killCell_lptt Go.Pur.killCell_rptt Go.Pur.killCell_lrfc Go.Pur.killCell_lptc Go.Pur.killCell_rptc Go.Pur.argv_lak Go.Pur.argv_rak Go.Pur.argv_v Go.Pur.argv_a Go.Pur.argv_p Go.Pur.argv_f Go.Pur.argv_fz Go.Pur.argv_bor Go.Pur.argv_rf Go.Pur.argv_pt Go.Pur.argv_rc Go.Pur.argv_own Go.Pur.mayTurn_none Go.Pur.argvs Go.Pur.pcallOp Go.Pur.firm Go.Pur.refsTo_v Go.Pur.refsTo_l Go.Pur.refsTo_p Go.Pur.refsTo_s Go.Pur.refsTo_a Go.Pur.refsTo_dead Go.Pur.refsTo_nil Go.Pur.refsTo_cons Go.Pur.isOwn_lak Go.Pur.ownFz_lak Go.Pur.evSafe Go.Pur.pskip Go.Abs.plain Go.Pur.pnewBlk Go.Pur.fldAddr Go.Pur.isOwn Go.Pur.pput Go.Pur.notOwn_fz Go.Pur.notOwn_bor Go.Pur.notOwn_own Go.Pur.notOwn_rf Go.Pur.notOwn_pt Go.Pur.prt_fz Go.Pur.prt_bor Go.Pur.prt_own Go.Pur.prt_rf Go.Pur.prt_pt Go.Pur.freeze Go.Pur.presM Go.Pur.settles Go.Pur.abin_and Go.Pur.abin_or Go.Pur.abin_andNot Go.Pur.abin_mul Go.Pur.abin_shr Go.Pur.abin_shl Go.Pur.abin_add Go.Pur.abin_sub Go.Pur.abin_eql Go.Pur.abin_neq Go.Pur.abin_lss Go.Pur.abin_leq Go.Pur.abin_gtr Go.Pur.abin_geq Go.Pur.hows Go.Pur.pcallIn Y0_how Y0_part howOf partOf Go.Pur.rdv_mown Go.Pur.rdv_mfz Go.Pur.rdv_mbor Go.Pur.rdv_mrf Go.Pur.killV_mown Go.Pur.killV_mfz Go.Pur.killV_mbor Go.Pur.killV_mrf Go.Pur.frzV_mown Go.Pur.frzV_mfz Go.Pur.frzV_mbor Go.Pur.frzV_mrf Go.Pur.killCell_mown Go.Pur.killCell_mfz Go.Pur.killCell_mbor Go.Pur.killCell_mrf Go.Pur.argv_mfz Go.Pur.argv_mbor Go.Pur.argv_mrf Go.Pur.settle_m Go.Pur.kls_v Go.Pur.kls_l Go.Pur.kls_a Go.Pur.kls_t Go.Pur.kls_r Go.Pur.kls_p Go.Pur.kls_s Go.Pur.kls_f Go.Pur.kls_i Go.Pur.kls_it Go.Pur.kls_un Go.Pur.kls_dead Go.Pur.kls_mown Go.Pur.kls_mrf Go.Pur.kls_mbor Go.Pur.kls_mfz Go.Pur.fzOf Go.Pur.takable Go.Pur.mapHere Go.Pur.mapOwn Go.Pur.mapTo Go.Pur.flat Go.Pur.toPlain toPlain.go Go.Pur.ofFlat Go.Pur.ofPair Go.Pur.mapEs Go.Pur.plook Go.Abs.lookRes Y0_mv mvOf Go.Pur.mvBlk Go.Pur.premv Y0_fzm fzmOf Go.Pur.poperX Go.Pur.pconv Go.Pur.mvOp keep25 keep27 sz3 by3 row3 zero3 sz4 by4 row4 zero4 sz5 by5 row5 zero5 sz9 by9 row9 shape9 zero9 sz21 by21 row21 zero21 sz22 by22 row22 zero22 sz24 by24 row24 zero24 sz29 by29 row29 shape29 zero29 sz36 by36 row36 shape36 zero36 sz52 by52 row52 shape52 zero52 parts52 sz54 by54 row54 zero54 parts54 field54_0 field54_1 sz58 by58 row58 zero58 mt58 az3 sz63 by63 row63 zero63 sz66 by66 row66 shape66 zero66 parts66 sz67 by67 row67 shape67 zero67 sz75 by75 row75 shape75 zero75 sz76 by76 row76 shape76 zero76 sz78 by78 row78 zero78 mt78 sz79 by79 row79 shape79 zero79 sz92 by92 row92 zero92 sz94 by94 row94 zero94 parts94 field94_0 field94_1 sz99 by99 row99 shape99 zero99 sz102 by102 row102 zero102 mt102 az4 sz103 by103 row103 zero103 mt103 sz106 by106 row106 zero106 parts106 field106_0 field106_1 sz108 by108 row108 zero108 parts108 field108_0 field108_1 sz109 by109 row109 shape109 zero109 sz110 by110 row110 zero110 mt110 sz112 by112 row112 zero112 sz115 by115 row115 zero115 sz116 by116 row116 zero116 sz119 by119 row119 zero119 sz127 by127 row127 zero127 sz129 by129 row129 zero129 sz130 by130 row130 zero130 sz134 by134 row134 zero134 Go.Pur.bs_size Go.Pur.gAt Go.Pur.gAt0 Go.Pur.sAt Go.Pur.sAt0 Go.Pur.optPlain Go.Pur.rows_len Go.Pur.noMaker_eq Go.Abs.kindOf Go.Pur.vlOf Go.Pur.abin_rem Go.Pur.abin_quo Go.Pur.mayTurn_none Go.Pur.lowOf_none Go.Pur.partAt Go.Pur.rows_nil Go.Pur.rows_cons Go.Pur.ble_add Go.Pur.ble_add0 Go.Pur.ble_same Go.Pur.toPlain toPlain.go Go.Pur.intIn2_0 Go.Pur.intIn2_1 Go.Pur.ble12 Go.Pur.ble22 Go.Pur.tv Go.Pur.lv Go.Pur.max_int Go.Pur.min_int Go.Pur.pplains Go.Pur.ak_true Go.Pur.ak_false Go.Pur.apartP Go.Pur.beq_add Go.Pur.beq_add0 Go.Pur.beq_add1 Go.Pur.argv_s Go.Pur.wok_none Go.Pur.wok_low_iff Go.Pur.lowOf_wok
theorem f25_is {l : List UInt8} {r : Int} {hp : List (Option (List PV))} (h : some (checkW l) = some r) : E Try.prog Y0 25 [.v (.string (bs l))] hp = some (iv r,hp,none) := by
 cases h
 rw [E_bodyN 1 body25 rfl (by decide) rfl]
 simp only [Try.f25,Option.get_some]
 unfold checkW
 by_cases h10 : 10 < l.length
 ·have h1 : (10 : Int) < (l.length : Int) := by omega
  rw [if_pos h10]
  simp [h1]
 ·have h1 : ¬ (10 : Int) < (l.length : Int) := by omega
  rw [if_neg h10]
  obtain ⟨r0,hr0⟩ : ∃ r0,(if l.all letW = true then (0 : Int) else 10) = r0 := ⟨_,rfl⟩
  rw [hr0]
  simp [h1]
  refine loop_ind (fun m σ => ∃ (k : Nat) (ts : Tr PV) (w : Option Nat),m + k = l.length ∧ wok hp.length w ∧ (l.take k).all letW = true ∧ σ = ⟨[],ts,hp,w⟩ ∧ ts.get 9 = some (.it (bs l) k)) (n0 := l.length) ?_ ?_
  ·exact ⟨0,_,_,by omega,by simp,by simp,rfl,by simp⟩
  ·rintro m σ ⟨k,ts,w,hm,hw,hall,rfl,g9⟩ ih
   by_cases hk : k < l.length
   ·have hb : Nat.ble (k + 1) l.length = true := ble_true hk
    by_cases hc : letW l[k] = true
    ·have hl : 97 ≤ l[k].toNat ∧ l[k].toNat < 103 := by simpa [letW] using hc
     have hd : Utf8.decode (bs l) k = (l[k].toNat,1) := gA_ok (by
      unfold gA
      rw [List.getElem?_eq_getElem hk]
      simp only []
      rw [show Nat.blt l[k].toNat 128 = true from Nat.ble_eq_true_of_le (by omega)])
     have c1 : ¬ (l[k].toNat : Int) < 97 := by omega
     have c2 : ¬ (103 : Int) ≤ (l[k].toNat : Int) := by omega
     generalize hx : l[k] = x at *
     simp [g9,hb,hd,c1,c2]
     refine ih (m - 1) _ (by omega) ⟨k + 1,_,_,by omega,by simp [hw], ?_,rfl,by simp⟩
     rw [List.take_add_one,List.getElem?_eq_getElem hk,List.all_append,hall,hx]
     simp [hc]
    ·have hf : l.all letW = false := by
      rw [← Bool.not_eq_true,List.all_eq_true]
      intro h
      exact hc (h _ (List.getElem_mem hk))
     have hd : (Utf8.decode (bs l) k).1 < 97 ∨ 103 ≤ (Utf8.decode (bs l) k).1 := by
      by_cases h128 : 128 ≤ l[k].toNat
      ·have := decode_hi (s := bs l) (i := k) (by rw [bs_get hk]; exact h128)
       omega
      ·have hd : Utf8.decode (bs l) k = (l[k].toNat,1) := gA_ok (by
        unfold gA
        rw [List.getElem?_eq_getElem hk]
        simp only []
        rw [show Nat.blt l[k].toNat 128 = true from Nat.ble_eq_true_of_le (by omega)])
       rw [hd]
       have : ¬ (97 ≤ l[k].toNat ∧ l[k].toNat < 103) := by simpa [letW] using hc
       simp only []
       omega
     rw [hf] at hr0
     obtain rfl : (10 : Int) = r0 := hr0
     clear ih
     rcases hd with hd | hd
     ·have c1 : ((Utf8.decode (bs l) k).1 : Int) < 97 := by omega
      simp [g9,hb,c1,hw]
     ·have c1 : ¬ ((Utf8.decode (bs l) k).1 : Int) < 97 := by omega
      have c2 : (103 : Int) ≤ ((Utf8.decode (bs l) k).1 : Int) := by omega
      simp [g9,hb,c1,c2,hw]
   ·have hb : Nat.ble (k + 1) l.length = false := bleF (by omega)
    rw [List.take_of_length_le (by omega)] at hall
    rw [hall] at hr0
    obtain rfl : (0 : Int) = r0 := hr0
    clear ih
    simp [g9,hb,hw]
theorem left_is {w p : List UInt8} {r : Bool} {hp : List (Option (List PV))} (hw : w.length < 1000000000) (h : some (leftW w p) = some r) : E Try.prog Y0 27 [.v (.string (bs w)),.v (.string (bs p))] hp = some (.v (.bool r),hp,none) := by
 cases h
 obtain ⟨r0,hr0⟩ : ∃ r0,leftW w p = r0 := ⟨_,rfl⟩
 rw [hr0]
 rw [E_bodyN 2 body27 rfl (by decide) rfl]
 simp only [Try.f27,Option.get_some]
 simp
 refine loop_ind (fun m σ => ∃ (k : Nat) (p' : List UInt8) (ts : Tr PV) (wl : Option Nat),m + k = w.length ∧ wok hp.length wl ∧ leftW (w.drop k) p' = r0 ∧ σ = ⟨[],ts,hp,wl⟩ ∧ ts.get 0 = some (.v (.string (bs w))) ∧ ts.get 1 = some (.v (.string (bs p'))) ∧ ts.get 5 = some (iv k)) (n0 := w.length) ?_ ?_
 ·exact ⟨0,p,_,_,by omega,by simp,hr0,rfl,by simp,by simp,by simp⟩
 ·rintro m σ ⟨k,p',ts,wl,hm,hwl,hr,rfl,g0,g1,g5⟩ ih
  have hsz : (bs w).size = w.length := bs_size
  cases p' with
  | nil =>
   rw [left_nil] at hr
   subst hr
   have q1 : ∀ x y,abin Try.prog .neq 9 x y (.string (bs [])) (.string ⟨#[]⟩) = some (.bool false) := fun x y => by kernel_rfl
   have q2 : ∀ x y,abin Try.prog .eql 9 x y (.string (bs [])) (.string ⟨#[]⟩) = some (.bool true) := fun x y => by kernel_rfl
   clear ih
   by_cases hk : (k : Int) < (w.length : Int)
   ·simp [g0,g1,g5,hsz,hk,q1,q2,hwl]
   ·simp [g0,g1,g5,hsz,hk,q1,q2,hwl]
  | cons d p' =>
   have q1 : ∀ x y,abin Try.prog .neq 9 x y (.string (bs (d :: p'))) (.string ⟨#[]⟩) = some (.bool true) := fun x y => by
    rw [abin_sneq]; simp
   have q2 : ∀ x y,abin Try.prog .eql 9 x y (.string (bs (d :: p'))) (.string ⟨#[]⟩) = some (.bool false) := fun x y => by
    rw [abin_seql]; simp
   by_cases hk : k < w.length
   ·have h1 : (k : Int) < (w.length : Int) := by omega
    have w1 : IntKind.i64.wrap ((k : Int) + 1) = ((k + 1 : Nat) : Int) := wrap_nat (by omega)
    have hg : gS w (k : Int) = some (w[k].toNat : Int) := by
     show (match w[k]? with | some c => some (c.toNat : Int) | none => none) = _
     rw [List.getElem?_eq_getElem hk]
    have e1 := (gS_ok (P := Try.prog) (t := 9) (k := .i64) Try.underlying9 shape9 hg).1
    have e2 := (gS_ok (P := Try.prog) (t := 9) (k := .i64) Try.underlying9 shape9 (show gS (d :: p') ((0 : Nat) : Int) = some (d.toNat : Int) from rfl)).1
    rw [show ((0 : Nat) : Int) = 0 from rfl] at e2
    rw [left_drop hk] at hr
    generalize w[k] = c at *
    by_cases hc : c = d
    ·subst hc
     rw [if_pos rfl] at hr
     simp [g0,g1,g5,hsz,h1,q1,q2,e1,e2,optPlain,slice_tail,w1]
     exact ih (m - 1) _ (by omega) ⟨k + 1,p',_,_,by omega,hwl,hr,rfl,by simp [g0],by simp,by simp⟩
    ·rw [if_neg hc] at hr
     have hc2 : ¬ (c.toNat : Int) = (d.toNat : Int) := fun e => hc (UInt8.toNat.inj (by omega))
     simp [g0,g1,g5,hsz,h1,q1,q2,e1,e2,hc2,w1]
     exact ih (m - 1) _ (by omega) ⟨k + 1,d :: p',_,_,by omega,hwl,hr,rfl,by simp [g0],by simp [g1],by simp⟩
   ·have h1 : ¬ (k : Int) < (w.length : Int) := by omega
    rw [List.drop_of_length_le (by omega)] at hr
    obtain rfl : false = r0 := hr
    clear ih
    simp [g0,g1,g5,hsz,h1,q1,q2,hwl]
end Go.Proofs.Ytmnmfmghmenkkaa.Q
set_option linter.unusedSimpArgs false
set_option linter.unusedVariables false
namespace Go.Proofs.Ytmnmfmghmenkkaa
open Go.RowKit Go.Abs Go.Pur
set_option maxRecDepth 1000000
set_option maxHeartbeats 4000000
def Emp (s : Value) : Prop := s = .slice none 0 0 ∨ ∃ a c,s = .slice (some a) 0 c
theorem func57_emp {s : Value} (hs : Emp s) (w : World) : Calls Try.prog 57 #[s] w fun e w' => e = .returned (.int .i64 0) ∧ Below w.heap.size w w' := by
 have mixed : Try.prog.follows .mixedOrders = true := by kernel_rfl
 rcases hs with rfl | ⟨a,c,rfl⟩
 ·go_enter Try.func57,Try.ntmps57
  go_wp2_with fail
  go_loopg [8] 1 (fun gk s8 wx => s8 = .int .i64 0 ∧ wx = w)
  case atStart => exact ⟨rfl,rfl⟩
  case round =>
   obtain ⟨rfl,rfl⟩ := hrel
   go_wp2_with fail
   go_ret
   exact ⟨rfl,Below.refl _ _⟩
 ·go_enter Try.func57,Try.ntmps57
  go_wp2_with fail
  go_loopg [8] 1 (fun gk s8 wx => s8 = .int .i64 0 ∧ wx = w)
  case atStart => exact ⟨rfl,rfl⟩
  case round =>
   obtain ⟨rfl,rfl⟩ := hrel
   go_wp2_with fail
   go_ret
   exact ⟨rfl,Below.refl _ _⟩
theorem short_emp {s : Value} (hs : Emp s) (i : Int) (w : World) : Calls Try.prog 44 #[s,.int .i64 i] w fun e w' => e = .returned (.tuple #[.string ⟨#[]⟩,.int .i64 2]) ∧ Below w.heap.size w w' := by
 have mixed : Try.prog.follows .mixedOrders = true := by kernel_rfl
 have H57 := hid70 (func57_emp hs w)
 by_cases hi : i < 0
 ·rcases hs with rfl | ⟨a,c,rfl⟩
  ·go_enter Try.func44,Try.ntmps44
   go_wp2_with (go_at_call 57; refine H57.out.mono ?_; rintro e wa ⟨rfl,ba⟩)
   go_ret2
   exact ⟨rfl,ba⟩
  ·go_enter Try.func44,Try.ntmps44
   go_wp2_with (go_at_call 57; refine H57.out.mono ?_; rintro e wa ⟨rfl,ba⟩)
   go_ret2
   exact ⟨rfl,ba⟩
 ·have hi2 : (0 : Int) ≤ i := by omega
  rcases hs with rfl | ⟨a,c,rfl⟩
  ·go_enter Try.func44,Try.ntmps44
   go_wp2_with (go_at_call 57; refine H57.out.mono ?_; rintro e wa ⟨rfl,ba⟩)
   go_ret2
   exact ⟨rfl,ba⟩
  ·go_enter Try.func44,Try.ntmps44
   go_wp2_with (go_at_call 57; refine H57.out.mono ?_; rintro e wa ⟨rfl,ba⟩)
   go_ret2
   exact ⟨rfl,ba⟩
theorem pstrs_map : ∀ {cs : List Value} {vs : List (List UInt8)},pstrs cs = some vs → cs = vs.map strV
 | [],vs,h => by cases h; rfl
 | c :: cs,vs,h => by
  unfold pstrs at h
  split at h
  ·rename_i k r h1 h2
   cases h
   rw [List.map_cons,← pstrs_map h2]
   congr 1
   unfold keyS at h1
   split at h1
   ·cases h1; rfl
   ·cases h1
  ·cases h
theorem ok44 : FnOK Try.prog Y0 44 := by
 refine fnOK_lib e44 rfl (by kernel_rfl) (fun xs rs he m h w hR args hd => ?_)
 unfold e44 at he
 split at he
 ·rename_i cs i
  split at he
  ·rename_i vs hvs
   split at he
   ·rename_i hok
    cases he
    cases hd with
    | cons v a vs' ks' k1 ht =>
    cases ht with
    | cons v2 a2 vs2 ks2 k2 ht2 =>
    cases ht2
    cases k2
    have hcs := pstrs_map hvs
    simp only [Bool.and_eq_true,Nat.ble_eq,List.all_eq_true] at hok
    have fin : ∀ e w',Post44 vs i w e w' → ∃ us,e = .returned (packed us) ∧ Below w.heap.size w w' ∧ RDens w.heap.size w' us [.p (.string ⟨(shortL vs i).1.toArray⟩),.p (.int .i64 (shortL vs i).2)] := fun e w' hp =>
     ⟨[.string ⟨(shortL vs i).1.toArray⟩,.int .i64 (shortL vs i).2],hp.1,hp.2,.cons _ _ _ _ (.p _) (.cons _ _ _ _ (.p _) .nil)⟩
    have emp : cs = [] → ∀ s,Emp s → Calls Try.prog 44 #[s,.int .i64 i] w fun e w' => Post44 vs i w e w' := fun hc s hs => by
     subst hc
     obtain rfl : vs = [] := by cases vs with
      | nil => rfl
      | cons => cases hcs
     refine (short_emp hs i w).mono fun e w' ⟨h1,h2⟩ => ⟨?_,h2⟩
     have : shortL [] i = ([],2) := by
      unfold shortL
      rw [if_neg (by simp),if_neg (by simp [chkL]),if_pos (by simp; omega)]
     rw [h1,this]
    cases k1 with
    | nil => exact (emp rfl _ (.inl rfl)).mono fin
    | emp a c => exact (emp rfl _ (.inr ⟨_,_,rfl⟩)).mono fin
    | lst b o c _ hne hc hb hr =>
     have hl : cs.length = vs.length := by rw [hcs,List.length_map]
     rw [hl]
     refine (short_calls vs b o c i w (by omega) (fun j v hv => hr j _ (by rw [hcs,List.getElem?_map,hv]; rfl)) (fun W hB v hv => ?_) (fun W hB v hv x hx => ?_)).mono fin
     ·refine pure_plain (Y := Q.Y0) (f := 25) (vs := [.string ⟨v.toArray⟩]) (rs := [.int .i64 (checkW v)]) (by kernel_rfl) progFine (fun g hg => by cases hg) rfl (hR.below hB).1 rfl ?_ (Q.f25_is (hp := []) rfl)
      intro u hu
      simp only [List.mem_cons,List.not_mem_nil,or_false] at hu
      subst hu
      exact ⟨rfl,fun n c e => by cases e⟩
     ·refine pure_plain (Y := Q.Y0) (f := 27) (vs := [.string ⟨v.toArray⟩,.string ⟨x.toArray⟩]) (rs := [.bool (leftW v x)]) (by kernel_rfl) progFine (fun g hg => by cases hg) rfl (hR.below hB).1 rfl ?_ (Q.left_is (hp := []) (by have := hok.2 v hv; omega) rfl)
      intro u hu
      simp only [List.mem_cons,List.not_mem_nil,or_false] at hu
      rcases hu with rfl | rfl <;> exact ⟨rfl,fun n c e => by cases e⟩
   ·cases he
  ·cases he
 ·cases he
end Go.Proofs.Ytmnmfmghmenkkaa
set_option linter.unusedSimpArgs false
set_option linter.unusedVariables false
namespace Go.Proofs.Ytmnmfmghmenkkaa
open Go.Abs Go.Pur Go.RowKit
set_option maxRecDepth 100000
theorem byV_ok {v : Value} {c : UInt8} (h : byV v = some c) : v = .int .u8 c.toNat := by
 unfold byV at h
 split at h
 ·rename_i c'
  split at h
  ·rename_i hc
   have h1 := Nat.le_of_ble_eq_true hc
   cases h
   have : (c'.toUInt8).toNat = c' := by
    simp only [Nat.toUInt8,UInt8.toNat_ofNat']
    omega
   rw [this]
   rfl
  ·cases h
 ·cases h
theorem bysV_ok : ∀ {l : List Value} {xs : List UInt8},bysV l = some xs → l = Lib.byteCells xs
 | [],xs,h => by cases h; rfl
 | v :: l,xs,h => by
  unfold bysV at h
  split at h
  ·rename_i c r h1 h2
   cases h
   rw [byV_ok h1,bysV_ok h2]
   rfl
  ·cases h
theorem bysV_size {A : Array Value} {xs : List UInt8} (h : bysV A.toList = some xs) : A = (Lib.byteCells xs).toArray ∧ A.size = xs.length := by
 have h1 := bysV_ok h
 have h2 : A = (Lib.byteCells xs).toArray := by rw [← h1]
 exact ⟨h2,by rw [h2]; simp [Lib.byteCells]⟩
theorem ok53 : FnOK Try.prog Y0 53 := by
 refine fnOK_lib e53 rfl (by kernel_rfl) (fun xs rs he m h w hR args hd => ?_)
 unfold e53 at he
 split at he
 ·rename_i s z
  split at he
  ·rename_i hb
   cases he
   cases hd with
   | cons v a vs ks h1 ht =>
   cases ht with
   | cons v2 a2 vs2 ks2 h2 ht2 =>
   cases ht2; cases h1; cases h2
   exact (taken_calls s z w (by have := Nat.le_of_ble_eq_true hb; omega)).mono fun e w' ⟨h1,h2⟩ => ⟨[.string _],h1,h2,.cons _ _ _ _ (.p _) .nil⟩
  ·cases he
 ·cases he
theorem ok56 : FnOK Try.prog Y0 56 := by
 refine fnOK_lib e56 rfl (by kernel_rfl) (fun xs rs he m h w hR args hd => ?_)
 unfold e56 at he
 split at he
 ·rename_i s c
  cases he
  cases hd with
  | cons v a vs ks h1 ht =>
  cases ht with
  | cons v2 a2 vs2 ks2 h2 ht2 =>
  cases ht2; cases h1; cases h2
  refine (Try.strings_IndexByte s (Int.ofNat c) w).mono fun e w' ⟨h1,h2⟩ => ?_
  subst h2
  refine ⟨[.int .i64 _], ?_,Below.refl _ _,.cons _ _ _ _ (.p _) .nil⟩
  rw [h1]
  have : ∀ l x,Lib.indexByte l x = ixB l x := by
   intro l x
   induction l with
   | nil => rfl
   | cons b l ih => rw [Lib.indexByte,ixB,ih]
  rw [this]
  rfl
 ·cases he
theorem ok48 : FnOK Try.prog Y0 48 := by
 refine fnOK_lib e48 rfl (by kernel_rfl) (fun xs rs he m h w hR args hd => ?_)
 unfold e48 at he
 split at he
 ·rename_i A n k
  split at he
  ·rename_i ys hy hs hn h1k hk6
   cases he
   cases hd with
   | cons v a vs ks h1 ht =>
   cases ht with
   | cons v2 a2 vs2 ks2 h2 ht2 =>
   cases ht2 with
   | cons v3 a3 vs3 ks3 h3 ht3 =>
   cases ht3; cases h1; cases h2; cases h3
   obtain ⟨e1,e2⟩ := bysV_size hy
   have e3 := Nat.eq_of_beq_eq_true hs
   rw [e1]
   exact (sized_calls ys (by omega) n k w (Nat.le_of_ble_eq_true hn) (Nat.le_of_ble_eq_true h1k) (Nat.le_of_ble_eq_true hk6)).mono fun e w' ⟨h1,h2⟩ => ⟨[.string _],h1,h2,.cons _ _ _ _ (.p _) .nil⟩
  ·cases he
 ·cases he
theorem ok51 : FnOK Try.prog Y0 51 := by
 refine fnOK_lib e51 rfl (by kernel_rfl) (fun xs rs he m h w hR args hd => ?_)
 unfold e51 at he
 split at he
 ·rename_i A n k
  split at he
  ·rename_i c0 ys hy hs hn h1k hk6
   cases he
   cases hd with
   | cons v a vs ks h1 ht =>
   cases ht with
   | cons v2 a2 vs2 ks2 h2 ht2 =>
   cases ht2 with
   | cons v3 a3 vs3 ks3 h3 ht3 =>
   cases ht3; cases h1; cases h2; cases h3
   obtain ⟨e1,e2⟩ := bysV_size hy
   have e3 := Nat.eq_of_beq_eq_true hs
   rw [e1]
   exact (made_calls (c0 :: ys) (by omega) n k w c0 rfl (Nat.le_of_ble_eq_true hn) (Nat.le_of_ble_eq_true h1k) (Nat.le_of_ble_eq_true hk6)).mono fun e w' ⟨h1,h2⟩ => ⟨[.string _],h1,h2,.cons _ _ _ _ (.p _) .nil⟩
  ·cases he
 ·cases he
theorem ok55 : FnOK Try.prog Y0 55 := by
 refine fnOK_lib e55 rfl (by kernel_rfl) (fun xs rs he m h w hR args hd => ?_)
 unfold e55 at he
 split at he
 ·rename_i s
  split at he
  ·rename_i hb
   cases he
   cases hd with
   | cons v a vs ks h1 ht =>
   cases ht; cases h1
   exact (opposite_calls s w (Nat.le_of_ble_eq_true hb)).mono fun e w' ⟨h1,h2⟩ => ⟨[.string _],h1,h2,.cons _ _ _ _ (.p _) .nil⟩
  ·cases he
 ·cases he
theorem idens61 {B bo n : Nat} {V : Nat → Value} {rows : Nat → List (List UInt8)} {w : World} (h : RowsAt B bo n V rows w) (hne : ∀ i,i < n + 1 → rows i ≠ []) : ∀ {L : List Nat},(∀ i ∈ L,i < n + 1) → IDens B w (L.map V) (L.map fun i => (rows i).map strV)
 | [],_ => .nil
 | i :: L,hL => by
  have hi := hL i List.mem_cons_self
  have hr := h.row i hi
  obtain ⟨g,cap,cur,hV,hB,hb,h1,h2,h3,h4⟩ := own_some hr (fun e => hne i hi (List.length_eq_zero_iff.1 e))
  have hc : ∀ j,j < ((rows i).map strV).length → ((rows i).map strV).getD j undef = cur.getD (0 + j) undef := fun j hj => by
   have hj' : j < (rows i).length := by simpa using hj
   have e1 : (cur.toList.take ((rows i).length * 1))[j]? = ((rows i).map strV)[j]? := by rw [h4]; rfl
   rw [List.getElem?_take,if_pos (by omega),Array.getElem?_toList] at e1
   rw [List.getD_eq_getElem?_getD,← e1,Nat.zero_add]
   simp [Array.getD_eq_getD_getElem?]
  have key := IDens.cons (n := B) (w := w) g 0 cap ((rows i).map strV) cur 9 (0,0) (L.map V) (L.map fun i => (rows i).map strV) (by simpa using h1) hB hb (by simp; omega) hc (idens61 h hne fun j hj => hL j (List.mem_cons_of_mem _ hj))
  rw [List.length_map,← hV] at key
  exact key
theorem ok61 : FnOK Try.prog Y0 61 := by
 refine fnOK_lib e61 rfl (by kernel_rfl) (fun xs rs he m h w hR args hd => ?_)
 unfold e61 at he
 split at he
 ·rename_i s
  split at he
  ·rename_i hb hx
   cases he
   cases hd with
   | cons v a vs ks h1 ht =>
   cases ht; cases h1
   have hs := Nat.le_of_ble_eq_true hb
   refine (all_calls s w hs (fun x hx' => Nat.le_of_ble_eq_true (List.all_eq_true.1 hx x hx'))).mono fun e w' ⟨V,h1,h2,h3⟩ => ⟨[_],h1,h2,.cons _ _ _ _ ?_ .nil⟩
   have hlen : s.data.toList.length = s.size := by simp
   have hne : ∀ i,i < s.size + 1 → srtT (s.size + 1) (allR s.size s.data.toList) i ≠ [] := fun i hi e => by
    have h := ((allR_mem (n := s.size) (l := s.data.toList) (by omega)).2 i (s.data.toList.take i)).2 ⟨List.take_sublist _ _,by rw [List.length_take]; omega⟩
    unfold srtT at e
    rw [if_pos hi] at e
    have h2 := srt_mem.2 h
    rw [e] at h2
    cases h2
   obtain ⟨C,c1,c2,c3⟩ := h3.out
   have hI := idens61 h3 hne (L := List.range (s.size + 1)) (fun i hi => List.mem_range.1 hi)
   have hcss : (rows61 s.data.toList).map (fun l => l.map strV) = (List.range (s.size + 1)).map fun i => (srtT (s.size + 1) (allR s.size s.data.toList) i).map strV := by
    unfold rows61
    rw [List.map_map,hlen]
    refine List.map_congr_left fun i hi => ?_
    have := List.mem_range.1 hi
    simp only [Function.comp,srtT,if_pos this]
   rw [hcss]
   have key := RDen.ll (n := w.heap.size) (w := w') (w.heap.size + 1) 0 (s.size + 1) _ _ C 36 (0,0) hI (by simp) (by omega) c1 (by simp; omega) (fun i hi => by
    have hi' : i < s.size + 1 := by simpa using hi
    rw [Nat.zero_add,List.getD_eq_getElem?_getD,List.getElem?_map,List.getElem?_range hi']
    simp [Array.getD_eq_getD_getElem?,c3 i hi'])
   rw [List.length_map,List.length_range] at key
   exact key
  ·cases he
 ·cases he
theorem keysS_ok : ∀ {es : List MapEntry} {ks : List (List UInt8)},keysS es = some ks → es.map (·.key) = ks.map strV
 | [],ks,h => by cases h; rfl
 | e :: l,ks,h => by
  unfold keysS at h
  split at h
  ·rename_i k r h1 h2
   cases h
   rw [List.map_cons,List.map_cons,keysS_ok h2]
   congr 1
   unfold keyS at h1
   split at h1
   ·rename_i s e1
    cases h1
    rw [e1]
    unfold strV
    simp
   ·cases h1
  ·cases h
theorem ok52 : FnOK Try.prog Y0 52 := by
 refine fnOK_lib e52 rfl (by kernel_rfl) (fun xs rs he m h w hR args hd => ?_)
 unfold e52 at he
 split at he
 ·rename_i es c n
  split at he
  ·rename_i ks hks
   split at he
   ·rename_i hok
    cases he
    cases hd with
    | cons v a vs ks' h1 ht =>
    cases ht with
    | cons v2 a2 vs2 ks2 h2 ht2 =>
    cases ht2; cases h2
    cases h1 with
    | m bm _ _ hbm =>
    unfold ok52B at hok
    simp only [Bool.and_eq_true,decide_eq_true_eq] at hok
    obtain ⟨⟨⟨⟨o1,o2⟩,o3⟩,o4⟩,o5⟩ := hok
    refine (ofSize_calls bm es c n ks w hbm (keysS_ok hks) o1 o2 o3 o4 o5).mono fun e w' ⟨v,q1,q2,q3⟩ => ⟨[v],q1,q2,.cons _ _ _ _ ?_ .nil⟩
    have hn0 : (ofs n ks).length ≠ 0 := by
     unfold ofs
     rw [show (srt (ks.filter fun k => decide (k.length = n))).length = (ks.filter fun k => decide (k.length = n)).length by simp [srt]]
     exact fun e => o5 (List.length_eq_zero_iff.1 e)
    obtain ⟨g,cap,cur,rfl,hB,hb,h1,h2,h3,h4⟩ := own_some52 q3 hn0
    have hc : ∀ j,j < ((ofs n ks).map strV).length → ((ofs n ks).map strV).getD j undef = cur.getD (0 + j) undef := fun j hj => by
     have hj' : j < (ofs n ks).length := by simpa using hj
     have e1 : (cur.toList.take ((ofs n ks).length * 1))[j]? = ((ofs n ks).map strV)[j]? := by
      unfold ofs
      rw [h4]; rfl
     rw [List.getElem?_take,if_pos (by omega),Array.getElem?_toList] at e1
     rw [List.getD_eq_getElem?_getD,← e1,Nat.zero_add]
     simp [Array.getD_eq_getD_getElem?]
    have key := RDen.l (n := w.heap.size) (w := w') g 0 cap ((ofs n ks).map strV) cur 9 (0,0) (by rw [List.length_map]; exact h1) hB hb (by rw [List.length_map]; unfold ofs; omega) hc
    rw [List.length_map] at key
    exact key
   ·cases he
  ·cases he
 ·cases he
theorem decM_ok : ∀ {es : List MapEntry} {m : Mp (List UInt8) Int},decM es = some m → es = mE sV (Value.int .i64) m
 | [],m,h => by cases h; rfl
 | e :: l,m,h => by
  unfold decM at h
  split at h
  ·rename_i s v r h1 h2 h3
   cases h
   have hr := decM_ok h3
   unfold mE at hr ⊢
   rw [List.map_cons,← hr]
   congr 1
   obtain ⟨k,w,b⟩ := e
   simp only at h1 h2 ⊢
   rw [h1,h2]
  ·cases h
theorem slt_total {a b : List UInt8} (h1 : ¬ slt a b) (h2 : ¬ slt b a) : a = b := by
 unfold slt at h1 h2
 have hl : a.length = b.length := by
  rcases Nat.lt_trichotomy a.length b.length with h | h | h
  ·exact absurd (.inl h) h1
  ·exact h
  ·exact absurd (.inl h) h2
 refine List.le_antisymm (List.not_lt.1 fun h => h2 (.inr ⟨hl.symm,h⟩)) (List.not_lt.1 fun h => h1 (.inr ⟨hl,h⟩))
theorem bst_ok {D : List UInt8 → Bool} : ∀ {l L : List (List UInt8)} {s : List UInt8 × Bool},Bst D L s.1 s.2 → Bst D (L ++ l) (bst D l s).1 (bst D l s).2
 | [],L,s,h => by rw [List.append_nil]; exact h
 | k :: l,L,(b,is),h => by
  rw [show L ++ k :: l = (L ++ [k]) ++ l by simp,bst]
  cases hc : D k && (!is || decide (slt k b)) with
  | true =>
   dsimp only
   rw [Bool.and_eq_true,Bool.or_eq_true,Bool.not_eq_true',decide_eq_true_iff] at hc
   exact bst_ok (s := (k,true)) (bst_take h hc.1 hc.2)
  | false =>
   dsimp only
   refine bst_ok (s := (b,is)) (bst_skip h ?_)
   rw [Bool.and_eq_false_iff,Bool.or_eq_false_iff,Bool.not_eq_false',decide_eq_false_iff_not] at hc
   exact hc
theorem bst_uniq {D : List UInt8 → Bool} {L L' : List (List UInt8)} {b b' : List UInt8} {is is' : Bool} (h : Bst D L b is) (h' : Bst D L' b' is') (hL : ∀ k,k ∈ L ↔ k ∈ L') : b = b' ∧ is = is' := by
 cases is <;> cases is'
 ·exact ⟨by rw [h.1,h'.1],rfl⟩
 ·have h1 := h.2 b' ((hL b').2 h'.1)
  rw [h'.2.1] at h1; cases h1
 ·have h1 := h'.2 b ((hL b).1 h.1)
  rw [h.2.1] at h1; cases h1
 ·exact ⟨slt_total (h'.2.2 b ((hL b).1 h.1) h.2.1) (h.2.2 b' ((hL b').2 h'.1) h'.2.1),rfl⟩
theorem ok49 : FnOK Try.prog Y0 49 := by
 refine fnOK_lib e49 rfl (by kernel_rfl) (fun xs rs he m h w hR args hd => ?_)
 unfold e49 at he
 split at he
 ·rename_i es1 c1 es2 c2
  split at he
  ·rename_i m1 m2 h1 h2
   split at he
   ·rename_i hok
    cases he
    cases hd with
    | cons v a vs ks' k1 ht =>
    cases ht with
    | cons v2 a2 vs2 ks2 k2 ht2 =>
    cases ht2
    cases k1 with
    | m b1 _ _ hb1 =>
    cases k2 with
    | m b2 _ _ hb2 =>
    unfold stOK at hok
    simp only [Bool.and_eq_true,decide_eq_true_eq] at hok
    rw [decM_ok h1] at hb1
    rw [decM_ok h2] at hb2
    refine (first_calls b1 b2 c1 c2 m1 m2 w hb1 hb2 hok.1 hok.2).mono fun e w' ⟨L,b,is,q1,q2,q3,q4⟩ => ⟨[.string ⟨b.toArray⟩,.bool is],q1,q2, ?_⟩
    have hB := bst_ok (D := dif49 m1 m2) (l := m1.map (·.1) ++ m2.map (·.1)) (L := []) (s := ([],false)) ⟨rfl,fun k hk => by cases hk⟩
    obtain ⟨e1,e2⟩ := bst_uniq q4 hB (fun k => by rw [q3 k,List.nil_append,List.mem_append])
    rw [e1,e2]
    exact .cons _ _ _ _ (.p _) (.cons _ _ _ _ (.p _) .nil)
   ·cases he
  ·cases he
 ·cases he
theorem ext_ok (g : FuncId) (hy : Y0.yes g = true) : FnOK Try.prog Y0 g := by
 have h : (Nat.beq g 17 || Nat.beq g 48 || Nat.beq g 51 || Nat.beq g 53 || Nat.beq g 55 || Nat.beq g 56 || Nat.beq g 61 || Nat.beq g 52 || Nat.beq g 49 || Nat.beq g 70 || Nat.beq g 44) = true := hy
 simp only [Bool.or_eq_true] at h
 rcases h with (((((((((h | h) | h) | h) | h) | h) | h) | h) | h) | h) | h <;> cases Nat.eq_of_beq_eq_true h
 ·exact ok17
 ·exact ok48
 ·exact ok51
 ·exact ok53
 ·exact ok55
 ·exact ok56
 ·exact ok61
 ·exact ok52
 ·exact ok49
 ·exact ok70
 ·exact ok44
end Go.Proofs.Ytmnmfmghmenkkaa
set_option linter.unusedSimpArgs false
set_option linter.unusedVariables false
set_option linter.unusedSectionVars false
namespace Go.Proofs.Ytmnmfmghmenkkaa
open Go.Abs Go.Pur Go.ChangeShapes Go.WideShapes Go.ChangeAt Go.RowKit
set_option maxRecDepth 100000
theorem ok : progOK Try.prog = true := by kernel_rfl
theorem laidOut : laidOutB Try.prog = true := by kernel_rfl
theorem grOf (l : List Blk) : GR Try.prog Y0 (C0 Try.prog (tabs ++ l).length) (heapOf (tabs ++ l)) := fun g cs hg => by
 simp [Y0] at hg
section
variable {H : Type} {enc : TypeId × Value → H} {W : World} {r : Reach} {b0 : Nat}
end
end Go.Proofs.Ytmnmfmghmenkkaa
