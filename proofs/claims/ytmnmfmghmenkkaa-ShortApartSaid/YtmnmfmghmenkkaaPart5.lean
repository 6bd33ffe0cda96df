/-
  short.all: the parts of a word by size.
  ofSize: the keys of a map of one length,in ascending order.
  first: the first of the shortest texts that one of two maps counts,and the other one does not.
  A queue of pairs with a text each,in a row that is appended to and shortened in front.
  Pairs of numbers as keys of a map.
  The bytes of a text,as numbers.
  What is known of the functions that build texts,as facts of the pure evaluator.
  The pure evaluator's answers,for proofs in the model: calls whose arguments lie in memory and whose answer is plain.
  short.differ: next,without what is known
  Printed by wip/tools/walk.py. Conditions: none; definitions and lemmas.
  slices.Clone,slices.Delete at texts,laid for this seat (by the kit's own programs lay-shelf,lay-plain).
  short.Short,as the printed walks use it.
  The error of a word; a string that is left of another one.
  Whether a string is left of another one.
  Words are checked; what is left.
  Printed by wip/tools/walk.py. Conditions: none; definitions and lemmas.
  Arches.
  Printed by wip/tools/walk.py. Conditions: none; definitions and lemmas.
  short.differ: next
  Printed by wip/tools/walk.py. Conditions: none; definitions and lemmas.
  Parts are counted.
  Printed by wip/tools/walk.py. Conditions: none; definitions and lemmas.
  short.Apart,Alike
  Printed by wip/tools/walk.py. Conditions: none; definitions and lemmas.
  short.Parts: the parts of a word of one size.
  the reference's Short
  Printed by wip/tools/walk.py. Conditions: none; definitions and lemmas.
  Arches,and the first of the shortest words that are missing: the mathematics.
  Parts of words: all of them,each once; how many there are.
  The word with the most parts: the one in which the letters go around.
  Both ways of a word and a part: the plain law.
  The number of the places and the first of them: the plain law.
  Errors,and two equal lists: the plain law.
  The number of ways: the plain law.
  The number of ways,all of it: the plain law.
  Arches: what the functions compute.
  The first of the shortest words that are missing: what the functions compute.
  Conditions: none; definitions and lemmas.
-/
import Derived.Deep.DeepMust
import Derived.Deep.LoopGhost
import Derived.Deep.OwnRows
import Derived.Handy
import Derived.Lib.OthersKept
import Derived.Lib.OwnBridge
import Derived.Maps.AppendAt
import Derived.Maps.OwnSet
import Derived.Maps.RangeRun
import Derived.Sort.OwnSorted
import Derived.WalkKit
import Derived.Deep.AppendSrc
import Derived.Deep.MidRow
import Derived.Shelf.Slices.Clone
import Derived.Shelf.Slices.Delete
import Derived.Test.YtmnmfmghmenkkaaPart4
set_option linter.unusedSimpArgs false
set_option linter.unusedVariables false
namespace Go.Proofs.Ytmnmfmghmenkkaa
open Go.RowKit Go.Abs Go.Pur
set_option maxRecDepth 1000000
set_option maxHeartbeats 8000000
theorem alook_run {P : Program} {w : World} {t : TypeId} {k v : Value} {es : List MapEntry} {c r : Nat} {ok : Bool} (hr : w.heap[r]? = some (.map es.toArray c)) (ha : alook P t es k ok = some v) : (Instr.lookup t (.map (some r)) k ok).run P w = .ok v w := by
 unfold alook at ha
 split at ha
 ·rename_i kt et ht
  have hu := mapTy_some ht
  split at ha
  ·rename_i i u hf
   obtain ⟨c1,c2⟩ := run_afind hf w
   split at ha
   ·cases ha
    simp [Instr.lookup,run_underlying hu,getObj,hr,Sem.run,c1,c2,Result.andThen,lookRes]
    cases ok <;> rfl
   ·cases ha
  ·rename_i hf
   split at ha
   ·rename_i z hz
    split at ha
    ·cases ha
     obtain ⟨c1,c2⟩ := run_afind hf w
     have c3 := run_azero hz w
     simp [Instr.lookup,run_underlying hu,getObj,hr,Sem.run,c1,c2,c3,Result.andThen,lookRes]
     cases ok <;> rfl
    ·cases ha
   ·cases ha
  ·cases ha
 ·cases ha
def S61 (w0 : World) (n : Nat) (r : Rws) (w : World) : Prop := ∃ (V : Nat → Value) (m : Mp (List UInt8) Bool) (c : Nat),RowsAt w0.heap.size (w0.heap.size + 1) n V r w ∧ w.heap[w0.heap.size]? = some (.map (mE sV Value.bool m).toArray c) ∧
 (∀ p : List UInt8,p.length ≤ n → mGetD false p m = decide (p ∈ r p.length)) ∧ Below w0.heap.size w0 w
theorem enc_ascii {x : UInt8} (h : x.toNat < 128) : Utf8.encode (x.toNat : Int) = ⟨#[x]⟩ := by
 have hv : Utf8.valid (x.toNat : Int) = true := by
  unfold Utf8.valid
  simp
  omega
 unfold Utf8.encode
 simp only [hv,if_true,Int.toNat_natCast]
 rw [if_pos (by omega)]
 simp
theorem add_ascii {p : List UInt8} {x : UInt8} : (⟨p.toArray⟩ : ByteArray) ++ ⟨#[x]⟩ = ⟨(p ++ [x]).toArray⟩ := by
 apply ByteArray.ext
 simp
theorem RowsAt.ne_map {B bo n mb : Nat} {V : Nat → Value} {rows : Nat → List (List UInt8)} {w : World} {es : Array MapEntry} {c : Nat} (h : RowsAt B bo n V rows w) {i : Nat} (hi : i < n + 1) (hm : w.heap[mb]? = some (.map es c)) : (V i).ownBlock ≠ some mb := by
 intro e
 have hi0 : rows i ≠ [] := fun e' => by rw [h.emp i hi e'] at e; cases e
 obtain ⟨c1,f1,a1,b1⟩ := owned_first (h.row i hi) hi0 e
 rw [a1] at hm
 cases hm
theorem S61.iter {w0 : World} {n : Nat} {r : Rws} {w : World} {k pos : Nat} {s : ByteArray} (h : S61 w0 n r w) (hk : w.heap[k]? = some (.stringIter s pos)) (hB : w0.heap.size ≤ k) (pos' : Nat) : S61 w0 n r (w.iterAt k s pos') := by
 obtain ⟨V,m,c,h1,h2,h3,h4⟩ := h
 have hg : w.grownBy (w.iterAt k s pos') (some k) := ⟨rfl,rfl,rfl,by rw [Lib.iterAt_size]; exact Nat.le_refl _,fun j hj hne => Lib.iterAt_other w k j s pos' (fun e => hne (by rw [e]))⟩
 refine ⟨V,m,c,h1.kept hg (fun e => ?_) (fun i hi => ?_), ?_,h3,Lib.below_iterAt h4 hB s pos'⟩
 ·exact h1.out_obj hk (fun _ _ _ e => by cases e) (Option.some.inj e)
 ·cases e1 : (V i).ownBlock with
  | none => exact .inl rfl
  | some g => exact .inr (fun e2 => h1.ne_obj hi hk (fun _ _ _ e => by cases e) (e1.trans e2))
 ·rw [Lib.iterAt_other]
  ·exact h2
  ·rintro rfl
   rw [h2] at hk
   cases hk
theorem mGet_set61 {K V : Type} [DecidableEq K] {c : Nat} {k k' : K} {v : V} : ∀ {l : Mp K V},mGet k (mSet c k' v l) = if k' = k then some v else mGet k l
 | [] => by
  simp only [mSet,mGet]
  by_cases h : k' = k
  ·rw [decide_eq_true h,if_pos h]
  ·rw [decide_eq_false h,if_neg h]
 | e :: l => by
  rw [mSet]
  by_cases h1 : e.1 = k'
  ·rw [decide_eq_true h1]
   simp only [mGet]
   by_cases h : k' = k
   ·rw [decide_eq_true h,if_pos h]
   ·rw [decide_eq_false h,if_neg h,decide_eq_false (show ¬ e.1 = k by rw [h1]; exact h)]
  ·rw [decide_eq_false h1]
   simp only [mGet,mGet_set61 (l := l)]
   by_cases h : k' = k
   ·subst h
    rw [decide_eq_false h1]
   ·rw [if_neg h,if_neg h]
theorem mGetD_set {c : Nat} {k k' : List UInt8} {l : Mp (List UInt8) Bool} : mGetD false k (mSet c k' true l) = if k' = k then true else mGetD false k l := by
 unfold mGetD
 rw [mGet_set61]
 split <;> rfl
def srtT (t : Nat) (r : Rws) : Rws := fun i => if i < t then srt (r i) else r i
theorem srt_len {l : List (List UInt8)} : (srt l).length = l.length := by simp [srt]
theorem srt_mem {l : List (List UInt8)} {p : List UInt8} : p ∈ srt l ↔ p ∈ l := List.mem_mergeSort
theorem srtT_succ {t : Nat} {r : Rws} : (fun i => if i = t then srt (srtT t r t) else srtT t r i) = srtT (t + 1) r := by
 funext i
 unfold srtT
 by_cases e : i = t
 ·subst e
  rw [if_pos rfl,if_neg (Nat.lt_irrefl _),if_pos (Nat.lt_succ_self _)]
 ·rw [if_neg e]
  by_cases e2 : i < t
  ·rw [if_pos e2,if_pos (by omega)]
  ·rw [if_neg e2,if_neg (by omega)]
theorem own_ge {w : World} {B e n : Nat} {v : Value} {xs : List Value} {g : Nat} (h : w.ownsRow B e 1 v n xs) (hg : v.ownBlock = some g) : B ≤ g := by
 rcases h.2 with ⟨e1,_⟩ | ⟨g',cap,cur,rfl,hb,_⟩
 ·rw [e1] at hg; cases hg
 ·cases hg; exact hb
theorem srtT_zero {r : Rws} : srtT 0 r = r := by
 funext i
 unfold srtT
 rw [if_neg (Nat.not_lt_zero _)]
theorem own_some {w : World} {B e n : Nat} {v : Value} {xs : List Value} (h : w.ownsRow B e 1 v n xs) (hn : n ≠ 0) : ∃ g cap cur,v = .slice (some ⟨g,0,none⟩) n cap ∧ B ≤ g ∧ w.heap[g]? = some (.cells cur e (0,0)) ∧ n ≤ cap ∧ cap ≤ maxLen ∧ cur.size = cap * 1 ∧ cur.toList.take (n * 1) = xs := by
 rcases h.2 with ⟨_,e0⟩ | ⟨g,cap,cur,h1⟩
 ·exact absurd e0 hn
 ·exact ⟨g,cap,cur,h1⟩
theorem S61.start {w w1 : World} {n : Nat} {s : ByteArray} (hz1 : w1.heap.size = w.heap.size + 1) (hm1 : w1.heap[w.heap.size]? = some (.map (mE sV Value.bool [([],true,0)]).toArray 1)) (hb1 : Below w.heap.size w w1) :
  S61 w n rows0 (((w1.alloc (.cells ((madeCells #[.slice none 0 0] (n + 1)).setIfInBounds 0 (.slice (some ⟨w.heap.size + 1 + 1,0,none⟩) 1 1)) 36)).alloc (.cells #[.string ⟨#[]⟩] 9)).iter s 0) := by
 obtain ⟨C,hC⟩ : ∃ C,(madeCells #[.slice none 0 0] (n + 1)).setIfInBounds 0 (.slice (some ⟨w.heap.size + 1 + 1,0,none⟩) 1 1) = C := ⟨_,rfl⟩
 have hCs : C.size = n + 1 := by rw [← hC]; simp [size_madeCells]
 have hCi : ∀ i,i < n + 1 → C[i]? = some (if i = 0 then .slice (some ⟨w.heap.size + 2,0,none⟩) 1 1 else .slice none 0 0) := fun i hi => by
  rw [← hC,Array.getElem?_setIfInBounds]
  by_cases e : i = 0
  ·subst e
   rw [if_pos rfl,if_pos (by simp [size_madeCells]),if_pos rfl]
  ·rw [if_neg (fun h => e h.symm),if_neg e]
   simp [madeCells,hi,Nat.mod_one]
 rw [hC]
 have z1 : (w1.alloc (.cells C 36)).heap.size = w.heap.size + 2 := by simp [hz1]
 have z2 : ((w1.alloc (.cells C 36)).alloc (.cells #[.string ⟨#[]⟩] 9)).heap.size = w.heap.size + 3 := by simp [hz1]
 have q0 : (((w1.alloc (.cells C 36)).alloc (.cells #[.string ⟨#[]⟩] 9)).iter s 0).heap[w.heap.size]? = some (.map (mE sV Value.bool [([],true,0)]).toArray 1) := by
  show (((w1.alloc (.cells C 36)).alloc (.cells #[.string ⟨#[]⟩] 9)).alloc (.stringIter s 0)).heap[w.heap.size]? = _
  rw [heap_alloc_old _ _ (by omega),heap_alloc_old _ _ (by omega),heap_alloc_old _ _ (by omega)]
  exact hm1
 have q1 : (((w1.alloc (.cells C 36)).alloc (.cells #[.string ⟨#[]⟩] 9)).iter s 0).heap[w.heap.size + 1]? = some (.cells C 36) := by
  show (((w1.alloc (.cells C 36)).alloc (.cells #[.string ⟨#[]⟩] 9)).alloc (.stringIter s 0)).heap[w.heap.size + 1]? = _
  rw [heap_alloc_old _ _ (by omega),heap_alloc_old _ _ (by omega),← hz1]
  exact heap_alloc_new _ _
 have q2 : (((w1.alloc (.cells C 36)).alloc (.cells #[.string ⟨#[]⟩] 9)).iter s 0).heap[w.heap.size + 2]? = some (.cells #[.string ⟨#[]⟩] 9) := by
  show (((w1.alloc (.cells C 36)).alloc (.cells #[.string ⟨#[]⟩] 9)).alloc (.stringIter s 0)).heap[w.heap.size + 2]? = _
  rw [heap_alloc_old _ _ (by omega),← z1]
  exact heap_alloc_new _ _
 refine ⟨fun i => if i = 0 then .slice (some ⟨w.heap.size + 2,0,none⟩) 1 1 else .slice none 0 0,[([],true,0)],1,⟨⟨C,q1,hCs,hCi⟩,fun i hi => ?_,fun i hi h => ?_,fun i hi p hp => ?_⟩,q0,fun p hp => ?_, ?_⟩
 ·by_cases e : i = 0
  ·subst e
   rw [if_pos rfl]
   exact ⟨rfl,.inr ⟨w.heap.size + 2,1,_,rfl,by omega,q2,Nat.le_refl _,by unfold maxLen; omega,rfl,rfl⟩⟩
  ·have : rows0 i = [] := if_neg e
   rw [this,if_neg e]
   exact ⟨rfl,.inl ⟨rfl,rfl⟩⟩
 ·by_cases e : i = 0
  ·subst e; cases h
  ·exact if_neg e
 ·by_cases e : i = 0
  ·subst e
   rw [List.mem_singleton.1 hp]; rfl
  ·rw [show rows0 i = [] from if_neg e] at hp; cases hp
 ·cases p with
  | nil => rfl
  | cons c p =>
   rw [show rows0 (c :: p).length = [] from if_neg (by simp)]
   simp [mGetD,mGet]
 ·exact ((hb1.alloc (by omega) _).alloc (by omega) _).alloc (by omega) _
theorem hid61 {p : Prop} (h : p) : Hid p := h
theorem all_calls (s : ByteArray) (w : World) (hs : s.size ≤ 10) (ha : ∀ x ∈ s.data.toList,x.toNat < 128) :
  Calls Try.prog 61 #[.string s] w fun e w' => ∃ V,e = .returned (.slice (some ⟨w.heap.size + 1,0,none⟩) (s.size + 1) (s.size + 1)) ∧ Below w.heap.size w w' ∧ RowsAt w.heap.size (w.heap.size + 1) s.size V (srtT (s.size + 1) (allR s.size s.data.toList)) w' := by
 have mixed : Try.prog.follows .mixedOrders = true := by kernel_rfl
 have hmm := fun w => run_makeMap (P := Try.prog) 102 w
 have mty : mapTy Try.prog 102 = some (9,4) := by kernel_rfl
 have kty : KeyT Try.prog 9 sV := key_str Try.underlying9
 have hins : (Instr.mapUpdate 102 (.map (some w.heap.size)) (.string ⟨#[]⟩) (.bool true)).run Try.prog (w.alloc (.map #[] 0)) = .ok () (itSet (w.alloc (.map #[] 0)) w.heap.size (.map (mE sV Value.bool [([],true,0)]).toArray 1)) :=
  aupd_run (es := mE sV Value.bool []) (c := 0) (heap_alloc_new w _) (upd_m (kf := sV) (vf := Value.bool) (l := []) (k := []) (v := true) (c := 0) mty kty)
 have hmk := fun n => run_make_row' (P := Try.prog) 79 36 (.slice none 0 0) 24 Try.underlying79 (by kernel_rfl) rfl .i64 .i64 n
 have hmk1 : ∀ w,(Instr.makeSlice 79 (.int .i64 ((s.size : Int) + 1)) (.int .i64 ((s.size : Int) + 1))).run Try.prog w = .ok (.slice (some ⟨w.heap.size,0,none⟩) (s.size + 1) (s.size + 1)) (w.alloc (.cells (madeCells #[.slice none 0 0] (s.size + 1)) 36)) := fun w => by
  have := hmk (s.size + 1) (by omega) (by omega) w
  rwa [show ((s.size + 1 : Nat) : Int) = (s.size : Int) + 1 by omega] at this
 clear hmk
 obtain ⟨w1,hw1⟩ : ∃ w1,itSet (w.alloc (.map #[] 0)) w.heap.size (.map (mE sV Value.bool [([],true,0)]).toArray 1) = w1 := ⟨_,rfl⟩
 have hz1 : w1.heap.size = w.heap.size + 1 := by rw [← hw1]; simp [itSet]
 have hm1 : w1.heap[w.heap.size]? = some (.map (mE sV Value.bool [([],true,0)]).toArray 1) := by
  rw [← hw1]
  simp [itSet]
 have hb1 : Below w.heap.size w w1 := by
  rw [← hw1]
  refine ⟨rfl,rfl,rfl,by simp [itSet],fun k hk => ?_⟩
  simp only [itSet]
  rw [Array.getElem?_setIfInBounds,if_neg (by omega)]
  exact heap_alloc_old _ _ hk
 rw [hw1] at hins
 clear hw1
 have hrow := (World.rowIs_made w1 (.slice none 0 0) (s.size + 1) 36).alloc (.cells #[.string ⟨#[]⟩] 9)
 rw [hz1] at hrow
 have hcell0 := hrow.cell (i := 0) (by omega)
 have hfr0 := hrow.frozen 0
 go_enter Try.func61,Try.ntmps61
 go_wp2_with fail
 go_loopg [] s.size (fun gk wx => ∃ pos : Nat,S61 w s.size (allR s.size (s.data.toList.take pos)) wx ∧ wx.heap[w.heap.size + 3]? = some (.stringIter s pos) ∧ s.size ≤ pos + gk ∧ pos ≤ s.size)
 case atStart =>
  refine ⟨0, ?_, ?_,by omega,by omega⟩
  ·exact S61.start hz1 hm1 hb1
  ·have z2 : ((w1.alloc (.cells ((madeCells #[.slice none 0 0] (s.size + 1)).setIfInBounds 0 (.slice (some ⟨w.heap.size + 1 + 1,0,none⟩) 1 1)) 36)).alloc (.cells #[.string ⟨#[]⟩] 9)).heap.size = w.heap.size + 3 := by simp [hz1]
   rw [← z2]
   exact heap_alloc_new _ _
 case round =>
  obtain ⟨pos,hS,hit,hfu,hps⟩ := hrel
  by_cases hlt : pos < s.size
  ·obtain ⟨g',rfl⟩ : ∃ g',gk = g' + 1 := ⟨gk - 1,by omega⟩
   obtain ⟨x,hxe⟩ : ∃ x,s[pos]'hlt = x := ⟨_,rfl⟩
   have hlen : s.data.toList.length = s.size := by simp
   have hxl : s.data.toList[pos]? = some x := by
    rw [List.getElem?_eq_getElem (by rw [hlen]; exact hlt),← hxe]
    rfl
   have hx1 : x.toNat < 128 := ha x (List.mem_of_getElem? hxl)
   have hnx : ∀ ty,(Instr.next (.pointer (some ⟨w.heap.size + 3,0,none⟩)) true ty).run Try.prog wr = _ := fun ty => Lib.run_next_ascii_at wr (w.heap.size + 3) s pos ty hit hlt (by rw [hxe]; exact hx1)
   rw [hxe] at hnx
   obtain ⟨W,hWd⟩ : ∃ W,wr.iterAt (w.heap.size + 3) s (pos + 1) = W := ⟨_,rfl⟩
   have hS2 : S61 w s.size (allR s.size (s.data.toList.take pos)) W := by rw [← hWd]; exact hS.iter hit (by omega) _
   have hit2 : W.heap[w.heap.size + 3]? = some (.stringIter s (pos + 1)) := by rw [← hWd]; exact Lib.iterAt_heap wr _ s pos _ hit
   rw [hWd] at hnx
   have HS := hid61 hS2
   clear hS hS2 hit hWd
   obtain ⟨R,hR⟩ : ∃ R,allR s.size (s.data.toList.take pos) = R := ⟨_,rfl⟩
   have hRb : ∀ i,(R i).length ≤ 1024 := fun i => by
    have h1 := @allR_bound s.size (s.data.toList.take pos) i
    rw [hR] at h1
    have h2 : 2 ^ (s.data.toList.take pos).length ≤ 2 ^ 10 := Nat.pow_le_pow_right (by decide) (by rw [List.length_take]; omega)
    exact Nat.le_trans h1 h2
   have HRb := hid61 hRb
   clear hRb
   rw [hR] at HS
   go_wp2_with fail
   go_loopg [7] s.size (fun gk2 s7 wx => ∃ (d : Nat) (cur : Rws),s7 = .int .i64 d ∧ d ≤ s.size ∧ d ≤ gk2 ∧ S61 w s.size cur wx ∧ rowsD x cur d d = rowsD x R s.size s.size ∧ (∀ i,i ≤ d → cur i = R i) ∧ wx.heap[w.heap.size + 3]? = some (.stringIter s (pos + 1)))
   case atStart => exact ⟨s.size,R,rfl,Nat.le_refl _,Nat.le_refl _,HS.out,rfl,fun _ _ => rfl,hit2⟩
   case round =>
    obtain ⟨d,cur,rfl,hd,hdg,hS,hcur,hold,hit⟩ := hrel
    have Hold := hid61 hold
    clear hold
    cases d with
    | zero =>
     have HS3 := hid61 hS
     have Hcur := hid61 hcur
     clear hS hcur HS
     go_wp2_with fail
     go_roundg g'
     case measure => omega
     case rel =>
      refine ⟨pos + 1, ?_,hit,by omega,by omega⟩
      have h1 : allR s.size (s.data.toList.take (pos + 1)) = rowsD x R s.size s.size := by
       rw [List.take_add_one,hxl,← hR]
       simp [allR,List.foldl_append]
      rw [h1,← Hcur.out]
      exact HS3.out
    | succ d =>
     obtain ⟨g2,rfl⟩ : ∃ g2,gk = g2 + 1 := ⟨gk - 1,by omega⟩
     obtain ⟨V,m,c,hR1,hM1,hmet,hbel⟩ := hS
     have hcellV := hR1.out.cell (i := d) (by omega)
     have hVd := hR1.row d (by omega)
     obtain ⟨ao,cap,hVf⟩ : ∃ ao cap,V d = .slice ao (cur d).length cap := by
      rcases hVd.2 with ⟨e1,e2⟩ | ⟨g,cap,_,e1,_⟩
      ·exact ⟨none,0,by rw [e1,e2]⟩
      ·exact ⟨_,_,e1⟩
     rw [hVf] at hcellV
     have e1 : ((d + 1 : Nat) : Int) - 1 = (d : Int) := by omega
     go_wp2_with fail
     go_loopg [38] (cur d).length (fun gk3 s38 wx => ∃ (j : Nat) (V : Nat → Value) (m : Mp (List UInt8) Bool) (c : Nat),s38 = .int .i64 j ∧ j ≤ (cur d).length ∧ (cur d).length ≤ j + gk3 ∧ V d = .slice ao (cur d).length cap ∧
      RowsAt w.heap.size (w.heap.size + 1) s.size V (rowJ x (d + 1) cur j) wx ∧ wx.heap[w.heap.size]? = some (.map (mE sV Value.bool m).toArray c) ∧
      (∀ p : List UInt8,p.length ≤ s.size → mGetD false p m = decide (p ∈ rowJ x (d + 1) cur j p.length)) ∧ Below w.heap.size w wx ∧ wx.heap[w.heap.size + 3]? = some (.stringIter s (pos + 1)))
     case atStart => exact ⟨0,V,m,c,rfl,Nat.zero_le _,by omega,hVf,hR1,hM1,hmet,hbel,hit⟩
     case round =>
      clear hR1 hM1 hmet hbel hVf hVd hcellV hit
      obtain ⟨j,V,m,c,rfl,hj,hjg,hVf,hR1,hM1,hmet,hbel,hit⟩ := hrel
      by_cases hjl : j < (cur d).length
      ·obtain ⟨g3,rfl⟩ : ∃ g3,gk = g3 + 1 := ⟨gk - 1,by omega⟩
       have hrd : rowJ x (d + 1) cur j d = cur d := rowJ_at (by omega)
       have hown := hR1.row d (by omega)
       rw [hrd,hVf] at hown
       obtain ⟨g,rfl⟩ : ∃ g,ao = some ⟨g,0,none⟩ := by
        rcases hown.2 with ⟨e1,e2⟩ | ⟨g,cap',_,e1,_⟩
        ·omega
        ·injection e1 with e1; exact ⟨g,e1⟩
       have hjm : (cur d).length ≤ 9223372036854775807 := by
        rcases hown.2 with ⟨e1,e2⟩ | ⟨_,cap',_,e1,_,_,h1,h2,_⟩
        ·omega
        ·unfold maxLen at h2; omega
       obtain ⟨p,hp⟩ : ∃ p,(cur d)[j]? = some p := ⟨_,List.getElem?_eq_getElem hjl⟩
       have hcellp : wr.cell? ⟨g,j,none⟩ = some (.string ⟨p.toArray⟩) := by
        rw [hown.cellAt j (by omega),List.getElem?_map,hp]
        rfl
       have hcellV := hR1.out.cell (i := d + 1) (by omega)
       have HR1 := hid61 hR1
       have Hmet := hid61 hmet
       have Hown := hid61 hown
       have Hcur := hid61 hcur
       have henc := enc_ascii hx1
       have hadd : (⟨p.toArray⟩ : ByteArray) ++ ⟨#[x]⟩ = ⟨(p ++ [x]).toArray⟩ := add_ascii
       have hplen : p.length = d := by
        have h := hR1.len d (by omega)
        rw [hrd] at h
        exact h p (List.mem_of_getElem? hp)
       have hpx : (p ++ [x]).length = d + 1 := by simp [hplen]
       have hlook : (Instr.lookup 102 (.map (some w.heap.size)) (.string ⟨(p ++ [x]).toArray⟩) false).run Try.prog wr = .ok (.bool (mGetD false (p ++ [x]) m)) wr :=
        alook_run hM1 (look_m (kf := sV) (vf := Value.bool) (l := m) (k := p ++ [x]) (d := false) mty kty (by kernel_rfl) (fun _ => rfl) (ok := false))
       have HM1 := hid61 hM1
       have Hp := hid61 hp
       clear hR1 hmet hown hcur HS hR hxl hrow hcell0 hfr0 hM1 hp hm1 hins hmm hmk1
       have hpl63 : ¬ (9223372036854775807 < p.length + 1) := by omega
       have hsucc : rowJ x (d + 1) cur (j + 1) = addR (d + 1) (rowJ x (d + 1) cur j) (p ++ [x]) := rowJ_succ (by simpa using Hp.out)
       have Hsucc := hid61 hsucc
       clear hsucc
       cases hmt : mGetD false (p ++ [x]) m with
       | true =>
        rw [hmt] at hlook
        have hmem : p ++ [x] ∈ rowJ x (d + 1) cur j (d + 1) := by
         have h := Hmet.out (p ++ [x]) (by omega)
         rw [hmt,hpx] at h
         exact of_decide_eq_true h.symm
        have hsame : rowJ x (d + 1) cur (j + 1) = rowJ x (d + 1) cur j := by
         rw [Hsucc.out]
         unfold addR
         rw [if_pos hmem]
        have Hsame := hid61 hsame
        clear hsame hmem
        go_wp2_with fail
        go_roundg g3
        case measure => omega
        case rel => exact ⟨j + 1,V,m,c,by rw [show ((j + 1 : Nat) : Int) = (j : Int) + 1 by omega],by omega,by omega,hVf,by rw [Hsame.out]; exact HR1.out,HM1.out,by rw [Hsame.out]; exact Hmet.out,hbel,hit⟩
       | false =>
        rw [hmt] at hlook
        have hnew : p ++ [x] ∉ rowJ x (d + 1) cur j (d + 1) := by
         have h := Hmet.out (p ++ [x]) (by omega)
         rw [hmt,hpx] at h
         exact of_decide_eq_false h.symm
        have hupd : (Instr.mapUpdate 102 (.map (some w.heap.size)) (.string ⟨(p ++ [x]).toArray⟩) (.bool true)).run Try.prog wr = .ok () (itSet wr w.heap.size (.map (mE sV Value.bool (mSet c (p ++ [x]) true m)).toArray (mClk c (p ++ [x]) m))) :=
         aupd_run HM1.out (upd_m (kf := sV) (vf := Value.bool) (l := m) (k := p ++ [x]) (v := true) (c := c) mty kty)
        obtain ⟨wu,hwu⟩ : ∃ wu,itSet wr w.heap.size (.map (mE sV Value.bool (mSet c (p ++ [x]) true m)).toArray (mClk c (p ++ [x]) m)) = wu := ⟨_,rfl⟩
        rw [hwu] at hupd
        have hlt0 : w.heap.size < wr.heap.size := (Array.getElem?_eq_some_iff.1 HM1.out).1
        have hgu : wr.grownBy wu (some w.heap.size) := by
         rw [← hwu]
         refine ⟨rfl,rfl,rfl,by simp [itSet],fun k hk hne => ?_⟩
         simp only [itSet]
         rw [Array.getElem?_setIfInBounds,if_neg (fun e => hne (by rw [e]))]
        have hmu : wu.heap[w.heap.size]? = some (.map (mE sV Value.bool (mSet c (p ++ [x]) true m)).toArray (mClk c (p ++ [x]) m)) := by
         rw [← hwu]
         simp [itSet,hlt0]
        have hRu : RowsAt w.heap.size (w.heap.size + 1) s.size V (rowJ x (d + 1) cur j) wu := HR1.out.kept hgu (by simp) (fun i hi => by
         cases e1 : (V i).ownBlock with
         | none => exact .inl rfl
         | some g' => exact .inr (fun e2 => HR1.out.ne_map hi HM1.out (e1.trans e2)))
        have hitu : wu.heap[w.heap.size + 3]? = some (.stringIter s (pos + 1)) := by
         rw [hgu.block _ (Array.getElem?_eq_some_iff.1 hit).1 (by simp)]
         exact hit
        have hbu : Below w.heap.size w wu := hbel.grown hgu (by omega) (fun k hk => by injection hk with hk; omega)
        have hcu := hRu.out.cell (i := d + 1) (by omega)
        have HRu := hid61 hRu
        have Hmu := hid61 hmu
        have Hgu := hid61 hgu
        clear hwu hgu hmu hRu hcellV
        obtain ⟨i0,hi0,hz0,hz1',hz2⟩ := info_parts (show (Try.prog.info? 9).map (fun i => (i.zero,i.size,i.bytes)) = some (some (.string ⟨#[]⟩),1,16) by kernel_rfl)
        have hrk := (HRu.out.row (d + 1) (by omega)).alloc (.cells #[.string ⟨(p ++ [x]).toArray⟩] 9)
        have Hrk := hid61 hrk
        clear hrk
        have hlk : (rowJ x (d + 1) cur j (d + 1)).length ≤ 2048 := by
         have h1 := @rowJ_len x (d + 1) (d + 1) cur j
         have h2 := HRb.out (d + 1)
         have h3 := HRb.out d
         rw [Hold.out (d + 1) (Nat.le_refl _)] at h1
         rw [Hold.out d (by omega)] at hj
         omega
        go_wp2_with (at_builtin; refine wpList_append_own _ rfl _ _ 36 rfl w.heap.size 9 i0 (.string ⟨#[]⟩) 1 16 Try.underlying36 hi0 hz0 hz1' hz2 rfl (by decide) (V (d + 1)) _ _ rfl Hrk.out ⟨wu.heap.size,0,none⟩ 1 1 [.string ⟨(p ++ [x]).toArray⟩] rfl rfl ?c1 ?c2 ?c3 ?c4 ?c5 ?_)
        case c1 => exact cell_one_new _ _ _
        case c2 => exact fun u hu => by rw [List.mem_singleton.1 hu]; rfl
        case c3 => unfold maxLen; omega
        case c4 => omega
        case c5 => exact Nat.le_trans hbu.size (by simp)
        rintro v4 w4 hown4 hg4 -
        obtain ⟨g4,cap4,rfl⟩ : ∃ g4 cap4,v4 = .slice (some ⟨g4,0,none⟩) ((rowJ x (d + 1) cur j (d + 1)).length + 1) cap4 := by
         rcases hown4.2 with ⟨_,e2⟩ | ⟨g4,cap4,cur4,e1,_⟩
         ·omega
         ·exact ⟨g4,cap4,e1⟩
        have hRa := HRu.out.alloc (.cells #[.string ⟨(p ++ [x]).toArray⟩] 9)
        have hrow4 : w4.rowIs (w.heap.size + 1) 36 (s.size + 1) V := hRa.out.of_block (hg4.block _ hRa.out.lt (fun e => hRa.ne_out (by omega) e.symm))
        have hcell4 := hrow4.cell (i := d + 1) (by omega)
        have hfr4 := hrow4.frozen (d + 1)
        have hR4 := hRa.push (k := d + 1) (by omega) hpx hg4 hown4
        have hlt1 : w.heap.size < wu.heap.size := (Array.getElem?_eq_some_iff.1 Hmu.out).1
        have hlt2 : w.heap.size + 3 < wu.heap.size := (Array.getElem?_eq_some_iff.1 hitu).1
        have hm4 : (w4.setCell ⟨w.heap.size + 1,d + 1,none⟩ (.slice (some ⟨g4,0,none⟩) ((rowJ x (d + 1) cur j (d + 1)).length + 1) cap4)).heap[w.heap.size]? = some (.map (mE sV Value.bool (mSet c (p ++ [x]) true m)).toArray (mClk c (p ++ [x]) m)) := by
         rw [Deep.blk_setCell_other _ _ _ _ (by show w.heap.size ≠ w.heap.size + 1; omega),hg4.block _ (by simp; omega) (fun e => HRu.out.ne_obj (by omega) Hmu.out (fun _ _ _ e => by cases e) e.symm),heap_alloc_old _ _ hlt1]
         exact Hmu.out
        have hit4 : (w4.setCell ⟨w.heap.size + 1,d + 1,none⟩ (.slice (some ⟨g4,0,none⟩) ((rowJ x (d + 1) cur j (d + 1)).length + 1) cap4)).heap[w.heap.size + 3]? = some (.stringIter s (pos + 1)) := by
         rw [Deep.blk_setCell_other _ _ _ _ (by show w.heap.size + 3 ≠ w.heap.size + 1; omega),hg4.block _ (by simp; omega) (fun e => HRu.out.ne_obj (by omega) hitu (fun _ _ _ e => by cases e) e.symm),heap_alloc_old _ _ hlt2]
         exact hitu
        have hb4 : Below w.heap.size w (w4.setCell ⟨w.heap.size + 1,d + 1,none⟩ (.slice (some ⟨g4,0,none⟩) ((rowJ x (d + 1) cur j (d + 1)).length + 1) cap4)) :=
         ((hbu.alloc (by omega) _).grown hg4 (by simp; omega) (fun k hk => own_ge (HRu.out.row (d + 1) (by omega)) hk)).setCell (by show w.heap.size ≤ w.heap.size + 1; omega) _
        have hmet4 : ∀ q : List UInt8,q.length ≤ s.size → mGetD false q (mSet c (p ++ [x]) true m) = decide (q ∈ rowJ x (d + 1) cur (j + 1) q.length) := by
         intro q hq
         rw [mGetD_set,Hsucc.out]
         by_cases e : p ++ [x] = q
         ·rw [if_pos e]
          exact (decide_eq_true (addR_mem.2 (.inr ⟨by rw [← e]; exact hpx,e.symm⟩))).symm
         ·rw [if_neg e,Hmet.out q hq]
          exact decide_eq_decide.2 ⟨fun h => addR_mem.2 (.inl h),fun h => (addR_mem.1 h).elim id fun h => absurd h.2.symm e⟩
        have hrows : (fun i => if i = d + 1 then rowJ x (d + 1) cur j (d + 1) ++ [p ++ [x]] else rowJ x (d + 1) cur j i) = rowJ x (d + 1) cur (j + 1) := by
         rw [Hsucc.out]
         unfold addR
         rw [if_neg hnew]
        rw [hrows] at hR4
        have HR4 := hid61 hR4
        have Hm4 := hid61 hm4
        have Hit4 := hid61 hit4
        have Hb4 := hid61 hb4
        have Hmet4 := hid61 hmet4
        clear hR4 hm4 hit4 hb4 hmet4 hrows hown4 hg4 hRa hrow4 hcu hitu
        have hjw : ((j + 1 : Nat) : Int) = (j : Int) + 1 := by omega
        go_wp2_with fail
        go_roundg g3
        case measure => omega
        case rel => exact ⟨j + 1,_,_,_,by first | rfl | rw [hjw],by omega,by omega,by rw [if_neg (by omega)]; exact hVf,HR4.out,Hm4.out,Hmet4.out,Hb4.out,Hit4.out⟩
      ·obtain rfl : j = (cur d).length := by omega
       have HS5 : Hid (S61 w s.size (rowK x (d + 1) cur) wr) := ⟨V,m,c,hR1,hM1,hmet,hbel⟩
       have Hcur := hid61 hcur
       clear hR1 hM1 hmet hbel hcur
       go_wp2_with fail
       go_roundg g2
       case measure => omega
       case rel => exact ⟨d,rowK x (d + 1) cur,by first | rfl | (congr 1; omega),by omega,by omega,HS5.out,Hcur.out,fun i hi => (rowK_at (by omega)).trans (Hold.out i (by omega)),hit⟩
  ·obtain rfl : pos = s.size := by omega
   have htk : s.data.toList.take s.size = s.data.toList := List.take_of_length_le (by simp)
   rw [htk] at hS
   have hnx : ∀ ty,(Instr.next (.pointer (some ⟨w.heap.size + 3,0,none⟩)) true ty).run Try.prog wr = .ok (.tuple #[.bool false]) wr := fun ty => Lib.run_next_end_at wr (w.heap.size + 3) s s.size ty hit (Nat.lt_irrefl _)
   obtain ⟨V,m,c,hR1,hM1,hmet,hbel⟩ := hS
   obtain ⟨hnd,hin⟩ := @allR_mem s.size s.data.toList (by simp)
   have hne0 : ∀ i,i < s.size + 1 → allR s.size s.data.toList i ≠ [] := fun i hi e => by
    have h := (hin i (s.data.toList.take i)).2 ⟨List.take_sublist _ _,by rw [List.length_take]; simp; omega⟩
    rw [e] at h
    cases h
   have hbd : ∀ i,(allR s.size s.data.toList i).length ≤ 1024 := fun i => by
    have h1 := @allR_bound s.size s.data.toList i
    have h2 : 2 ^ s.data.toList.length ≤ 2 ^ 10 := Nat.pow_le_pow_right (by decide) (by simp; omega)
    exact Nat.le_trans h1 h2
   obtain ⟨R,hR⟩ : ∃ R,allR s.size s.data.toList = R := ⟨_,rfl⟩
   rw [hR] at hR1 hne0 hbd
   have hgoal : ∀ (e : Ending) (w' : World),(∃ V,e = .returned (.slice (some ⟨w.heap.size + 1,0,none⟩) (s.size + 1) (s.size + 1)) ∧ Below w.heap.size w w' ∧ RowsAt w.heap.size (w.heap.size + 1) s.size V (srtT (s.size + 1) R) w') → (∃ V,e = .returned (.slice (some ⟨w.heap.size + 1,0,none⟩) (s.size + 1) (s.size + 1)) ∧ Below w.heap.size w w' ∧ RowsAt w.heap.size (w.heap.size + 1) s.size V (srtT (s.size + 1) (allR s.size s.data.toList)) w') := fun e w' h => by rw [hR]; exact h
   have Hgoal := hid61 hgoal
   have HR1 := hid61 hR1
   have Hb1 := hid61 hbel
   have Hne := hid61 hne0
   have Hbd := hid61 hbd
   clear hR1 hM1 hmet hbel hit hnd hin hne0 hbd hR hgoal htk hrow hcell0 hfr0 hm1 hins hmm hmk1 hb1 hz1 mty kty
   go_wp2_with fail
   go_loopg [65] (s.size + 1) (fun gk2 s65 wx => ∃ t : Nat,s65 = .int .i64 t ∧ t ≤ s.size + 1 ∧ s.size + 1 ≤ t + gk2 ∧ RowsAt w.heap.size (w.heap.size + 1) s.size V (srtT t R) wx ∧ Below w.heap.size w wx)
   case atStart => exact ⟨0,rfl,by omega,by omega,srtT_zero ▸ HR1.out,Hb1.out⟩
   case round =>
    obtain ⟨t,rfl,ht,htg,hRt,hbt⟩ := hrel
    by_cases hlt2 : t < s.size + 1
    ·obtain ⟨g2,rfl⟩ : ∃ g2,gk = g2 + 1 := ⟨gk - 1,by omega⟩
     have hcell := hRt.out.cell hlt2
     have hrt : srtT t R t = R t := by unfold srtT; rw [if_neg (Nat.lt_irrefl _)]
     have hn0 : (srtT t R t).length ≠ 0 := by rw [hrt]; exact fun e => Hne.out t hlt2 (List.length_eq_zero_iff.1 e)
     obtain ⟨g,cap,cur,hVt,hBg,hbg,hn1,hn2,hn3,hn4⟩ := own_some (hRt.row t hlt2) hn0
     have hH := holds_of_block hbg (by simpa using hn4)
     have hgl : g < wr.heap.size := (Array.getElem?_eq_some_iff.1 hbg).1
     have hsz : (srtT t R t).length < 4611686018427387904 := by rw [hrt]; have := Hbd.out t; omega
     have hcon := Try.slices_Sort_string g 0 cap (srtT t R t) wr hH hgl hsz
     have hredo : ∀ q os,RowsAt w.heap.size (w.heap.size + 1) s.size V (srtT (t + 1) R) (Sort.grow (Sort.putRow encStr (Sort.ahead wr q) g 0 (srt (srtT t R t)).toArray) os) ∧ Below w.heap.size w (Sort.grow (Sort.putRow encStr (Sort.ahead wr q) g 0 (srt (srtT t R t)).toArray) os) := fun q os => by
      have hg := @grownBy_sorted wr g q os (srt (srtT t R t)).toArray
      have ho := @ownsRow_sorted wr w.heap.size g cap q 9 os cur (srtT t R t) (srt (srtT t R t)) srt_len hBg hbg hn1 hn2 hn3
      rw [← hVt] at ho
      refine ⟨?_,hbt.grown hg (by omega) (fun k hk => by cases hk; exact hBg)⟩
      rw [← srtT_succ]
      refine hRt.redo hlt2 srt_len (fun p hp => hRt.len t hlt2 p (srt_mem.1 hp)) (fun e => hn0 (by rw [e]; rfl)) ?_ (by rw [srt_len]; exact ho)
      rw [hVt]
      exact hg
     rw [hVt] at hcell
     have Hcon := hid61 hcon
     have Hredo := hid61 hredo
     clear hcon hredo hH hbg hVt hrt hn0 hsz hn1 hn2 hn3 hn4 hRt hbt
     go_wp2_with fail
     refine Hcon.out.mono ?_
     rintro e w3 ⟨rfl,q,os,rfl⟩
     obtain ⟨hR3,hb3⟩ := Hredo.out q os
     change RowsAt w.heap.size (w.heap.size + 1) s.size V (srtT (t + 1) R) (Sort.grow (Sort.putRow encStr (Sort.ahead wr q) g 0 ((srtT t R t).mergeSort fun x y => decide (x ≤ y)).toArray) os) at hR3
     change Below w.heap.size w (Sort.grow (Sort.putRow encStr (Sort.ahead wr q) g 0 ((srtT t R t).mergeSort fun x y => decide (x ≤ y)).toArray) os) at hb3
     clear Hcon Hredo
     generalize Sort.grow (Sort.putRow encStr (Sort.ahead wr q) g 0 ((srtT t R t).mergeSort fun x y => decide (x ≤ y)).toArray) os = w3 at hR3 hb3 ⊢
     have HR3 := hid61 hR3
     have Hb3 := hid61 hb3
     clear hR3 hb3
     have htw : ((t + 1 : Nat) : Int) = (t : Int) + 1 := by omega
     go_wp2_with fail
     go_roundg g2
     case measure => omega
     case rel => exact ⟨t + 1,by first | rfl | rw [htw],by omega,by omega,HR3.out,Hb3.out⟩
    ·obtain rfl : t = s.size + 1 := by omega
     have HRt := hid61 hRt
     have Hbt := hid61 hbt
     clear hRt hbt
     go_wp2_with fail
     go_ret
     exact Hgoal.out _ _ ⟨V,rfl,Hbt.out,HRt.out⟩
end Go.Proofs.Ytmnmfmghmenkkaa
set_option linter.unusedSimpArgs false
set_option linter.unusedVariables false
namespace Go.Proofs.Ytmnmfmghmenkkaa
open Go.RowKit Go.Abs Go.Pur
set_option maxRecDepth 1000000
set_option maxHeartbeats 8000000
theorem hid52 {p : Prop} (h : p) : Hid p := h
theorem srt_perm {l m : List (List UInt8)} (h : l.Perm m) : srt l = srt m := by
 have hs : ∀ l : List (List UInt8),(srt l).Pairwise (fun a b => decide (a ≤ b) = true) := fun l =>
  List.pairwise_mergeSort (le := fun (x y : List UInt8) => decide (x ≤ y)) (fun a b c h1 h2 => by
   simp only [decide_eq_true_eq] at *
   exact List.le_trans h1 h2) (fun a b => by
   simp only [Bool.or_eq_true,decide_eq_true_eq]
   exact List.le_total a b) l
 refine List.Perm.eq_of_pairwise (le := fun a b => decide (a ≤ b) = true) (fun a b _ _ h1 h2 => ?_) (hs l) (hs m) ?_
 ·simp only [decide_eq_true_eq] at h1 h2
  exact List.le_antisymm h1 h2
 ·exact ((List.mergeSort_perm _ _).trans h).trans (List.mergeSort_perm _ _).symm
theorem own_ne {w : World} {B e n : Nat} {v : Value} {xs : List Value} (h : w.ownsRow B e 1 v n xs) {g : Nat} {o : Obj} (hm : w.heap[g]? = some o) (ho : ∀ c t fr,o ≠ .cells c t fr) : v.ownBlock = none ∨ v.ownBlock ≠ some g := by
 rcases h.2 with ⟨rfl,_⟩ | ⟨g',cap,cur,rfl,_,hb,_⟩
 ·exact .inl rfl
 ·refine .inr fun e => ?_
  cases e
  rw [hb] at hm
  exact ho _ _ _ (Option.some.inj hm).symm
theorem own_ge52 {w : World} {B e n : Nat} {v : Value} {xs : List Value} {g : Nat} (h : w.ownsRow B e 1 v n xs) (hg : v.ownBlock = some g) : B ≤ g := by
 rcases h.2 with ⟨e1,_⟩ | ⟨g',cap,cur,rfl,hb,_⟩
 ·rw [e1] at hg; cases hg
 ·cases hg; exact hb
theorem own_some52 {w : World} {B e n : Nat} {v : Value} {xs : List Value} (h : w.ownsRow B e 1 v n xs) (hn : n ≠ 0) : ∃ g cap cur,v = .slice (some ⟨g,0,none⟩) n cap ∧ B ≤ g ∧ w.heap[g]? = some (.cells cur e (0,0)) ∧ n ≤ cap ∧ cap ≤ maxLen ∧ cur.size = cap * 1 ∧ cur.toList.take (n * 1) = xs := by
 rcases h.2 with ⟨_,e0⟩ | ⟨g,cap,cur,h1⟩
 ·exact absurd e0 hn
 ·exact ⟨g,cap,cur,h1⟩
def C52 (w0 : World) (bm c n : Nat) (es : List MapEntry) (v : Value) (seen : Array Nat) (S : List (List UInt8)) (w : World) : Prop :=
 ∃ c0,w.heap[w0.heap.size]? = some (.mapIter (some bm) c seen c0) ∧ c ≤ c0 ∧ w.heap[bm]? = some (.map es.toArray c) ∧ w.ownsRow w0.heap.size 9 1 v S.length (S.map encStr) ∧ S.Nodup ∧ S.length ≤ 4096 ∧
  (∀ k,k ∈ S ↔ ∃ e ∈ es,e.key = strV k ∧ k.length = n ∧ seen.contains e.born = true) ∧ Below w0.heap.size w0 w
theorem ofSize_calls (bm : Nat) (es : List MapEntry) (c n : Nat) (ks : List (List UInt8)) (w : World) (hw : w.heap[bm]? = some (.map es.toArray c)) (hk : es.map (·.key) = ks.map strV) (hlen : es.length ≤ 4096)
  (hb : ∀ e ∈ es,e.born < c) (hnb : (es.map (·.born)).Nodup) (hnk : ks.Nodup) (hne : (ks.filter fun k => decide (k.length = n)) ≠ []) :
  Calls Try.prog 52 #[.map (some bm),.int .i64 n] w fun e w' => ∃ v,e = .returned v ∧ Below w.heap.size w w' ∧ w'.ownsRow w.heap.size 9 1 v (srt (ks.filter fun k => decide (k.length = n))).length ((srt (ks.filter fun k => decide (k.length = n))).map encStr) := by
 have mixed : Try.prog.follows .mixedOrders = true := by kernel_rfl
 have hbl : bm < w.heap.size := (Array.getElem?_eq_some_iff.1 hw).1
 have hrg := run_range_map (P := Try.prog) w 58 9 3 bm es.toArray c Try.underlying58 hw
 obtain ⟨w1,hw1⟩ : ∃ w1,w.alloc (.mapIter (some bm) c #[] c) = w1 := ⟨_,rfl⟩
 have h0 : C52 w bm c n es (.slice none 0 0) #[] [] w1 := by
  refine ⟨c,by rw [← hw1]; exact heap_alloc_new _ _,Nat.le_refl _,by rw [← hw1,heap_alloc_old _ _ hbl]; exact hw,⟨rfl,.inl ⟨rfl,rfl⟩⟩,List.nodup_nil,by simp,fun k => ?_,by rw [← hw1]; exact (Below.refl _ _).alloc (Nat.le_refl _) _⟩
  simp
 rw [hw1] at hrg
 have H0 := hid52 h0
 have Hne := hid52 hne
 have Hk := hid52 hk
 have Hnk := hid52 hnk
 have Hb := hid52 hb
 have Hnb := hid52 hnb
 have Hlen := hid52 hlen
 clear h0 hne hk hnk hb hnb hw hw1 hlen
 have hkey : ∀ e ∈ es,∃ k ∈ ks,e.key = strV k := fun e he => by
  have h := List.mem_map_of_mem (f := (·.key)) he
  rw [Hk.out] at h
  obtain ⟨k,hk,e1⟩ := List.mem_map.1 h
  exact ⟨k,hk,e1.symm⟩
 have hinj : ∀ (a b : List UInt8),strV a = strV b → a = b := fun a b h => by
  unfold strV at h
  injection h with h
  injection h with h
  exact List.toArray_inj h
 have hnkey : (es.map (·.key)).Nodup := by
  rw [Hk.out]
  unfold List.Nodup
  rw [List.pairwise_map]
  exact Hnk.out.imp fun h e => h (hinj _ _ e)
 have Hkey := hid52 hkey
 have Hnkey := hid52 hnkey
 have Hinj := hid52 hinj
 clear hkey hnkey hinj
 go_enter Try.func52,Try.ntmps52
 go_wp2_with fail
 go_loopg [5] (es.length + 1) (fun gk s5 wx => ∃ (seen : Array Nat) (S : List (List UInt8)),C52 w bm c n es s5 seen S wx ∧ (leftOf es.toArray seen).size < gk)
 case atStart =>
  refine ⟨#[],[],H0.out, ?_⟩
  have : (leftOf es.toArray #[]).size ≤ es.length := by
   unfold leftOf
   exact Nat.le_trans (Array.size_filter_le ..) (by simp)
  omega
 case round =>
  obtain ⟨seen,S,hC,hg⟩ := hrel
  obtain ⟨g',rfl⟩ : ∃ g',gk = g' + 1 := ⟨gk - 1,by omega⟩
  obtain ⟨c0,q1,q2,q3,q4,q5,q6,q7,q8⟩ := hC
  have Q1 := hid52 q1
  have Q4 := hid52 q4
  have Q7 := hid52 q7
  have Q8 := hid52 q8
  have Q3 := hid52 q3
  have Q5 := hid52 q5
  rcases run_next_at (P := Try.prog) wr 0 w.heap.size bm c c0 seen es.toArray c q1 q3 (by simpa using Hb.out) q2 with ⟨hl0,hrun⟩ | ⟨e,he,w2,hw2,hrun⟩
  ·have hall : ∀ e ∈ es,seen.contains e.born = true := fun e he => by
    cases hc : seen.contains e.born with
    | true => rfl
    | false =>
     have : e ∈ leftOf es.toArray seen := Array.mem_filter.2 ⟨by simpa using he,by rw [hc]; rfl⟩
     rw [Array.eq_empty_of_size_eq_zero hl0] at this
     simp at this
   have hperm : S.Perm (ks.filter fun k => decide (k.length = n)) := by
    refine (List.perm_ext_iff_of_nodup q5 (Hnk.out.filter _)).2 fun k => ?_
    rw [q7 k,List.mem_filter,decide_eq_true_iff]
    constructor
    ·rintro ⟨e,he,h1,h2,_⟩
     obtain ⟨k',hk',h3⟩ := Hkey.out e he
     rw [h1] at h3
     rw [Hinj.out _ _ h3]
     exact ⟨hk',by rw [← Hinj.out _ _ h3]; exact h2⟩
    ·rintro ⟨h1,h2⟩
     have h3 : strV k ∈ es.map (·.key) := by rw [Hk.out]; exact List.mem_map_of_mem h1
     obtain ⟨e,he,h4⟩ := List.mem_map.1 h3
     exact ⟨e,he,h4,h2,hall e he⟩
   have hS0 : S.length ≠ 0 := fun e => Hne.out (by
    have := hperm.length_eq
    rw [e] at this
    exact List.length_eq_zero_iff.1 this.symm)
   have hT := srt_perm hperm
   have hgoal : ∀ (e : Ending) (w' : World),(∃ v,e = .returned v ∧ Below w.heap.size w w' ∧ w'.ownsRow w.heap.size 9 1 v (srt S).length ((srt S).map encStr)) → (∃ v,e = .returned v ∧ Below w.heap.size w w' ∧ w'.ownsRow w.heap.size 9 1 v (srt (ks.filter fun k => decide (k.length = n))).length ((srt (ks.filter fun k => decide (k.length = n))).map encStr)) := fun e w' h => by rw [← hT]; exact h
   have Hgoal := hid52 hgoal
   clear hgoal
   obtain ⟨g,cap,cur,rfl,hBg,hbg,hn1,hn2,hn3,hn4⟩ := own_some52 q4 hS0
   have hH := holds_of_block hbg (by simpa using hn4)
   have hgl : g < wr.heap.size := (Array.getElem?_eq_some_iff.1 hbg).1
   have hcon := Try.slices_Sort_string g 0 cap S wr hH hgl (by omega)
   have hlS : (srt S).length = S.length := by simp [srt]
   have hredo : ∀ q os,(Sort.grow (Sort.putRow encStr (Sort.ahead wr q) g 0 (srt S).toArray) os).ownsRow w.heap.size 9 1 (.slice (some ⟨g,0,none⟩) S.length cap) (srt S).length ((srt S).map encStr) ∧ Below w.heap.size w (Sort.grow (Sort.putRow encStr (Sort.ahead wr q) g 0 (srt S).toArray) os) := fun q os => by
    have hg := @grownBy_sorted wr g q os (srt S).toArray
    have ho := @ownsRow_sorted wr w.heap.size g cap q 9 os cur S (srt S) hlS hBg hbg hn1 hn2 hn3
    refine ⟨by rw [hlS]; exact ho,q8.grown hg (by have := q8.size; omega) (fun k hk => by cases hk; exact hBg)⟩
   have Hcon := hid52 hcon
   have Hredo := hid52 hredo
   have HlS := hid52 hlS
   clear hcon hredo hlS hH hbg hn1 hn2 hn3 hn4 q1 q3 q4 q5 q6 q7 q8 hT hperm hall hl0 hS0 Q1 Q4 Q7 Q8 Q3 Q5
   go_wp2_with fail
   refine Hcon.out.mono ?_
   rintro e w3 ⟨rfl,q,os,rfl⟩
   obtain ⟨hR3,hb3⟩ := Hredo.out q os
   change (Sort.grow (Sort.putRow encStr (Sort.ahead wr q) g 0 (S.mergeSort fun x y => decide (x ≤ y)).toArray) os).ownsRow w.heap.size 9 1 (.slice (some ⟨g,0,none⟩) S.length cap) (srt S).length ((srt S).map encStr) at hR3
   change Below w.heap.size w (Sort.grow (Sort.putRow encStr (Sort.ahead wr q) g 0 (S.mergeSort fun x y => decide (x ≤ y)).toArray) os) at hb3
   clear Hcon Hredo
   generalize Sort.grow (Sort.putRow encStr (Sort.ahead wr q) g 0 (S.mergeSort fun x y => decide (x ≤ y)).toArray) os = w3 at hR3 hb3 ⊢
   have HR3 := hid52 hR3
   have Hb3 := hid52 hb3
   clear hR3 hb3
   go_wp2_with fail
   go_ret
   exact Hgoal.out _ _ ⟨_,rfl,Hb3.out,HR3.out⟩
  ·obtain ⟨hm1,hm2⟩ := mem_left he
   have hm1' : e ∈ es := by simpa using hm1
   obtain ⟨k,hkm,hke⟩ := Hkey.out e hm1'
   have hke' : e.key = .string ⟨k.toArray⟩ := hke
   have hshr := left_shrinks es.toArray seen e he
   obtain ⟨W3,hW3⟩ : ∃ W3,ChangeMaps.setBlock w2 w.heap.size (.mapIter (some bm) c (seen.push e.born) c) = W3 := ⟨_,rfl⟩
   have hheap : w2.heap = wr.heap := by rcases hw2 with rfl | rfl <;> rfl
   have hgr : wr.grownBy W3 (some w.heap.size) := by
    rw [← hW3]
    refine ⟨by rcases hw2 with rfl | rfl <;> rfl,by rcases hw2 with rfl | rfl <;> rfl,by rcases hw2 with rfl | rfl <;> rfl,by simp [ChangeMaps.setBlock,hheap],fun j hj hne => ?_⟩
    simp only [ChangeMaps.setBlock,hheap]
    rw [Array.getElem?_setIfInBounds,if_neg (fun e => hne (by rw [e]))]
   have hit3 : W3.heap[w.heap.size]? = some (.mapIter (some bm) c (seen.push e.born) c) := by
    rw [← hW3]
    simp only [ChangeMaps.setBlock,hheap]
    rw [Array.getElem?_setIfInBounds,if_pos rfl,if_pos (Array.getElem?_eq_some_iff.1 q1).1]
   have hmap3 : W3.heap[bm]? = some (.map es.toArray c) := by
    rw [hgr.block bm (by have := q8.size; omega) (fun e => by cases e; omega)]
    exact q3
   have hown3 := q4.kept hgr (own_ne q4 q1 (fun _ _ _ e => by cases e))
   have hb3 : Below w.heap.size w W3 := q8.grown hgr (by have := q8.size; omega) (fun k hk => by cases hk; exact Nat.le_refl _)
   have hen := run_entry_at (P := Try.prog) W3 w.heap.size bm c seen es.toArray c e hit3 hmap3 hm1 (by simpa using Hnb.out)
   obtain ⟨vv,hvv⟩ : ∃ vv,e.val = vv := ⟨_,rfl⟩
   obtain ⟨bb,hbb⟩ : ∃ bb,e.born = bb := ⟨_,rfl⟩
   rw [hW3,hke',hvv] at hrun
   rw [hke',hvv] at hen
   rw [hbb] at hshr hit3
   have hseen : ∀ x : MapEntry,(seen.push bb).contains x.born = (seen.contains x.born || x.born == bb) := fun x => contains_push _ _ _
   have honly : ∀ x ∈ es,x.key = strV k → x = e := fun x hx h => by
    obtain ⟨i,hi,rfl⟩ := List.mem_iff_getElem.1 hx
    obtain ⟨j,hj,rfl⟩ := List.mem_iff_getElem.1 hm1'
    have h1 : (es.map (·.key))[i]? = (es.map (·.key))[j]? := by
     rw [List.getElem?_map,List.getElem?_map,List.getElem?_eq_getElem hi,List.getElem?_eq_getElem hj]
     simp only [Option.map_some]
     rw [h,hke]
    have h2 := (List.getElem?_inj (by simpa using hi) Hnkey.out).1 h1
    subst h2; rfl
   have hbinj : ∀ x ∈ es,x.born = bb → x = e := fun x hx h => by
    obtain ⟨i,hi,rfl⟩ := List.mem_iff_getElem.1 hx
    obtain ⟨j,hj,rfl⟩ := List.mem_iff_getElem.1 hm1'
    have h1 : (es.map (·.born))[i]? = (es.map (·.born))[j]? := by
     rw [List.getElem?_map,List.getElem?_map,List.getElem?_eq_getElem hi,List.getElem?_eq_getElem hj]
     simp only [Option.map_some]
     rw [h,hbb]
    have h2 := (List.getElem?_inj (by simpa using hi) Hnb.out).1 h1
    subst h2; rfl
   by_cases hkn : k.length = n
   ·have hkS : k ∉ S := fun h => by
     obtain ⟨x,hx,h1,_,h3⟩ := (q7 k).1 h
     rw [honly x hx h1] at h3
     rw [hm2] at h3
     cases h3
    have hmem : ∀ k',k' ∈ S ++ [k] ↔ ∃ x ∈ es,x.key = strV k' ∧ k'.length = n ∧ (seen.push bb).contains x.born = true := fun k' => by
     rw [List.mem_append,List.mem_singleton]
     constructor
     ·rintro (h | rfl)
      ·obtain ⟨x,hx,h1,h2,h3⟩ := (q7 k').1 h
       exact ⟨x,hx,h1,h2,by rw [hseen,h3]; rfl⟩
      ·exact ⟨e,hm1',hke,hkn,by rw [hseen,hbb,beq_self_eq_true,Bool.or_true]⟩
     ·rintro ⟨x,hx,h1,h2,h3⟩
      rw [hseen,Bool.or_eq_true] at h3
      rcases h3 with h3 | h3
      ·exact .inl ((q7 k').2 ⟨x,hx,h1,h2,h3⟩)
      ·have := hbinj x hx (by simpa using h3)
       subst this
       rw [hke] at h1
       exact .inr (Hinj.out _ _ h1).symm
    have hnd : (S ++ [k]).Nodup := by
     rw [List.nodup_append]
     refine ⟨q5,by simp,fun a ha b hb e => ?_⟩
     rw [List.mem_singleton] at hb
     subst hb; subst e
     exact hkS ha
    have hlen4 : (S ++ [k]).length ≤ 4096 := by
     have h1 : (S ++ [k]).length ≤ ks.length := by
      refine List.Nodup.length_le_of_subset hnd fun x hx => ?_
      obtain ⟨y,hy,h1,_⟩ := (hmem x).1 hx
      obtain ⟨k',hk',h2⟩ := Hkey.out y hy
      rw [h1] at h2
      rw [Hinj.out _ _ h2]; exact hk'
     have h2 : ks.length = es.length := by
      have := congrArg List.length Hk.out
      simpa using this.symm
     have := Hlen.out
     omega
    have hki : ((k.length : Int) = (n : Int)) := by omega
    obtain ⟨i0,hi0,hz0,hz1',hz2⟩ := info_parts (show (Try.prog.info? 9).map (fun i => (i.zero,i.size,i.bytes)) = some (some (.string ⟨#[]⟩),1,16) by kernel_rfl)
    have hrk := hown3.alloc (.cells #[.string ⟨k.toArray⟩] 9)
    have Hrk := hid52 hrk
    have Hmem := hid52 hmem
    have Hnd := hid52 hnd
    have Hlen4 := hid52 hlen4
    have Hit3 := hid52 hit3
    have Hmap3 := hid52 hmap3
    have Hown3 := hid52 hown3
    have Hb3 := hid52 hb3
    have Hshr := hid52 hshr
    have Hkn := hid52 hkn
    clear hrk hmem hnd hlen4 hit3 hmap3 hown3 hb3 hshr hkS honly hbinj hseen hgr hheap hW3 hw2 hm1 hm1' hm2 he hke hke' hvv hbb q1 q3 q4 q5 q7 q8 hkn Q1 Q3 Q4 Q5 Q7
    go_wp2_with (at_builtin; refine wpList_append_own _ rfl _ _ 36 rfl w.heap.size 9 i0 (.string ⟨#[]⟩) 1 16 Try.underlying36 hi0 hz0 hz1' hz2 rfl (by decide) _ _ _ rfl Hrk.out ⟨W3.heap.size,0,none⟩ 1 1 [.string ⟨k.toArray⟩] rfl rfl ?c1 ?c2 ?c3 ?c4 ?c5 ?_)
    case c1 => exact cell_one_new _ _ _
    case c2 => exact fun u hu => by rw [List.mem_singleton.1 hu]; rfl
    case c3 => unfold maxLen; omega
    case c4 => omega
    case c5 => exact Nat.le_trans Hb3.out.size (by simp)
    rintro v4 w4 hown4 hg4 -
    have hlt1 : w.heap.size < W3.heap.size := (Array.getElem?_eq_some_iff.1 Hit3.out).1
    have hC4 : C52 w bm c n es v4 (seen.push bb) (S ++ [k]) w4 := by
     have hne : ∀ {g : Nat} {o : Obj},W3.heap[g]? = some o → (∀ c t fr,o ≠ .cells c t fr) → w4.heap[g]? = some o := fun {g o} h1 h2 => by
      have hl : g < W3.heap.size := (Array.getElem?_eq_some_iff.1 h1).1
      rw [hg4.block g (by simp; omega) (fun e => (own_ne Hown3.out h1 h2).elim (fun h => by rw [h] at e; cases e) (fun h => h e.symm)),heap_alloc_old _ _ hl]
      exact h1
     refine ⟨c,hne Hit3.out (fun _ _ _ e => by cases e),Nat.le_refl _,hne Hmap3.out (fun _ _ _ e => by cases e), ?_,Hnd.out,Hlen4.out,Hmem.out, ?_⟩
     ·have : (S ++ [k]).map encStr = S.map encStr ++ [.string ⟨k.toArray⟩] := by rw [List.map_append]; rfl
      rw [this,List.length_append]
      exact hown4
     ·exact (Hb3.out.alloc (by omega) _).grown hg4 (by simp; omega) (fun g hk => own_ge52 Hown3.out hk)
    have HC4 := hid52 hC4
    clear hC4 hown4 hg4
    go_wp2_with fail
    go_roundg g'
    case measure => omega
    case rel => exact ⟨_,_,HC4.out,by have := Hshr.out; omega⟩
   ·have hki : ¬ ((k.length : Int) = (n : Int)) := by omega
    have hC4 : C52 w bm c n es u5 (seen.push bb) S W3 := by
     refine ⟨c,hit3,Nat.le_refl _,hmap3,hown3,q5,q6,fun k' => ?_,hb3⟩
     rw [q7 k']
     constructor
     ·rintro ⟨x,hx,h1,h2,h3⟩
      exact ⟨x,hx,h1,h2,by rw [hseen,h3]; rfl⟩
     ·rintro ⟨x,hx,h1,h2,h3⟩
      rw [hseen,Bool.or_eq_true] at h3
      rcases h3 with h3 | h3
      ·exact ⟨x,hx,h1,h2,h3⟩
      ·have := hbinj x hx (by simpa using h3)
       subst this
       rw [hke] at h1
       rw [← Hinj.out _ _ h1] at h2
       exact absurd h2 hkn
    have HC4 := hid52 hC4
    have Hshr := hid52 hshr
    clear hC4 hit3 hmap3 hown3 hb3 hshr honly hbinj hseen hgr hheap hW3 hw2 hm1 hm1' hm2 he hke hke' hvv hbb q1 q3 q4 q5 q7 q8 hkn Q1 Q3 Q4 Q5 Q7
    go_wp2_with fail
    go_roundg g'
    case measure => omega
    case rel => exact ⟨_,_,HC4.out,by have := Hshr.out; omega⟩
end Go.Proofs.Ytmnmfmghmenkkaa
set_option linter.unusedSimpArgs false
set_option linter.unusedVariables false
namespace Go.Proofs.Ytmnmfmghmenkkaa
open Go.RowKit Go.Abs Go.Pur
set_option maxRecDepth 1000000
set_option maxHeartbeats 8000000
def C49 (w1 : World) (r bm c : Nat) (m : Mp (List UInt8) Int) (D : List UInt8 → Bool) (L0 : List (List UInt8)) (seen : Array Nat) (b : List UInt8) (is : Bool) (w : World) : Prop :=
 ∃ c0,w.heap[r]? = some (.mapIter (some bm) c seen c0) ∧ c ≤ c0 ∧ Below r w1 w ∧ ∃ L,(∀ k,k ∈ L ↔ k ∈ L0 ∨ ∃ e ∈ m,e.1 = k ∧ seen.contains e.2.2 = true) ∧ Bst D L b is
theorem bst_skip {D : List UInt8 → Bool} {L : List (List UInt8)} {b k : List UInt8} {is : Bool} (h : Bst D L b is) (hk : D k = false ∨ (is = true ∧ ¬ slt k b)) : Bst D (L ++ [k]) b is := by
 cases is with
 | false =>
  obtain ⟨h1,h2⟩ := h
  refine ⟨h1,fun x hx => ?_⟩
  rcases List.mem_append.1 hx with h | h
  ·exact h2 x h
  ·rw [List.mem_singleton.1 h]
   rcases hk with hk | ⟨hk,_⟩
   ·exact hk
   ·cases hk
 | true =>
  obtain ⟨h1,h2,h3⟩ := h
  refine ⟨List.mem_append_left _ h1,h2,fun x hx hd => ?_⟩
  rcases List.mem_append.1 hx with h | h
  ·exact h3 x h hd
  ·rw [List.mem_singleton.1 h] at hd ⊢
   rcases hk with hk | ⟨_,hk⟩
   ·rw [hk] at hd; cases hd
   ·exact hk
theorem slt_trans {a b c : List UInt8} (h1 : slt a b) (h2 : slt b c) : slt a c := by
 unfold slt at *
 rcases h1 with h1 | ⟨h1,h1'⟩ <;> rcases h2 with h2 | ⟨h2,h2'⟩
 ·exact .inl (by omega)
 ·exact .inl (by omega)
 ·exact .inl (by omega)
 ·exact .inr ⟨by omega,List.lt_trans h1' h2'⟩
theorem slt_irrefl {a : List UInt8} : ¬ slt a a := by
 rintro (h | ⟨_,h⟩)
 ·omega
 ·exact List.lt_irrefl _ h
theorem bst_take {D : List UInt8 → Bool} {L : List (List UInt8)} {b k : List UInt8} {is : Bool} (h : Bst D L b is) (hd : D k = true) (hk : is = false ∨ slt k b) : Bst D (L ++ [k]) k true := by
 refine ⟨List.mem_append_right _ (List.mem_singleton.2 rfl),hd,fun x hx hdx => ?_⟩
 rcases List.mem_append.1 hx with hx | hx
 ·cases is with
  | false => rw [h.2 x hx] at hdx; cases hdx
  | true =>
   have h3 := h.2.2 x hx hdx
   rcases hk with hk | hk
   ·cases hk
   ·exact fun h4 => h3 (slt_trans h4 hk)
 ·rw [List.mem_singleton.1 hx]; exact slt_irrefl
theorem bytesLess_lt {a b : List UInt8} : Op.bytesLess a b = true ↔ a < b := by
 rw [bytesLess_eq,decide_eq_true_iff]
theorem slt_of {k b : List UInt8} (h : k.length < b.length ∨ Op.bytesLess k b = true) (hl : (k.length : Int) = (b.length : Int)) : slt k b := by
 rcases h with h | h
 ·exact .inl h
 ·exact .inr ⟨by omega,bytesLess_lt.1 h⟩
theorem slt_not {k b : List UInt8} (h1 : ¬ k.length < b.length) (h2 : Op.bytesLess k b = false) : ¬ slt k b := by
 rintro (h | ⟨_,h⟩)
 ·exact h1 h
 ·rw [bytesLess_lt.2 h] at h2; cases h2
theorem hid49 {p : Prop} (h : p) : Hid p := h
def Post49 (w : World) (m1 m2 : Mp (List UInt8) Int) (e : Ending) (w' : World) : Prop :=
 ∃ L b is,e = .returned (.tuple #[.string ⟨b.toArray⟩,.bool is]) ∧ Below w.heap.size w w' ∧ (∀ k,k ∈ L ↔ k ∈ m1.map (·.1) ∨ k ∈ m2.map (·.1)) ∧ Bst (dif49 m1 m2) L b is
theorem first_calls (b1 b2 c1 c2 : Nat) (m1 m2 : Mp (List UInt8) Int) (w : World) (hw1 : w.heap[b1]? = some (.map (mE sV (Value.int .i64) m1).toArray c1)) (hw2 : w.heap[b2]? = some (.map (mE sV (Value.int .i64) m2).toArray c2))
  (s1 : (∀ s ∈ m1.map (·.2.2),s < c1) ∧ (m1.map (·.2.2)).Nodup) (s2 : (∀ s ∈ m2.map (·.2.2),s < c2) ∧ (m2.map (·.2.2)).Nodup) :
  Calls Try.prog 49 #[.map (some b1),.map (some b2)] w fun e w' => Post49 w m1 m2 e w' := by
 have mixed : Try.prog.follows .mixedOrders = true := by kernel_rfl
 have mty : mapTy Try.prog 58 = some (9,3) := by kernel_rfl
 have kty : KeyT Try.prog 9 sV := key_str Try.underlying9
 obtain ⟨D,hD⟩ : ∃ D,dif49 m1 m2 = D := ⟨_,rfl⟩
 have hlook : ∀ (W : World) (bm c : Nat) (m : Mp (List UInt8) Int) (k : List UInt8),W.heap[bm]? = some (.map (mE sV (Value.int .i64) m).toArray c) → (Instr.lookup 58 (.map (some bm)) (.string ⟨k.toArray⟩) false).run Try.prog W = .ok (.int .i64 (mGetD 0 k m)) W := fun W bm c m k h =>
  alook_run h (look_m (kf := sV) (vf := Value.int .i64) (l := m) (k := k) (d := 0) mty kty (by kernel_rfl) (fun _ => rfl) (ok := false))
 have hrange : ∀ (W : World) (bm c : Nat) (m : Mp (List UInt8) Int),W.heap[bm]? = some (.map (mE sV (Value.int .i64) m).toArray c) → (Instr.range 58 (.map (some bm))).run Try.prog W = .ok (.pointer (some ⟨W.heap.size,0,none⟩)) (W.alloc (.mapIter (some bm) c #[] c)) := fun W bm c m h =>
  run_range_map W 58 9 3 bm _ c Try.underlying58 h
 have Hlook := hid49 hlook
 have Hrange := hid49 hrange
 have HD := hid49 hD
 have Hw1 := hid49 hw1
 have Hw2 := hid49 hw2
 have S1 := hid49 s1
 have S2 := hid49 s2
 clear hlook hrange hD hw1 hw2 s1 s2 mty kty
 go_enter Try.func49,Try.ntmps49
 go_wp2_with fail
 obtain ⟨PK,hPK⟩ : ∃ PK : Nat → List (List UInt8),PK = fun t => match t with
   | 0 => []
   | 1 => m1.map (·.1)
   | _ => m1.map (·.1) ++ m2.map (·.1) := ⟨_,rfl⟩
 have HPK := hid49 hPK
 clear hPK
 obtain ⟨w1,hw1⟩ : ∃ w1,w.alloc (.cells #[.map (some b1),.map (some b2)] 58) = w1 := ⟨_,rfl⟩
 have hz1 : w1.heap.size = w.heap.size + 1 := by rw [← hw1]; simp
 have hcl : w1.heap[w.heap.size]? = some (.cells #[.map (some b1),.map (some b2)] 58) := by rw [← hw1]; exact heap_alloc_new _ _
 have hB1 : Below w.heap.size w w1 := by rw [← hw1]; exact (Below.refl _ _).alloc (Nat.le_refl _) _
 rw [hw1]
 have Hcl := hid49 hcl
 have HB1 := hid49 hB1
 clear hcl hB1 hw1
 go_loopg [6,7,15] 3 (fun gk s6 s7 s15 wx => ∃ (t : Nat) (b : List UInt8) (is : Bool) (L : List (List UInt8)),s6 = .string ⟨b.toArray⟩ ∧ s7 = .bool is ∧ s15 = .int .i64 t ∧ t ≤ 2 ∧ 2 < t + gk ∧ Below (w.heap.size + 1) w1 wx ∧ (∀ k,k ∈ L ↔ k ∈ PK t) ∧ Bst D L b is)
 case atStart => exact ⟨0,[],false,[],rfl,rfl,rfl,by omega,by omega,Below.refl _ _,fun k => by rw [HPK.out]; exact Iff.rfl,rfl,fun k hk => by cases hk⟩
 case round =>
  obtain ⟨t,b,is,L,rfl,rfl,rfl,ht,htg,hbl,hL,hbst⟩ := hrel
  obtain ⟨wo,rfl⟩ : ∃ wo,wo = wr := ⟨_,rfl⟩
  have hH1 : wo.heap[b1]? = some (.map (mE sV (Value.int .i64) m1).toArray c1) := by
   have h1 : b1 < w.heap.size := (Array.getElem?_eq_some_iff.1 Hw1.out).1
   rw [hbl.block b1 (by omega),HB1.out.block b1 h1]; exact Hw1.out
  have hH2 : wo.heap[b2]? = some (.map (mE sV (Value.int .i64) m2).toArray c2) := by
   have h1 : b2 < w.heap.size := (Array.getElem?_eq_some_iff.1 Hw2.out).1
   rw [hbl.block b2 (by omega),HB1.out.block b2 h1]; exact Hw2.out
  have hsz : w.heap.size + 1 ≤ wo.heap.size := by have := hbl.size; omega
  by_cases ht2 : t < 2
  ·obtain ⟨g',rfl⟩ : ∃ g',gk = g' + 1 := ⟨gk - 1,by omega⟩
   obtain ⟨bm,c,m,hcell,hmap,hst,hpk⟩ : ∃ bm c m,wo.cell? ⟨w.heap.size,t,none⟩ = some (.map (some bm)) ∧ wo.heap[bm]? = some (.map (mE sV (Value.int .i64) m).toArray c) ∧ ((∀ s ∈ m.map (·.2.2),s < c) ∧ (m.map (·.2.2)).Nodup) ∧ (∀ k,k ∈ PK (t + 1) ↔ k ∈ PK t ∨ k ∈ m.map (·.1)) := by
    have hc : ∀ i,wo.cell? ⟨w.heap.size,i,none⟩ = (#[Value.map (some b1),Value.map (some b2)])[i]? := fun i => by
     have : wo.heap[w.heap.size]? = some (.cells #[.map (some b1),.map (some b2)] 58) := by rw [hbl.block _ (by omega)]; exact Hcl.out
     simp [World.cell?,this]
    match t,ht2 with
    | 0,_ => exact ⟨b1,c1,m1,by rw [hc]; rfl,hH1,S1.out,fun k => by rw [HPK.out]; simp⟩
    | 1,_ => exact ⟨b2,c2,m2,by rw [hc]; rfl,hH2,S2.out,fun k => by rw [HPK.out]; simp⟩
   have hrg := Hrange.out wo bm c m hmap
   obtain ⟨W1,hW1⟩ : ∃ W1,wo.alloc (.mapIter (some bm) c #[] c) = W1 := ⟨_,rfl⟩
   have hC0 : C49 wo wo.heap.size bm c m D (PK t) #[] b is W1 := by
    refine ⟨c,by rw [← hW1]; exact heap_alloc_new _ _,Nat.le_refl _,by rw [← hW1]; exact (Below.refl _ _).alloc (Nat.le_refl _) _,L,fun k => ?_,hbst⟩
    rw [hL k]
    simp
   rw [hW1] at hrg
   have HC0 := hid49 hC0
   have HH1 := hid49 hH1
   have HH2 := hid49 hH2
   have Hmap := hid49 hmap
   have Hst := hid49 hst
   have Hpk := hid49 hpk
   have Hbl := hid49 hbl
   clear hC0 hH1 hH2 hmap hst hpk hbl hW1 hL hbst
   go_wp2_with fail
   go_loopg [6,7] (m.length + 1) (fun gk2 s6 s7 wx => ∃ (seen : Array Nat) (b : List UInt8) (is : Bool),s6 = .string ⟨b.toArray⟩ ∧ s7 = .bool is ∧ C49 wo wo.heap.size bm c m D (PK t) seen b is wx ∧ (leftOf (mE sV (Value.int .i64) m).toArray seen).size < gk2)
   case atStart =>
    refine ⟨#[],b,is,rfl,rfl,HC0.out, ?_⟩
    have : (leftOf (mE sV (Value.int .i64) m).toArray #[]).size ≤ m.length := by
     unfold leftOf
     exact Nat.le_trans (Array.size_filter_le ..) (by simp [mE])
    omega
   case round =>
    clear HC0
    obtain ⟨seen,b',is',rfl,rfl,hC,hg⟩ := hrel
    obtain ⟨g2,rfl⟩ : ∃ g2,gk = g2 + 1 := ⟨gk - 1,by omega⟩
    obtain ⟨c0,q1,q2,q3,L',q4,q5⟩ := hC
    have hbr : bm < wo.heap.size := (Array.getElem?_eq_some_iff.1 Hmap.out).1
    have hmapw : wr.heap[bm]? = some (.map (mE sV (Value.int .i64) m).toArray c) := by rw [q3.block bm hbr]; exact Hmap.out
    have hborn : ∀ x ∈ (mE sV (Value.int .i64) m).toArray.toList,x.born < c := fun x hx => by
     have hx2 : x ∈ mE sV (Value.int .i64) m := by simpa using hx
     unfold mE at hx2
     obtain ⟨y,hy,rfl⟩ := List.mem_map.1 hx2
     exact Hst.out.1 _ (List.mem_map_of_mem hy)
    have hnb : ((mE sV (Value.int .i64) m).toArray.toList.map (·.born)).Nodup := by
     have : (mE sV (Value.int .i64) m).toArray.toList.map (·.born) = m.map (·.2.2) := by
      unfold mE
      simp [List.map_map,Function.comp_def]
     rw [this]; exact Hst.out.2
    rcases run_next_at (P := Try.prog) wr 0 wo.heap.size bm c c0 seen (mE sV (Value.int .i64) m).toArray c q1 hmapw hborn q2 with ⟨hl0,hrun⟩ | ⟨e,he,w2,hw2,hrun⟩
    ·have hall : ∀ x ∈ m,seen.contains x.2.2 = true := fun x hx => by
      cases hc : seen.contains x.2.2 with
      | true => rfl
      | false =>
       have : (⟨sV x.1,.int .i64 x.2.1,x.2.2⟩ : MapEntry) ∈ leftOf (mE sV (Value.int .i64) m).toArray seen := Array.mem_filter.2 ⟨List.mem_toArray.2 (List.mem_map_of_mem (f := fun e : List UInt8 × Int × Nat => (⟨sV e.1,.int .i64 e.2.1,e.2.2⟩ : MapEntry)) hx),by rw [hc]; rfl⟩
       rw [Array.eq_empty_of_size_eq_zero hl0] at this
       simp at this
     have hL2 : ∀ k,k ∈ L' ↔ k ∈ PK (t + 1) := fun k => by
      rw [q4 k,Hpk.out k,List.mem_map]
      constructor
      ·rintro (h | ⟨x,hx,h1,_⟩)
       ·exact .inl h
       ·exact .inr ⟨x,hx,h1⟩
      ·rintro (h | ⟨x,hx,h1⟩)
       ·exact .inl h
       ·exact .inr ⟨x,hx,h1,hall x hx⟩
     have hbl2 : Below (w.heap.size + 1) w1 wr := Hbl.out.trans (q3.mono hsz)
     have HL2 := hid49 hL2
     have Hbl2 := hid49 hbl2
     have Q5 := hid49 q5
     clear hL2 hbl2 q1 q3 q4 q5 hmapw hborn hnb hall hl0
     have htw : ((t + 1 : Nat) : Int) = (t : Int) + 1 := by omega
     go_wp2_with fail
     go_roundg g'
     case measure => omega
     case rel => exact ⟨t + 1,b',is',L',rfl,rfl,by first | rfl | rw [htw],by omega,by omega,Hbl2.out,HL2.out,Q5.out⟩
    ·obtain ⟨hm1,hm2⟩ := mem_left he
     obtain ⟨x,hx,rfl⟩ : ∃ x ∈ m,(⟨sV x.1,.int .i64 x.2.1,x.2.2⟩ : MapEntry) = e := by
      have h : e ∈ mE sV (Value.int .i64) m := by simpa using hm1
      unfold mE at h
      exact List.mem_map.1 h
     obtain ⟨k,v,s⟩ := x
     have hshr : (leftOf (mE sV (Value.int .i64) m).toArray (seen.push s)).size < (leftOf (mE sV (Value.int .i64) m).toArray seen).size := left_shrinks (mE sV (Value.int .i64) m).toArray seen _ he
     obtain ⟨W3,hW3⟩ : ∃ W3,ChangeMaps.setBlock w2 wo.heap.size (.mapIter (some bm) c (seen.push s) c) = W3 := ⟨_,rfl⟩
     have hheap : w2.heap = wr.heap := by rcases hw2 with rfl | rfl <;> rfl
     have hgr : wr.grownBy W3 (some wo.heap.size) := by
      rw [← hW3]
      refine ⟨by rcases hw2 with rfl | rfl <;> rfl,by rcases hw2 with rfl | rfl <;> rfl,by rcases hw2 with rfl | rfl <;> rfl,by simp [ChangeMaps.setBlock,hheap],fun j hj hne => ?_⟩
      simp only [ChangeMaps.setBlock,hheap]
      rw [Array.getElem?_setIfInBounds,if_neg (fun e => hne (by rw [e]))]
     have hit3 : W3.heap[wo.heap.size]? = some (.mapIter (some bm) c (seen.push s) c) := by
      rw [← hW3]
      simp only [ChangeMaps.setBlock,hheap]
      rw [Array.getElem?_setIfInBounds,if_pos rfl,if_pos (Array.getElem?_eq_some_iff.1 q1).1]
     have hb3 : Below wo.heap.size wo W3 := q3.grown hgr (by have := q3.size; omega) (fun k hk => by cases hk; exact Nat.le_refl _)
     have hmap3 : W3.heap[bm]? = some (.map (mE sV (Value.int .i64) m).toArray c) := by rw [hb3.block bm hbr]; exact Hmap.out
     have hen := run_entry_at (P := Try.prog) W3 wo.heap.size bm c seen (mE sV (Value.int .i64) m).toArray c _ hit3 hmap3 hm1 hnb
     have hlk1 := Hlook.out W3 b1 c1 m1 k (by rw [hb3.block b1 (Array.getElem?_eq_some_iff.1 HH1.out).1]; exact HH1.out)
     have hlk2 := Hlook.out W3 b2 c2 m2 k (by rw [hb3.block b2 (Array.getElem?_eq_some_iff.1 HH2.out).1]; exact HH2.out)
     have hmem : ∀ z,z ∈ L' ++ [k] ↔ z ∈ PK t ∨ ∃ e ∈ m,e.1 = z ∧ (seen.push s).contains e.2.2 = true := fun z => by
      rw [List.mem_append,List.mem_singleton,q4 z]
      have hse : ∀ y,(seen.push s).contains y = (seen.contains y || y == s) := fun y => contains_push _ _ _
      constructor
      ·rintro ((h | ⟨e,he,h1,h2⟩) | rfl)
       ·exact .inl h
       ·exact .inr ⟨e,he,h1,by rw [hse,h2]; rfl⟩
       ·exact .inr ⟨_,hx,rfl,by rw [hse,beq_self_eq_true,Bool.or_true]⟩
      ·rintro (h | ⟨e,he,h1,h2⟩)
       ·exact .inl (.inl h)
       ·rw [hse,Bool.or_eq_true] at h2
        rcases h2 with h2 | h2
        ·exact .inl (.inr ⟨e,he,h1,h2⟩)
        ·right
         have h3 : e.2.2 = s := by simpa using h2
         have h4 : e = (k,v,s) := by
          obtain ⟨i,hi,rfl⟩ := List.mem_iff_getElem.1 he
          obtain ⟨j,hj,hj2⟩ := List.mem_iff_getElem.1 hx
          have h5 : (m.map (·.2.2))[i]? = (m.map (·.2.2))[j]? := by
           rw [List.getElem?_map,List.getElem?_map,List.getElem?_eq_getElem hi,List.getElem?_eq_getElem hj,hj2]
           simp only [Option.map_some]
           rw [h3]
          have h6 := (List.getElem?_inj (by simpa using hi) Hst.out.2).1 h5
          subst h6
          exact hj2
         rw [h4] at h1
         exact h1.symm
     rw [hW3] at hrun
     have hDk : D k = (decide (0 < mGetD 0 k m1) != decide (0 < mGetD 0 k m2)) := by rw [← HD.out]; rfl
     obtain ⟨A1,hA1⟩ : ∃ A1,mGetD 0 k m1 = A1 := ⟨_,rfl⟩
     obtain ⟨A2,hA2⟩ : ∃ A2,mGetD 0 k m2 = A2 := ⟨_,rfl⟩
     rw [hA1] at hlk1 hDk
     rw [hA2] at hlk2 hDk
     have hsk : sV k = .string ⟨k.toArray⟩ := rfl
     simp only [hsk] at hrun hen
     have hend : ∀ b'' is'',Bst D (L' ++ [k]) b'' is'' → ∃ (seen : Array Nat) (b : List UInt8) (is : Bool),Value.string ⟨b''.toArray⟩ = .string ⟨b.toArray⟩ ∧ Value.bool is'' = .bool is ∧ C49 wo wo.heap.size bm c m D (PK t) seen b is W3 ∧ (leftOf (mE sV (Value.int .i64) m).toArray seen).size < g2 := fun b'' is'' h =>
      ⟨seen.push s,b'',is'',rfl,rfl,⟨c,hit3,Nat.le_refl _,hb3,L' ++ [k],hmem,h⟩,by omega⟩
     have Hend := hid49 hend
     have Q5 := hid49 q5
     have HDk := hid49 hDk
     clear hend hmem hit3 hb3 hmap3 hgr hheap hW3 hw2 hm1 hm2 he hx q1 q3 q4 q5 hmapw hborn hnb hshr hDk hA1 hA2 hsk
     by_cases hP1 : 0 < A1 <;> by_cases hP2 : 0 < A2
     ·go_wp2_with fail
      go_roundg g2
      case measure => omega
      case rel => exact Hend.out _ _ (bst_skip Q5.out (.inl (by rw [HDk.out,decide_eq_true hP1,decide_eq_true hP2]; rfl)))
     ·cases is' with
      | false =>
       go_wp2_with fail
       go_roundg g2
       case measure => omega
       case rel => exact Hend.out _ _ (bst_take Q5.out (by rw [HDk.out,decide_eq_true hP1,decide_eq_false (show ¬ 0 < A2 by omega)]; rfl) (.inl rfl))
      | true =>
       go_wp2_with fail
       ·rename_i h1 h2 h3
        go_roundg g2
        case measure => omega
        case rel => exact Hend.out _ _ (bst_take Q5.out (by rw [HDk.out,decide_eq_true hP1,decide_eq_false (show ¬ 0 < A2 by omega)]; rfl) (.inr (slt_of h3 h2)))
       ·rename_i h1 h2 h3
        go_roundg g2
        case measure => omega
        case rel => exact Hend.out _ _ (bst_skip Q5.out (.inr ⟨rfl,slt_not h3.1 h3.2⟩))
       ·rename_i h1 h2 h3
        go_roundg g2
        case measure => omega
        case rel => exact Hend.out _ _ (bst_skip Q5.out (.inr ⟨rfl,fun h => by rcases h with h | ⟨h,_⟩ <;> omega⟩))
       ·rename_i h1
        go_roundg g2
        case measure => omega
        case rel => exact Hend.out _ _ (bst_take Q5.out (by rw [HDk.out,decide_eq_true hP1,decide_eq_false (show ¬ 0 < A2 by omega)]; rfl) (.inr (.inl (by omega))))
     ·cases is' with
      | false =>
       go_wp2_with fail
       go_roundg g2
       case measure => omega
       case rel => exact Hend.out _ _ (bst_take Q5.out (by rw [HDk.out,decide_eq_false (show ¬ 0 < A1 by omega),decide_eq_true hP2]; rfl) (.inl rfl))
      | true =>
       go_wp2_with fail
       ·rename_i h1 h2 h3
        go_roundg g2
        case measure => omega
        case rel => exact Hend.out _ _ (bst_take Q5.out (by rw [HDk.out,decide_eq_false (show ¬ 0 < A1 by omega),decide_eq_true hP2]; rfl) (.inr (slt_of h3 h2)))
       ·rename_i h1 h2 h3
        go_roundg g2
        case measure => omega
        case rel => exact Hend.out _ _ (bst_skip Q5.out (.inr ⟨rfl,slt_not h3.1 h3.2⟩))
       ·rename_i h1 h2 h3
        go_roundg g2
        case measure => omega
        case rel => exact Hend.out _ _ (bst_skip Q5.out (.inr ⟨rfl,fun h => by rcases h with h | ⟨h,_⟩ <;> omega⟩))
       ·rename_i h1
        go_roundg g2
        case measure => omega
        case rel => exact Hend.out _ _ (bst_take Q5.out (by rw [HDk.out,decide_eq_false (show ¬ 0 < A1 by omega),decide_eq_true hP2]; rfl) (.inr (.inl (by omega))))
     ·go_wp2_with fail
      go_roundg g2
      case measure => omega
      case rel => exact Hend.out _ _ (bst_skip Q5.out (.inl (by rw [HDk.out,decide_eq_false (show ¬ 0 < A1 by omega),decide_eq_false (show ¬ 0 < A2 by omega)]; rfl)))
  ·obtain rfl : t = 2 := by omega
   have hfin : Post49 w m1 m2 (.returned (.tuple #[.string ⟨b.toArray⟩,.bool is])) wo :=
    ⟨L,b,is,rfl,HB1.out.trans (hbl.mono (by omega)),fun k => by rw [hL k,HPK.out]; simp,by rw [HD.out]; exact hbst⟩
   have Hfin := hid49 hfin
   clear hfin hbl hL hbst hH1 hH2
   go_wp2_with fail
   go_ret2
   exact Hfin.out
end Go.Proofs.Ytmnmfmghmenkkaa
set_option linter.unusedSimpArgs false
set_option linter.unusedVariables false
namespace Go.Proofs.Ytmnmfmghmenkkaa
open Go.RowKit Go.Abs Go.Pur
set_option maxRecDepth 100000
def qc (e : Way) : List Value := [.int .i64 (e.1 : Int),.int .i64 (e.2.1 : Int),.string ⟨e.2.2.toArray⟩]
def qcs (Q : List Way) : List Value := Q.flatMap qc
theorem qcs_len : ∀ {Q : List Way},(qcs Q).length = Q.length * 3
 | [] => rfl
 | e :: Q => by
  unfold qcs at *
  rw [List.flatMap_cons,List.length_append,List.length_cons,show (Q.flatMap qc).length = Q.length * 3 from qcs_len (Q := Q),Nat.succ_mul]
  simp [qc]; omega
theorem qcs_one {Q : List Way} : ∀ u ∈ qcs Q,u.oneCell' = true := fun u hu => by
 obtain ⟨e,_,h⟩ := List.mem_flatMap.1 hu
 simp only [qc,List.mem_cons,List.not_mem_nil,or_false] at h
 rcases h with rfl | rfl | rfl <;> rfl
def QAt (B : Nat) (v : Value) (Q : List Way) (w : World) : Prop :=
 ∃ g off cap C,v = .slice (some ⟨g,off,none⟩) Q.length cap ∧ B ≤ g ∧ w.heap[g]? = some (.cells C 108 (0,0)) ∧ Q.length ≤ cap ∧ off + cap * 3 ≤ C.size ∧ w.rangeAt g off (qcs Q)
theorem range_kept {w w' : World} {g off : Nat} {cs : List Value} (h : w.rangeAt g off cs) (e : w'.heap[g]? = w.heap[g]?) : w'.rangeAt g off cs := fun j v hv => by
 rw [World.cell?_of_block (w := w) e]; exact h j v hv
theorem QAt.kept {B : Nat} {v : Value} {Q : List Way} {w w' : World} {row : Option Nat} (h : QAt B v Q w) (hg : w.grownBy w' row) (hr : v.ownBlock ≠ row) : QAt B v Q w' := by
 obtain ⟨g,off,cap,C,rfl,h1,h2,h3,h4,h5⟩ := h
 have e := hg.block g (Array.getElem?_eq_some_iff.1 h2).1 (fun e => hr (by rw [← e]; rfl))
 exact ⟨g,off,cap,C,rfl,h1,e.trans h2,h3,h4,range_kept h5 e⟩
theorem QAt.ne {B : Nat} {v : Value} {Q : List Way} {w : World} (h : QAt B v Q w) {g : Nat} {o : Obj} (hm : w.heap[g]? = some o) (ho : ∀ c t fr,o ≠ .cells c t fr) : v.ownBlock ≠ some g := by
 obtain ⟨g',off,cap,C,rfl,h1,h2,_⟩ := h
 intro e
 cases e
 rw [h2] at hm
 exact ho _ _ _ (Option.some.inj hm).symm
theorem QAt.pop {B : Nat} {g off n cap : Nat} {e : Way} {Q : List Way} {w : World} (h : QAt B (.slice (some ⟨g,off,none⟩) n cap) (e :: Q) w) : QAt B (.slice (some ⟨g,off + 3,none⟩) (n - 1) (cap - 1)) Q w := by
 obtain ⟨g',off',cap',C,e1,h1,h2,h3,h4,h5⟩ := h
 injection e1 with e1 e2 e3
 injection e1 with e1
 injection e1 with e1 e4 _
 subst e1; subst e4; subst e2; subst e3
 rw [List.length_cons] at h3
 refine ⟨g,off + 3,cap - 1,C,by rw [List.length_cons]; rfl,h1,h2,by omega,by omega,fun k u hk => ?_⟩
 have := h5 (k + 3) u (by
  unfold qcs at hk ⊢
  rw [List.flatMap_cons,List.getElem?_append_right (by simp [qc])]
  simpa [qc] using hk)
 rwa [show off + 3 + k = off + (k + 3) by omega]
theorem setCells_heap {g : Nat} : ∀ {vs : List Value} {o : Nat} {w : World} {C : Array Value} {t : TypeId} {fr : Nat × Nat},w.heap[g]? = some (.cells C t fr) → ∃ C',(w.setCells g o vs).heap[g]? = some (.cells C' t fr) ∧ C'.size = C.size
 | [],o,w,C,t,fr,h => ⟨C,h,rfl⟩
 | v :: vs,o,w,C,t,fr,h => by
  have h1 : (w.setCell ⟨g,o,none⟩ v).heap[g]? = some (.cells (C.setIfInBounds o v) t fr) := by
   simp [World.setCell,Array.getElem?_modify,h]
  obtain ⟨C',h2,h3⟩ := setCells_heap (vs := vs) (o := o + 1) h1
  exact ⟨C',h2,by simpa using h3⟩
theorem setCells_grown {g : Nat} : ∀ {vs : List Value} {o : Nat} {w : World},w.grownBy (w.setCells g o vs) (some g)
 | [],o,w => ⟨rfl,rfl,rfl,Nat.le_refl _,fun _ _ _ => rfl⟩
 | v :: vs,o,w => by
  have h := setCells_grown (g := g) (vs := vs) (o := o + 1) (w := w.setCell ⟨g,o,none⟩ v)
  have hs : (w.setCell ⟨g,o,none⟩ v).heap.size = w.heap.size := by simp [World.setCell]
  refine ⟨h.os,h.tape,h.output,by rw [← hs]; exact h.size,fun k hk hne => ?_⟩
  rw [show (w.setCells g o (v :: vs)).heap[k]? = ((w.setCell ⟨g,o,none⟩ v).setCells g (o + 1) vs).heap[k]? from rfl,h.block k (by rw [hs]; exact hk) hne]
  exact Deep.blk_setCell_other _ _ _ _ (fun e => hne (by rw [e]))
theorem wpList_append_eq {P : Program} {w : World} {ops : Array Oper} {rest : List Oper} {o : Oper} {a : Act} {Q : Exit → Act → World → Prop} (hgd : o.guard = none) (s x : Operand) (t : TypeId)
  (ho : o.op = .call { callee := .builtin .append,args := #[s,x],argTypes := #[t,t] }) (v vx v' : Value) (w' : World) (hs : a.eval s = v) (hx : a.eval x = vx)
  (hr : (Builtin.append_ #[t,t] o.type #[v,vx]).run P w = .ok v' w') (h : wpList P ops Q rest (a.put o.dst v') w') : wpList P ops Q (o :: rest) a w := by
 refine wpList_plain hgd fun K hK => ?_
 unfold Oper.wp execOp
 simp only [ho,resolve,invoke,builtin,Sem.run_bind,Sem.run_pure,Result.andThen_ok,List.map_toArray,List.map_cons,List.map_nil,hs,hx,hr]
 exact hK _ _ h
theorem append_q {B g off n cap gn : Nat} {Q : List Way} {e : Way} {w : World} (ty : TypeId) (h : QAt B (.slice (some ⟨g,off,none⟩) n cap) Q w) (hB : B ≤ w.heap.size) (hn : Q.length ≤ 1000)
  (hnew : ∀ j u,(qc e)[j]? = some u → w.cell? ((⟨gn,0,none⟩ : Addr).add j) = some u) :
  ∃ g' off' n' cap' w',(Builtin.append_ #[109,109] ty #[.slice (some ⟨g,off,none⟩) n cap,.slice (some ⟨gn,0,none⟩) 1 1]).run Try.prog w = .ok (.slice (some ⟨g',off',none⟩) n' cap') w' ∧ QAt B (.slice (some ⟨g',off',none⟩) n' cap') (Q ++ [e]) w' ∧ w.grownBy w' (some g) ∧ (g' = g ∨ w.heap.size ≤ g') := by
 obtain ⟨i0,hi0,hz0,hs0,hb0⟩ := info_parts (show (Try.prog.info? 108).map (fun i => (i.zero,i.size,i.bytes)) = some (some (.agg #[.int .i64 0,.int .i64 0,.string ⟨#[]⟩]),3,32) by kernel_rfl)
 obtain ⟨g',off',cap',C,e1,h1,h2,h3,h4,h5⟩ := h
 injection e1 with e1 e2 e3
 injection e1 with e1
 injection e1 with e1 e4 _
 subst e1; subst e4; subst e2; subst e3
 have hsrc : Src Try.prog i0.size 109 (.slice (some ⟨gn,0,none⟩) 1 1) 1 (qc e) w := Src.ofSlice w Try.underlying109 ⟨gn,0,none⟩ 1 1 (qc e) (by rw [hs0]; rfl) hnew (fun u hu => qcs_one (Q := [e]) u (by simpa [qcs] using hu))
 have hqe : (qc e).length = 3 := rfl
 have hql := @qcs_len Q
 have happ : qcs (Q ++ [e]) = qcs Q ++ qc e := by unfold qcs; rw [List.flatMap_append]; simp
 by_cases hroom : Q.length + 1 ≤ cap
 ·have hth : w.there g (off + Q.length * 3) (qc e).length := fun j hj => by
   rw [hqe] at hj
   refine ⟨?_,by simp [World.frozen?,h2]⟩
   have : off + Q.length * 3 + j < C.size := by omega
   simp [World.cell?,h2,this]
  have hr := run_append_room_src w 109 109 ty 108 i0 Try.underlying109 hi0 g off Q.length cap _ 1 (qc e) hsrc hroom (fun j hj => by rw [hs0]; exact (hth j hj).1) (fun j hj => by rw [hs0]; exact (hth j hj).2)
  rw [hs0] at hr
  obtain ⟨C',c1,c2⟩ := setCells_heap (g := g) (vs := qc e) (o := off + Q.length * 3) h2
  refine ⟨_,_,_,_,_,hr,⟨g,off,cap,C',by rw [List.length_append]; rfl,h1,c1,by rw [List.length_append]; exact hroom,by rw [c2]; exact h4, ?_⟩,setCells_grown,.inl rfl⟩
  rw [happ]
  intro j u hj
  rcases Nat.lt_or_ge j (qcs Q).length with hlt | hge
  ·rw [List.getElem?_append_left hlt] at hj
   exact World.rangeAt_setCells_apart h5 g _ _ (.inr (.inl (by omega))) j u hj
  ·rw [List.getElem?_append_right hge] at hj
   have := World.rangeAt_setCells_same w g (off + Q.length * 3) (qc e) hth _ u hj
   rwa [show off + Q.length * 3 + (j - (qcs Q).length) = off + j by omega] at this
 ·have hold : (Builtin.firstCells i0.size Q.length (.slice (some ⟨g,off,none⟩) Q.length cap)).run Try.prog w.drew = .ok (qcs Q).toArray w.drew :=
   run_firstCells_some w.drew i0.size Q.length ⟨g,off,none⟩ Q.length cap (qcs Q) (by rw [hs0]; exact hql) (fun j u hj => by rw [Addr.add_lit]; exact h5 j u hj)
  have hr := run_append_grow_src (P := Try.prog) w 109 109 ty 108 i0 (.agg #[.int .i64 0,.int .i64 0,.string ⟨#[]⟩]) Try.underlying109 hi0 hz0 (some ⟨g,off,none⟩) Q.length cap (qcs Q) hold _ 1 (qc e) hsrc (by omega) (by omega) (growslice_fits (by omega) (by rw [hb0]; omega))
  have hcapge := grownCap_ge w (Q.length + 1) cap 108
  refine ⟨_,_,_,_,_,hr,⟨w.heap.size,0,_,_,by rw [List.length_append]; rfl,hB,heap_alloc_new _ _,by rw [List.length_append]; exact hcapge, ?_, ?_⟩,⟨rfl,rfl,rfl,by simp,fun k hk hne => heap_alloc_old _ _ hk⟩,.inr (Nat.le_refl _)⟩
  ·have hz3 : (Value.agg #[.int .i64 0,.int .i64 0,.string ⟨#[]⟩]).cells.size = 3 := rfl
   simp only [Builtin.zeroCells,Array.size_append,List.size_toArray,List.length_append,Array.size_map,Array.size_range,hql,hqe,hz3]
   omega
  ·rw [happ]
   intro j u hj
   have hlt : j < (qcs Q ++ qc e).length := (List.getElem?_eq_some_iff.1 hj).1
   have hc : (w.drew.alloc (.cells ((qcs Q ++ qc e).toArray ++ Builtin.zeroCells (Value.agg #[.int .i64 0,.int .i64 0,.string ⟨#[]⟩]).cells (grownCap w (Q.length + 1) cap 108 - (Q.length + 1))) 108)).heap[w.heap.size]? = _ := heap_alloc_new w.drew _
   simp only [World.cell?,hc,Nat.zero_add]
   simp only [Option.isSome_none,Bool.false_eq_true,if_false]
   rw [Array.getElem?_append_left (by simpa using hlt)]
   simpa using hj
end Go.Proofs.Ytmnmfmghmenkkaa
set_option linter.unusedSimpArgs false
set_option linter.unusedVariables false
namespace Go.Proofs.Ytmnmfmghmenkkaa
open Go.Abs Go.Pur
set_option maxRecDepth 100000
def pV2 (p : Int × Int) : Value := .agg #[.int .i64 p.1,.int .i64 p.2]
theorem prun_prog {P : Program} : prun P (program) = some P := rfl
theorem held106 : Try.prog.stoodInHeld 106 = false := by kernel_rfl
theorem part0 {a b : Int} : prun Try.prog (part 3 #[.int .i64 a,.int .i64 b] 0) = some (.int .i64 a) := by kernel_rfl
theorem part1 {a b : Int} : prun Try.prog (part 3 #[.int .i64 a,.int .i64 b] 1) = some (.int .i64 b) := by kernel_rfl
theorem eqint {k : Nat} {a b : Int} : prun Try.prog (Op.equalIn (k + 1) 3 (.int .i64 a) (.int .i64 b)) = some (decide (a = b)) := by
 rw [Op.equalIn]
 rw [prun_bind _ _ (prun_und Try.underlying3)]
 rfl
theorem equal106 {k : Nat} {a b c d : Int} : prun Try.prog (Op.equalIn (k + 1 + 1) 106 (.agg #[.int .i64 a,.int .i64 b]) (.agg #[.int .i64 c,.int .i64 d])) = some (decide (a = c) && decide (b = d)) := by
 rw [Op.equalIn]
 simp [prun_bnd,prun_pure,prun_und Try.underlying106,prun_prog,held106]
 rw [part0,part0]
 dsimp only
 rw [eqint]
 by_cases h1 : a = c
 ·rw [decide_eq_true h1]
  simp [prun_bnd,prun_pure,part1,eqint,h1]
  by_cases h2 : b = d
  ·simp [h2,prun_pure]
  ·simp [h2,prun_pure]
 ·rw [decide_eq_false h1]
  simp [prun_bnd,prun_pure,h1]
theorem ask_pair {W : Type} {vf : W → Value} {p : Int × Int} : ∀ {l : Mp (Int × Int) W} {i : Nat},prun Try.prog (Instr.findAsking 106 (pV2 p) (mE pV2 vf l) i) = some ((mIdx p l i).map fun q => (q.1,vf q.2))
 | [],i => rfl
 | e :: l,i => by
  show prun Try.prog (Instr.findAsking 106 (pV2 p) (⟨pV2 e.1,vf e.2.1,e.2.2⟩ :: mE pV2 vf l) i) = _
  rw [Instr.findAsking]
  have he : prun Try.prog (Op.equal 106 (pV2 p) (pV2 e.1)) = some (decide (e.1 = p)) := by
   unfold Op.equal pV2
   rw [show Op.maxDepth = 9998 + 1 + 1 from rfl,equal106]
   congr 1
   obtain ⟨a,b⟩ := p
   obtain ⟨⟨c,d⟩,v,s⟩ := e
   by_cases h1 : a = c
   ·by_cases h2 : b = d
    ·subst h1 h2; simp
    ·have : ¬ (c,d) = (a,b) := fun h => h2 (by simpa using (Prod.mk.inj h).2.symm)
     rw [decide_eq_false h2,decide_eq_false this]; simp
   ·have : ¬ (c,d) = (a,b) := fun h => h1 (by simpa using (Prod.mk.inj h).1.symm)
    rw [decide_eq_false h1,decide_eq_false this]; simp
  rw [prun_bind _ _ he,mIdx]
  cases decide (e.1 = p) with
  | true => rfl
  | false =>
   simp only [Bool.false_eq_true,if_false]
   exact ask_pair
theorem key_pair : KeyT Try.prog 106 pV2 := by
 refine ⟨fun emp k => by cases emp <;> kernel_rfl,fun {W} vf l k => ?_,fun k => ?_,fun k => rfl⟩
 ·unfold Instr.findKey
  rw [prun_bind _ _ (prun_und Try.underlying106)]
  cases l with
  | nil => rfl
  | cons e l =>
   exact ask_pair (l := e :: l) (i := 0)
 ·unfold pV2
  show ((IntKind.i64 == IntKind.i64 && k.1 == k.1) && ((IntKind.i64 == IntKind.i64 && k.2 == k.2) && true)) = true
  simp
end Go.Proofs.Ytmnmfmghmenkkaa
set_option linter.unusedSimpArgs false
set_option linter.unusedVariables false
set_option linter.unusedSectionVars false
namespace Go.Pur
open Go.Abs
def bytO (l : List UInt8) : Option (List Int) := match Nat.ble l.length 1000000 with
 | true => some (l.map fun b => (b.toNat : Int))
 | false => none
theorem bytO_ok {l : List UInt8} {x : List Int} (h : bytO l = some x) : l.length = x.length ∧ (l.map fun b => PV.v (.int .u8 b.toNat)) = x.map (kv .u8) ∧ Nat.ble (x.length + 1) unkCap = true := by
 unfold bytO at h
 split at h
 ·rename_i hb
  cases h
  refine ⟨by simp,by simp, ?_⟩
  refine Nat.ble_eq_true_of_le ?_
  have := Nat.le_of_ble_eq_true hb
  simp only [List.length_map]
  exact Nat.lt_of_le_of_lt this (show 1000000 < unkCap by decide)
 ·cases h
theorem bytO_at {l : List UInt8} (h : l.length ≤ 1000000) : bytO l = some (l.map fun b => (b.toNat : Int)) := by
 unfold bytO
 rw [Nat.ble_eq_true_of_le h]
end Go.Pur
set_option linter.unusedSimpArgs false
set_option linter.unusedVariables false
namespace Go.Proofs.Ytmnmfmghmenkkaa
open Go.Abs Go.Pur
def lstO : Option (List KR) → Option (List (List UInt8))
 | some [.l cs] => txs cs
 | _ => none
where txs : List Value → Option (List (List UInt8))
 | [] => some []
 | v :: l => match keyS v,txs l with
  | some k,some r => some (k :: r)
  | _,_ => none
def f70O (a b : List UInt8) (most : Int) : Option (List UInt8 × Bool) := match decide (a.length ≤ 10) && decide (b.length ≤ 10) && decide (most ≤ 10) with
 | true => some ((bfs0 a b most).getD [],(bfs0 a b most).isSome)
 | false => none
theorem f70_is {a b : List UInt8} {most : Int} {r : List UInt8 × Bool} {hp : List (Option (List PV))} (h : f70O a b most = some r) : E Try.prog Y0 70 [.v (.string (bs a)),.v (.string (bs b)),iv most] hp = some (.t [.v (.string (bs r.1)),.v (.bool r.2)],hp,none) := by
 unfold f70O at h
 split at h
 ·rename_i hok
  cases h
  refine E_known rfl ?_
  show libP e70 [.v (.string (bs a)),.v (.string (bs b)),iv most] hp = _
  have he : e70 [.p (.string (bs a)),.p (.string (bs b)),.p (.int .i64 most)] = some [.p (.string ⟨((bfs0 a b most).getD []).toArray⟩),.p (.bool (bfs0 a b most).isSome)] := by
   show (match decide (a.length ≤ 10) && decide (b.length ≤ 10) && decide (most ≤ 10) with
    | true => some [KR.p (.string ⟨((bfs0 a b most).getD []).toArray⟩),.p (.bool (bfs0 a b most).isSome)]
    | false => none) = _
   rw [hok]
  unfold libP
  show (match e70 [.p (.string (bs a)),.p (.string (bs b)),.p (.int .i64 most)] with
   | some rs => match rs.all okR with
    | true => some (pPack (pRes rs),hp,none)
    | false => none
   | none => none) = _
  rw [he]
  rfl
 ·cases h
end Go.Proofs.Ytmnmfmghmenkkaa
set_option linter.unusedSimpArgs false
set_option linter.unusedVariables false
set_option linter.unusedSectionVars false
namespace Go.Pur
open Go.Abs Go.RowKit
theorem pplains_map : ∀ {rs : List Value},pplains (rs.map .v) = some rs
 | [] => rfl
 | r :: rs => by
  show (match (PV.v r :: rs.map .v) with
   | [] => some []
   | .v x :: l => match pplains l with
    | some r => some (x :: r)
    | none => none
   | _ :: _ => none) = _
  simp only [pplains_map]
theorem vr_packed {C : Ctx} {h : AHeap} {π : Option Pl} {rs : List Value} {x : Value} (hv : VR C h π (pPack (rs.map .v)) x) : x = packed rs := by
 have two : ∀ {rs : List Value} {x : Value},VR C h π (.t (rs.map .v)) x → x = .tuple rs.toArray := fun {rs x} hv => by
  obtain ⟨l,rfl,hl⟩ := hv.inv_t
  obtain ⟨e,_⟩ := pplains_lr pplains_map hl
  rw [e]
 match rs,hv with
 | [],hv => exact two hv
 | [v],hv => exact hv.inv_v.1
 | a :: b :: r,hv => exact two hv
theorem vrel_packed {m : BMap} {rs : List Value} {v : Value} (hok : rs.all okP = true) (h : VRel m (packed rs) v) : v = packed rs := by
 have two : ∀ {rs : List Value} {v : Value},rs.all okP = true → VRel m (.tuple rs.toArray) v → v = .tuple rs.toArray := fun {rs v} hok h => by
  obtain ⟨l,rfl,hl⟩ := h.inv_tuple
  have := LRel.all_plain hl (List.all_eq_true.2 fun v hv => okP_plain (List.all_eq_true.1 hok v hv))
  have e : l = rs.toArray := Array.toList_inj.1 this
  rw [e]
 match rs,hok,h with
 | [],hok,h => exact two hok h
 | [a],hok,h => exact h.inv_plain (v := a) (okP_plain (by simpa using hok))
 | a :: b :: r,hok,h => exact two hok h
section
variable {P : Program} {Y : Pol} {W : World}
theorem Lies.below {B : Blk} {L : Abs.Loc} {n : Nat} {W W' : World} (h : Lies W B L) (hL : L.b < n) (hb : Below n W W') : Lies W' B L := by
 obtain ⟨h1,h2,h3,h4,h5⟩ := h
 have e : W'.heap[L.b]? = W.heap[L.b]? := hb.block _ hL
 refine ⟨h1,h2,Nat.lt_of_lt_of_le h3 hb.size,h4.imp (fun h => h) (fun ⟨C,t,fr,h⟩ => ⟨C,t,fr,by rw [e]; exact h⟩),fun k v hk => ?_⟩
 obtain ⟨c1,c2⟩ := h5 k v hk
 exact ⟨by rw [World.cell?_of_block (w := W) e]; exact c1,c2⟩
theorem rel_bare {m : BMap} {h : AHeap} (hR : Rel P m h W) : Rel P m ⟨h.next,h.next,.nil,.nil⟩ W :=
 ⟨hR.lt,hR.fresh,(fun a B L hg => by cases hg),(fun a a' B B' L L' hg => by cases hg),hR.glob,fun _ _ => rfl,⟨(fun a x L hx => by cases hx),(fun a a' x x' L L' hx => by cases hx),fun _ _ => rfl⟩⟩
theorem lp_plain {C : Ctx} {h : AHeap} : ∀ {vs : List Value},(∀ v ∈ vs,plain v = true ∧ ∀ n c,v ≠ .slice none n c) → LP1 C h (vs.map .v) vs
 | [],_ => trivial
 | v :: vs,hv => ⟨⟨fun d => .v _ v (hv v List.mem_cons_self).1 (hv v List.mem_cons_self).2,rfl⟩,lp_plain fun x hx => hv x (List.mem_cons_of_mem _ hx)⟩
theorem pure_plain (hmix : P.follows .mixedOrders = true) (hok : progOK P = true) (hlib : ∀ g,Y.yes g = true → FnOK P Y g) (hgl : Y.glob = []) {m : BMap} {h : AHeap} (hR : Rel P m h W)
  {f : FuncId} {vs : List Value} {rs : List Value} {hp' : List (Option (List PV))} {wl : Option Nat} (hrs : rs.all okP = true) (hv : ∀ v ∈ vs,plain v = true ∧ ∀ n c,v ≠ .slice none n c) (hE : E P Y f (vs.map .v) [] = some (pPack (rs.map .v),hp',wl)) :
  Calls P f vs.toArray W fun e W' => e = .returned (packed rs) ∧ Below W.heap.size W W' := by
 have hR0 := rel_bare hR
 obtain ⟨n,hn⟩ := E_iff.1 hE
 obtain ⟨O,hl,hO,hOe⟩ := lib_of hlib
 obtain ⟨C',h',x',r1,r2⟩ := purRun_sim hl hok n f (vs.map .v) [] _ hp' wl hn (C0 P 0) ⟨h.next,h.next,.nil,.nil⟩ vs 0
  ⟨rfl,⟨fun _ h => h,fun id h => absurd h (Nat.not_lt_zero _),fun _ _ h => (by cases h),fun _ _ h => (by cases h),fun _ _ _ h => (by cases h),fun _ _ h => (by simp at h),fun _ _ h => (by simp at h)⟩,(fun g cs hg => by rw [hgl] at hg; cases hg),fun _ _ h => (by cases h),lp_plain hv⟩
 obtain rfl := vr_packed r2.res
 have hL : LRel m vs vs := ⟨rfl,fun i hi => by
  have e : vs.getD i undef = vs[i] := by rw [List.getD_eq_getElem?_getD,List.getElem?_eq_getElem hi]; rfl
  rw [e]
  exact .plain _ (hv _ (List.getElem_mem hi)).1⟩
 obtain ⟨_,hc⟩ := sound_call hmix hOe hO n f vs _ (packed rs) h' r1
 refine (hc _ W vs hR0 hL).mono fun e W' ⟨m',v',he,hv,_,hs⟩ => ?_
 rw [vrel_packed hrs hv] at he
 exact ⟨he,⟨hs.os,hs.tape,hs.output,hs.size,fun k hk => hs.frame k hk (fun a B L hB hwr _ _ => by cases hB) (fun a x L hx => (by cases hx))⟩⟩
end
end Go.Pur
set_option linter.unusedSimpArgs false
set_option linter.unusedVariables false
namespace Go.Proofs.Ytmnmfmghmenkkaa.Q
open Go.Abs Go.Pur
set_option maxRecDepth 100000
set_option maxHeartbeats 2000000
def Y0 : Pol := { keep := keepOf,glob := [],mv := mvOf }
theorem Y0_fzm {f t : Nat} : Y0.fzm f t = fzmOf f t := rfl
theorem Y0_keep {f t : Nat} : Y0.keep f t = keepOf f t := rfl
theorem Y0_how {f g : Nat} : Y0.how f g = howOf f g := rfl
theorem Y0_mv {f t : Nat} : Y0.mv f t = mvOf f t := rfl
theorem Y0_part {f : Nat} : Y0.part f = partOf f := rfl
attribute [local simp] EK_region EK_seq EK_cond EK_block EK_blk EK_loop EK_exit EK.ex EK_ret EK_skip EK_nil EO_cons EO_nil EO1_true EO1_false EO2_some EO3_some EB_true EB_false pwanted poper pq pev Go.Pur.look pputT isAssign drOf pinit Tr.get_set lget pvOf_int pvOf_bool pvOf_str pvOf_nil rdv_ak notOwn_ak prt_ak loose_ak rdv_own rdv_fz rdv_bor rdv_rf rdv_pt rdv_v rdv_a rdv_t rdv_r rdv_p rdv_s rdv_f pbin plen pload ppart idxAddr pcond Nat.blt goInt_eq prun_not prun_neg mayLoad ER_ret ER_normal presL presOne moved stor okDrop settle_v settle_l settle_a settle_p settle_f noref_v noref_fz noref_a norefs_nil norefs_cons pclose given dropB Y0_keep pevParts stors pvCells pvCells.go vcells pfill reps zipParts ownFz pcells cellOK one psrcLen srcFits psrc takeP pgrow take getPl setPl mapL plEq elder isList lowP pevs frzs addP partAt ble_lim24 killV_v killV_a killV_t killV_f killV_i killV_p killV_s killV_un killV_dead killV_lfz killV_lbor killV_lown killV_rfz killV_rbor killV_lak killV_rak frzV_v frzV_a frzV_t frzV_f frzV_i frzV_p frzV_s frzV_un frzV_dead frzV_lfz frzV_lbor frzV_lown frzV_rfz frzV_rbor frzV_lak frzV_rak killCell_v killCell_a killCell_t killCell_f killCell_i killCell_p killCell_s killCell_un killCell_dead killCell_lfz killCell_lbor killCell_lown killCell_rfz killCell_rbor killCell_lak killCell_rak killV_lrf killV_lpt killV_rpt frzV_lrf frzV_lpt frzV_rpt killCell_lrft killCell_lptt killCell_rptt killCell_lrfc killCell_lptc killCell_rptc argv_lak argv_rak argv_v argv_a argv_p argv_f argv_fz argv_bor argv_rf argv_pt argv_rc argv_own mayTurn_none argvs pcallOp firm refsTo_v refsTo_l refsTo_p refsTo_s refsTo_a refsTo_dead refsTo_nil refsTo_cons isOwn_lak ownFz_lak evSafe pskip plain pnewBlk fldAddr isOwn pput notOwn_fz notOwn_bor notOwn_own notOwn_rf notOwn_pt prt_fz prt_bor prt_own prt_rf prt_pt Go.Pur.freeze presM settles abin_and abin_or abin_andNot abin_mul abin_shr abin_shl abin_add abin_sub abin_eql abin_neq abin_lss abin_leq abin_gtr abin_geq hows pcallIn Y0_how Y0_part howOf partOf rdv_mown rdv_mfz rdv_mbor rdv_mrf killV_mown killV_mfz killV_mbor killV_mrf frzV_mown frzV_mfz frzV_mbor frzV_mrf killCell_mown killCell_mfz killCell_mbor killCell_mrf argv_mfz argv_mbor argv_mrf settle_m kls_v kls_l kls_a kls_t kls_r kls_p kls_s kls_f kls_i kls_it kls_un kls_dead kls_mown kls_mrf kls_mbor kls_mfz fzOf takable mapHere mapOwn mapTo flat toPlain toPlain.go ofFlat ofPair mapEs plook lookRes Y0_mv mvOf mvBlk premv Y0_fzm fzmOf poperX pconv mvOp keep68 keep81 sz3 by3 row3 zero3 sz4 by4 row4 zero4 sz5 by5 row5 zero5 sz9 by9 row9 shape9 zero9 sz21 by21 row21 zero21 sz22 by22 row22 zero22 sz24 by24 row24 zero24 sz29 by29 row29 shape29 zero29 sz36 by36 row36 shape36 zero36 sz52 by52 row52 shape52 zero52 parts52 sz54 by54 row54 zero54 parts54 field54_0 field54_1 sz58 by58 row58 zero58 mt58 az3 sz63 by63 row63 zero63 sz66 by66 row66 shape66 zero66 parts66 sz67 by67 row67 shape67 zero67 sz75 by75 row75 shape75 zero75 sz76 by76 row76 shape76 zero76 sz78 by78 row78 zero78 mt78 sz79 by79 row79 shape79 zero79 sz92 by92 row92 zero92 sz94 by94 row94 zero94 parts94 field94_0 field94_1 sz99 by99 row99 shape99 zero99 sz102 by102 row102 zero102 mt102 az4 sz103 by103 row103 zero103 mt103 sz106 by106 row106 zero106 parts106 field106_0 field106_1 sz108 by108 row108 zero108 parts108 field108_0 field108_1 sz109 by109 row109 shape109 zero109 sz110 by110 row110 zero110 mt110 sz112 by112 row112 zero112 sz115 by115 row115 zero115 sz116 by116 row116 zero116 sz119 by119 row119 zero119 sz127 by127 row127 zero127 sz129 by129 row129 zero129 sz130 by130 row130 zero130 sz134 by134 row134 zero134 bs_size gAt gAt0 sAt sAt0 optPlain rows_len noMaker_eq kindOf vlOf abin_rem abin_quo mayTurn_none lowOf_none Go.Pur.partAt rows_nil rows_cons ble_add ble_add0 ble_same toPlain toPlain.go intIn2_0 intIn2_1 ble12 ble22 tv lv max_int min_int pplains ak_true ak_false apartP beq_add beq_add0 beq_add1 argv_s wok_none wok_low_iff lowOf_wok
def f68_L0 (F : Nat) (p0 : List Int) (p1 : Int) (x1 : Int) (K : Unit → Option (Int)) : Nat → Int → Option (Int)
  | 0,_ => none
  | n + 1,v2 => (some (decide (v2 < x1))).bind fun x3 =>
    (match x3 with
    | true => ((gI p0 v2).bind fun y4 =>
    (some (decide (p1 = y4))).bind fun x5 =>
    (match x5 with
    | true => (some v2)
    | false => ((some (IntKind.i64.wrap (v2 + 1))).bind fun x6 =>
    f68_L0 F p0 p1 x1 K n x6)))
    | false => (K ()))
def f68S (F : Nat) (p0 : List Int) (p1 : Int) : Option (Int) :=
  (some ((p0.length : Int))).bind fun x1 =>
  f68_L0 F p0 p1 x1 (fun _ =>
    some (-1)) F 0
theorem f68_is {a0 : Bool} {c0 : Ck} {p0 : List Int} {p1 : Int} {hp : List (Option (List PV))} {F : Nat} {r : (Int)}  (h : f68S F p0 p1 = some r) :
    E Try.prog Y0 68 [.l (ak a0) c0 p0.length (p0.map (kv .u8)),kv .u8 p1] hp = some (iv r,hp,none) := by
  rw [E_bodyN 2 body68 rfl (by decide) rfl]
  simp only [Try.f68,Option.get_some]
  unfold f68S at h
  obtain ⟨x1,ex1,h⟩ := bindT h
  simp [ex1]
  have hL0 := h; clear h
  refine loopS (S := f68_L0 F p0 p1 x1) (fun v2 σ => ∃ (ts : Tr PV) (w : Option Nat),wok hp.length w ∧ σ = ⟨[],ts,hp,w⟩ ∧ ts.get 0 = some (.l (ak a0) c0 p0.length (p0.map (kv .u8))) ∧ ts.get 1 = some (kv .u8 p1) ∧ ts.get 7 = some (iv x1) ∧ ts.get 8 = some (iv v2) ∧ True) (fun _ σ => ∃ (ts : Tr PV) (w : Option Nat),wok hp.length w ∧ σ = ⟨[],ts,hp,w⟩ ∧ True) (fun _ => rfl) hL0 ?_ ?_ ?_
  · exact ⟨_,_,by simp,rfl,by simp [ex1]⟩
  · rintro ⟨⟩ σ ⟨ts,w,hw,rfl,-⟩ h
    clear hL0
    try dsimp only at h
    obtain rfl := inj_ok h
    simp [hw]
  · rintro k n v2 σ ⟨ts,w,hw,rfl,g0,g1,g7,g8,-⟩ h ih ex
    clear hL0
    rw [f68_L0] at h
    obtain ⟨x3,ex3,h⟩ := bindT h
    cases x3
    case false =>
     simp [g0,g1,g7,g8,ex3]
     refine ex () _ ?_ h
     exact ⟨_,_,by simp [hw],rfl,by simp [g0,g1,g7,g8,ex3]⟩
    obtain ⟨y4,ey4,h⟩ := bind_ok h
    obtain ⟨ey4a,ey4e,ey4b,ey4c,ey4g⟩ := gI_ok rfl ey4
    obtain ⟨x5,ex5,h⟩ := bindT h
    cases x5
    case true =>
     obtain rfl := inj_ok h
     simp [g0,g1,g7,g8,ex3,ey4a,ey4b,ey4c,ex5,hw]
    obtain ⟨x6,ex6,h⟩ := bindT h
    simp [g0,g1,g7,g8,ex3,ey4a,ey4b,ey4c,ex5,ex6]
    refine ih x6 _ ?_ h
    exact ⟨_,_,by simp [hw],rfl,by simp [g0,g1,g7,g8,ex3,ey4a,ey4b,ey4c,ex5,ex6]⟩
def f81S (F : Nat) (p0 : List UInt8) (p1 : Int) (p2 : Int) : Option (Int) :=
  (some (decide (p1 < 0))).bind fun x1 =>
  (match x1 with
  | true => (some (-1))
  | false => ((subF p0 p1).bind fun x2 =>
  (bytO x2).bind fun x3 =>
  (f68S F x3 p2).bind fun x4 =>
  (some (decide (x4 < 0))).bind fun x6 =>
  (match x6 with
  | true => (some (-1))
  | false => ((some (IntKind.i64.wrap (p1 + x4))).bind fun x7 =>
  (some (IntKind.i64.wrap (x7 + 1))).bind fun x8 =>
  some x8))))
theorem f81_is {p0 : List UInt8} {p1 : Int} {p2 : Int} {hp : List (Option (List PV))} {F : Nat} {r : (Int)}  (h : f81S F p0 p1 p2 = some r) :
    E Try.prog Y0 81 [.v (.string (bs p0)),iv p1,kv .u8 p2] hp = some (iv r,hp,none) := by
  rw [E_bodyN 3 body81 rfl (by decide) rfl]
  simp only [Try.f81,Option.get_some]
  unfold f81S at h
  obtain ⟨x1,ex1,h⟩ := bindT h
  cases x1
  case true =>
   obtain rfl := inj_ok h
   simp [ex1]
  obtain ⟨x2,ex2,h⟩ := bind_ok h
  have ex2 := fun {k : IntKind} => subF_ok (P := Try.prog) (t := 9) Try.underlying9 ex2 (k := k)
  obtain ⟨x3,ex3,h⟩ := bind_ok h
  obtain ⟨ex3l,ex3m,ex3s⟩ := bytO_ok ex3
  obtain ⟨x4,e5,h⟩ := bind_ok h
  have e5 : ∀ hp,E Try.prog Y0 68 [.l .fz .any x3.length (x3.map (kv .u8)),kv .u8 p2] hp = some (iv x4,hp,none) := fun hp => f68_is (a0 := false) (c0 := .any) e5
  obtain ⟨x6,ex6,h⟩ := bindT h
  cases x6
  case true =>
   obtain rfl := inj_ok h
   simp [ex1,ex2,shape9,pqSlice,ex3l,ex3m,ex3s,e5,ex6]
  obtain ⟨x7,ex7,h⟩ := bindT h
  obtain ⟨x8,ex8,h⟩ := bindT h
  obtain rfl := inj_ok h
  simp [ex1,ex2,shape9,pqSlice,ex3l,ex3m,ex3s,e5,ex6,ex7,ex8]
end Go.Proofs.Ytmnmfmghmenkkaa.Q
namespace Go.Proofs
open Go.Shelf
def Try.lays16c_ren : Go.Shelf.Ren := ⟨fun | 16 => 73 | n => n,fun | 24 => 36 | 9 => 9 | 4 => 4 | n => n,fun | n => n⟩
theorem Try.lays16c : Go.Proofs.Lays2.n16 Try.prog Try.lays16c_ren := {
 mixed := by kernel_rfl
 f16 := Try.func73.trans (congrArg some (by kernel_rfl))
 t4 := Try.underlying4
 a4 := Try.isAgg4
 z4 := Try.sizeOf4
 v4 := Try.zeroValue4
 t9 := Try.underlying9
 a9 := Try.isAgg9
 z9 := Try.sizeOf9
 v9 := Try.zeroValue9
 t24 := Try.underlying36
 a24 := Try.isAgg36
 z24 := Try.sizeOf36
 v24 := Try.zeroValue36
 i9 := by kernel_rfl }
def Try.lays24c_ren : Go.Shelf.Ren := ⟨fun | 24 => 72 | n => n,fun | 24 => 36 | 9 => 9 | 3 => 3 | 4 => 4 | 0 => 0 | n => n,fun | n => n⟩
theorem Try.lays24c : Go.Proofs.Lays2.n24 Try.prog Try.lays24c_ren := {
 mixed := by kernel_rfl
 f24 := Try.func72.trans (congrArg some (by kernel_rfl))
 t0 := Try.underlying0
 a0 := Try.isAgg0
 z0 := Try.sizeOf0
 v0 := Try.zeroValue0
 t3 := Try.underlying3
 a3 := Try.isAgg3
 z3 := Try.sizeOf3
 v3 := Try.zeroValue3
 t4 := Try.underlying4
 a4 := Try.isAgg4
 z4 := Try.sizeOf4
 v4 := Try.zeroValue4
 t9 := Try.underlying9
 a9 := Try.isAgg9
 z9 := Try.sizeOf9
 v9 := Try.zeroValue9
 t24 := Try.underlying36
 a24 := Try.isAgg36
 z24 := Try.sizeOf36
 v24 := Try.zeroValue36
 i9 := by kernel_rfl }
end Go.Proofs
set_option linter.unusedSimpArgs false
set_option linter.unusedVariables false
namespace Go.Proofs.Ytmnmfmghmenkkaa
open Go.Abs Go.Pur
def f44O (vs : List (List UInt8)) (i : Int) : Option (List UInt8 × Int) := match Nat.ble vs.length 60 && vs.all fun v => Nat.ble v.length 60 with
 | true => some (shortL vs i)
 | false => none
theorem pstrs_strV : ∀ {vs : List (List UInt8)},pstrs (vs.map strV) = some vs
 | [] => rfl
 | v :: vs => by
  show (match some v,pstrs (vs.map strV) with
   | some k,some r => some (k :: r)
   | _,_ => none) = _
  rw [pstrs_strV]
theorem paArg_strs {k : Vl} {c : Ck} {vs : List (List UInt8)} : paArg (.l k c vs.length (vs.map tv)) = some (.l (vs.map strV)) := by
 have h1 : vs.map tv = (vs.map strV).map PV.v := by rw [List.map_map]; rfl
 have h2 : pplains (vs.map tv) = some (vs.map strV) := by rw [h1]; exact pplains_map
 show (match pplains (vs.map tv),Nat.beq vs.length (vs.map tv).length with
  | some vs,true => some (KA.l vs)
  | _,_ => none) = _
 rw [h2,List.length_map,Nat.beq_refl]
theorem f44_is {k : Vl} {c : Ck} {vs : List (List UInt8)} {i : Int} {r : List UInt8 × Int} {hp : List (Option (List PV))} (h : f44O vs i = some r) : E Try.prog Y0 44 [.l k c vs.length (vs.map tv),iv i] hp = some (.t [.v (.string (bs r.1)),iv r.2],hp,none) := by
 unfold f44O at h
 split at h
 ·rename_i hok
  cases h
  refine E_known rfl ?_
  show libP e44 [.l k c vs.length (vs.map tv),iv i] hp = _
  have he : e44 [.l (vs.map strV),.p (.int .i64 i)] = some [.p (.string ⟨(shortL vs i).1.toArray⟩),.p (.int .i64 (shortL vs i).2)] := by
   show (match pstrs (vs.map strV) with
    | some vs => match Nat.ble vs.length 60 && vs.all fun v => Nat.ble v.length 60 with
     | true => some [KR.p (.string ⟨(shortL vs i).1.toArray⟩),.p (.int .i64 (shortL vs i).2)]
     | false => none
    | none => none) = _
   rw [pstrs_strV]
   simp only [hok]
  have hp2 : paArgs [.l k c vs.length (vs.map tv),iv i] = some [.l (vs.map strV),.p (.int .i64 i)] := by
   show (match paArg (.l k c vs.length (vs.map tv)),some [KA.p (.int .i64 i)] with
    | some a,some al => some (a :: al)
    | _,_ => none) = _
   rw [paArg_strs]
  unfold libP
  rw [hp2]
  simp only [he]
  rfl
 ·cases h
end Go.Proofs.Ytmnmfmghmenkkaa
set_option linter.unusedSimpArgs false
set_option linter.unusedVariables false
namespace Go.Proofs.Ytmnmfmghmenkkaa
open Go.Abs Go.Pur
set_option maxRecDepth 100000
set_option maxHeartbeats 2000000
attribute [local simp] Go.Pur.EK_region Go.Pur.EK_seq Go.Pur.EK_cond Go.Pur.EK_block Go.Pur.EK_blk Go.Pur.EK_loop Go.Pur.EK_exit EK.ex Go.Pur.EK_ret Go.Pur.EK_skip Go.Pur.EK_nil Go.Pur.EO_cons Go.Pur.EO_nil Go.Pur.EO1_true Go.Pur.EO1_false Go.Pur.EO2_some Go.Pur.EO3_some Go.Pur.EB_true Go.Pur.EB_false Go.Pur.pwanted Go.Pur.poper Go.Pur.pq Go.Pur.pev Go.Pur.look Go.Pur.pputT Go.Pur.isAssign Go.Pur.drOf Go.Pur.pinit Go.Abs.Tr.get_set Go.Pur.lget Go.Pur.pvOf_int Go.Pur.pvOf_bool Go.Pur.pvOf_str Go.Pur.pvOf_nil Go.Pur.rdv_ak Go.Pur.notOwn_ak Go.Pur.prt_ak Go.Pur.loose_ak Go.Pur.rdv_own Go.Pur.rdv_fz Go.Pur.rdv_bor Go.Pur.rdv_rf Go.Pur.rdv_pt Go.Pur.rdv_v Go.Pur.rdv_a Go.Pur.rdv_t Go.Pur.rdv_r Go.Pur.rdv_p Go.Pur.rdv_s Go.Pur.rdv_f Go.Pur.pbin Go.Pur.plen Go.Pur.pload Go.Pur.ppart Go.Pur.idxAddr Go.Pur.pcond Nat.blt Go.Pur.goInt_eq Go.Pur.prun_not Go.Pur.prun_neg Go.Pur.mayLoad Go.Pur.ER_ret Go.Pur.ER_normal Go.Pur.presL Go.Pur.presOne Go.Pur.moved Go.Pur.stor Go.Pur.okDrop Go.Pur.settle_v Go.Pur.settle_l Go.Pur.settle_a Go.Pur.settle_p Go.Pur.settle_f Go.Pur.noref_v Go.Pur.noref_fz Go.Pur.noref_a Go.Pur.norefs_nil Go.Pur.norefs_cons Go.Pur.pclose Go.Pur.given Go.Pur.dropB Y0_keep Go.Pur.pevParts Go.Pur.stors Go.Pur.pvCells pvCells.go Go.Abs.vcells Go.Pur.pfill Go.Pur.reps Go.Pur.zipParts Go.Pur.ownFz Go.Pur.pcells Go.Pur.cellOK Go.Pur.one Go.Pur.psrcLen Go.Pur.srcFits Go.Pur.psrc Go.Pur.takeP Go.Pur.pgrow Go.Pur.take Go.Pur.getPl Go.Pur.setPl Go.Pur.mapL Go.Pur.plEq Go.Pur.elder Go.Pur.isList Go.Pur.lowP Go.Pur.pevs Go.Pur.frzs Go.Pur.addP Go.Pur.partAt Go.Pur.ble_lim24 Go.Pur.killV_v Go.Pur.killV_a Go.Pur.killV_t Go.Pur.killV_f Go.Pur.killV_i Go.Pur.killV_p Go.Pur.killV_s Go.Pur.killV_un Go.Pur.killV_dead Go.Pur.killV_lfz Go.Pur.killV_lbor Go.Pur.killV_lown Go.Pur.killV_rfz Go.Pur.killV_rbor Go.Pur.killV_lak Go.Pur.killV_rak Go.Pur.frzV_v Go.Pur.frzV_a Go.Pur.frzV_t Go.Pur.frzV_f Go.Pur.frzV_i Go.Pur.frzV_p Go.Pur.frzV_s Go.Pur.frzV_un Go.Pur.frzV_dead Go.Pur.frzV_lfz Go.Pur.frzV_lbor Go.Pur.frzV_lown Go.Pur.frzV_rfz Go.Pur.frzV_rbor Go.Pur.frzV_lak Go.Pur.frzV_rak Go.Pur.killCell_v Go.Pur.killCell_a Go.Pur.killCell_t Go.Pur.killCell_f Go.Pur.killCell_i Go.Pur.killCell_p Go.Pur.killCell_s Go.Pur.killCell_un Go.Pur.killCell_dead Go.Pur.killCell_lfz Go.Pur.killCell_lbor Go.Pur.killCell_lown Go.Pur.killCell_rfz Go.Pur.killCell_rbor Go.Pur.killCell_lak Go.Pur.killCell_rak Go.Pur.killV_lrf Go.Pur.killV_lpt Go.Pur.killV_rpt Go.Pur.frzV_lrf Go.Pur.frzV_lpt Go.Pur.frzV_rpt Go.Pur.killCell_lrft Go.Pur.killCell_lptt Go.Pur.killCell_rptt Go.Pur.killCell_lrfc Go.Pur.killCell_lptc Go.Pur.killCell_rptc Go.Pur.argv_lak Go.Pur.argv_rak Go.Pur.argv_v Go.Pur.argv_a Go.Pur.argv_p Go.Pur.argv_f Go.Pur.argv_fz Go.Pur.argv_bor Go.Pur.argv_rf Go.Pur.argv_pt Go.Pur.argv_rc Go.Pur.argv_own Go.Pur.mayTurn_none Go.Pur.argvs Go.Pur.pcallOp Go.Pur.firm Go.Pur.refsTo_v Go.Pur.refsTo_l Go.Pur.refsTo_p Go.Pur.refsTo_s Go.Pur.refsTo_a Go.Pur.refsTo_dead Go.Pur.refsTo_nil Go.Pur.refsTo_cons Go.Pur.isOwn_lak Go.Pur.ownFz_lak Go.Pur.evSafe Go.Pur.pskip Go.Abs.plain Go.Pur.pnewBlk Go.Pur.fldAddr Go.Pur.isOwn Go.Pur.pput Go.Pur.notOwn_fz Go.Pur.notOwn_bor Go.Pur.notOwn_own Go.Pur.notOwn_rf Go.Pur.notOwn_pt Go.Pur.prt_fz Go.Pur.prt_bor Go.Pur.prt_own Go.Pur.prt_rf Go.Pur.prt_pt Go.Pur.freeze Go.Pur.presM Go.Pur.settles Go.Pur.abin_and Go.Pur.abin_or Go.Pur.abin_andNot Go.Pur.abin_mul Go.Pur.abin_shr Go.Pur.abin_shl Go.Pur.abin_add Go.Pur.abin_sub Go.Pur.abin_eql Go.Pur.abin_neq Go.Pur.abin_lss Go.Pur.abin_leq Go.Pur.abin_gtr Go.Pur.abin_geq Go.Pur.hows Go.Pur.pcallIn Y0_how Y0_part howOf partOf Go.Pur.rdv_mown Go.Pur.rdv_mfz Go.Pur.rdv_mbor Go.Pur.rdv_mrf Go.Pur.killV_mown Go.Pur.killV_mfz Go.Pur.killV_mbor Go.Pur.killV_mrf Go.Pur.frzV_mown Go.Pur.frzV_mfz Go.Pur.frzV_mbor Go.Pur.frzV_mrf Go.Pur.killCell_mown Go.Pur.killCell_mfz Go.Pur.killCell_mbor Go.Pur.killCell_mrf Go.Pur.argv_mfz Go.Pur.argv_mbor Go.Pur.argv_mrf Go.Pur.settle_m Go.Pur.kls_v Go.Pur.kls_l Go.Pur.kls_a Go.Pur.kls_t Go.Pur.kls_r Go.Pur.kls_p Go.Pur.kls_s Go.Pur.kls_f Go.Pur.kls_i Go.Pur.kls_it Go.Pur.kls_un Go.Pur.kls_dead Go.Pur.kls_mown Go.Pur.kls_mrf Go.Pur.kls_mbor Go.Pur.kls_mfz Go.Pur.fzOf Go.Pur.takable Go.Pur.mapHere Go.Pur.mapOwn Go.Pur.mapTo Go.Pur.flat Go.Pur.toPlain toPlain.go Go.Pur.ofFlat Go.Pur.ofPair Go.Pur.mapEs Go.Pur.plook Go.Abs.lookRes Y0_mv mvOf Go.Pur.mvBlk Go.Pur.premv Y0_fzm fzmOf Go.Pur.poperX Go.Pur.pconv Go.Pur.mvOp keep25 sz3 by3 row3 zero3 sz4 by4 row4 zero4 sz5 by5 row5 zero5 sz9 by9 row9 shape9 zero9 sz21 by21 row21 zero21 sz22 by22 row22 zero22 sz24 by24 row24 zero24 sz29 by29 row29 shape29 zero29 sz36 by36 row36 shape36 zero36 sz52 by52 row52 shape52 zero52 parts52 sz54 by54 row54 zero54 parts54 field54_0 field54_1 sz58 by58 row58 zero58 mt58 az3 sz63 by63 row63 zero63 sz66 by66 row66 shape66 zero66 parts66 sz67 by67 row67 shape67 zero67 sz75 by75 row75 shape75 zero75 sz76 by76 row76 shape76 zero76 sz78 by78 row78 zero78 mt78 sz79 by79 row79 shape79 zero79 sz92 by92 row92 zero92 sz94 by94 row94 zero94 parts94 field94_0 field94_1 sz99 by99 row99 shape99 zero99 sz102 by102 row102 zero102 mt102 az4 sz103 by103 row103 zero103 mt103 sz106 by106 row106 zero106 parts106 field106_0 field106_1 sz108 by108 row108 zero108 parts108 field108_0 field108_1 sz109 by109 row109 shape109 zero109 sz110 by110 row110 zero110 mt110 sz112 by112 row112 zero112 sz115 by115 row115 zero115 sz116 by116 row116 zero116 sz119 by119 row119 zero119 sz127 by127 row127 zero127 sz129 by129 row129 zero129 sz130 by130 row130 zero130 sz134 by134 row134 zero134 Go.Pur.bs_size Go.Pur.gAt Go.Pur.gAt0 Go.Pur.sAt Go.Pur.sAt0 Go.Pur.optPlain Go.Pur.rows_len Go.Pur.noMaker_eq Go.Abs.kindOf Go.Pur.vlOf Go.Pur.abin_rem Go.Pur.abin_quo Go.Pur.mayTurn_none Go.Pur.lowOf_none Go.Pur.partAt Go.Pur.rows_nil Go.Pur.rows_cons Go.Pur.ble_add Go.Pur.ble_add0 Go.Pur.ble_same Go.Pur.toPlain toPlain.go Go.Pur.intIn2_0 Go.Pur.intIn2_1 Go.Pur.ble12 Go.Pur.ble22 Go.Pur.tv Go.Pur.lv Go.Pur.max_int Go.Pur.min_int Go.Pur.pplains Go.Pur.ak_true Go.Pur.ak_false Go.Pur.apartP Go.Pur.beq_add Go.Pur.beq_add0 Go.Pur.beq_add1 Go.Pur.argv_s Go.Pur.wok_none Go.Pur.wok_low_iff Go.Pur.lowOf_wok keep27 keep16 keep18 keep19 keep24 keep26 keep28 keep57 keep58 keep36 keep37 keep62 keep64 keep65 keep66 keep67 keep68 keep81 keep29 keep30 keep32 keep33 keep34 keep60 keep63 keep40 keep42 keep31 keep45
theorem decode_hi {s : ByteArray} {i : Nat} (h : 128 ≤ (s.get! i).toNat) : 128 ≤ (Utf8.decode s i).1 := by
 unfold Utf8.decode
 simp only [Nat.add_zero]
 rw [if_neg (by omega)]
 repeat' split
 all_goals first
  | (simp only [Bool.and_eq_true,decide_eq_true_eq,ge_iff_le] at *; omega)
  | (simp only [Utf8.runeError]; omega)
theorem bs_get {l : List UInt8} {k : Nat} (h : k < l.length) : (bs l).get! k = l[k] := by
 simp [ByteArray.get!,h]
theorem f25_is {l : List UInt8} {r : Int} {hp : List (Option (List PV))} (h : some (checkW l) = some r) : E Try.prog Y0 25 [.v (.string (bs l))] hp = some (iv r,hp,none) := by
 cases h
 rw [E_bodyN 1 body25 rfl (by decide) rfl]
 simp only [Try.f25,Option.get_some]
 unfold checkW
 by_cases h10 : 10 < l.length
 ·have h1 : (10 : Int) < (l.length : Int) := by omega
  rw [if_pos h10]
  simp [h1]
 ·have h1 : ¬ (10 : Int) < (l.length : Int) := by omega
  rw [if_neg h10]
  obtain ⟨r0,hr0⟩ : ∃ r0,(if l.all letW = true then (0 : Int) else 10) = r0 := ⟨_,rfl⟩
  rw [hr0]
  simp [h1]
  refine loop_ind (fun m σ => ∃ (k : Nat) (ts : Tr PV) (w : Option Nat),m + k = l.length ∧ wok hp.length w ∧ (l.take k).all letW = true ∧ σ = ⟨[],ts,hp,w⟩ ∧ ts.get 9 = some (.it (bs l) k)) (n0 := l.length) ?_ ?_
  ·exact ⟨0,_,_,by omega,by simp,by simp,rfl,by simp⟩
  ·rintro m σ ⟨k,ts,w,hm,hw,hall,rfl,g9⟩ ih
   by_cases hk : k < l.length
   ·have hb : Nat.ble (k + 1) l.length = true := ble_true hk
    by_cases hc : letW l[k] = true
    ·have hl : 97 ≤ l[k].toNat ∧ l[k].toNat < 103 := by simpa [letW] using hc
     have hd : Utf8.decode (bs l) k = (l[k].toNat,1) := gA_ok (by
      unfold gA
      rw [List.getElem?_eq_getElem hk]
      simp only []
      rw [show Nat.blt l[k].toNat 128 = true from Nat.ble_eq_true_of_le (by omega)])
     have c1 : ¬ (l[k].toNat : Int) < 97 := by omega
     have c2 : ¬ (103 : Int) ≤ (l[k].toNat : Int) := by omega
     generalize hx : l[k] = x at *
     simp [g9,hb,hd,c1,c2]
     refine ih (m - 1) _ (by omega) ⟨k + 1,_,_,by omega,by simp [hw], ?_,rfl,by simp⟩
     rw [List.take_add_one,List.getElem?_eq_getElem hk,List.all_append,hall,hx]
     simp [hc]
    ·have hf : l.all letW = false := by
      rw [← Bool.not_eq_true,List.all_eq_true]
      intro h
      exact hc (h _ (List.getElem_mem hk))
     have hd : (Utf8.decode (bs l) k).1 < 97 ∨ 103 ≤ (Utf8.decode (bs l) k).1 := by
      by_cases h128 : 128 ≤ l[k].toNat
      ·have := decode_hi (s := bs l) (i := k) (by rw [bs_get hk]; exact h128)
       omega
      ·have hd : Utf8.decode (bs l) k = (l[k].toNat,1) := gA_ok (by
        unfold gA
        rw [List.getElem?_eq_getElem hk]
        simp only []
        rw [show Nat.blt l[k].toNat 128 = true from Nat.ble_eq_true_of_le (by omega)])
       rw [hd]
       have : ¬ (97 ≤ l[k].toNat ∧ l[k].toNat < 103) := by simpa [letW] using hc
       simp only []
       omega
     rw [hf] at hr0
     obtain rfl : (10 : Int) = r0 := hr0
     clear ih
     rcases hd with hd | hd
     ·have c1 : ((Utf8.decode (bs l) k).1 : Int) < 97 := by omega
      simp [g9,hb,c1,hw]
     ·have c1 : ¬ ((Utf8.decode (bs l) k).1 : Int) < 97 := by omega
      have c2 : (103 : Int) ≤ ((Utf8.decode (bs l) k).1 : Int) := by omega
      simp [g9,hb,c1,c2,hw]
   ·have hb : Nat.ble (k + 1) l.length = false := bleF (by omega)
    rw [List.take_of_length_le (by omega)] at hall
    rw [hall] at hr0
    obtain rfl : (0 : Int) = r0 := hr0
    clear ih
    simp [g9,hb,hw]
theorem extract_tail {d : UInt8} {p : List UInt8} : (bs (d :: p)).extract 1 (bs (d :: p)).size = bs p := by
 apply ByteArray.ext
 apply Array.ext'
 simp [ByteArray.data_extract]
theorem slice_tail {d : UInt8} {p : List UInt8} : pqSlice Try.prog 9 (.v (.string (bs (d :: p)))) (some (.int .i64 1)) none none = some (.v (.string (bs p))) := by
 unfold pqSlice
 rw [shape9]
 simp only []
 have h := str_from (P := Try.prog) (t := 9) Try.underlying9 (s := bs (d :: p)) (k := .i64) (a := 1) (by rw [bs_size]; simp)
 rw [show ((1 : Nat) : Int) = 1 from rfl] at h
 rw [h,extract_tail]
 rfl
theorem left_nil {w : List UInt8} : leftW w [] = true := by cases w <;> rfl
theorem left_drop {w p : List UInt8} {k : Nat} (h : k < w.length) (d : UInt8) : leftW (w.drop k) (d :: p) = if w[k] = d then leftW (w.drop (k + 1)) p else leftW (w.drop (k + 1)) (d :: p) := by
 rw [List.drop_eq_getElem_cons h,leftW]
theorem left_is {w p : List UInt8} {r : Bool} {hp : List (Option (List PV))} (hw : w.length < 1000000000) (h : some (leftW w p) = some r) : E Try.prog Y0 27 [.v (.string (bs w)),.v (.string (bs p))] hp = some (.v (.bool r),hp,none) := by
 cases h
 obtain ⟨r0,hr0⟩ : ∃ r0,leftW w p = r0 := ⟨_,rfl⟩
 rw [hr0]
 rw [E_bodyN 2 body27 rfl (by decide) rfl]
 simp only [Try.f27,Option.get_some]
 simp
 refine loop_ind (fun m σ => ∃ (k : Nat) (p' : List UInt8) (ts : Tr PV) (wl : Option Nat),m + k = w.length ∧ wok hp.length wl ∧ leftW (w.drop k) p' = r0 ∧ σ = ⟨[],ts,hp,wl⟩ ∧ ts.get 0 = some (.v (.string (bs w))) ∧ ts.get 1 = some (.v (.string (bs p'))) ∧ ts.get 5 = some (iv k)) (n0 := w.length) ?_ ?_
 ·exact ⟨0,p,_,_,by omega,by simp,hr0,rfl,by simp,by simp,by simp⟩
 ·rintro m σ ⟨k,p',ts,wl,hm,hwl,hr,rfl,g0,g1,g5⟩ ih
  have hsz : (bs w).size = w.length := bs_size
  cases p' with
  | nil =>
   rw [left_nil] at hr
   subst hr
   have q1 : ∀ x y,abin Try.prog .neq 9 x y (.string (bs [])) (.string ⟨#[]⟩) = some (.bool false) := fun x y => by kernel_rfl
   have q2 : ∀ x y,abin Try.prog .eql 9 x y (.string (bs [])) (.string ⟨#[]⟩) = some (.bool true) := fun x y => by kernel_rfl
   clear ih
   by_cases hk : (k : Int) < (w.length : Int)
   ·simp [g0,g1,g5,hsz,hk,q1,q2,hwl]
   ·simp [g0,g1,g5,hsz,hk,q1,q2,hwl]
  | cons d p' =>
   have q1 : ∀ x y,abin Try.prog .neq 9 x y (.string (bs (d :: p'))) (.string ⟨#[]⟩) = some (.bool true) := fun x y => by
    rw [abin_sneq]; simp
   have q2 : ∀ x y,abin Try.prog .eql 9 x y (.string (bs (d :: p'))) (.string ⟨#[]⟩) = some (.bool false) := fun x y => by
    rw [abin_seql]; simp
   by_cases hk : k < w.length
   ·have h1 : (k : Int) < (w.length : Int) := by omega
    have w1 : IntKind.i64.wrap ((k : Int) + 1) = ((k + 1 : Nat) : Int) := wrap_nat (by omega)
    have hg : gS w (k : Int) = some (w[k].toNat : Int) := by
     show (match w[k]? with | some c => some (c.toNat : Int) | none => none) = _
     rw [List.getElem?_eq_getElem hk]
    have e1 := (gS_ok (P := Try.prog) (t := 9) (k := .i64) Try.underlying9 shape9 hg).1
    have e2 := (gS_ok (P := Try.prog) (t := 9) (k := .i64) Try.underlying9 shape9 (show gS (d :: p') ((0 : Nat) : Int) = some (d.toNat : Int) from rfl)).1
    rw [show ((0 : Nat) : Int) = 0 from rfl] at e2
    rw [left_drop hk] at hr
    generalize w[k] = c at *
    by_cases hc : c = d
    ·subst hc
     rw [if_pos rfl] at hr
     simp [g0,g1,g5,hsz,h1,q1,q2,e1,e2,optPlain,slice_tail,w1]
     exact ih (m - 1) _ (by omega) ⟨k + 1,p',_,_,by omega,hwl,hr,rfl,by simp [g0],by simp,by simp⟩
    ·rw [if_neg hc] at hr
     have hc2 : ¬ (c.toNat : Int) = (d.toNat : Int) := fun e => hc (UInt8.toNat.inj (by omega))
     simp [g0,g1,g5,hsz,h1,q1,q2,e1,e2,hc2,w1]
     exact ih (m - 1) _ (by omega) ⟨k + 1,d :: p',_,_,by omega,hwl,hr,rfl,by simp [g0],by simp [g1],by simp⟩
   ·have h1 : ¬ (k : Int) < (w.length : Int) := by omega
    rw [List.drop_of_length_le (by omega)] at hr
    obtain rfl : false = r0 := hr
    clear ih
    simp [g0,g1,g5,hsz,h1,q1,q2,hwl]
def f16S (F : Nat) (p0 : List UInt8) : Option (Bool) :=
  (some ((p0.length : Int))).bind fun x1 =>
  (some (decide (60 < x1))).bind fun x2 =>
  some x2
theorem f16_is {p0 : List UInt8} {hp : List (Option (List PV))} {F : Nat} {r : (Bool)}  (h : f16S F p0 = some r) :
    E Try.prog Y0 16 [.v (.string (bs p0))] hp = some (.v (.bool r),hp,none) := by
  rw [E_bodyN 1 body16 rfl (by decide) rfl]
  simp only [Try.f16,Option.get_some]
  unfold f16S at h
  obtain ⟨x1,ex1,h⟩ := bindT h
  obtain ⟨x2,ex2,h⟩ := bindT h
  obtain rfl := inj_ok h
  simp [ex1,ex2]
def f26_L0 (F : Nat) (p0 : List UInt8) (K : Unit → Option (Int)) : Nat → Int → Option (Int)
  | 0,_ => none
  | n + 1,v3 => (some ((p0.length : Int))).bind fun x4 =>
    (some (decide (v3 < x4))).bind fun x5 =>
    (match x5 with
    | true => ((gS p0 v3).bind fun x6 =>
    (some (decide (x6 < 97))).bind fun x7 =>
    (match x7 with
    | true => (some 10)
    | false => ((some (decide (103 ≤ x6))).bind fun x8 =>
    (match x8 with
    | true => (some 10)
    | false => ((some (IntKind.i64.wrap (v3 + 1))).bind fun x9 =>
    f26_L0 F p0 K n x9)))))
    | false => (K ()))
def f26S (F : Nat) (p0 : List UInt8) : Option (Int) :=
  (some ((p0.length : Int))).bind fun x1 =>
  (some (decide (10 < x1))).bind fun x2 =>
  (match x2 with
  | true => (some 19)
  | false => (f26_L0 F p0 (fun _ =>
    some 0) F 0))
theorem f26_is {p0 : List UInt8} {hp : List (Option (List PV))} {F : Nat} {r : (Int)}  (h : f26S F p0 = some r) :
    E Try.prog Y0 26 [.v (.string (bs p0))] hp = some (iv r,hp,none) := by
  rw [E_bodyN 1 body26 rfl (by decide) rfl]
  simp only [Try.f26,Option.get_some]
  unfold f26S at h
  obtain ⟨x1,ex1,h⟩ := bindT h
  obtain ⟨x2,ex2,h⟩ := bindT h
  cases x2
  case true =>
   obtain rfl := inj_ok h
   simp [ex1,ex2]
  simp [ex1,ex2]
  have hL0 := h; clear h
  refine loopS (S := f26_L0 F p0) (fun v3 σ => ∃ (ts : Tr PV) (w : Option Nat),wok hp.length w ∧ σ = ⟨[],ts,hp,w⟩ ∧ ts.get 0 = some (.v (.string (bs p0))) ∧ ts.get 3 = some (iv v3) ∧ True) (fun _ σ => ∃ (ts : Tr PV) (w : Option Nat),wok hp.length w ∧ σ = ⟨[],ts,hp,w⟩ ∧ True) (fun _ => rfl) hL0 ?_ ?_ ?_
  · exact ⟨_,_,by simp,rfl,by simp [ex1,ex2]⟩
  · rintro ⟨⟩ σ ⟨ts,w,hw,rfl,-⟩ h
    clear hL0
    try dsimp only at h
    obtain rfl := inj_ok h
    simp [hw]
  · rintro k n v3 σ ⟨ts,w,hw,rfl,g0,g3,-⟩ h ih ex
    clear hL0
    rw [f26_L0] at h
    obtain ⟨x4,ex4,h⟩ := bindT h
    obtain ⟨x5,ex5,h⟩ := bindT h
    cases x5
    case false =>
     simp [g0,g3,ex4,ex5]
     refine ex () _ ?_ h
     exact ⟨_,_,by simp [hw],rfl,by simp [g0,g3,ex4,ex5]⟩
    obtain ⟨x6,ex6,h⟩ := bind_ok h
    have ex6 := (gS_ok (P := Try.prog) (t := 9) (k := .i64) Try.underlying9 shape9 ex6).1
    obtain ⟨x7,ex7,h⟩ := bindT h
    cases x7
    case true =>
     obtain rfl := inj_ok h
     simp [g0,g3,ex4,ex5,ex6,ex7,hw]
    obtain ⟨x8,ex8,h⟩ := bindT h
    cases x8
    case true =>
     obtain rfl := inj_ok h
     simp [g0,g3,ex4,ex5,ex6,ex7,ex8,hw]
    obtain ⟨x9,ex9,h⟩ := bindT h
    simp [g0,g3,ex4,ex5,ex6,ex7,ex8,ex9]
    refine ih x9 _ ?_ h
    exact ⟨_,_,by simp [hw],rfl,by simp [g0,g3,ex4,ex5,ex6,ex7,ex8,ex9]⟩
def f28_L1 (F : Nat) (p0 : List UInt8) (p1 : List UInt8) (v2 : Int) (K : Int → Option (Bool)) : Nat → Int → Option (Bool)
  | 0,_ => none
  | n + 1,v5 => (some ((p0.length : Int))).bind fun x6 =>
    (some (decide (v5 < x6))).bind fun x7 =>
    (match x7 with
    | true => ((gS p0 v5).bind fun x8 =>
    (gS p1 v2).bind fun x9 =>
    (some (decide (x8 = x9))).bind fun x10 =>
    (match x10 with
    | true => (K v5)
    | false => ((some (IntKind.i64.wrap (v5 + 1))).bind fun x11 =>
    f28_L1 F p0 p1 v2 K n x11)))
    | false => (K v5))
def f28_L0 (F : Nat) (p0 : List UInt8) (p1 : List UInt8) (K : Unit → Option (Bool)) : Nat → Int × Int → Option (Bool)
  | 0,_ => none
  | n + 1,(v1,v2) => (some ((p1.length : Int))).bind fun x3 =>
    (some (decide (v2 < x3))).bind fun x4 =>
    (match x4 with
    | true => (f28_L1 F p0 p1 v2 (fun v12 =>
      (some ((p0.length : Int))).bind fun x13 =>
      (some (decide (v12 = x13))).bind fun x14 =>
      (match x14 with
      | true => (some false)
      | false => ((some (IntKind.i64.wrap (v12 + 1))).bind fun x15 =>
      (some (IntKind.i64.wrap (v2 + 1))).bind fun x16 =>
      f28_L0 F p0 p1 K n (x15,x16)))) F v1)
    | false => (K ()))
def f28S (F : Nat) (p0 : List UInt8) (p1 : List UInt8) : Option (Bool) :=
  f28_L0 F p0 p1 (fun _ =>
    some true) F (0,0)
theorem f28_is {p0 : List UInt8} {p1 : List UInt8} {hp : List (Option (List PV))} {F : Nat} {r : (Bool)}  (h : f28S F p0 p1 = some r) :
    E Try.prog Y0 28 [.v (.string (bs p0)),.v (.string (bs p1))] hp = some (.v (.bool r),hp,none) := by
  rw [E_bodyN 2 body28 rfl (by decide) rfl]
  simp only [Try.f28,Option.get_some]
  unfold f28S at h
  simp
  have hL0 := h; clear h
  refine loopS (S := f28_L0 F p0 p1) (fun (v1,v2) σ => ∃ (ts : Tr PV) (w : Option Nat),wok hp.length w ∧ σ = ⟨[],ts,hp,w⟩ ∧ ts.get 0 = some (.v (.string (bs p0))) ∧ ts.get 1 = some (.v (.string (bs p1))) ∧ ts.get 5 = some (iv v1) ∧ ts.get 6 = some (iv v2) ∧ True) (fun _ σ => ∃ (ts : Tr PV) (w : Option Nat),wok hp.length w ∧ σ = ⟨[],ts,hp,w⟩ ∧ True) (fun _ => rfl) hL0 ?_ ?_ ?_
  · exact ⟨_,_,by simp,rfl,by simp⟩
  · rintro ⟨⟩ σ ⟨ts,w,hw,rfl,-⟩ h
    clear hL0
    try dsimp only at h
    obtain rfl := inj_ok h
    simp [hw]
  · rintro k n ⟨v1,v2⟩ σ ⟨ts,w,hw,rfl,g0,g1,g5,g6,-⟩ h ih ex
    clear hL0
    rw [f28_L0] at h
    obtain ⟨x3,ex3,h⟩ := bindT h
    obtain ⟨x4,ex4,h⟩ := bindT h
    cases x4
    case false =>
     simp [g0,g1,g5,g6,ex3,ex4]
     refine ex () _ ?_ h
     exact ⟨_,_,by simp [hw],rfl,by simp [g0,g1,g5,g6,ex3,ex4]⟩
    simp [g0,g1,g5,g6,ex3,ex4]
    have hL1 := h; clear h
    refine loopS (S := f28_L1 F p0 p1 v2) (fun v5 σ => ∃ (ts : Tr PV) (w : Option Nat),wok hp.length w ∧ σ = ⟨[],ts,hp,w⟩ ∧ ts.get 0 = some (.v (.string (bs p0))) ∧ ts.get 1 = some (.v (.string (bs p1))) ∧ ts.get 5 = some (iv v5) ∧ ts.get 6 = some (iv v2) ∧ True) (fun v12 σ => ∃ (ts : Tr PV) (w : Option Nat),wok hp.length w ∧ σ = ⟨[],ts,hp,w⟩ ∧ ts.get 0 = some (.v (.string (bs p0))) ∧ ts.get 1 = some (.v (.string (bs p1))) ∧ ts.get 5 = some (iv v12) ∧ ts.get 6 = some (iv v2) ∧ True) (fun _ => rfl) hL1 ?_ ?_ ?_
    · exact ⟨_,_,by simp [hw],rfl,by simp [g0,g1,g5,g6,ex3,ex4]⟩
    · rintro v12 σ ⟨ts,w,hw,rfl,g0,g1,g5,g6,-⟩ h
      clear hL1
      try dsimp only at h
      obtain ⟨x13,ex13,h⟩ := bindT h
      obtain ⟨x14,ex14,h⟩ := bindT h
      cases x14
      case true =>
       obtain rfl := inj_ok h
       simp [g0,g1,g5,g6,ex13,ex14,hw]
      obtain ⟨x15,ex15,h⟩ := bindT h
      obtain ⟨x16,ex16,h⟩ := bindT h
      simp [g0,g1,g5,g6,ex13,ex14,ex15,ex16]
      refine ih (x15,x16) _ ?_ h
      exact ⟨_,_,by simp [hw],rfl,by simp [g0,g1,g5,g6,ex13,ex14,ex15,ex16]⟩
    · rintro k n v5 σ ⟨ts,w,hw,rfl,g0,g1,g5,g6,-⟩ h ih ex
      clear hL1
      rw [f28_L1] at h
      obtain ⟨x6,ex6,h⟩ := bindT h
      obtain ⟨x7,ex7,h⟩ := bindT h
      cases x7
      case false =>
       simp [g0,g1,g5,g6,ex6,ex7]
       refine ex v5 _ ?_ h
       exact ⟨_,_,by simp [hw],rfl,by simp [g0,g1,g5,g6,ex6,ex7]⟩
      obtain ⟨x8,ex8,h⟩ := bind_ok h
      have ex8 := (gS_ok (P := Try.prog) (t := 9) (k := .i64) Try.underlying9 shape9 ex8).1
      obtain ⟨x9,ex9,h⟩ := bind_ok h
      have ex9 := (gS_ok (P := Try.prog) (t := 9) (k := .i64) Try.underlying9 shape9 ex9).1
      obtain ⟨x10,ex10,h⟩ := bindT h
      cases x10
      case true =>
       simp [g0,g1,g5,g6,ex6,ex7,ex8,ex9,ex10]
       refine ex v5 _ ?_ h
       exact ⟨_,_,by simp [hw],rfl,by simp [g0,g1,g5,g6,ex6,ex7,ex8,ex9,ex10]⟩
      obtain ⟨x11,ex11,h⟩ := bindT h
      simp [g0,g1,g5,g6,ex6,ex7,ex8,ex9,ex10,ex11]
      refine ih x11 _ ?_ h
      exact ⟨_,_,by simp [hw],rfl,by simp [g0,g1,g5,g6,ex6,ex7,ex8,ex9,ex10,ex11]⟩
def f58S (F : Nat) (p0 : List UInt8) (p1 : List UInt8) : Option (Int) :=
  (f26S F p0).bind fun x1 =>
  (some (decide (x1 = 0))).bind fun x3 =>
  (match x3 with
  | true => ((f26S F p1).bind fun x4 =>
  some x4)
  | false => (some x1))
theorem f58_is {p0 : List UInt8} {p1 : List UInt8} {hp : List (Option (List PV))} {F : Nat} {r : (Int)}  (h : f58S F p0 p1 = some r) :
    E Try.prog Y0 58 [.v (.string (bs p0)),.v (.string (bs p1))] hp = some (iv r,hp,none) := by
  rw [E_bodyN 2 body58 rfl (by decide) rfl]
  simp only [Try.f58,Option.get_some]
  unfold f58S at h
  obtain ⟨x1,e2,h⟩ := bind_ok h
  have e2 : ∀ hp,E Try.prog Y0 26 [.v (.string (bs p0))] hp = some (iv x1,hp,none) := fun hp => f26_is  e2
  obtain ⟨x3,ex3,h⟩ := bindT h
  cases x3
  case false =>
   obtain rfl := inj_ok h
   simp [e2,ex3]
  obtain ⟨x4,e5,h⟩ := bind_ok h
  have e5 : ∀ hp,E Try.prog Y0 26 [.v (.string (bs p1))] hp = some (iv x4,hp,none) := fun hp => f26_is  e5
  obtain rfl := inj_ok h
  simp [e2,ex3,e5]
def f57_L0 (F : Nat) (p0 : List (List UInt8)) (x1 : Int) (K : Unit → Option (Int)) : Nat → Int → Option (Int)
  | 0,_ => none
  | n + 1,v2 => (some (decide (v2 < x1))).bind fun x3 =>
    (match x3 with
    | true => ((gI p0 v2).bind fun y4 =>
    (some (checkW y4)).bind fun x5 =>
    (some (decide (x5 = 0))).bind fun x6 =>
    (match x6 with
    | true => ((some (IntKind.i64.wrap (v2 + 1))).bind fun x7 =>
    f57_L0 F p0 x1 K n x7)
    | false => (some x5)))
    | false => (K ()))
def f57S (F : Nat) (p0 : List (List UInt8)) : Option (Int) :=
  (some ((p0.length : Int))).bind fun x1 =>
  f57_L0 F p0 x1 (fun _ =>
    some 0) F 0
theorem f57_is {a0 : Bool} {c0 : Ck} {p0 : List (List UInt8)} {hp : List (Option (List PV))} {F : Nat} {r : (Int)}  (h : f57S F p0 = some r) :
    E Try.prog Y0 57 [.l (ak a0) c0 p0.length (p0.map tv)] hp = some (iv r,hp,none) := by
  rw [E_bodyN 1 body57 rfl (by decide) rfl]
  simp only [Try.f57,Option.get_some]
  unfold f57S at h
  cases a0 with
  | true =>
    obtain ⟨x1,ex1,h⟩ := bindT h
    simp [ex1]
    have hL0 := h; clear h
    refine loopS (S := f57_L0 F p0 x1) (fun v2 σ => ∃ (ts : Tr PV) (w : Option Nat),wok hp.length w ∧ σ = ⟨[],ts,hp,w⟩ ∧ ts.get 6 = some (.l .bor c0 p0.length (p0.map tv)) ∧ ts.get 7 = some (iv x1) ∧ ts.get 8 = some (iv v2) ∧ True) (fun _ σ => ∃ (ts : Tr PV) (w : Option Nat),wok hp.length w ∧ σ = ⟨[],ts,hp,w⟩ ∧ True) (fun _ => rfl) hL0 ?_ ?_ ?_
    · exact ⟨_,_,by simp,rfl,by simp [ex1]⟩
    · rintro ⟨⟩ σ ⟨ts,w,hw,rfl,-⟩ h
      clear hL0
      try dsimp only at h
      obtain rfl := inj_ok h
      simp [hw]
    · rintro k n v2 σ ⟨ts,w,hw,rfl,g6,g7,g8,-⟩ h ih ex
      clear hL0
      rw [f57_L0] at h
      obtain ⟨x3,ex3,h⟩ := bindT h
      cases x3
      case false =>
       simp [g6,g7,g8,ex3]
       refine ex () _ ?_ h
       exact ⟨_,_,by simp [hw],rfl,by simp [g6,g7,g8,ex3]⟩
      obtain ⟨y4,ey4,h⟩ := bind_ok h
      obtain ⟨ey4a,ey4e,ey4b,ey4c,ey4g⟩ := gI_ok rfl ey4
      obtain ⟨x5,ex5,h⟩ := bind_ok h
      have ex5 : ∀ hp,E Try.prog Y0 25 [.v (.string (bs y4))] hp = some (iv x5,hp,none) := fun hp => f25_is ex5
      obtain ⟨x6,ex6,h⟩ := bindT h
      cases x6
      case false =>
       obtain rfl := inj_ok h
       simp [g6,g7,g8,ex3,ey4a,ey4b,ey4c,tv,ex5,ex6,hw]
      obtain ⟨x7,ex7,h⟩ := bindT h
      simp [g6,g7,g8,ex3,ey4a,ey4b,ey4c,tv,ex5,ex6,ex7]
      refine ih x7 _ ?_ h
      exact ⟨_,_,by simp [hw],rfl,by simp [g6,g7,g8,ex3,ey4a,ey4b,ey4c,tv,ex5,ex6,ex7]⟩
  | false =>
    obtain ⟨x1,ex1,h⟩ := bindT h
    simp [ex1]
    have hL0 := h; clear h
    refine loopS (S := f57_L0 F p0 x1) (fun v2 σ => ∃ (ts : Tr PV) (w : Option Nat),wok hp.length w ∧ σ = ⟨[],ts,hp,w⟩ ∧ ts.get 6 = some (.l .fz c0 p0.length (p0.map tv)) ∧ ts.get 7 = some (iv x1) ∧ ts.get 8 = some (iv v2) ∧ True) (fun _ σ => ∃ (ts : Tr PV) (w : Option Nat),wok hp.length w ∧ σ = ⟨[],ts,hp,w⟩ ∧ True) (fun _ => rfl) hL0 ?_ ?_ ?_
    · exact ⟨_,_,by simp,rfl,by simp [ex1]⟩
    · rintro ⟨⟩ σ ⟨ts,w,hw,rfl,-⟩ h
      clear hL0
      try dsimp only at h
      obtain rfl := inj_ok h
      simp [hw]
    · rintro k n v2 σ ⟨ts,w,hw,rfl,g6,g7,g8,-⟩ h ih ex
      clear hL0
      rw [f57_L0] at h
      obtain ⟨x3,ex3,h⟩ := bindT h
      cases x3
      case false =>
       simp [g6,g7,g8,ex3]
       refine ex () _ ?_ h
       exact ⟨_,_,by simp [hw],rfl,by simp [g6,g7,g8,ex3]⟩
      obtain ⟨y4,ey4,h⟩ := bind_ok h
      obtain ⟨ey4a,ey4e,ey4b,ey4c,ey4g⟩ := gI_ok rfl ey4
      obtain ⟨x5,ex5,h⟩ := bind_ok h
      have ex5 : ∀ hp,E Try.prog Y0 25 [.v (.string (bs y4))] hp = some (iv x5,hp,none) := fun hp => f25_is ex5
      obtain ⟨x6,ex6,h⟩ := bindT h
      cases x6
      case false =>
       obtain rfl := inj_ok h
       simp [g6,g7,g8,ex3,ey4a,ey4b,ey4c,tv,ex5,ex6,hw]
      obtain ⟨x7,ex7,h⟩ := bindT h
      simp [g6,g7,g8,ex3,ey4a,ey4b,ey4c,tv,ex5,ex6,ex7]
      refine ih x7 _ ?_ h
      exact ⟨_,_,by simp [hw],rfl,by simp [g6,g7,g8,ex3,ey4a,ey4b,ey4c,tv,ex5,ex6,ex7]⟩
def f62S (F : Nat) (p0 : Int) (p1 : Int) (p2 : Int) : Option (Bool) :=
  (some (decide (p1 ≤ p0))).bind fun x1 =>
  (match x1 with
  | true => ((some (decide (p0 ≤ p2))).bind fun x2 =>
  some x2)
  | false => (some false))
theorem f62_is {p0 : Int} {p1 : Int} {p2 : Int} {hp : List (Option (List PV))} {F : Nat} {r : (Bool)}  (h : f62S F p0 p1 p2 = some r) :
    E Try.prog Y0 62 [iv p0,iv p1,iv p2] hp = some (.v (.bool r),hp,none) := by
  rw [E_bodyN 3 body62 rfl (by decide) rfl]
  simp only [Try.f62,Option.get_some]
  unfold f62S at h
  obtain ⟨x1,ex1,h⟩ := bindT h
  cases x1
  case false =>
   obtain rfl := inj_ok h
   simp [ex1]
  obtain ⟨x2,ex2,h⟩ := bindT h
  obtain rfl := inj_ok h
  simp [ex1,ex2]
def f68_L0 (F : Nat) (p0 : List Int) (p1 : Int) (x1 : Int) (K : Unit → Option (Int)) : Nat → Int → Option (Int)
  | 0,_ => none
  | n + 1,v2 => (some (decide (v2 < x1))).bind fun x3 =>
    (match x3 with
    | true => ((gI p0 v2).bind fun y4 =>
    (some (decide (p1 = y4))).bind fun x5 =>
    (match x5 with
    | true => (some v2)
    | false => ((some (IntKind.i64.wrap (v2 + 1))).bind fun x6 =>
    f68_L0 F p0 p1 x1 K n x6)))
    | false => (K ()))
def f68S (F : Nat) (p0 : List Int) (p1 : Int) : Option (Int) :=
  (some ((p0.length : Int))).bind fun x1 =>
  f68_L0 F p0 p1 x1 (fun _ =>
    some (-1)) F 0
theorem f68_is {a0 : Bool} {c0 : Ck} {p0 : List Int} {p1 : Int} {hp : List (Option (List PV))} {F : Nat} {r : (Int)}  (h : f68S F p0 p1 = some r) :
    E Try.prog Y0 68 [.l (ak a0) c0 p0.length (p0.map (kv .u8)),kv .u8 p1] hp = some (iv r,hp,none) := by
  rw [E_bodyN 2 body68 rfl (by decide) rfl]
  simp only [Try.f68,Option.get_some]
  unfold f68S at h
  obtain ⟨x1,ex1,h⟩ := bindT h
  simp [ex1]
  have hL0 := h; clear h
  refine loopS (S := f68_L0 F p0 p1 x1) (fun v2 σ => ∃ (ts : Tr PV) (w : Option Nat),wok hp.length w ∧ σ = ⟨[],ts,hp,w⟩ ∧ ts.get 0 = some (.l (ak a0) c0 p0.length (p0.map (kv .u8))) ∧ ts.get 1 = some (kv .u8 p1) ∧ ts.get 7 = some (iv x1) ∧ ts.get 8 = some (iv v2) ∧ True) (fun _ σ => ∃ (ts : Tr PV) (w : Option Nat),wok hp.length w ∧ σ = ⟨[],ts,hp,w⟩ ∧ True) (fun _ => rfl) hL0 ?_ ?_ ?_
  · exact ⟨_,_,by simp,rfl,by simp [ex1]⟩
  · rintro ⟨⟩ σ ⟨ts,w,hw,rfl,-⟩ h
    clear hL0
    try dsimp only at h
    obtain rfl := inj_ok h
    simp [hw]
  · rintro k n v2 σ ⟨ts,w,hw,rfl,g0,g1,g7,g8,-⟩ h ih ex
    clear hL0
    rw [f68_L0] at h
    obtain ⟨x3,ex3,h⟩ := bindT h
    cases x3
    case false =>
     simp [g0,g1,g7,g8,ex3]
     refine ex () _ ?_ h
     exact ⟨_,_,by simp [hw],rfl,by simp [g0,g1,g7,g8,ex3]⟩
    obtain ⟨y4,ey4,h⟩ := bind_ok h
    obtain ⟨ey4a,ey4e,ey4b,ey4c,ey4g⟩ := gI_ok rfl ey4
    obtain ⟨x5,ex5,h⟩ := bindT h
    cases x5
    case true =>
     obtain rfl := inj_ok h
     simp [g0,g1,g7,g8,ex3,ey4a,ey4b,ey4c,ex5,hw]
    obtain ⟨x6,ex6,h⟩ := bindT h
    simp [g0,g1,g7,g8,ex3,ey4a,ey4b,ey4c,ex5,ex6]
    refine ih x6 _ ?_ h
    exact ⟨_,_,by simp [hw],rfl,by simp [g0,g1,g7,g8,ex3,ey4a,ey4b,ey4c,ex5,ex6]⟩
def f81S (F : Nat) (p0 : List UInt8) (p1 : Int) (p2 : Int) : Option (Int) :=
  (some (decide (p1 < 0))).bind fun x1 =>
  (match x1 with
  | true => (some (-1))
  | false => ((subF p0 p1).bind fun x2 =>
  (bytO x2).bind fun x3 =>
  (f68S F x3 p2).bind fun x4 =>
  (some (decide (x4 < 0))).bind fun x6 =>
  (match x6 with
  | true => (some (-1))
  | false => ((some (IntKind.i64.wrap (p1 + x4))).bind fun x7 =>
  (some (IntKind.i64.wrap (x7 + 1))).bind fun x8 =>
  some x8))))
theorem f81_is {p0 : List UInt8} {p1 : Int} {p2 : Int} {hp : List (Option (List PV))} {F : Nat} {r : (Int)}  (h : f81S F p0 p1 p2 = some r) :
    E Try.prog Y0 81 [.v (.string (bs p0)),iv p1,kv .u8 p2] hp = some (iv r,hp,none) := by
  rw [E_bodyN 3 body81 rfl (by decide) rfl]
  simp only [Try.f81,Option.get_some]
  unfold f81S at h
  obtain ⟨x1,ex1,h⟩ := bindT h
  cases x1
  case true =>
   obtain rfl := inj_ok h
   simp [ex1]
  obtain ⟨x2,ex2,h⟩ := bind_ok h
  have ex2 := fun {k : IntKind} => subF_ok (P := Try.prog) (t := 9) Try.underlying9 ex2 (k := k)
  obtain ⟨x3,ex3,h⟩ := bind_ok h
  obtain ⟨ex3l,ex3m,ex3s⟩ := bytO_ok ex3
  obtain ⟨x4,e5,h⟩ := bind_ok h
  have e5 : ∀ hp,E Try.prog Y0 68 [.l .fz .any x3.length (x3.map (kv .u8)),kv .u8 p2] hp = some (iv x4,hp,none) := fun hp => f68_is (a0 := false) (c0 := .any) e5
  obtain ⟨x6,ex6,h⟩ := bindT h
  cases x6
  case true =>
   obtain rfl := inj_ok h
   simp [ex1,ex2,shape9,pqSlice,ex3l,ex3m,ex3s,e5,ex6]
  obtain ⟨x7,ex7,h⟩ := bindT h
  obtain ⟨x8,ex8,h⟩ := bindT h
  obtain rfl := inj_ok h
  simp [ex1,ex2,shape9,pqSlice,ex3l,ex3m,ex3s,e5,ex6,ex7,ex8]
theorem conv_3_5Count1 {z : Int} : prunP Try.prog (convert 3 5 (.int .i64 z)) = some (.int .u8 (IntKind.u8.wrap z)) := by kernel_rfl
theorem convn_75_9Count1 : prunP Try.prog (convert 75 9 (.slice none 0 0)) = some (.string ByteArray.empty) := by kernel_rfl
def f63_L2 (F : Nat) (x7 : List UInt8) (l22 : List (List UInt8)) (K : List (List UInt8) → Option ((Ck × List (List UInt8)))) : Nat → List (List UInt8) × Int → Option ((Ck × List (List UInt8)))
  | 0,_ => none
  | n + 1,(v24,v25) => (some ((l22.length : Int))).bind fun x26 =>
    (some (decide (v25 < x26))).bind fun x27 =>
    (match x27 with
    | true => ((gI l22 v25).bind fun y28 =>
    (sadd x7 y28).bind fun x29 =>
    (app1 v24 x29).bind fun x30 =>
    (some (IntKind.i64.wrap (v25 + 1))).bind fun x31 =>
    f63_L2 F x7 l22 K n (x30,x31))
    | false => (K v24))
def f63_L1 (F : Nat) (p0 : List UInt8) (x7 : List UInt8) (K : Int → Option ((Ck × List (List UInt8)))) : Nat → Int → Option ((Ck × List (List UInt8)))
  | 0,_ => none
  | n + 1,v8 => (some ((p0.length : Int))).bind fun x9 =>
    (some (decide (v8 < x9))).bind fun x10 =>
    (match x10 with
    | true => ((some (IntKind.i64.wrap (v8 + 1))).bind fun x11 =>
    (sub2 p0 v8 x11).bind fun x12 =>
    (some (decide (x12 = x7))).bind fun x13 =>
    (match x13 with
    | true => (K v8)
    | false => (f63_L1 F p0 x7 K n x11)))
    | false => (K v8))
def f63_L0 (F : Nat) (R : List UInt8 → Int → Option ((Ck × List (List UInt8)))) (p0 : List UInt8) (p1 : Int) (K : List (List UInt8) → Option ((Ck × List (List UInt8)))) : Nat → List (List UInt8) × Int → Option ((Ck × List (List UInt8)))
  | 0,_ => none
  | n + 1,(v2,v3) => (some (decide (v3 < 6))).bind fun x4 =>
    (match x4 with
    | true => ((some (IntKind.i64.wrap (97 + v3))).bind fun x5 =>
    (some (IntKind.u8.wrap x5)).bind fun x6 =>
    (some (bytesN [x6])).bind fun x7 =>
    f63_L1 F p0 x7 (fun v14 =>
      (some ((p0.length : Int))).bind fun x15 =>
      (some (decide (v14 = x15))).bind fun x16 =>
      (match x16 with
      | true => ((some (IntKind.i64.wrap (v3 + 1))).bind fun x17 =>
      f63_L0 F R p0 p1 K n (v2,x17))
      | false => ((some (IntKind.i64.wrap (v14 + 1))).bind fun x18 =>
      (subF p0 x18).bind fun x19 =>
      (some (IntKind.i64.wrap (p1 - 1))).bind fun x20 =>
      (R x19 x20).bind fun (c21,l22) =>
      f63_L2 F x7 l22 (fun v32 =>
        (some (IntKind.i64.wrap (v3 + 1))).bind fun x33 =>
        f63_L0 F R p0 p1 K n (v32,x33)) F (v2,0)))) F 0)
    | false => (K v2))
def f63S (F : Nat) : Nat → List UInt8 → Int → Option ((Ck × List (List UInt8)))
  | 0,_,_ => none
  | D + 1,p0,p1 =>
    (some (decide (p1 = 0))).bind fun x1 =>
    (match x1 with
    | true => (some (.full,[[]]))
    | false => (f63_L0 F (f63S F D) p0 p1 (fun v34 =>
      some (.nz,v34)) F ([],0)))
theorem f63_is {F D : Nat} {p0 : List UInt8} {p1 : Int} {hp : List (Option (List PV))} {r : ((Ck × List (List UInt8)))} (h : f63S F D p0 p1 = some r) :
    E Try.prog Y0 63 [.v (.string (bs p0)),iv p1] hp = some (.l (vlOf r.1) r.1 r.2.length (r.2.map tv),hp,none) := by
  induction D generalizing p0 p1 hp r with
  | zero => cases h
  | succ D ihD =>
  rw [E_bodyN 2 body63 rfl (by decide) rfl]
  simp only [Try.f63,Option.get_some]
  rw [f63S] at h
  obtain ⟨x1,ex1,h⟩ := bindT h
  cases x1
  case true =>
   obtain rfl := inj_ok h
   simp [ex1]
  simp [ex1]
  have hL0 := h; clear h
  refine loopS (S := f63_L0 F (f63S F D) p0 p1) (fun (v2,v3) σ => ∃ (ts : Tr PV) (w : Option Nat),wok hp.length w ∧ σ = ⟨[],ts,hp,w⟩ ∧ ts.get 0 = some (.v (.string (bs p0))) ∧ ts.get 1 = some (iv p1) ∧ ts.get 5 = some (.l .own .nz v2.length (v2.map tv)) ∧ ts.get 6 = some (iv v3) ∧ True) (fun v34 σ => ∃ (ts : Tr PV) (w : Option Nat),wok hp.length w ∧ σ = ⟨[],ts,hp,w⟩ ∧ ts.get 5 = some (.l .own .nz v34.length (v34.map tv)) ∧ True) (fun _ => rfl) hL0 ?_ ?_ ?_
  · exact ⟨_,_,by simp,rfl,by simp [ex1]⟩
  · rintro v34 σ ⟨ts,w,hw,rfl,g5,-⟩ h
    clear hL0
    try dsimp only at h
    obtain rfl := inj_ok h
    simp [g5,hw]
  · rintro k n ⟨v2,v3⟩ σ ⟨ts,w,hw,rfl,g0,g1,g5,g6,-⟩ h ih ex
    clear hL0
    rw [f63_L0] at h
    obtain ⟨x4,ex4,h⟩ := bindT h
    cases x4
    case false =>
     simp [g0,g1,g5,g6,ex4]
     refine ex v2 _ ?_ h
     exact ⟨_,_,by simp [hw],rfl,by simp [g0,g1,g5,g6,ex4]⟩
    obtain ⟨x5,ex5,h⟩ := bindT h
    obtain ⟨x6,ex6,h⟩ := bindT h
    obtain ⟨x7,ex7,h⟩ := bind_ok h
    have ex7 := inj_ok ex7
    have ex7 := fun (x : Operand) (σ : St) (dr : Dr) hx hm => pbytes_l (dr := dr) (hm := hm) (P := Try.prog) (Y := Y0) (f := 63) (src := 75) (dst := 9) (x := x) (σ := σ) (k := .fz) (c := .full) (l := [x6]) Try.underlying75 Try.underlying5 Try.underlying9 hx ex7 convn_75_9Count1
    simp [g0,g1,g5,g6,ex4,ex5,conv_3_5Count1,ex6]
    rw [ex7 _ _ _ (by simp) (by kernel_rfl)]
    simp [g0,g1,g5,g6,ex4,ex5,conv_3_5Count1,ex6]
    have hL1 := h; clear h
    refine loopS (S := f63_L1 F p0 x7) (fun v8 σ => ∃ (ts : Tr PV) (w : Option Nat),wok hp.length w ∧ σ = ⟨[],ts,hp,w⟩ ∧ ts.get 0 = some (.v (.string (bs p0))) ∧ ts.get 1 = some (iv p1) ∧ ts.get 5 = some (.l .own .nz v2.length (v2.map tv)) ∧ ts.get 6 = some (iv v3) ∧ ts.get 7 = some (.v (.string (bs x7))) ∧ ts.get 8 = some (iv v8) ∧ True) (fun v14 σ => ∃ (ts : Tr PV) (w : Option Nat),wok hp.length w ∧ σ = ⟨[],ts,hp,w⟩ ∧ ts.get 0 = some (.v (.string (bs p0))) ∧ ts.get 1 = some (iv p1) ∧ ts.get 5 = some (.l .own .nz v2.length (v2.map tv)) ∧ ts.get 6 = some (iv v3) ∧ ts.get 7 = some (.v (.string (bs x7))) ∧ ts.get 8 = some (iv v14) ∧ True) (fun _ => rfl) hL1 ?_ ?_ ?_
    · exact ⟨_,_,by simp [hw],rfl,by simp [g0,g1,g5,g6,ex4,ex5,conv_3_5Count1,ex6]⟩
    · rintro v14 σ ⟨ts,w,hw,rfl,g0,g1,g5,g6,g7,g8,-⟩ h
      clear hL1
      try dsimp only at h
      obtain ⟨x15,ex15,h⟩ := bindT h
      obtain ⟨x16,ex16,h⟩ := bindT h
      cases x16
      case true =>
       obtain ⟨x17,ex17,h⟩ := bindT h
       simp [g0,g1,g5,g6,g7,g8,ex15,ex16,ex17]
       refine ih (v2,x17) _ ?_ h
       exact ⟨_,_,by simp [hw],rfl,by simp [g0,g1,g5,g6,g7,g8,ex15,ex16,ex17]⟩
      obtain ⟨x18,ex18,h⟩ := bindT h
      obtain ⟨x19,ex19,h⟩ := bind_ok h
      have ex19 := fun {k : IntKind} => subF_ok (P := Try.prog) (t := 9) Try.underlying9 ex19 (k := k)
      obtain ⟨x20,ex20,h⟩ := bindT h
      obtain ⟨⟨c21,l22⟩,e23,h⟩ := bind_ok h
      try dsimp only at h
      have e23 : ∀ hp,E Try.prog Y0 63 [.v (.string (bs x19)),iv x20] hp = some (.l (vlOf c21) c21 l22.length (l22.map tv),hp,none) := fun hp => ihD  e23
      cases c21 with
      | full =>
        simp [g0,g1,g5,g6,g7,g8,ex15,ex16,ex18,ex19,shape9,pqSlice,ex20,e23]
        have hL2 := h; clear h
        refine loopS (S := f63_L2 F x7 l22) (fun (v24,v25) σ => ∃ (ts : Tr PV) (w : Option Nat),wok hp.length w ∧ σ = ⟨[],ts,hp,w⟩ ∧ ts.get 0 = some (.v (.string (bs p0))) ∧ ts.get 1 = some (iv p1) ∧ ts.get 5 = some (.l .own .nz v24.length (v24.map tv)) ∧ ts.get 6 = some (iv v3) ∧ ts.get 7 = some (.v (.string (bs x7))) ∧ ts.get 9 = some (.l (vlOf Ck.full) Ck.full l22.length (l22.map tv)) ∧ ts.get 10 = some (iv v25) ∧ True) (fun v32 σ => ∃ (ts : Tr PV) (w : Option Nat),wok hp.length w ∧ σ = ⟨[],ts,hp,w⟩ ∧ ts.get 0 = some (.v (.string (bs p0))) ∧ ts.get 1 = some (iv p1) ∧ ts.get 5 = some (.l .own .nz v32.length (v32.map tv)) ∧ ts.get 6 = some (iv v3) ∧ True) (fun _ => rfl) hL2 ?_ ?_ ?_
        · exact ⟨_,_,by simp [hw],rfl,by simp [g0,g1,g5,g6,g7,g8,ex15,ex16,ex18,ex19,shape9,pqSlice,ex20,e23]⟩
        · rintro v32 σ ⟨ts,w,hw,rfl,g0,g1,g5,g6,-⟩ h
          clear hL2
          try dsimp only at h
          obtain ⟨x33,ex33,h⟩ := bindT h
          simp [g0,g1,g5,g6,ex33]
          refine ih (v32,x33) _ ?_ h
          exact ⟨_,_,by simp [hw],rfl,by simp [g0,g1,g5,g6,ex33]⟩
        · rintro k n ⟨v24,v25⟩ σ ⟨ts,w,hw,rfl,g0,g1,g5,g6,g7,g9,g10,-⟩ h ih ex
          clear hL2
          rw [f63_L2] at h
          obtain ⟨x26,ex26,h⟩ := bindT h
          obtain ⟨x27,ex27,h⟩ := bindT h
          cases x27
          case false =>
           simp [g0,g1,g5,g6,g7,g9,g10,ex26,ex27]
           refine ex v24 _ ?_ h
           exact ⟨_,_,by simp [hw],rfl,by simp [g0,g1,g5,g6,g7,g9,g10,ex26,ex27]⟩
          obtain ⟨y28,ey28,h⟩ := bind_ok h
          obtain ⟨ey28a,ey28e,ey28b,ey28c,ey28g⟩ := gI_ok rfl ey28
          obtain ⟨x29,ex29,h⟩ := bind_ok h
          obtain ⟨ex29a,ex29⟩ := sadd_ok ex29
          obtain ⟨x30,ex30,h⟩ := bind_ok h
          obtain ⟨ex30a,ex30b,ex30c,ex30q⟩ := app1_ok tv ex30
          have ex30b := ex30b 18 (by decide)
          simp [lv,tv] at ex30c
          obtain ⟨x31,ex31,h⟩ := bindT h
          simp [g0,g1,g5,g6,g7,g9,g10,ex26,ex27,ey28a,ey28b,ey28c,tv,ex29,abin_sadd ex29a,ex30a,ex30b,ex30c,ex31]
          refine ih (x30,x31) _ ?_ h
          exact ⟨_,_,by simp [hw],rfl,by simp [g0,g1,g5,g6,g7,g9,g10,ex26,ex27,ey28a,ey28b,ey28c,tv,ex29,abin_sadd ex29a,ex30a,ex30b,ex30c,ex31]⟩
      | nz =>
        simp [g0,g1,g5,g6,g7,g8,ex15,ex16,ex18,ex19,shape9,pqSlice,ex20,e23]
        have hL2 := h; clear h
        refine loopS (S := f63_L2 F x7 l22) (fun (v24,v25) σ => ∃ (ts : Tr PV) (w : Option Nat),wok hp.length w ∧ σ = ⟨[],ts,hp,w⟩ ∧ ts.get 0 = some (.v (.string (bs p0))) ∧ ts.get 1 = some (iv p1) ∧ ts.get 5 = some (.l .own .nz v24.length (v24.map tv)) ∧ ts.get 6 = some (iv v3) ∧ ts.get 7 = some (.v (.string (bs x7))) ∧ ts.get 9 = some (.l (vlOf Ck.nz) Ck.nz l22.length (l22.map tv)) ∧ ts.get 10 = some (iv v25) ∧ True) (fun v32 σ => ∃ (ts : Tr PV) (w : Option Nat),wok hp.length w ∧ σ = ⟨[],ts,hp,w⟩ ∧ ts.get 0 = some (.v (.string (bs p0))) ∧ ts.get 1 = some (iv p1) ∧ ts.get 5 = some (.l .own .nz v32.length (v32.map tv)) ∧ ts.get 6 = some (iv v3) ∧ True) (fun _ => rfl) hL2 ?_ ?_ ?_
        · exact ⟨_,_,by simp [hw],rfl,by simp [g0,g1,g5,g6,g7,g8,ex15,ex16,ex18,ex19,shape9,pqSlice,ex20,e23]⟩
        · rintro v32 σ ⟨ts,w,hw,rfl,g0,g1,g5,g6,-⟩ h
          clear hL2
          try dsimp only at h
          obtain ⟨x33,ex33,h⟩ := bindT h
          simp [g0,g1,g5,g6,ex33]
          refine ih (v32,x33) _ ?_ h
          exact ⟨_,_,by simp [hw],rfl,by simp [g0,g1,g5,g6,ex33]⟩
        · rintro k n ⟨v24,v25⟩ σ ⟨ts,w,hw,rfl,g0,g1,g5,g6,g7,g9,g10,-⟩ h ih ex
          clear hL2
          rw [f63_L2] at h
          obtain ⟨x26,ex26,h⟩ := bindT h
          obtain ⟨x27,ex27,h⟩ := bindT h
          cases x27
          case false =>
           simp [g0,g1,g5,g6,g7,g9,g10,ex26,ex27]
           refine ex v24 _ ?_ h
           exact ⟨_,_,by simp [hw],rfl,by simp [g0,g1,g5,g6,g7,g9,g10,ex26,ex27]⟩
          obtain ⟨y28,ey28,h⟩ := bind_ok h
          obtain ⟨ey28a,ey28e,ey28b,ey28c,ey28g⟩ := gI_ok rfl ey28
          obtain ⟨x29,ex29,h⟩ := bind_ok h
          obtain ⟨ex29a,ex29⟩ := sadd_ok ex29
          obtain ⟨x30,ex30,h⟩ := bind_ok h
          obtain ⟨ex30a,ex30b,ex30c,ex30q⟩ := app1_ok tv ex30
          have ex30b := ex30b 18 (by decide)
          simp [lv,tv] at ex30c
          obtain ⟨x31,ex31,h⟩ := bindT h
          simp [g0,g1,g5,g6,g7,g9,g10,ex26,ex27,ey28a,ey28b,ey28c,tv,ex29,abin_sadd ex29a,ex30a,ex30b,ex30c,ex31]
          refine ih (x30,x31) _ ?_ h
          exact ⟨_,_,by simp [hw],rfl,by simp [g0,g1,g5,g6,g7,g9,g10,ex26,ex27,ey28a,ey28b,ey28c,tv,ex29,abin_sadd ex29a,ex30a,ex30b,ex30c,ex31]⟩
      | any =>
        simp [g0,g1,g5,g6,g7,g8,ex15,ex16,ex18,ex19,shape9,pqSlice,ex20,e23]
        have hL2 := h; clear h
        refine loopS (S := f63_L2 F x7 l22) (fun (v24,v25) σ => ∃ (ts : Tr PV) (w : Option Nat),wok hp.length w ∧ σ = ⟨[],ts,hp,w⟩ ∧ ts.get 0 = some (.v (.string (bs p0))) ∧ ts.get 1 = some (iv p1) ∧ ts.get 5 = some (.l .own .nz v24.length (v24.map tv)) ∧ ts.get 6 = some (iv v3) ∧ ts.get 7 = some (.v (.string (bs x7))) ∧ ts.get 9 = some (.l (vlOf Ck.any) Ck.any l22.length (l22.map tv)) ∧ ts.get 10 = some (iv v25) ∧ True) (fun v32 σ => ∃ (ts : Tr PV) (w : Option Nat),wok hp.length w ∧ σ = ⟨[],ts,hp,w⟩ ∧ ts.get 0 = some (.v (.string (bs p0))) ∧ ts.get 1 = some (iv p1) ∧ ts.get 5 = some (.l .own .nz v32.length (v32.map tv)) ∧ ts.get 6 = some (iv v3) ∧ True) (fun _ => rfl) hL2 ?_ ?_ ?_
        · exact ⟨_,_,by simp [hw],rfl,by simp [g0,g1,g5,g6,g7,g8,ex15,ex16,ex18,ex19,shape9,pqSlice,ex20,e23]⟩
        · rintro v32 σ ⟨ts,w,hw,rfl,g0,g1,g5,g6,-⟩ h
          clear hL2
          try dsimp only at h
          obtain ⟨x33,ex33,h⟩ := bindT h
          simp [g0,g1,g5,g6,ex33]
          refine ih (v32,x33) _ ?_ h
          exact ⟨_,_,by simp [hw],rfl,by simp [g0,g1,g5,g6,ex33]⟩
        · rintro k n ⟨v24,v25⟩ σ ⟨ts,w,hw,rfl,g0,g1,g5,g6,g7,g9,g10,-⟩ h ih ex
          clear hL2
          rw [f63_L2] at h
          obtain ⟨x26,ex26,h⟩ := bindT h
          obtain ⟨x27,ex27,h⟩ := bindT h
          cases x27
          case false =>
           simp [g0,g1,g5,g6,g7,g9,g10,ex26,ex27]
           refine ex v24 _ ?_ h
           exact ⟨_,_,by simp [hw],rfl,by simp [g0,g1,g5,g6,g7,g9,g10,ex26,ex27]⟩
          obtain ⟨y28,ey28,h⟩ := bind_ok h
          obtain ⟨ey28a,ey28e,ey28b,ey28c,ey28g⟩ := gI_ok rfl ey28
          obtain ⟨x29,ex29,h⟩ := bind_ok h
          obtain ⟨ex29a,ex29⟩ := sadd_ok ex29
          obtain ⟨x30,ex30,h⟩ := bind_ok h
          obtain ⟨ex30a,ex30b,ex30c,ex30q⟩ := app1_ok tv ex30
          have ex30b := ex30b 18 (by decide)
          simp [lv,tv] at ex30c
          obtain ⟨x31,ex31,h⟩ := bindT h
          simp [g0,g1,g5,g6,g7,g9,g10,ex26,ex27,ey28a,ey28b,ey28c,tv,ex29,abin_sadd ex29a,ex30a,ex30b,ex30c,ex31]
          refine ih (x30,x31) _ ?_ h
          exact ⟨_,_,by simp [hw],rfl,by simp [g0,g1,g5,g6,g7,g9,g10,ex26,ex27,ey28a,ey28b,ey28c,tv,ex29,abin_sadd ex29a,ex30a,ex30b,ex30c,ex31]⟩
    · rintro k n v8 σ ⟨ts,w,hw,rfl,g0,g1,g5,g6,g7,g8,-⟩ h ih ex
      clear hL1
      rw [f63_L1] at h
      obtain ⟨x9,ex9,h⟩ := bindT h
      obtain ⟨x10,ex10,h⟩ := bindT h
      cases x10
      case false =>
       simp [g0,g1,g5,g6,g7,g8,ex9,ex10]
       refine ex v8 _ ?_ h
       exact ⟨_,_,by simp [hw],rfl,by simp [g0,g1,g5,g6,g7,g8,ex9,ex10]⟩
      obtain ⟨x11,ex11,h⟩ := bindT h
      obtain ⟨x12,ex12,h⟩ := bind_ok h
      have ex12 := fun {k j : IntKind} => sub2_ok (P := Try.prog) (t := 9) Try.underlying9 ex12 (k := k) (j := j)
      obtain ⟨x13,ex13,h⟩ := bind_ok h
      have ex13p := inj_ok ex13
      have ex13 : decide (bs x12 = bs x7) = x13 := (decide_eq_decide.2 bs_eq).trans (inj_ok ex13)
      cases x13
      case true =>
       simp [g0,g1,g5,g6,g7,g8,ex9,ex10,ex11,ex12,shape9,pqSlice,ex13,ex13p,abin_seql,abin_sneq]
       refine ex v8 _ ?_ h
       exact ⟨_,_,by simp [hw],rfl,by simp [g0,g1,g5,g6,g7,g8,ex9,ex10,ex11,ex12,shape9,pqSlice,ex13,ex13p,abin_seql,abin_sneq]⟩
      simp [g0,g1,g5,g6,g7,g8,ex9,ex10,ex11,ex12,shape9,pqSlice,ex13,ex13p,abin_seql,abin_sneq]
      refine ih x11 _ ?_ h
      exact ⟨_,_,by simp [hw],rfl,by simp [g0,g1,g5,g6,g7,g8,ex9,ex10,ex11,ex12,shape9,pqSlice,ex13,ex13p,abin_seql,abin_sneq]⟩
def f40S (F : Nat) (p0 : List UInt8) (p1 : List UInt8) : Option (List UInt8 × Int) :=
  (f57S F [p0,p1]).bind fun x1 =>
  (some (decide (x1 = 0))).bind fun x3 =>
  (match x3 with
  | true => ((f70O p0 p1 10).bind fun (s4,b5) =>
  (match b5 with
  | true => (some (s4,0))
  | false => (some ([],13))))
  | false => (some ([],x1)))
theorem f40_is {p0 : List UInt8} {p1 : List UInt8} {hp : List (Option (List PV))} {F : Nat} {r : (List UInt8 × Int)}  (h : f40S F p0 p1 = some r) :
    E Try.prog Y0 40 [.v (.string (bs p0)),.v (.string (bs p1))] hp = some (.t [.v (.string (bs r.1)),iv r.2],hp,none) := by
  rw [E_bodyN 2 body40 rfl (by decide) rfl]
  simp only [Try.f40,Option.get_some]
  unfold f40S at h
  obtain ⟨x1,e2,h⟩ := bind_ok h
  have e2 : ∀ hp,E Try.prog Y0 57 [.l .fz .full 2 [.v (.string (bs p0)),.v (.string (bs p1))]] hp = some (iv x1,hp,none) := fun hp => f57_is (a0 := false) (c0 := .full) e2
  obtain ⟨x3,ex3,h⟩ := bindT h
  cases x3
  case false =>
   obtain rfl := inj_ok h
   simp [e2,ex3]
  obtain ⟨⟨s4,b5⟩,e6,h⟩ := bind_ok h
  try dsimp only at h
  have e6 : ∀ hp,E Try.prog Y0 70 [.v (.string (bs p0)),.v (.string (bs p1)),iv 10] hp = some (.t [.v (.string (bs s4)),.v (.bool b5)],hp,none) := fun hp => f70_is e6
  cases b5
  case true =>
   obtain rfl := inj_ok h
   simp [e2,ex3,e6]
  obtain rfl := inj_ok h
  simp [e2,ex3,e6]
def f42S (F : Nat) (p0 : List UInt8) (p1 : List UInt8) (p2 : Int) : Option (Bool × Int) :=
  (f57S F [p0,p1]).bind fun x1 =>
  (some (decide (x1 = 0))).bind fun x3 =>
  (match x3 with
  | true => ((some (decide (p2 < 0))).bind fun x4 =>
  (match x4 with
  | true => (some (false,1))
  | false => ((some (decide (10 < p2))).bind fun x5 =>
  (match x5 with
  | true => (some (false,1))
  | false => ((f70O p0 p1 p2).bind fun (s6,b7) =>
  some ((!b7),0))))))
  | false => (some (false,x1)))
theorem f42_is {p0 : List UInt8} {p1 : List UInt8} {p2 : Int} {hp : List (Option (List PV))} {F : Nat} {r : (Bool × Int)}  (h : f42S F p0 p1 p2 = some r) :
    E Try.prog Y0 42 [.v (.string (bs p0)),.v (.string (bs p1)),iv p2] hp = some (.t [.v (.bool r.1),iv r.2],hp,none) := by
  rw [E_bodyN 3 body42 rfl (by decide) rfl]
  simp only [Try.f42,Option.get_some]
  unfold f42S at h
  obtain ⟨x1,e2,h⟩ := bind_ok h
  have e2 : ∀ hp,E Try.prog Y0 57 [.l .fz .full 2 [.v (.string (bs p0)),.v (.string (bs p1))]] hp = some (iv x1,hp,none) := fun hp => f57_is (a0 := false) (c0 := .full) e2
  obtain ⟨x3,ex3,h⟩ := bindT h
  cases x3
  case false =>
   obtain rfl := inj_ok h
   simp [e2,ex3]
  obtain ⟨x4,ex4,h⟩ := bindT h
  cases x4
  case true =>
   obtain rfl := inj_ok h
   simp [e2,ex3,ex4]
  obtain ⟨x5,ex5,h⟩ := bindT h
  cases x5
  case true =>
   obtain rfl := inj_ok h
   simp [e2,ex3,ex4,ex5]
  obtain ⟨⟨s6,b7⟩,e8,h⟩ := bind_ok h
  try dsimp only at h
  have e8 : ∀ hp,E Try.prog Y0 70 [.v (.string (bs p0)),.v (.string (bs p1)),iv p2] hp = some (.t [.v (.string (bs s6)),.v (.bool b7)],hp,none) := fun hp => f70_is e8
  obtain rfl := inj_ok h
  simp [e2,ex3,ex4,ex5,e8]
theorem checkW_let {w : List UInt8} (h : checkW w = 0) : w.length ≤ 10 ∧ ∀ x ∈ w,97 ≤ x.toNat ∧ x.toNat < 103 := by
 unfold checkW at h
 split at h
 ·cases h
 ·split at h
  ·rename_i h1 h2
   refine ⟨by omega,fun x hx => ?_⟩
   have := List.all_eq_true.1 h2 x hx
   unfold letW at this
   simpa using this
  ·cases h
def f45_L3 (F : Nat) (p0 : List (List UInt8)) (p1 : Int) (l20 : List (List UInt8)) (v22 : Int) (K : Bool → Option (List UInt8 × Int)) : Nat → Bool × Int → Option (List UInt8 × Int)
  | 0,_ => none
  | n + 1,(b25,v26) => (some ((p0.length : Int))).bind fun x27 =>
    (some (decide (v26 < x27))).bind fun x28 =>
    (match x28 with
    | true => ((match b25 with
    | true => ((some (decide (v26 = p1))).bind fun x29 =>
    (match x29 with
    | true => ((some (IntKind.i64.wrap (v26 + 1))).bind fun x30 =>
    f45_L3 F p0 p1 l20 v22 K n (true,x30))
    | false => ((gI p0 v26).bind fun y31 =>
    (gI l20 v22).bind fun y32 =>
    (f28S F y31 y32).bind fun b33 =>
    (some (IntKind.i64.wrap (v26 + 1))).bind fun x35 =>
    f45_L3 F p0 p1 l20 v22 K n ((!b33),x35))))
    | false => ((some (IntKind.i64.wrap (v26 + 1))).bind fun x36 =>
    f45_L3 F p0 p1 l20 v22 K n (false,x36))))
    | false => (K b25))
def f45_L2 (F : Nat) (p0 : List (List UInt8)) (p1 : Int) (l20 : List (List UInt8)) (K : Unit → Option (List UInt8 × Int)) : Nat → Int → Option (List UInt8 × Int)
  | 0,_ => none
  | n + 1,v22 => (some ((l20.length : Int))).bind fun x23 =>
    (some (decide (v22 < x23))).bind fun x24 =>
    (match x24 with
    | true => (f45_L3 F p0 p1 l20 v22 (fun b37 =>
      (match b37 with
      | true => ((gI l20 v22).bind fun y38 =>
      some (y38,0))
      | false => ((some (IntKind.i64.wrap (v22 + 1))).bind fun x39 =>
      f45_L2 F p0 p1 l20 K n x39))) F (true,0))
    | false => (K ()))
def f45_L1 (F : Nat) (p0 : List (List UInt8)) (p1 : Int) (K : Unit → Option (List UInt8 × Int)) : Nat → Int → Option (List UInt8 × Int)
  | 0,_ => none
  | n + 1,v15 => (gI p0 p1).bind fun y16 =>
    (some ((y16.length : Int))).bind fun x17 =>
    (some (decide (v15 ≤ x17))).bind fun x18 =>
    (match x18 with
    | true => ((f63S F F y16 v15).bind fun (c19,l20) =>
    f45_L2 F p0 p1 l20 (fun _ =>
      (some (IntKind.i64.wrap (v15 + 1))).bind fun x40 =>
      f45_L1 F p0 p1 K n x40) F 0)
    | false => (K ()))
def f45_L0 (F : Nat) (p0 : List (List UInt8)) (K : Unit → Option (List UInt8 × Int)) : Nat → Int → Option (List UInt8 × Int)
  | 0,_ => none
  | n + 1,v3 => (some ((p0.length : Int))).bind fun x4 =>
    (some (decide (v3 < x4))).bind fun x5 =>
    (match x5 with
    | true => ((gI p0 v3).bind fun y6 =>
    (f26S F y6).bind fun x7 =>
    (some (decide (x7 = 0))).bind fun x9 =>
    (match x9 with
    | true => ((some (IntKind.i64.wrap (v3 + 1))).bind fun x10 =>
    f45_L0 F p0 K n x10)
    | false => (some ([],x7))))
    | false => (K ()))
def f45S (F : Nat) (p0 : List (List UInt8)) (p1 : Int) : Option (List UInt8 × Int) :=
  (some ((p0.length : Int))).bind fun x1 =>
  (some (decide (8 < x1))).bind fun x2 =>
  (match x2 with
  | true => (some ([],3))
  | false => (f45_L0 F p0 (fun _ =>
    (some ((p0.length : Int))).bind fun x11 =>
    (some (IntKind.i64.wrap (x11 - 1))).bind fun x12 =>
    (f62S F p1 0 x12).bind fun b13 =>
    (match b13 with
    | true => (f45_L1 F p0 p1 (fun _ =>
      some ([],12)) F 0)
    | false => (some ([],2)))) F 0))
theorem f45_is {a0 : Bool} {c0 : Ck} {p0 : List (List UInt8)} {p1 : Int} {hp : List (Option (List PV))} {F : Nat} {r : (List UInt8 × Int)}  (h : f45S F p0 p1 = some r) :
    E Try.prog Y0 45 [.l (ak a0) c0 p0.length (p0.map tv),iv p1] hp = some (.t [.v (.string (bs r.1)),iv r.2],hp,none) := by
  rw [E_bodyN 2 body45 rfl (by decide) rfl]
  simp only [Try.f45,Option.get_some]
  unfold f45S at h
  obtain ⟨x1,ex1,h⟩ := bindT h
  obtain ⟨x2,ex2,h⟩ := bindT h
  cases x2
  case true =>
   obtain rfl := inj_ok h
   simp [ex1,ex2]
  simp [ex1,ex2]
  have hL0 := h; clear h
  refine loopS (S := f45_L0 F p0) (fun v3 σ => ∃ (ts : Tr PV) (w : Option Nat),wok hp.length w ∧ σ = ⟨[],ts,hp,w⟩ ∧ ts.get 0 = some (.l (ak a0) c0 p0.length (p0.map tv)) ∧ ts.get 1 = some (iv p1) ∧ ts.get 6 = some (iv v3) ∧ True) (fun _ σ => ∃ (ts : Tr PV) (w : Option Nat),wok hp.length w ∧ σ = ⟨[],ts,hp,w⟩ ∧ ts.get 0 = some (.l (ak a0) c0 p0.length (p0.map tv)) ∧ ts.get 1 = some (iv p1) ∧ True) (fun _ => rfl) hL0 ?_ ?_ ?_
  · exact ⟨_,_,by simp,rfl,by simp [ex1,ex2]⟩
  · rintro ⟨⟩ σ ⟨ts,w,hw,rfl,g0,g1,-⟩ h
    clear hL0
    try dsimp only at h
    obtain ⟨x11,ex11,h⟩ := bindT h
    obtain ⟨x12,ex12,h⟩ := bindT h
    obtain ⟨b13,e14,h⟩ := bind_ok h
    have e14 : ∀ hp,E Try.prog Y0 62 [iv p1,iv 0,iv x12] hp = some (.v (.bool b13),hp,none) := fun hp => f62_is  e14
    cases b13
    case false =>
     obtain rfl := inj_ok h
     simp [g0,g1,ex11,ex12,e14,hw]
    simp [g0,g1,ex11,ex12,e14]
    have hL1 := h; clear h
    refine loopS (S := f45_L1 F p0 p1) (fun v15 σ => ∃ (ts : Tr PV) (w : Option Nat),wok hp.length w ∧ σ = ⟨[],ts,hp,w⟩ ∧ ts.get 0 = some (.l (ak a0) c0 p0.length (p0.map tv)) ∧ ts.get 1 = some (iv p1) ∧ ts.get 8 = some (iv v15) ∧ True) (fun _ σ => ∃ (ts : Tr PV) (w : Option Nat),wok hp.length w ∧ σ = ⟨[],ts,hp,w⟩ ∧ True) (fun _ => rfl) hL1 ?_ ?_ ?_
    · exact ⟨_,_,by simp [hw],rfl,by simp [g0,g1,ex11,ex12,e14]⟩
    · rintro ⟨⟩ σ ⟨ts,w,hw,rfl,-⟩ h
      clear hL1
      try dsimp only at h
      obtain rfl := inj_ok h
      simp [hw]
    · rintro k n v15 σ ⟨ts,w,hw,rfl,g0,g1,g8,-⟩ h ih ex
      clear hL1
      rw [f45_L1] at h
      obtain ⟨y16,ey16,h⟩ := bind_ok h
      obtain ⟨ey16a,ey16e,ey16b,ey16c,ey16g⟩ := gI_ok rfl ey16
      obtain ⟨x17,ex17,h⟩ := bindT h
      obtain ⟨x18,ex18,h⟩ := bindT h
      cases x18
      case false =>
       simp [g0,g1,g8,ey16a,ey16b,ey16c,tv,ex17,ex18]
       refine ex () _ ?_ h
       exact ⟨_,_,by simp [hw],rfl,by simp [g0,g1,g8,ey16a,ey16b,ey16c,tv,ex17,ex18]⟩
      obtain ⟨⟨c19,l20⟩,e21,h⟩ := bind_ok h
      try dsimp only at h
      have e21 : ∀ hp,E Try.prog Y0 63 [.v (.string (bs y16)),iv v15] hp = some (.l (vlOf c19) c19 l20.length (l20.map tv),hp,none) := fun hp => f63_is  e21
      cases c19 with
      | full =>
        simp [g0,g1,g8,ey16a,ey16b,ey16c,tv,ex17,ex18,e21]
        have hL2 := h; clear h
        refine loopS (S := f45_L2 F p0 p1 l20) (fun v22 σ => ∃ (ts : Tr PV) (w : Option Nat),wok hp.length w ∧ σ = ⟨[],ts,hp,w⟩ ∧ ts.get 0 = some (.l (ak a0) c0 p0.length (p0.map tv)) ∧ ts.get 1 = some (iv p1) ∧ ts.get 8 = some (iv v15) ∧ ts.get 9 = some (.l (vlOf Ck.full) Ck.full l20.length (l20.map tv)) ∧ ts.get 10 = some (iv v22) ∧ True) (fun _ σ => ∃ (ts : Tr PV) (w : Option Nat),wok hp.length w ∧ σ = ⟨[],ts,hp,w⟩ ∧ ts.get 0 = some (.l (ak a0) c0 p0.length (p0.map tv)) ∧ ts.get 1 = some (iv p1) ∧ ts.get 8 = some (iv v15) ∧ True) (fun _ => rfl) hL2 ?_ ?_ ?_
        · exact ⟨_,_,by simp [hw],rfl,by simp [g0,g1,g8,ey16a,ey16b,ey16c,tv,ex17,ex18,e21]⟩
        · rintro ⟨⟩ σ ⟨ts,w,hw,rfl,g0,g1,g8,-⟩ h
          clear hL2
          try dsimp only at h
          obtain ⟨x40,ex40,h⟩ := bindT h
          simp [g0,g1,g8,ex40]
          refine ih x40 _ ?_ h
          exact ⟨_,_,by simp [hw],rfl,by simp [g0,g1,g8,ex40]⟩
        · rintro k n v22 σ ⟨ts,w,hw,rfl,g0,g1,g8,g9,g10,-⟩ h ih ex
          clear hL2
          rw [f45_L2] at h
          obtain ⟨x23,ex23,h⟩ := bindT h
          obtain ⟨x24,ex24,h⟩ := bindT h
          cases x24
          case false =>
           simp [g0,g1,g8,g9,g10,ex23,ex24]
           refine ex () _ ?_ h
           exact ⟨_,_,by simp [hw],rfl,by simp [g0,g1,g8,g9,g10,ex23,ex24]⟩
          simp [g0,g1,g8,g9,g10,ex23,ex24]
          have hL3 := h; clear h
          refine loopS (S := f45_L3 F p0 p1 l20 v22) (fun (b25,v26) σ => ∃ (ts : Tr PV) (w : Option Nat),wok hp.length w ∧ σ = ⟨[],ts,hp,w⟩ ∧ ts.get 0 = some (.l (ak a0) c0 p0.length (p0.map tv)) ∧ ts.get 1 = some (iv p1) ∧ ts.get 8 = some (iv v15) ∧ ts.get 9 = some (.l (vlOf Ck.full) Ck.full l20.length (l20.map tv)) ∧ ts.get 10 = some (iv v22) ∧ ts.get 11 = some (.v (.bool b25)) ∧ ts.get 12 = some (iv v26) ∧ True) (fun b37 σ => ∃ (ts : Tr PV) (w : Option Nat),wok hp.length w ∧ σ = ⟨[],ts,hp,w⟩ ∧ ts.get 0 = some (.l (ak a0) c0 p0.length (p0.map tv)) ∧ ts.get 1 = some (iv p1) ∧ ts.get 8 = some (iv v15) ∧ ts.get 9 = some (.l (vlOf Ck.full) Ck.full l20.length (l20.map tv)) ∧ ts.get 10 = some (iv v22) ∧ ts.get 11 = some (.v (.bool b37)) ∧ True) (fun _ => rfl) hL3 ?_ ?_ ?_
          · exact ⟨_,_,by simp [hw],rfl,by simp [g0,g1,g8,g9,g10,ex23,ex24]⟩
          · rintro b37 σ ⟨ts,w,hw,rfl,g0,g1,g8,g9,g10,g11,-⟩ h
            clear hL3
            try dsimp only at h
            cases b37
            case true =>
             obtain ⟨y38,ey38,h⟩ := bind_ok h
             obtain ⟨ey38a,ey38e,ey38b,ey38c,ey38g⟩ := gI_ok rfl ey38
             obtain rfl := inj_ok h
             simp [g0,g1,g8,g9,g10,g11,ey38a,ey38b,ey38c,tv,hw]
            obtain ⟨x39,ex39,h⟩ := bindT h
            simp [g0,g1,g8,g9,g10,g11,ex39]
            refine ih x39 _ ?_ h
            exact ⟨_,_,by simp [hw],rfl,by simp [g0,g1,g8,g9,g10,g11,ex39]⟩
          · rintro k n ⟨b25,v26⟩ σ ⟨ts,w,hw,rfl,g0,g1,g8,g9,g10,g11,g12,-⟩ h ih ex
            clear hL3
            rw [f45_L3.eq_def] at h; dsimp only at h
            obtain ⟨x27,ex27,h⟩ := bindT h
            obtain ⟨x28,ex28,h⟩ := bindT h
            cases x28
            case false =>
             simp [g0,g1,g8,g9,g10,g11,g12,ex27,ex28]
             refine ex b25 _ ?_ h
             exact ⟨_,_,by simp [hw],rfl,by simp [g0,g1,g8,g9,g10,g11,g12,ex27,ex28]⟩
            cases b25
            case false =>
             obtain ⟨x36,ex36,h⟩ := bindT h
             simp [g0,g1,g8,g9,g10,g11,g12,ex27,ex28,ex36]
             refine ih (false,x36) _ ?_ h
             exact ⟨_,_,by simp [hw],rfl,by simp [g0,g1,g8,g9,g10,g11,g12,ex27,ex28,ex36]⟩
            obtain ⟨x29,ex29,h⟩ := bindT h
            cases x29
            case true =>
             obtain ⟨x30,ex30,h⟩ := bindT h
             simp [g0,g1,g8,g9,g10,g11,g12,ex27,ex28,ex29,ex30]
             refine ih (true,x30) _ ?_ h
             exact ⟨_,_,by simp [hw],rfl,by simp [g0,g1,g8,g9,g10,g11,g12,ex27,ex28,ex29,ex30]⟩
            obtain ⟨y31,ey31,h⟩ := bind_ok h
            obtain ⟨ey31a,ey31e,ey31b,ey31c,ey31g⟩ := gI_ok rfl ey31
            obtain ⟨y32,ey32,h⟩ := bind_ok h
            obtain ⟨ey32a,ey32e,ey32b,ey32c,ey32g⟩ := gI_ok rfl ey32
            obtain ⟨b33,e34,h⟩ := bind_ok h
            have e34 : ∀ hp,E Try.prog Y0 28 [.v (.string (bs y31)),.v (.string (bs y32))] hp = some (.v (.bool b33),hp,none) := fun hp => f28_is  e34
            obtain ⟨x35,ex35,h⟩ := bindT h
            simp [g0,g1,g8,g9,g10,g11,g12,ex27,ex28,ex29,ey31a,ey31b,ey31c,tv,ey32a,ey32b,ey32c,e34,ex35]
            refine ih ((!b33),x35) _ ?_ h
            exact ⟨_,_,by simp [hw],rfl,by simp [g0,g1,g8,g9,g10,g11,g12,ex27,ex28,ex29,ey31a,ey31b,ey31c,tv,ey32a,ey32b,ey32c,e34,ex35]⟩
      | nz =>
        simp [g0,g1,g8,ey16a,ey16b,ey16c,tv,ex17,ex18,e21]
        have hL2 := h; clear h
        refine loopS (S := f45_L2 F p0 p1 l20) (fun v22 σ => ∃ (ts : Tr PV) (w : Option Nat),wok hp.length w ∧ σ = ⟨[],ts,hp,w⟩ ∧ ts.get 0 = some (.l (ak a0) c0 p0.length (p0.map tv)) ∧ ts.get 1 = some (iv p1) ∧ ts.get 8 = some (iv v15) ∧ ts.get 9 = some (.l (vlOf Ck.nz) Ck.nz l20.length (l20.map tv)) ∧ ts.get 10 = some (iv v22) ∧ True) (fun _ σ => ∃ (ts : Tr PV) (w : Option Nat),wok hp.length w ∧ σ = ⟨[],ts,hp,w⟩ ∧ ts.get 0 = some (.l (ak a0) c0 p0.length (p0.map tv)) ∧ ts.get 1 = some (iv p1) ∧ ts.get 8 = some (iv v15) ∧ True) (fun _ => rfl) hL2 ?_ ?_ ?_
        · exact ⟨_,_,by simp [hw],rfl,by simp [g0,g1,g8,ey16a,ey16b,ey16c,tv,ex17,ex18,e21]⟩
        · rintro ⟨⟩ σ ⟨ts,w,hw,rfl,g0,g1,g8,-⟩ h
          clear hL2
          try dsimp only at h
          obtain ⟨x40,ex40,h⟩ := bindT h
          simp [g0,g1,g8,ex40]
          refine ih x40 _ ?_ h
          exact ⟨_,_,by simp [hw],rfl,by simp [g0,g1,g8,ex40]⟩
        · rintro k n v22 σ ⟨ts,w,hw,rfl,g0,g1,g8,g9,g10,-⟩ h ih ex
          clear hL2
          rw [f45_L2] at h
          obtain ⟨x23,ex23,h⟩ := bindT h
          obtain ⟨x24,ex24,h⟩ := bindT h
          cases x24
          case false =>
           simp [g0,g1,g8,g9,g10,ex23,ex24]
           refine ex () _ ?_ h
           exact ⟨_,_,by simp [hw],rfl,by simp [g0,g1,g8,g9,g10,ex23,ex24]⟩
          simp [g0,g1,g8,g9,g10,ex23,ex24]
          have hL3 := h; clear h
          refine loopS (S := f45_L3 F p0 p1 l20 v22) (fun (b25,v26) σ => ∃ (ts : Tr PV) (w : Option Nat),wok hp.length w ∧ σ = ⟨[],ts,hp,w⟩ ∧ ts.get 0 = some (.l (ak a0) c0 p0.length (p0.map tv)) ∧ ts.get 1 = some (iv p1) ∧ ts.get 8 = some (iv v15) ∧ ts.get 9 = some (.l (vlOf Ck.nz) Ck.nz l20.length (l20.map tv)) ∧ ts.get 10 = some (iv v22) ∧ ts.get 11 = some (.v (.bool b25)) ∧ ts.get 12 = some (iv v26) ∧ True) (fun b37 σ => ∃ (ts : Tr PV) (w : Option Nat),wok hp.length w ∧ σ = ⟨[],ts,hp,w⟩ ∧ ts.get 0 = some (.l (ak a0) c0 p0.length (p0.map tv)) ∧ ts.get 1 = some (iv p1) ∧ ts.get 8 = some (iv v15) ∧ ts.get 9 = some (.l (vlOf Ck.nz) Ck.nz l20.length (l20.map tv)) ∧ ts.get 10 = some (iv v22) ∧ ts.get 11 = some (.v (.bool b37)) ∧ True) (fun _ => rfl) hL3 ?_ ?_ ?_
          · exact ⟨_,_,by simp [hw],rfl,by simp [g0,g1,g8,g9,g10,ex23,ex24]⟩
          · rintro b37 σ ⟨ts,w,hw,rfl,g0,g1,g8,g9,g10,g11,-⟩ h
            clear hL3
            try dsimp only at h
            cases b37
            case true =>
             obtain ⟨y38,ey38,h⟩ := bind_ok h
             obtain ⟨ey38a,ey38e,ey38b,ey38c,ey38g⟩ := gI_ok rfl ey38
             obtain rfl := inj_ok h
             simp [g0,g1,g8,g9,g10,g11,ey38a,ey38b,ey38c,tv,hw]
            obtain ⟨x39,ex39,h⟩ := bindT h
            simp [g0,g1,g8,g9,g10,g11,ex39]
            refine ih x39 _ ?_ h
            exact ⟨_,_,by simp [hw],rfl,by simp [g0,g1,g8,g9,g10,g11,ex39]⟩
          · rintro k n ⟨b25,v26⟩ σ ⟨ts,w,hw,rfl,g0,g1,g8,g9,g10,g11,g12,-⟩ h ih ex
            clear hL3
            rw [f45_L3.eq_def] at h; dsimp only at h
            obtain ⟨x27,ex27,h⟩ := bindT h
            obtain ⟨x28,ex28,h⟩ := bindT h
            cases x28
            case false =>
             simp [g0,g1,g8,g9,g10,g11,g12,ex27,ex28]
             refine ex b25 _ ?_ h
             exact ⟨_,_,by simp [hw],rfl,by simp [g0,g1,g8,g9,g10,g11,g12,ex27,ex28]⟩
            cases b25
            case false =>
             obtain ⟨x36,ex36,h⟩ := bindT h
             simp [g0,g1,g8,g9,g10,g11,g12,ex27,ex28,ex36]
             refine ih (false,x36) _ ?_ h
             exact ⟨_,_,by simp [hw],rfl,by simp [g0,g1,g8,g9,g10,g11,g12,ex27,ex28,ex36]⟩
            obtain ⟨x29,ex29,h⟩ := bindT h
            cases x29
            case true =>
             obtain ⟨x30,ex30,h⟩ := bindT h
             simp [g0,g1,g8,g9,g10,g11,g12,ex27,ex28,ex29,ex30]
             refine ih (true,x30) _ ?_ h
             exact ⟨_,_,by simp [hw],rfl,by simp [g0,g1,g8,g9,g10,g11,g12,ex27,ex28,ex29,ex30]⟩
            obtain ⟨y31,ey31,h⟩ := bind_ok h
            obtain ⟨ey31a,ey31e,ey31b,ey31c,ey31g⟩ := gI_ok rfl ey31
            obtain ⟨y32,ey32,h⟩ := bind_ok h
            obtain ⟨ey32a,ey32e,ey32b,ey32c,ey32g⟩ := gI_ok rfl ey32
            obtain ⟨b33,e34,h⟩ := bind_ok h
            have e34 : ∀ hp,E Try.prog Y0 28 [.v (.string (bs y31)),.v (.string (bs y32))] hp = some (.v (.bool b33),hp,none) := fun hp => f28_is  e34
            obtain ⟨x35,ex35,h⟩ := bindT h
            simp [g0,g1,g8,g9,g10,g11,g12,ex27,ex28,ex29,ey31a,ey31b,ey31c,tv,ey32a,ey32b,ey32c,e34,ex35]
            refine ih ((!b33),x35) _ ?_ h
            exact ⟨_,_,by simp [hw],rfl,by simp [g0,g1,g8,g9,g10,g11,g12,ex27,ex28,ex29,ey31a,ey31b,ey31c,tv,ey32a,ey32b,ey32c,e34,ex35]⟩
      | any =>
        simp [g0,g1,g8,ey16a,ey16b,ey16c,tv,ex17,ex18,e21]
        have hL2 := h; clear h
        refine loopS (S := f45_L2 F p0 p1 l20) (fun v22 σ => ∃ (ts : Tr PV) (w : Option Nat),wok hp.length w ∧ σ = ⟨[],ts,hp,w⟩ ∧ ts.get 0 = some (.l (ak a0) c0 p0.length (p0.map tv)) ∧ ts.get 1 = some (iv p1) ∧ ts.get 8 = some (iv v15) ∧ ts.get 9 = some (.l (vlOf Ck.any) Ck.any l20.length (l20.map tv)) ∧ ts.get 10 = some (iv v22) ∧ True) (fun _ σ => ∃ (ts : Tr PV) (w : Option Nat),wok hp.length w ∧ σ = ⟨[],ts,hp,w⟩ ∧ ts.get 0 = some (.l (ak a0) c0 p0.length (p0.map tv)) ∧ ts.get 1 = some (iv p1) ∧ ts.get 8 = some (iv v15) ∧ True) (fun _ => rfl) hL2 ?_ ?_ ?_
        · exact ⟨_,_,by simp [hw],rfl,by simp [g0,g1,g8,ey16a,ey16b,ey16c,tv,ex17,ex18,e21]⟩
        · rintro ⟨⟩ σ ⟨ts,w,hw,rfl,g0,g1,g8,-⟩ h
          clear hL2
          try dsimp only at h
          obtain ⟨x40,ex40,h⟩ := bindT h
          simp [g0,g1,g8,ex40]
          refine ih x40 _ ?_ h
          exact ⟨_,_,by simp [hw],rfl,by simp [g0,g1,g8,ex40]⟩
        · rintro k n v22 σ ⟨ts,w,hw,rfl,g0,g1,g8,g9,g10,-⟩ h ih ex
          clear hL2
          rw [f45_L2] at h
          obtain ⟨x23,ex23,h⟩ := bindT h
          obtain ⟨x24,ex24,h⟩ := bindT h
          cases x24
          case false =>
           simp [g0,g1,g8,g9,g10,ex23,ex24]
           refine ex () _ ?_ h
           exact ⟨_,_,by simp [hw],rfl,by simp [g0,g1,g8,g9,g10,ex23,ex24]⟩
          simp [g0,g1,g8,g9,g10,ex23,ex24]
          have hL3 := h; clear h
          refine loopS (S := f45_L3 F p0 p1 l20 v22) (fun (b25,v26) σ => ∃ (ts : Tr PV) (w : Option Nat),wok hp.length w ∧ σ = ⟨[],ts,hp,w⟩ ∧ ts.get 0 = some (.l (ak a0) c0 p0.length (p0.map tv)) ∧ ts.get 1 = some (iv p1) ∧ ts.get 8 = some (iv v15) ∧ ts.get 9 = some (.l (vlOf Ck.any) Ck.any l20.length (l20.map tv)) ∧ ts.get 10 = some (iv v22) ∧ ts.get 11 = some (.v (.bool b25)) ∧ ts.get 12 = some (iv v26) ∧ True) (fun b37 σ => ∃ (ts : Tr PV) (w : Option Nat),wok hp.length w ∧ σ = ⟨[],ts,hp,w⟩ ∧ ts.get 0 = some (.l (ak a0) c0 p0.length (p0.map tv)) ∧ ts.get 1 = some (iv p1) ∧ ts.get 8 = some (iv v15) ∧ ts.get 9 = some (.l (vlOf Ck.any) Ck.any l20.length (l20.map tv)) ∧ ts.get 10 = some (iv v22) ∧ ts.get 11 = some (.v (.bool b37)) ∧ True) (fun _ => rfl) hL3 ?_ ?_ ?_
          · exact ⟨_,_,by simp [hw],rfl,by simp [g0,g1,g8,g9,g10,ex23,ex24]⟩
          · rintro b37 σ ⟨ts,w,hw,rfl,g0,g1,g8,g9,g10,g11,-⟩ h
            clear hL3
            try dsimp only at h
            cases b37
            case true =>
             obtain ⟨y38,ey38,h⟩ := bind_ok h
             obtain ⟨ey38a,ey38e,ey38b,ey38c,ey38g⟩ := gI_ok rfl ey38
             obtain rfl := inj_ok h
             simp [g0,g1,g8,g9,g10,g11,ey38a,ey38b,ey38c,tv,hw]
            obtain ⟨x39,ex39,h⟩ := bindT h
            simp [g0,g1,g8,g9,g10,g11,ex39]
            refine ih x39 _ ?_ h
            exact ⟨_,_,by simp [hw],rfl,by simp [g0,g1,g8,g9,g10,g11,ex39]⟩
          · rintro k n ⟨b25,v26⟩ σ ⟨ts,w,hw,rfl,g0,g1,g8,g9,g10,g11,g12,-⟩ h ih ex
            clear hL3
            rw [f45_L3.eq_def] at h; dsimp only at h
            obtain ⟨x27,ex27,h⟩ := bindT h
            obtain ⟨x28,ex28,h⟩ := bindT h
            cases x28
            case false =>
             simp [g0,g1,g8,g9,g10,g11,g12,ex27,ex28]
             refine ex b25 _ ?_ h
             exact ⟨_,_,by simp [hw],rfl,by simp [g0,g1,g8,g9,g10,g11,g12,ex27,ex28]⟩
            cases b25
            case false =>
             obtain ⟨x36,ex36,h⟩ := bindT h
             simp [g0,g1,g8,g9,g10,g11,g12,ex27,ex28,ex36]
             refine ih (false,x36) _ ?_ h
             exact ⟨_,_,by simp [hw],rfl,by simp [g0,g1,g8,g9,g10,g11,g12,ex27,ex28,ex36]⟩
            obtain ⟨x29,ex29,h⟩ := bindT h
            cases x29
            case true =>
             obtain ⟨x30,ex30,h⟩ := bindT h
             simp [g0,g1,g8,g9,g10,g11,g12,ex27,ex28,ex29,ex30]
             refine ih (true,x30) _ ?_ h
             exact ⟨_,_,by simp [hw],rfl,by simp [g0,g1,g8,g9,g10,g11,g12,ex27,ex28,ex29,ex30]⟩
            obtain ⟨y31,ey31,h⟩ := bind_ok h
            obtain ⟨ey31a,ey31e,ey31b,ey31c,ey31g⟩ := gI_ok rfl ey31
            obtain ⟨y32,ey32,h⟩ := bind_ok h
            obtain ⟨ey32a,ey32e,ey32b,ey32c,ey32g⟩ := gI_ok rfl ey32
            obtain ⟨b33,e34,h⟩ := bind_ok h
            have e34 : ∀ hp,E Try.prog Y0 28 [.v (.string (bs y31)),.v (.string (bs y32))] hp = some (.v (.bool b33),hp,none) := fun hp => f28_is  e34
            obtain ⟨x35,ex35,h⟩ := bindT h
            simp [g0,g1,g8,g9,g10,g11,g12,ex27,ex28,ex29,ey31a,ey31b,ey31c,tv,ey32a,ey32b,ey32c,e34,ex35]
            refine ih ((!b33),x35) _ ?_ h
            exact ⟨_,_,by simp [hw],rfl,by simp [g0,g1,g8,g9,g10,g11,g12,ex27,ex28,ex29,ey31a,ey31b,ey31c,tv,ey32a,ey32b,ey32c,e34,ex35]⟩
  · rintro k n v3 σ ⟨ts,w,hw,rfl,g0,g1,g6,-⟩ h ih ex
    clear hL0
    rw [f45_L0] at h
    obtain ⟨x4,ex4,h⟩ := bindT h
    obtain ⟨x5,ex5,h⟩ := bindT h
    cases x5
    case false =>
     simp [g0,g1,g6,ex4,ex5]
     refine ex () _ ?_ h
     exact ⟨_,_,by simp [hw],rfl,by simp [g0,g1,g6,ex4,ex5]⟩
    obtain ⟨y6,ey6,h⟩ := bind_ok h
    obtain ⟨ey6a,ey6e,ey6b,ey6c,ey6g⟩ := gI_ok rfl ey6
    obtain ⟨x7,e8,h⟩ := bind_ok h
    have e8 : ∀ hp,E Try.prog Y0 26 [.v (.string (bs y6))] hp = some (iv x7,hp,none) := fun hp => f26_is  e8
    obtain ⟨x9,ex9,h⟩ := bindT h
    cases x9
    case false =>
     obtain rfl := inj_ok h
     simp [g0,g1,g6,ex4,ex5,ey6a,ey6b,ey6c,tv,e8,ex9,hw]
    obtain ⟨x10,ex10,h⟩ := bindT h
    simp [g0,g1,g6,ex4,ex5,ey6a,ey6b,ey6c,tv,e8,ex9,ex10]
    refine ih x10 _ ?_ h
    exact ⟨_,_,by simp [hw],rfl,by simp [g0,g1,g6,ex4,ex5,ey6a,ey6b,ey6c,tv,e8,ex9,ex10]⟩
end Go.Proofs.Ytmnmfmghmenkkaa
set_option linter.unusedSimpArgs false
set_option linter.unusedVariables false
namespace Go.Proofs.Ytmnmfmghmenkkaa
theorem nodup_le {α : Type} [DecidableEq α] : ∀ {l m : List α},l.Nodup → (∀ x ∈ l,x ∈ m) → l.length ≤ m.length
 | [],m,_,_ => Nat.zero_le _
 | x :: l,m,hn,hs => by
  have h1 := List.nodup_cons.1 hn
  have hx := hs x List.mem_cons_self
  have h2 : ∀ y ∈ l,y ∈ m.erase x := fun y hy => (List.mem_erase_of_ne (fun e => h1.1 (by rw [← e]; exact hy))).2 (hs y (List.mem_cons_of_mem _ hy))
  have h3 := nodup_le h1.2 h2
  rw [List.length_erase_of_mem hx] at h3
  have h4 : 0 < m.length := List.length_pos_of_mem hx
  simp only [List.length_cons]
  omega
theorem lets_len {k : Nat} : (lets k).length = k := by simp [lets]
theorem lets_mem {k : Nat} (hk : k ≤ 6) {c : UInt8} : c ∈ lets k ↔ 97 ≤ c.toNat ∧ c.toNat < 97 + k := by
 unfold lets
 rw [List.mem_map]
 constructor
 ·rintro ⟨j,hj,rfl⟩
  have := List.mem_range.1 hj
  have e : (UInt8.ofNat (97 + j)).toNat = 97 + j := by
   rw [UInt8.toNat_ofNat']; omega
  omega
 ·rintro ⟨h1,h2⟩
  refine ⟨c.toNat - 97,List.mem_range.2 (by omega), ?_⟩
  apply UInt8.toNat_inj.1
  rw [UInt8.toNat_ofNat']
  omega
theorem bhd_left {c : UInt8} {p : List UInt8} : ∀ {w : List UInt8},leftW w (c :: p) = match bhd w c with
  | some w' => leftW w' p
  | none => false
 | [] => by rw [leftW,bhd]
 | x :: w => by
  rw [leftW,bhd]
  by_cases h : x = c
  ·rw [if_pos h,if_pos h]
  ·rw [if_neg h,if_neg h]; exact bhd_left
theorem bhd_len {c : UInt8} : ∀ {w w' : List UInt8},bhd w c = some w' → w'.length < w.length
 | [],_,h => by cases h
 | x :: w,w',h => by
  unfold bhd at h
  split at h
  ·cases h; simp
  ·have := bhd_len h; simp only [List.length_cons]; omega
theorem bhd_all {c : UInt8} {p : UInt8 → Prop} : ∀ {w w' : List UInt8},bhd w c = some w' → (∀ x ∈ w,p x) → ∀ x ∈ w',p x
 | [],_,h,_ => by cases h
 | x :: w,w',h,ha => by
  unfold bhd at h
  split at h
  ·cases h; exact fun y hy => ha y (List.mem_cons_of_mem _ hy)
  ·exact bhd_all h (fun y hy => ha y (List.mem_cons_of_mem _ hy))
end Go.Proofs.Ytmnmfmghmenkkaa
set_option linter.unusedSimpArgs false
set_option linter.unusedVariables false
namespace Go.Proofs.Ytmnmfmghmenkkaa
open Go.Abs Go.Pur
set_option maxRecDepth 100000
theorem leftW_sub : ∀ {w p : List UInt8},leftW w p = true ↔ p.Sublist w
 | w,[] => by simp [left_nil]
 | [],d :: p => by rw [leftW]; simp
 | c :: w,d :: p => by
  rw [leftW]
  by_cases h : c = d
  ·subst h
   rw [if_pos rfl,leftW_sub,List.cons_sublist_cons]
  ·rw [if_neg h,leftW_sub]
   constructor
   ·exact fun e => e.cons _
   ·intro e
    cases e with
    | cons _ e => exact e
    | cons_cons => exact absurd rfl h
def prt : List UInt8 → List (List UInt8)
 | [] => [[]]
 | c :: w => prt w ++ ((prt w).filter fun p => !leftW w (c :: p)).map (c :: ·)
theorem prt_mem : ∀ {w p : List UInt8},p ∈ prt w ↔ leftW w p = true
 | [],p => by
  cases p with
  | nil => simp [prt,leftW]
  | cons d p => simp [prt,leftW]
 | c :: w,p => by
  rw [prt,List.mem_append,List.mem_map,prt_mem]
  cases p with
  | nil => simp [left_nil]
  | cons d p =>
   rw [leftW]
   by_cases h : c = d
   ·subst h
    rw [if_pos rfl]
    constructor
    ·rintro (h | ⟨q,hq,e⟩)
     ·exact leftW_sub.2 ((List.sublist_cons_self _ _).trans (leftW_sub.1 h))
     ·cases e
      exact prt_mem.1 (List.mem_filter.1 hq).1
    ·intro h
     by_cases h2 : leftW w (c :: p) = true
     ·exact .inl h2
     ·exact .inr ⟨p,List.mem_filter.2 ⟨prt_mem.2 h,by simp [h2]⟩,rfl⟩
   ·rw [if_neg h]
    constructor
    ·rintro (h | ⟨q,hq,e⟩)
     ·exact h
     ·cases e; exact absurd rfl h
    ·exact .inl
theorem prt_nodup : ∀ {w : List UInt8},(prt w).Nodup
 | [] => by simp [prt]
 | c :: w => by
  rw [prt,List.nodup_append]
  refine ⟨prt_nodup, ?_, ?_⟩
  ·unfold List.Nodup
   rw [List.pairwise_map]
   exact (prt_nodup.filter _).imp fun h e => h (List.cons.inj e).2
  ·intro a ha b hb e
   subst e
   obtain ⟨q,hq,rfl⟩ := List.mem_map.1 hb
   have h1 := (List.mem_filter.1 hq).2
   rw [prt_mem.1 ha] at h1
   cases h1
theorem same_len {α : Type} [DecidableEq α] {l m : List α} (hl : l.Nodup) (hm : m.Nodup) (h : ∀ x,x ∈ l ↔ x ∈ m) : l.length = m.length :=
 Nat.le_antisymm (nodup_le hl fun x hx => (h x).1 hx) (nodup_le hm fun x hx => (h x).2 hx)
theorem len_parts {α : Type} (f : α → Bool) : ∀ l : List α,l.length = (l.filter f).length + (l.filter fun x => !f x).length
 | [] => rfl
 | a :: l => by
  have h := len_parts f l
  cases hf : f a <;> simp [hf] <;> omega
def dl (w : List UInt8) : Nat := (prt w).length
def dlb (w : List UInt8) (c : UInt8) : Nat := match bhd w c with
 | some w' => dl w'
 | none => 0
theorem bhd_sub {c : UInt8} : ∀ {w w' : List UInt8},bhd w c = some w' → w'.Sublist w
 | [],_,h => by cases h
 | x :: w,w',h => by
  unfold bhd at h
  split at h
  ·cases h; exact List.sublist_cons_self _ _
  ·exact (bhd_sub h).trans (List.sublist_cons_self _ _)
theorem dl_cons {c : UInt8} {w : List UInt8} : dl (c :: w) + dlb w c = 2 * dl w := by
 have h1 : dl (c :: w) = dl w + ((prt w).filter fun p => !leftW w (c :: p)).length := by
  unfold dl
  rw [prt,List.length_append,List.length_map]
 have h2 : dlb w c = ((prt w).filter fun p => leftW w (c :: p)).length := by
  unfold dlb
  cases hb : bhd w c with
  | none =>
   have : ((prt w).filter fun p => leftW w (c :: p)) = [] := by
    rw [List.filter_eq_nil_iff]
    intro p _
    rw [bhd_left,hb]
    simp
   rw [this]; rfl
  | some w' =>
   refine same_len prt_nodup (prt_nodup.filter _) fun p => ?_
   rw [List.mem_filter,prt_mem,prt_mem,bhd_left,hb]
   exact ⟨fun h => ⟨leftW_sub.2 ((leftW_sub.1 h).trans (bhd_sub hb)),h⟩,fun h => h.2⟩
 have h3 : dl w = ((prt w).filter fun p => leftW w (c :: p)).length + ((prt w).filter fun p => !leftW w (c :: p)).length := by
  unfold dl
  exact len_parts _ _
 omega
theorem dl_pow : ∀ {w : List UInt8},dl w ≤ 2 ^ w.length
 | [] => Nat.le_refl _
 | c :: w => by
  have h1 := dl_cons (c := c) (w := w)
  have h2 := dl_pow (w := w)
  rw [List.length_cons,Nat.pow_succ]
  omega
theorem tk_sub {f : Nat → Bool} {l : List UInt8} : ∀ k,(tk f l k).Sublist (l.take k)
 | 0 => by simp [tk]
 | k + 1 => by
  rw [tk,List.take_add_one]
  refine List.Sublist.append (tk_sub k) ?_
  split
  ·exact List.Sublist.refl _
  ·exact List.nil_sublist _
end Go.Proofs.Ytmnmfmghmenkkaa
set_option linter.unusedSimpArgs false
set_option linter.unusedVariables false
namespace Go.Proofs.Ytmnmfmghmenkkaa
open Go.Abs Go.Pur
set_option maxRecDepth 100000
def gD : List UInt8 → List UInt8 → Nat
 | _,[] => 0
 | m,c :: w => if c ∈ m then gD m w else dl w + gD (c :: m) w
def hdNot (m : List UInt8) : List UInt8 → Bool
 | [] => false
 | c :: _ => decide (c ∉ m)
def hdIs (c : UInt8) : List UInt8 → Bool
 | [] => false
 | d :: _ => decide (d = c)
theorem filt_or {α : Type} {f g h : α → Bool} : ∀ {l : List α},(∀ x ∈ l,f x = (g x || h x) ∧ (g x && h x) = false) → (l.filter f).length = (l.filter g).length + (l.filter h).length
 | [],_ => rfl
 | a :: l,H => by
  have ih := filt_or (l := l) fun x hx => H x (List.mem_cons_of_mem _ hx)
  obtain ⟨h1,h2⟩ := H a List.mem_cons_self
  cases hg : g a <;> cases hh : h a <;> simp_all <;> omega
theorem heads (c : UInt8) {w : List UInt8} : ((prt w).filter (hdIs c)).length = ((prt w).filter fun p => leftW w (c :: p)).length := by
 suffices h : ((prt w).filter (hdIs c)).length = (((prt w).filter fun p => leftW w (c :: p)).map (c :: ·)).length by rwa [List.length_map] at h
 refine same_len (prt_nodup.filter _) ?_ fun p => ?_
 ·unfold List.Nodup
  rw [List.pairwise_map]
  exact (prt_nodup.filter _).imp fun h e => h (List.cons.inj e).2
 ·rw [List.mem_filter,prt_mem,List.mem_map]
  constructor
  ·rintro ⟨h1,h2⟩
   cases p with
   | nil => cases h2
   | cons d p =>
    have : d = c := of_decide_eq_true h2
    subst this
    refine ⟨p,List.mem_filter.2 ⟨prt_mem.2 ?_,h1⟩,rfl⟩
    exact leftW_sub.2 ((List.sublist_cons_self _ _).trans (leftW_sub.1 h1))
  ·rintro ⟨q,hq,rfl⟩
   exact ⟨(List.mem_filter.1 hq).2,by simp [hdIs]⟩
theorem gD_is : ∀ {w m : List UInt8},gD m w = ((prt w).filter (hdNot m)).length
 | [],m => rfl
 | c :: w,m => by
  rw [gD,prt,List.filter_append,List.length_append,List.filter_map,List.length_map]
  by_cases h : c ∈ m
  ·rw [if_pos h,gD_is]
   have : (((prt w).filter fun p => !leftW w (c :: p)).filter (hdNot m ∘ (c :: ·))) = [] := by
    rw [List.filter_eq_nil_iff]
    intro p _
    simp [hdNot,h]
   rw [this]; rfl
  ·rw [if_neg h,gD_is]
   have h1 : (((prt w).filter fun p => !leftW w (c :: p)).filter (hdNot m ∘ (c :: ·))) = ((prt w).filter fun p => !leftW w (c :: p)) := by
    rw [List.filter_eq_self]
    intro p _
    simp [hdNot,h]
   have h2 : ((prt w).filter (hdNot m)).length = ((prt w).filter (hdNot (c :: m))).length + ((prt w).filter (hdIs c)).length := by
    refine filt_or fun p _ => ?_
    cases p with
    | nil => exact ⟨rfl,rfl⟩
    | cons d p =>
     simp only [hdNot,hdIs,List.mem_cons]
     by_cases h3 : d = c
     ·subst h3
      simp [h]
     ·simp [h3]
   have h3 := len_parts (fun p => leftW w (c :: p)) (prt w)
   have h4 := heads c (w := w)
   rw [h1]
   unfold dl
   omega
theorem dl_gD {w : List UInt8} : dl w = 1 + gD [] w := by
 rw [gD_is]
 have h1 := len_parts (hdNot []) (prt w)
 have h2 : ((prt w).filter fun p => !hdNot [] p).length = 1 := by
  have : ((prt w).filter fun p => !hdNot [] p).length = [([] : List UInt8)].length := by
   refine same_len (prt_nodup.filter _) (by simp) fun p => ?_
   rw [List.mem_filter,prt_mem]
   cases p with
   | nil => simp [left_nil,hdNot]
   | cons d p => simp [hdNot]
  rw [this]; rfl
 unfold dl
 omega
def hH (k : Nat) : Nat → List Nat
 | 0 => [1]
 | n + 1 => (1 + ((hH k n).take k).sum) :: hH k n
def sS (k j : Nat) : Nat → Nat
 | 0 => 0
 | n + 1 => ((hH k n).take j).sum
theorem sS_zero {k : Nat} : ∀ {n},sS k 0 n = 0
 | 0 => rfl
 | n + 1 => by simp [sS]
theorem sS_succ {k j : Nat} : ∀ {n},sS k (j + 1) (n + 1) = 1 + sS k k n + sS k j n
 | 0 => by simp [sS,hH]
 | n + 1 => by
  rw [sS,hH,List.take_succ_cons,List.sum_cons]
  simp only [sS]
theorem sS_mono {k : Nat} : ∀ {n j},sS k j n ≤ sS k j (n + 1)
 | 0,j => Nat.zero_le _
 | n + 1,0 => by rw [sS_zero]; exact Nat.zero_le _
 | n + 1,j + 1 => by
  rw [sS_succ,sS_succ]
  have h1 := sS_mono (k := k) (n := n) (j := k)
  have h2 := sS_mono (k := k) (n := n) (j := j)
  omega
theorem gD_le {k : Nat} : ∀ {w m : List UInt8},m.Nodup → (∀ c ∈ m,c ∈ lets k) → (∀ c ∈ w,c ∈ lets k) → gD m w ≤ sS k (k - m.length) w.length
 | [],m,_,_,_ => Nat.zero_le _
 | c :: w,m,h1,h2,h3 => by
  rw [gD,List.length_cons]
  have h3' : ∀ x ∈ w,x ∈ lets k := fun x hx => h3 x (List.mem_cons_of_mem _ hx)
  by_cases h : c ∈ m
  ·rw [if_pos h]
   exact Nat.le_trans (gD_le h1 h2 h3') sS_mono
  ·rw [if_neg h]
   have hn : (c :: m).Nodup := List.nodup_cons.2 ⟨h,h1⟩
   have hs : ∀ x ∈ c :: m,x ∈ lets k := fun x hx => by
    rcases List.mem_cons.1 hx with rfl | hx
    ·exact h3 _ List.mem_cons_self
    ·exact h2 x hx
   have hk := nodup_le hn hs
   rw [lets_len,List.length_cons] at hk
   have g1 := gD_le (w := w) (m := []) (by simp) (by simp) h3'
   have g2 := gD_le hn hs h3'
   rw [List.length_cons] at g2
   rw [show k - m.length = (k - (m.length + 1)) + 1 by omega,sS_succ,dl_gD]
   simp only [List.length_nil,Nat.sub_zero] at g1
   omega
def cyL (k i : Nat) : UInt8 := UInt8.ofNat (97 + i % k)
def cyc (k : Nat) : Nat → Nat → List UInt8
 | _,0 => []
 | i,n + 1 => cyL k i :: cyc k (i + 1) n
theorem cyL_mem {k i : Nat} (hk : 0 < k) : cyL k i ∈ lets k := List.mem_map.2 ⟨i % k,List.mem_range.2 (Nat.mod_lt _ hk),rfl⟩
theorem cyL_ne {k i t : Nat} (hk : k ≤ 6) (h0 : 0 < t) (ht : t < k) : cyL k (i + t) ≠ cyL k i := by
 intro e
 have h1 := Nat.mod_lt (i + t) (show 0 < k by omega)
 have h2 := Nat.mod_lt i (show 0 < k by omega)
 have := congrArg UInt8.toNat e
 unfold cyL at this
 rw [UInt8.toNat_ofNat',UInt8.toNat_ofNat'] at this
 have h3 : (i + t) % k = i % k := by omega
 have h4 := Nat.div_add_mod (i + t) k
 have h5 := Nat.div_add_mod i k
 rw [h3] at h4
 have h6 : k * ((i + t) / k) = k * (i / k) + t := by omega
 have h7 : k * ((i + t) / k - i / k) = t := by rw [Nat.mul_sub]; omega
 rcases Nat.eq_zero_or_pos ((i + t) / k - i / k) with hz | hz
 ·rw [hz] at h7; omega
 ·have := Nat.le_mul_of_pos_right k hz
  omega
theorem gD_cyc {k : Nat} (hk0 : 0 < k) (hk : k ≤ 6) : ∀ {n i : Nat} {m : List UInt8},m.Nodup → (∀ c ∈ m,c ∈ lets k) → (∀ t,t < k - m.length → cyL k (i + t) ∉ m) → gD m (cyc k i n) = sS k (k - m.length) n
 | 0,i,m,_,_,_ => rfl
 | n + 1,i,m,h1,h2,h3 => by
  rw [cyc,gD]
  by_cases h : cyL k i ∈ m
  ·rw [if_pos h]
   have hz : k - m.length = 0 := by
    rcases Nat.eq_zero_or_pos (k - m.length) with hz | hz
    ·exact hz
    ·exact absurd h (h3 0 hz)
   rw [gD_cyc hk0 hk h1 h2 (fun t ht => by omega),hz,sS_zero,sS_zero]
  ·rw [if_neg h]
   have hn : (cyL k i :: m).Nodup := List.nodup_cons.2 ⟨h,h1⟩
   have hs : ∀ x ∈ cyL k i :: m,x ∈ lets k := fun x hx => by
    rcases List.mem_cons.1 hx with rfl | hx
    ·exact cyL_mem hk0
    ·exact h2 x hx
   have hl := nodup_le hn hs
   rw [lets_len,List.length_cons] at hl
   rw [gD_cyc hk0 hk hn hs (fun t ht => ?_),dl_gD,gD_cyc hk0 hk (m := []) (by simp) (by simp) (by simp),List.length_cons,show k - m.length = (k - (m.length + 1)) + 1 by omega,sS_succ]
   ·rfl
   ·rw [List.length_cons] at ht
    rw [List.mem_cons]
    rintro (e | e)
    ·rw [show i + 1 + t = i + (t + 1) by omega] at e
     exact cyL_ne hk (by omega) (by omega) e
    ·rw [show i + 1 + t = i + (t + 1) by omega] at e
     exact h3 (t + 1) (by omega) e
theorem most {k : Nat} (hk0 : 0 < k) (hk : k ≤ 6) {w : List UInt8} (hw : ∀ c ∈ w,c ∈ lets k) : dl w ≤ dl (cyc k 0 w.length) := by
 rw [dl_gD,dl_gD,gD_cyc hk0 hk (m := []) (by simp) (by simp) (by simp)]
 exact Nat.add_le_add_left (gD_le (by simp) (by simp) hw) 1
end Go.Proofs.Ytmnmfmghmenkkaa
set_option linter.unusedSimpArgs false
set_option linter.unusedVariables false
namespace Go.Proofs.Ytmnmfmghmenkkaa
open Go.Abs Go.Pur
set_option maxRecDepth 100000
theorem gS_at {l : List UInt8} {k : Nat} (h : k < l.length) : gS l (k : Int) = some (l[k].toNat : Int) := by
 show gS l (Int.ofNat k) = _
 simp only [gS]
 rw [List.getElem?_eq_getElem h]
theorem gI_at {l : List Int} {k : Nat} (h : k < l.length) : gI l (k : Int) = some l[k] := by
 show gI l (Int.ofNat k) = _
 simp only [gI]
 rw [List.getElem?_eq_getElem h]
theorem f16_law {l : List UInt8} : f16S 0 l = some (decide (60 < l.length)) := by
 unfold f16S
 simp only [Option.bind_some]
 congr 1
 by_cases h : 60 < l.length
 ·rw [decide_eq_true h,decide_eq_true (by omega)]
 ·rw [decide_eq_false h,decide_eq_false (by omega)]
theorem f26_run {p : List UInt8} {F : Nat} (hp : p.length ≤ 10) : ∀ (n k : Nat),p.length + 1 ≤ n + k → k ≤ p.length → f26_L0 F p (fun _ => some 0) n k = some (if (p.drop k).all letW then 0 else 10)
 | 0,k,h,hk => absurd h (by omega)
 | n + 1,k,h,hk => by
  unfold f26_L0
  simp only [Option.bind_some]
  by_cases hk' : k < p.length
  ·rw [decide_eq_true (show (k : Int) < (p.length : Int) by omega)]
   simp only [gS_at hk',Option.bind_some]
   rw [List.drop_eq_getElem_cons hk',List.all_cons]
   have hl : letW p[k] = (decide (97 ≤ p[k].toNat) && decide (p[k].toNat < 103)) := rfl
   by_cases h1 : p[k].toNat < 97
   ·rw [decide_eq_true (show (p[k].toNat : Int) < 97 by omega)]
    rw [hl,decide_eq_false (show ¬ 97 ≤ p[k].toNat by omega)]
    simp
   ·rw [decide_eq_false (show ¬ (p[k].toNat : Int) < 97 by omega)]
    by_cases h2 : 103 ≤ p[k].toNat
    ·rw [decide_eq_true (show (103 : Int) ≤ (p[k].toNat : Int) by omega)]
     rw [hl,decide_eq_false (show ¬ p[k].toNat < 103 by omega)]
     simp
    ·rw [decide_eq_false (show ¬ (103 : Int) ≤ (p[k].toNat : Int) by omega)]
     rw [hl,decide_eq_true (show p[k].toNat < 103 by omega),decide_eq_true (show 97 ≤ p[k].toNat by omega)]
     have w1 : IntKind.i64.wrap ((k : Int) + 1) = ((k + 1 : Nat) : Int) := wrap_nat (by omega)
     simp only [w1]
     rw [f26_run hp n (k + 1) (by omega) (by omega)]
     simp
  ·rw [decide_eq_false (show ¬ (k : Int) < (p.length : Int) by omega)]
   rw [List.drop_eq_nil_of_le (by omega)]
   simp
def bothW (w p : List UInt8) : Int := if checkW w = 0 then checkW p else checkW w
theorem f57_run {w p : List UInt8} {F n : Nat} : f57_L0 F [w,p] 2 (fun _ => some 0) (n + 1 + 1 + 1) 0 = some (bothW w p) := by
 have w0 : IntKind.i64.wrap ((0 : Int) + 1) = 1 := by decide
 have w1 : IntKind.i64.wrap ((1 : Int) + 1) = 2 := by decide
 have g0 : gI [w,p] 0 = some w := rfl
 have g1 : gI [w,p] 1 = some p := rfl
 unfold f57_L0
 simp only [Option.bind_some,g0]
 rw [show decide ((0 : Int) < 2) = true from rfl]
 simp only []
 unfold bothW
 by_cases h : checkW w = 0
 ·rw [decide_eq_true h,if_pos h]
  simp only [w0]
  unfold f57_L0
  simp only [Option.bind_some,g1]
  rw [show decide ((1 : Int) < 2) = true from rfl]
  simp only []
  by_cases h2 : checkW p = 0
  ·rw [decide_eq_true h2,h2]
   simp only [w1]
   unfold f57_L0
   simp only [Option.bind_some]
   rw [show decide ((2 : Int) < 2) = false from rfl]
  ·rw [decide_eq_false h2]
 ·rw [decide_eq_false h,if_neg h]
theorem f28_one {w p : List UInt8} {j : Nat} (hj : j < p.length) (hw : w.length ≤ 60) {F : Nat} {K : Int → Option Bool}
  (hK : ∀ i (h : i < w.length),w[i] = p[j] → K (i : Int) = some (leftW (w.drop (i + 1)) (p.drop (j + 1)))) (hE : K (w.length : Int) = some false) :
  ∀ (n i : Nat),w.length + 1 ≤ n + i → i ≤ w.length → f28_L1 F w p j K n i = some (leftW (w.drop i) (p.drop j))
 | 0,i,h,hi => absurd h (by omega)
 | n + 1,i,h,hi => by
  unfold f28_L1
  simp only [Option.bind_some]
  rw [List.drop_eq_getElem_cons hj]
  by_cases hi' : i < w.length
  ·rw [decide_eq_true (show (i : Int) < (w.length : Int) by omega)]
   simp only [gS_at hi',gS_at hj,Option.bind_some]
   rw [left_drop hi']
   by_cases hc : w[i] = p[j]
   ·rw [decide_eq_true (show ((w[i].toNat : Nat) : Int) = (p[j].toNat : Int) by rw [hc]),if_pos hc]
    exact hK i hi' hc
   ·have hn : ¬ ((w[i].toNat : Nat) : Int) = (p[j].toNat : Int) := fun h => hc (UInt8.toNat_inj.1 (by omega))
    rw [decide_eq_false hn,if_neg hc]
    have w1 : IntKind.i64.wrap ((i : Int) + 1) = ((i + 1 : Nat) : Int) := wrap_nat (by omega)
    simp only [w1]
    rw [f28_one hj hw hK hE n (i + 1) (by omega) (by omega),List.drop_eq_getElem_cons hj]
  ·obtain rfl : i = w.length := by omega
   rw [decide_eq_false (show ¬ (w.length : Int) < (w.length : Int) by omega)]
   simp only []
   rw [hE,List.drop_eq_nil_of_le (Nat.le_refl _)]
   rfl
theorem f28_run {w p : List UInt8} {F : Nat} (hF : 61 ≤ F) (hw : w.length ≤ 60) (hp : p.length ≤ 60) : ∀ (n i j : Nat),p.length + 1 ≤ n + j → i ≤ w.length → j ≤ p.length → f28_L0 F w p (fun _ => some true) n ((i : Int),(j : Int)) = some (leftW (w.drop i) (p.drop j))
 | 0,i,j,h,hi,hj => absurd h (by omega)
 | n + 1,i,j,h,hi,hj => by
  unfold f28_L0
  simp only [Option.bind_some]
  by_cases hj' : j < p.length
  ·rw [decide_eq_true (show (j : Int) < (p.length : Int) by omega)]
   refine f28_one hj' hw ?_ ?_ F i (by omega) hi
   ·intro i' h' hc
    rw [decide_eq_false (show ¬ (i' : Int) = (w.length : Int) by omega)]
    have w1 : IntKind.i64.wrap ((i' : Int) + 1) = ((i' + 1 : Nat) : Int) := wrap_nat (by omega)
    have w2 : IntKind.i64.wrap ((j : Int) + 1) = ((j + 1 : Nat) : Int) := wrap_nat (by omega)
    simp only [w1,w2]
    exact f28_run hF hw hp n (i' + 1) (j + 1) (by omega) (by omega) (by omega)
   ·simp
  ·rw [decide_eq_false (show ¬ (j : Int) < (p.length : Int) by omega)]
   rw [show p.drop j = [] from List.drop_eq_nil_of_le (by omega),left_nil]
theorem f28_any {w p : List UInt8} {F : Nat} (hF : 61 ≤ F) (hw : w.length ≤ 60) (hp : p.length ≤ 60) : f28S F w p = some (leftW w p) := by
 have := f28_run hF hw hp F 0 0 (by omega) (by omega) (by omega)
 simpa [f28S] using this
end Go.Proofs.Ytmnmfmghmenkkaa
set_option linter.unusedSimpArgs false
set_option linter.unusedVariables false
namespace Go.Proofs.Ytmnmfmghmenkkaa
open Go.Abs Go.Pur
set_option maxRecDepth 100000
end Go.Proofs.Ytmnmfmghmenkkaa
set_option linter.unusedSimpArgs false
set_option linter.unusedVariables false
namespace Go.Proofs.Ytmnmfmghmenkkaa
open Go.Abs Go.Pur
set_option maxRecDepth 100000
end Go.Proofs.Ytmnmfmghmenkkaa
set_option linter.unusedSimpArgs false
set_option linter.unusedVariables false
namespace Go.Proofs.Ytmnmfmghmenkkaa
open Go.Abs Go.Pur
set_option maxRecDepth 100000
end Go.Proofs.Ytmnmfmghmenkkaa
set_option linter.unusedSimpArgs false
set_option linter.unusedVariables false
namespace Go.Proofs.Ytmnmfmghmenkkaa
open Go.Abs Go.Pur
set_option maxRecDepth 100000
theorem f57_any {w p : List UInt8} {F : Nat} (hF : 3 ≤ F) : f57S F [w,p] = some (bothW w p) := by
 obtain ⟨n,rfl⟩ : ∃ n,F = n + 1 + 1 + 1 := ⟨F - 3,by omega⟩
 exact f57_run
theorem f57_ok {w p : List UInt8} {F : Nat} (hF : 3 ≤ F) (hw : checkW w = 0) (hp : checkW p = 0) : f57S F [w,p] = some 0 := by
 rw [f57_any hF]
 unfold bothW
 rw [if_pos hw,hp]
end Go.Proofs.Ytmnmfmghmenkkaa
set_option linter.unusedSimpArgs false
set_option linter.unusedVariables false
namespace Go.Proofs.Ytmnmfmghmenkkaa
open Go.Abs Go.Pur
set_option maxRecDepth 100000
theorem f62_law {a b c : Int} {F : Nat} : f62S F a b c = some (decide (b ≤ a) && decide (a ≤ c)) := by
 unfold f62S
 simp only [Option.bind_some]
 cases decide (b ≤ a) <;> rfl
theorem f26_any {l : List UInt8} {F : Nat} (hF : 12 ≤ F) : f26S F l = some (checkW l) := by
 unfold f26S checkW
 simp only [Option.bind_some]
 by_cases h : 10 < l.length
 ·rw [decide_eq_true (show (10 : Int) < (l.length : Int) by omega),if_pos h]
 ·rw [decide_eq_false (show ¬ (10 : Int) < (l.length : Int) by omega),if_neg h]
  have := f26_run (F := F) (p := l) (by omega) F 0 (by omega) (by omega)
  simpa using this
theorem mSet_keys {K V : Type} [DecidableEq K] {c : Nat} {k : K} {v : V} : ∀ {l : Mp K V},(mSet c k v l).map (·.1) = if k ∈ l.map (·.1) then l.map (·.1) else l.map (·.1) ++ [k]
 | [] => rfl
 | e :: l => by
  unfold mSet
  by_cases h : e.1 = k
  ·rw [decide_eq_true h]
   simp [h]
  ·rw [decide_eq_false h]
   simp only [List.map_cons,mSet_keys (l := l),List.mem_cons]
   by_cases h2 : k ∈ l.map (·.1)
   ·rw [if_pos h2,if_pos (.inr h2)]
   ·rw [if_neg h2,if_neg (fun e' => e'.elim (fun e' => h e'.symm) h2)]; rfl
theorem sub_one {w : List UInt8} {i : Nat} (h : i < w.length) : sub2 w (i : Int) ((i + 1 : Nat) : Int) = some [w[i]] := by
 show sub2 w (Int.ofNat i) (Int.ofNat (i + 1)) = _
 simp only [sub2]
 rw [Nat.ble_eq_true_of_le (show i ≤ i + 1 by omega),Nat.ble_eq_true_of_le (show i + 1 ≤ w.length by omega)]
 simp only [Bool.and_self]
 congr 1
 rw [List.take_succ_eq_append_getElem h,List.drop_append_of_le_length (by simp; omega)]
 simp [List.drop_eq_nil_of_le]
end Go.Proofs.Ytmnmfmghmenkkaa
set_option linter.unusedSimpArgs false
set_option linter.unusedVariables false
namespace Go.Proofs.Ytmnmfmghmenkkaa
open Go.Abs Go.Pur
set_option maxRecDepth 100000
def ints (w : List UInt8) : List Int := w.map fun b => (b.toNat : Int)
theorem ints_at {w : List UInt8} {i : Nat} (h : i < w.length) : gI (ints w) (i : Int) = some (w[i].toNat : Int) := by
 rw [gI_at (by simpa [ints] using h)]
 simp [ints]
theorem bytesN_ints {w : List UInt8} : bytesN (ints w) = w := by
 unfold bytesN ints
 rw [List.map_map]
 conv => rhs; rw [← List.map_id w]
 refine List.map_congr_left fun c _ => ?_
 simp
theorem f68_run {w : List UInt8} {c : UInt8} {F : Nat} (hw : w.length ≤ 1000) : ∀ (n i : Nat),w.length + 1 ≤ n + i → i ≤ w.length →
  (bhd (w.drop i) c = none → f68_L0 F (ints w) (c.toNat : Int) (w.length : Int) (fun _ => some (-1)) n i = some (-1)) ∧
  ∀ w',bhd (w.drop i) c = some w' → ∃ j,j < w.length ∧ w' = w.drop (j + 1) ∧ f68_L0 F (ints w) (c.toNat : Int) (w.length : Int) (fun _ => some (-1)) n i = some (j : Int)
 | 0,i,h,hi => absurd h (by omega)
 | n + 1,i,h,hi => by
  unfold f68_L0
  simp only [Option.bind_some]
  by_cases hi' : i < w.length
  ·rw [decide_eq_true (show (i : Int) < (w.length : Int) by omega)]
   simp only [ints_at hi',Option.bind_some]
   rw [List.drop_eq_getElem_cons hi',bhd]
   by_cases hc : w[i] = c
   ·rw [if_pos hc,decide_eq_true (show (c.toNat : Int) = (w[i].toNat : Int) by rw [hc])]
    exact ⟨fun e => (by cases e),fun w' e => ⟨i,hi',(Option.some.inj e).symm,rfl⟩⟩
   ·have hn : ¬ (c.toNat : Int) = (w[i].toNat : Int) := fun e => hc (UInt8.toNat_inj.1 (by omega))
    rw [if_neg hc,decide_eq_false hn]
    simp only []
    rw [wrap_nat (by omega)]
    exact f68_run hw n (i + 1) (by omega) (by omega)
  ·rw [decide_eq_false (show ¬ (i : Int) < (w.length : Int) by omega),List.drop_eq_nil_of_le (by omega)]
   exact ⟨fun _ => rfl,fun w' e => by cases e⟩
theorem f68_law {w : List UInt8} {c : UInt8} {F : Nat} (hw : w.length ≤ 1000) (hF : w.length + 1 ≤ F) :
  (bhd w c = none → f68S F (ints w) (c.toNat : Int) = some (-1)) ∧ ∀ w',bhd w c = some w' → ∃ j,j < w.length ∧ w' = w.drop (j + 1) ∧ f68S F (ints w) (c.toNat : Int) = some (j : Int) := by
 have hl : (ints w).length = w.length := by simp [ints]
 have := f68_run (w := w) (c := c) (F := F) hw F 0 (by omega) (by omega)
 unfold f68S
 rw [hl]
 simpa using this
theorem wrap8 {z : Int} (h1 : 0 ≤ z) (h2 : z < 256) : IntKind.u8.wrap z = z := by
 unfold IntKind.wrap
 simp [IntKind.bits,IntKind.signed]
 omega
theorem lets_at {k j : Nat} (h : j < k) : (lets k)[j]'(by rw [lets_len]; exact h) = UInt8.ofNat (97 + j) := by simp [lets]
theorem let_nat {j : Nat} (h : j < 6) : ((UInt8.ofNat (97 + j)).toNat : Int) = 97 + (j : Int) := by
 rw [UInt8.toNat_ofNat']
 omega
theorem subF_at {w : List UInt8} {j : Nat} (h : j ≤ w.length) : subF w (j : Int) = some (w.drop j) := by
 show subF w (Int.ofNat j) = _
 simp only [subF]
 rw [Nat.ble_eq_true_of_le h]
end Go.Proofs.Ytmnmfmghmenkkaa
