/-
  short.all: the parts of a word by size.
  ofSize: the keys of a map of one length, in ascending order.
  Conditions: none; definitions and lemmas.
-/
import Derived.Test.YtmnmfmghmenkkaaRows61
import Derived.Test.YtmnmfmghmenkkaaPurM
import Derived.Test.YtmnmfmghmenkkaaPurBase
import Derived.WalkKit
import Derived.Handy
import Derived.Deep.OwnRows
import Derived.Deep.LoopGhost
import Derived.Deep.DeepMust
import Derived.Lib.OthersKept
import Derived.Maps.OwnSet
import Derived.Maps.AppendAt
import Derived.Test.YtmnmfmghmenkkaaRows0
import Derived.Test.YtmnmfmghmenkkaaShelf
import Derived.Lib.OwnBridge
import Derived.Sort.OwnSorted
import Derived.Maps.RangeRun
set_option linter.unusedSimpArgs false
set_option linter.unusedVariables false
namespace Go.Proofs.Ytmnmfmghmenkkaa
open Go.RowKit Go.Abs Go.Pur
set_option maxRecDepth 1000000
set_option maxHeartbeats 8000000
theorem alook_run {P : Program} {w : World} {t : TypeId} {k v : Value} {es : List MapEntry} {c r : Nat} {ok : Bool} (hr : w.heap[r]? = some (.map es.toArray c)) (ha : alook P t es k ok = some v) : (Instr.lookup t (.map (some r)) k ok).run P w = .ok v w := by
 unfold alook at ha
 split at ha
 ·rename_i kt et ht
  have hu := mapTy_some ht
  split at ha
  ·rename_i i u hf
   obtain ⟨c1, c2⟩ := run_afind hf w
   split at ha
   ·cases ha
    simp [Instr.lookup, run_underlying hu, getObj, hr, Sem.run, c1, c2, Result.andThen, lookRes]
    cases ok <;> rfl
   ·cases ha
  ·rename_i hf
   split at ha
   ·rename_i z hz
    split at ha
    ·cases ha
     obtain ⟨c1, c2⟩ := run_afind hf w
     have c3 := run_azero hz w
     simp [Instr.lookup, run_underlying hu, getObj, hr, Sem.run, c1, c2, c3, Result.andThen, lookRes]
     cases ok <;> rfl
    ·cases ha
   ·cases ha
  ·cases ha
 ·cases ha
def S61 (w0 : World) (n : Nat) (r : Rws) (w : World) : Prop := ∃ (V : Nat → Value) (m : Mp (List UInt8) Bool) (c : Nat), RowsAt w0.heap.size (w0.heap.size + 1) n V r w ∧ w.heap[w0.heap.size]? = some (.map (mE sV Value.bool m).toArray c) ∧
 (∀ p : List UInt8, p.length ≤ n → mGetD false p m = decide (p ∈ r p.length)) ∧ Below w0.heap.size w0 w
theorem enc_ascii {x : UInt8} (h : x.toNat < 128) : Utf8.encode (x.toNat : Int) = ⟨#[x]⟩ := by
 have hv : Utf8.valid (x.toNat : Int) = true := by
  unfold Utf8.valid
  simp
  omega
 unfold Utf8.encode
 simp only [hv, if_true, Int.toNat_natCast]
 rw [if_pos (by omega)]
 simp
theorem add_ascii {p : List UInt8} {x : UInt8} : (⟨p.toArray⟩ : ByteArray) ++ ⟨#[x]⟩ = ⟨(p ++ [x]).toArray⟩ := by
 apply ByteArray.ext
 simp
theorem RowsAt.ne_map {B bo n mb : Nat} {V : Nat → Value} {rows : Nat → List (List UInt8)} {w : World} {es : Array MapEntry} {c : Nat} (h : RowsAt B bo n V rows w) {i : Nat} (hi : i < n + 1) (hm : w.heap[mb]? = some (.map es c)) : (V i).ownBlock ≠ some mb := by
 intro e
 have hi0 : rows i ≠ [] := fun e' => by rw [h.emp i hi e'] at e; cases e
 obtain ⟨c1, f1, a1, b1⟩ := owned_first (h.row i hi) hi0 e
 rw [a1] at hm
 cases hm
theorem S61.iter {w0 : World} {n : Nat} {r : Rws} {w : World} {k pos : Nat} {s : ByteArray} (h : S61 w0 n r w) (hk : w.heap[k]? = some (.stringIter s pos)) (hB : w0.heap.size ≤ k) (pos' : Nat) : S61 w0 n r (w.iterAt k s pos') := by
 obtain ⟨V, m, c, h1, h2, h3, h4⟩ := h
 have hg : w.grownBy (w.iterAt k s pos') (some k) := ⟨rfl, rfl, rfl, by rw [Lib.iterAt_size]; exact Nat.le_refl _, fun j hj hne => Lib.iterAt_other w k j s pos' (fun e => hne (by rw [e]))⟩
 refine ⟨V, m, c, h1.kept hg (fun e => ?_) (fun i hi => ?_), ?_, h3, Lib.below_iterAt h4 hB s pos'⟩
 ·exact h1.out_obj hk (fun _ _ _ e => by cases e) (Option.some.inj e)
 ·cases e1 : (V i).ownBlock with
  | none => exact .inl rfl
  | some g => exact .inr (fun e2 => h1.ne_obj hi hk (fun _ _ _ e => by cases e) (e1.trans e2))
 ·rw [Lib.iterAt_other]
  ·exact h2
  ·rintro rfl
   rw [h2] at hk
   cases hk
theorem mGet_set61 {K V : Type} [DecidableEq K] {c : Nat} {k k' : K} {v : V} : ∀ {l : Mp K V}, mGet k (mSet c k' v l) = if k' = k then some v else mGet k l
 | [] => by
  simp only [mSet, mGet]
  by_cases h : k' = k
  ·rw [decide_eq_true h, if_pos h]
  ·rw [decide_eq_false h, if_neg h]
 | e :: l => by
  rw [mSet]
  by_cases h1 : e.1 = k'
  ·rw [decide_eq_true h1]
   simp only [mGet]
   by_cases h : k' = k
   ·rw [decide_eq_true h, if_pos h]
   ·rw [decide_eq_false h, if_neg h, decide_eq_false (show ¬ e.1 = k by rw [h1]; exact h)]
  ·rw [decide_eq_false h1]
   simp only [mGet, mGet_set61 (l := l)]
   by_cases h : k' = k
   ·subst h
    rw [decide_eq_false h1]
   ·rw [if_neg h, if_neg h]
theorem mGetD_set {c : Nat} {k k' : List UInt8} {l : Mp (List UInt8) Bool} : mGetD false k (mSet c k' true l) = if k' = k then true else mGetD false k l := by
 unfold mGetD
 rw [mGet_set61]
 split <;> rfl
def srtT (t : Nat) (r : Rws) : Rws := fun i => if i < t then srt (r i) else r i
theorem srt_len {l : List (List UInt8)} : (srt l).length = l.length := by simp [srt]
theorem srt_mem {l : List (List UInt8)} {p : List UInt8} : p ∈ srt l ↔ p ∈ l := List.mem_mergeSort
theorem srtT_succ {t : Nat} {r : Rws} : (fun i => if i = t then srt (srtT t r t) else srtT t r i) = srtT (t + 1) r := by
 funext i
 unfold srtT
 by_cases e : i = t
 ·subst e
  rw [if_pos rfl, if_neg (Nat.lt_irrefl _), if_pos (Nat.lt_succ_self _)]
 ·rw [if_neg e]
  by_cases e2 : i < t
  ·rw [if_pos e2, if_pos (by omega)]
  ·rw [if_neg e2, if_neg (by omega)]
theorem own_ge {w : World} {B e n : Nat} {v : Value} {xs : List Value} {g : Nat} (h : w.ownsRow B e 1 v n xs) (hg : v.ownBlock = some g) : B ≤ g := by
 rcases h.2 with ⟨e1, _⟩ | ⟨g', cap, cur, rfl, hb, _⟩
 ·rw [e1] at hg; cases hg
 ·cases hg; exact hb
theorem srtT_zero {r : Rws} : srtT 0 r = r := by
 funext i
 unfold srtT
 rw [if_neg (Nat.not_lt_zero _)]
theorem own_some {w : World} {B e n : Nat} {v : Value} {xs : List Value} (h : w.ownsRow B e 1 v n xs) (hn : n ≠ 0) : ∃ g cap cur, v = .slice (some ⟨g, 0, none⟩) n cap ∧ B ≤ g ∧ w.heap[g]? = some (.cells cur e (0, 0)) ∧ n ≤ cap ∧ cap ≤ maxLen ∧ cur.size = cap * 1 ∧ cur.toList.take (n * 1) = xs := by
 rcases h.2 with ⟨_, e0⟩ | ⟨g, cap, cur, h1⟩
 ·exact absurd e0 hn
 ·exact ⟨g, cap, cur, h1⟩
theorem S61.start {w w1 : World} {n : Nat} {s : ByteArray} (hz1 : w1.heap.size = w.heap.size + 1) (hm1 : w1.heap[w.heap.size]? = some (.map (mE sV Value.bool [([], true, 0)]).toArray 1)) (hb1 : Below w.heap.size w w1) :
  S61 w n rows0 (((w1.alloc (.cells ((madeCells #[.slice none 0 0] (n + 1)).setIfInBounds 0 (.slice (some ⟨w.heap.size + 1 + 1, 0, none⟩) 1 1)) 36)).alloc (.cells #[.string ⟨#[]⟩] 9)).iter s 0) := by
 obtain ⟨C, hC⟩ : ∃ C, (madeCells #[.slice none 0 0] (n + 1)).setIfInBounds 0 (.slice (some ⟨w.heap.size + 1 + 1, 0, none⟩) 1 1) = C := ⟨_, rfl⟩
 have hCs : C.size = n + 1 := by rw [← hC]; simp [size_madeCells]
 have hCi : ∀ i, i < n + 1 → C[i]? = some (if i = 0 then .slice (some ⟨w.heap.size + 2, 0, none⟩) 1 1 else .slice none 0 0) := fun i hi => by
  rw [← hC, Array.getElem?_setIfInBounds]
  by_cases e : i = 0
  ·subst e
   rw [if_pos rfl, if_pos (by simp [size_madeCells]), if_pos rfl]
  ·rw [if_neg (fun h => e h.symm), if_neg e]
   simp [madeCells, hi, Nat.mod_one]
 rw [hC]
 have z1 : (w1.alloc (.cells C 36)).heap.size = w.heap.size + 2 := by simp [hz1]
 have z2 : ((w1.alloc (.cells C 36)).alloc (.cells #[.string ⟨#[]⟩] 9)).heap.size = w.heap.size + 3 := by simp [hz1]
 have q0 : (((w1.alloc (.cells C 36)).alloc (.cells #[.string ⟨#[]⟩] 9)).iter s 0).heap[w.heap.size]? = some (.map (mE sV Value.bool [([], true, 0)]).toArray 1) := by
  show (((w1.alloc (.cells C 36)).alloc (.cells #[.string ⟨#[]⟩] 9)).alloc (.stringIter s 0)).heap[w.heap.size]? = _
  rw [heap_alloc_old _ _ (by omega), heap_alloc_old _ _ (by omega), heap_alloc_old _ _ (by omega)]
  exact hm1
 have q1 : (((w1.alloc (.cells C 36)).alloc (.cells #[.string ⟨#[]⟩] 9)).iter s 0).heap[w.heap.size + 1]? = some (.cells C 36) := by
  show (((w1.alloc (.cells C 36)).alloc (.cells #[.string ⟨#[]⟩] 9)).alloc (.stringIter s 0)).heap[w.heap.size + 1]? = _
  rw [heap_alloc_old _ _ (by omega), heap_alloc_old _ _ (by omega), ← hz1]
  exact heap_alloc_new _ _
 have q2 : (((w1.alloc (.cells C 36)).alloc (.cells #[.string ⟨#[]⟩] 9)).iter s 0).heap[w.heap.size + 2]? = some (.cells #[.string ⟨#[]⟩] 9) := by
  show (((w1.alloc (.cells C 36)).alloc (.cells #[.string ⟨#[]⟩] 9)).alloc (.stringIter s 0)).heap[w.heap.size + 2]? = _
  rw [heap_alloc_old _ _ (by omega), ← z1]
  exact heap_alloc_new _ _
 refine ⟨fun i => if i = 0 then .slice (some ⟨w.heap.size + 2, 0, none⟩) 1 1 else .slice none 0 0, [([], true, 0)], 1, ⟨⟨C, q1, hCs, hCi⟩, fun i hi => ?_, fun i hi h => ?_, fun i hi p hp => ?_⟩, q0, fun p hp => ?_, ?_⟩
 ·by_cases e : i = 0
  ·subst e
   rw [if_pos rfl]
   exact ⟨rfl, .inr ⟨w.heap.size + 2, 1, _, rfl, by omega, q2, Nat.le_refl _, by unfold maxLen; omega, rfl, rfl⟩⟩
  ·have : rows0 i = [] := if_neg e
   rw [this, if_neg e]
   exact ⟨rfl, .inl ⟨rfl, rfl⟩⟩
 ·by_cases e : i = 0
  ·subst e; cases h
  ·exact if_neg e
 ·by_cases e : i = 0
  ·subst e
   rw [List.mem_singleton.1 hp]; rfl
  ·rw [show rows0 i = [] from if_neg e] at hp; cases hp
 ·cases p with
  | nil => rfl
  | cons c p =>
   rw [show rows0 (c :: p).length = [] from if_neg (by simp)]
   simp [mGetD, mGet]
 ·exact ((hb1.alloc (by omega) _).alloc (by omega) _).alloc (by omega) _
theorem hid61 {p : Prop} (h : p) : Hid p := h
theorem all_calls (s : ByteArray) (w : World) (hs : s.size ≤ 10) (ha : ∀ x ∈ s.data.toList, x.toNat < 128) :
  Calls Try.prog 61 #[.string s] w fun e w' => ∃ V, e = .returned (.slice (some ⟨w.heap.size + 1, 0, none⟩) (s.size + 1) (s.size + 1)) ∧ Below w.heap.size w w' ∧ RowsAt w.heap.size (w.heap.size + 1) s.size V (srtT (s.size + 1) (allR s.size s.data.toList)) w' := by
 have mixed : Try.prog.follows .mixedOrders = true := by kernel_rfl
 have hmm := fun w => run_makeMap (P := Try.prog) 102 w
 have mty : mapTy Try.prog 102 = some (9, 4) := by kernel_rfl
 have kty : KeyT Try.prog 9 sV := key_str Try.underlying9
 have hins : (Instr.mapUpdate 102 (.map (some w.heap.size)) (.string ⟨#[]⟩) (.bool true)).run Try.prog (w.alloc (.map #[] 0)) = .ok () (itSet (w.alloc (.map #[] 0)) w.heap.size (.map (mE sV Value.bool [([], true, 0)]).toArray 1)) :=
  aupd_run (es := mE sV Value.bool []) (c := 0) (heap_alloc_new w _) (upd_m (kf := sV) (vf := Value.bool) (l := []) (k := []) (v := true) (c := 0) mty kty)
 have hmk := fun n => run_make_row' (P := Try.prog) 79 36 (.slice none 0 0) 24 Try.underlying79 (by kernel_rfl) rfl .i64 .i64 n
 have hmk1 : ∀ w, (Instr.makeSlice 79 (.int .i64 ((s.size : Int) + 1)) (.int .i64 ((s.size : Int) + 1))).run Try.prog w = .ok (.slice (some ⟨w.heap.size, 0, none⟩) (s.size + 1) (s.size + 1)) (w.alloc (.cells (madeCells #[.slice none 0 0] (s.size + 1)) 36)) := fun w => by
  have := hmk (s.size + 1) (by omega) (by omega) w
  rwa [show ((s.size + 1 : Nat) : Int) = (s.size : Int) + 1 by omega] at this
 clear hmk
 obtain ⟨w1, hw1⟩ : ∃ w1, itSet (w.alloc (.map #[] 0)) w.heap.size (.map (mE sV Value.bool [([], true, 0)]).toArray 1) = w1 := ⟨_, rfl⟩
 have hz1 : w1.heap.size = w.heap.size + 1 := by rw [← hw1]; simp [itSet]
 have hm1 : w1.heap[w.heap.size]? = some (.map (mE sV Value.bool [([], true, 0)]).toArray 1) := by
  rw [← hw1]
  simp [itSet]
 have hb1 : Below w.heap.size w w1 := by
  rw [← hw1]
  refine ⟨rfl, rfl, rfl, by simp [itSet], fun k hk => ?_⟩
  simp only [itSet]
  rw [Array.getElem?_setIfInBounds, if_neg (by omega)]
  exact heap_alloc_old _ _ hk
 rw [hw1] at hins
 clear hw1
 have hrow := (World.rowIs_made w1 (.slice none 0 0) (s.size + 1) 36).alloc (.cells #[.string ⟨#[]⟩] 9)
 rw [hz1] at hrow
 have hcell0 := hrow.cell (i := 0) (by omega)
 have hfr0 := hrow.frozen 0
 go_enter Try.func61, Try.ntmps61
 go_wp2_with fail
 go_loopg [] s.size (fun gk wx => ∃ pos : Nat, S61 w s.size (allR s.size (s.data.toList.take pos)) wx ∧ wx.heap[w.heap.size + 3]? = some (.stringIter s pos) ∧ s.size ≤ pos + gk ∧ pos ≤ s.size)
 case atStart =>
  refine ⟨0, ?_, ?_, by omega, by omega⟩
  ·exact S61.start hz1 hm1 hb1
  ·have z2 : ((w1.alloc (.cells ((madeCells #[.slice none 0 0] (s.size + 1)).setIfInBounds 0 (.slice (some ⟨w.heap.size + 1 + 1, 0, none⟩) 1 1)) 36)).alloc (.cells #[.string ⟨#[]⟩] 9)).heap.size = w.heap.size + 3 := by simp [hz1]
   rw [← z2]
   exact heap_alloc_new _ _
 case round =>
  obtain ⟨pos, hS, hit, hfu, hps⟩ := hrel
  by_cases hlt : pos < s.size
  ·obtain ⟨g', rfl⟩ : ∃ g', gk = g' + 1 := ⟨gk - 1, by omega⟩
   obtain ⟨x, hxe⟩ : ∃ x, s[pos]'hlt = x := ⟨_, rfl⟩
   have hlen : s.data.toList.length = s.size := by simp
   have hxl : s.data.toList[pos]? = some x := by
    rw [List.getElem?_eq_getElem (by rw [hlen]; exact hlt), ← hxe]
    rfl
   have hx1 : x.toNat < 128 := ha x (List.mem_of_getElem? hxl)
   have hnx : ∀ ty, (Instr.next (.pointer (some ⟨w.heap.size + 3, 0, none⟩)) true ty).run Try.prog wr = _ := fun ty => Lib.run_next_ascii_at wr (w.heap.size + 3) s pos ty hit hlt (by rw [hxe]; exact hx1)
   rw [hxe] at hnx
   obtain ⟨W, hWd⟩ : ∃ W, wr.iterAt (w.heap.size + 3) s (pos + 1) = W := ⟨_, rfl⟩
   have hS2 : S61 w s.size (allR s.size (s.data.toList.take pos)) W := by rw [← hWd]; exact hS.iter hit (by omega) _
   have hit2 : W.heap[w.heap.size + 3]? = some (.stringIter s (pos + 1)) := by rw [← hWd]; exact Lib.iterAt_heap wr _ s pos _ hit
   rw [hWd] at hnx
   have HS := hid61 hS2
   clear hS hS2 hit hWd
   obtain ⟨R, hR⟩ : ∃ R, allR s.size (s.data.toList.take pos) = R := ⟨_, rfl⟩
   have hRb : ∀ i, (R i).length ≤ 1024 := fun i => by
    have h1 := @allR_bound s.size (s.data.toList.take pos) i
    rw [hR] at h1
    have h2 : 2 ^ (s.data.toList.take pos).length ≤ 2 ^ 10 := Nat.pow_le_pow_right (by decide) (by rw [List.length_take]; omega)
    exact Nat.le_trans h1 h2
   have HRb := hid61 hRb
   clear hRb
   rw [hR] at HS
   go_wp2_with fail
   go_loopg [7] s.size (fun gk2 s7 wx => ∃ (d : Nat) (cur : Rws), s7 = .int .i64 d ∧ d ≤ s.size ∧ d ≤ gk2 ∧ S61 w s.size cur wx ∧ rowsD x cur d d = rowsD x R s.size s.size ∧ (∀ i, i ≤ d → cur i = R i) ∧ wx.heap[w.heap.size + 3]? = some (.stringIter s (pos + 1)))
   case atStart => exact ⟨s.size, R, rfl, Nat.le_refl _, Nat.le_refl _, HS.out, rfl, fun _ _ => rfl, hit2⟩
   case round =>
    obtain ⟨d, cur, rfl, hd, hdg, hS, hcur, hold, hit⟩ := hrel
    have Hold := hid61 hold
    clear hold
    cases d with
    | zero =>
     have HS3 := hid61 hS
     have Hcur := hid61 hcur
     clear hS hcur HS
     go_wp2_with fail
     go_roundg g'
     case measure => omega
     case rel =>
      refine ⟨pos + 1, ?_, hit, by omega, by omega⟩
      have h1 : allR s.size (s.data.toList.take (pos + 1)) = rowsD x R s.size s.size := by
       rw [List.take_add_one, hxl, ← hR]
       simp [allR, List.foldl_append]
      rw [h1, ← Hcur.out]
      exact HS3.out
    | succ d =>
     obtain ⟨g2, rfl⟩ : ∃ g2, gk = g2 + 1 := ⟨gk - 1, by omega⟩
     obtain ⟨V, m, c, hR1, hM1, hmet, hbel⟩ := hS
     have hcellV := hR1.out.cell (i := d) (by omega)
     have hVd := hR1.row d (by omega)
     obtain ⟨ao, cap, hVf⟩ : ∃ ao cap, V d = .slice ao (cur d).length cap := by
      rcases hVd.2 with ⟨e1, e2⟩ | ⟨g, cap, _, e1, _⟩
      ·exact ⟨none, 0, by rw [e1, e2]⟩
      ·exact ⟨_, _, e1⟩
     rw [hVf] at hcellV
     have e1 : ((d + 1 : Nat) : Int) - 1 = (d : Int) := by omega
     go_wp2_with fail
     go_loopg [38] (cur d).length (fun gk3 s38 wx => ∃ (j : Nat) (V : Nat → Value) (m : Mp (List UInt8) Bool) (c : Nat), s38 = .int .i64 j ∧ j ≤ (cur d).length ∧ (cur d).length ≤ j + gk3 ∧ V d = .slice ao (cur d).length cap ∧
      RowsAt w.heap.size (w.heap.size + 1) s.size V (rowJ x (d + 1) cur j) wx ∧ wx.heap[w.heap.size]? = some (.map (mE sV Value.bool m).toArray c) ∧
      (∀ p : List UInt8, p.length ≤ s.size → mGetD false p m = decide (p ∈ rowJ x (d + 1) cur j p.length)) ∧ Below w.heap.size w wx ∧ wx.heap[w.heap.size + 3]? = some (.stringIter s (pos + 1)))
     case atStart => exact ⟨0, V, m, c, rfl, Nat.zero_le _, by omega, hVf, hR1, hM1, hmet, hbel, hit⟩
     case round =>
      clear hR1 hM1 hmet hbel hVf hVd hcellV hit
      obtain ⟨j, V, m, c, rfl, hj, hjg, hVf, hR1, hM1, hmet, hbel, hit⟩ := hrel
      by_cases hjl : j < (cur d).length
      ·obtain ⟨g3, rfl⟩ : ∃ g3, gk = g3 + 1 := ⟨gk - 1, by omega⟩
       have hrd : rowJ x (d + 1) cur j d = cur d := rowJ_at (by omega)
       have hown := hR1.row d (by omega)
       rw [hrd, hVf] at hown
       obtain ⟨g, rfl⟩ : ∃ g, ao = some ⟨g, 0, none⟩ := by
        rcases hown.2 with ⟨e1, e2⟩ | ⟨g, cap', _, e1, _⟩
        ·omega
        ·injection e1 with e1; exact ⟨g, e1⟩
       have hjm : (cur d).length ≤ 9223372036854775807 := by
        rcases hown.2 with ⟨e1, e2⟩ | ⟨_, cap', _, e1, _, _, h1, h2, _⟩
        ·omega
        ·unfold maxLen at h2; omega
       obtain ⟨p, hp⟩ : ∃ p, (cur d)[j]? = some p := ⟨_, List.getElem?_eq_getElem hjl⟩
       have hcellp : wr.cell? ⟨g, j, none⟩ = some (.string ⟨p.toArray⟩) := by
        rw [hown.cellAt j (by omega), List.getElem?_map, hp]
        rfl
       have hcellV := hR1.out.cell (i := d + 1) (by omega)
       have HR1 := hid61 hR1
       have Hmet := hid61 hmet
       have Hown := hid61 hown
       have Hcur := hid61 hcur
       have henc := enc_ascii hx1
       have hadd : (⟨p.toArray⟩ : ByteArray) ++ ⟨#[x]⟩ = ⟨(p ++ [x]).toArray⟩ := add_ascii
       have hplen : p.length = d := by
        have h := hR1.len d (by omega)
        rw [hrd] at h
        exact h p (List.mem_of_getElem? hp)
       have hpx : (p ++ [x]).length = d + 1 := by simp [hplen]
       have hlook : (Instr.lookup 102 (.map (some w.heap.size)) (.string ⟨(p ++ [x]).toArray⟩) false).run Try.prog wr = .ok (.bool (mGetD false (p ++ [x]) m)) wr :=
        alook_run hM1 (look_m (kf := sV) (vf := Value.bool) (l := m) (k := p ++ [x]) (d := false) mty kty (by kernel_rfl) (fun _ => rfl) (ok := false))
       have HM1 := hid61 hM1
       have Hp := hid61 hp
       clear hR1 hmet hown hcur HS hR hxl hrow hcell0 hfr0 hM1 hp hm1 hins hmm hmk1
       have hpl63 : ¬ (9223372036854775807 < p.length + 1) := by omega
       have hsucc : rowJ x (d + 1) cur (j + 1) = addR (d + 1) (rowJ x (d + 1) cur j) (p ++ [x]) := rowJ_succ (by simpa using Hp.out)
       have Hsucc := hid61 hsucc
       clear hsucc
       cases hmt : mGetD false (p ++ [x]) m with
       | true =>
        rw [hmt] at hlook
        have hmem : p ++ [x] ∈ rowJ x (d + 1) cur j (d + 1) := by
         have h := Hmet.out (p ++ [x]) (by omega)
         rw [hmt, hpx] at h
         exact of_decide_eq_true h.symm
        have hsame : rowJ x (d + 1) cur (j + 1) = rowJ x (d + 1) cur j := by
         rw [Hsucc.out]
         unfold addR
         rw [if_pos hmem]
        have Hsame := hid61 hsame
        clear hsame hmem
        go_wp2_with fail
        go_roundg g3
        case measure => omega
        case rel => exact ⟨j + 1, V, m, c, by rw [show ((j + 1 : Nat) : Int) = (j : Int) + 1 by omega], by omega, by omega, hVf, by rw [Hsame.out]; exact HR1.out, HM1.out, by rw [Hsame.out]; exact Hmet.out, hbel, hit⟩
       | false =>
        rw [hmt] at hlook
        have hnew : p ++ [x] ∉ rowJ x (d + 1) cur j (d + 1) := by
         have h := Hmet.out (p ++ [x]) (by omega)
         rw [hmt, hpx] at h
         exact of_decide_eq_false h.symm
        have hupd : (Instr.mapUpdate 102 (.map (some w.heap.size)) (.string ⟨(p ++ [x]).toArray⟩) (.bool true)).run Try.prog wr = .ok () (itSet wr w.heap.size (.map (mE sV Value.bool (mSet c (p ++ [x]) true m)).toArray (mClk c (p ++ [x]) m))) :=
         aupd_run HM1.out (upd_m (kf := sV) (vf := Value.bool) (l := m) (k := p ++ [x]) (v := true) (c := c) mty kty)
        obtain ⟨wu, hwu⟩ : ∃ wu, itSet wr w.heap.size (.map (mE sV Value.bool (mSet c (p ++ [x]) true m)).toArray (mClk c (p ++ [x]) m)) = wu := ⟨_, rfl⟩
        rw [hwu] at hupd
        have hlt0 : w.heap.size < wr.heap.size := (Array.getElem?_eq_some_iff.1 HM1.out).1
        have hgu : wr.grownBy wu (some w.heap.size) := by
         rw [← hwu]
         refine ⟨rfl, rfl, rfl, by simp [itSet], fun k hk hne => ?_⟩
         simp only [itSet]
         rw [Array.getElem?_setIfInBounds, if_neg (fun e => hne (by rw [e]))]
        have hmu : wu.heap[w.heap.size]? = some (.map (mE sV Value.bool (mSet c (p ++ [x]) true m)).toArray (mClk c (p ++ [x]) m)) := by
         rw [← hwu]
         simp [itSet, hlt0]
        have hRu : RowsAt w.heap.size (w.heap.size + 1) s.size V (rowJ x (d + 1) cur j) wu := HR1.out.kept hgu (by simp) (fun i hi => by
         cases e1 : (V i).ownBlock with
         | none => exact .inl rfl
         | some g' => exact .inr (fun e2 => HR1.out.ne_map hi HM1.out (e1.trans e2)))
        have hitu : wu.heap[w.heap.size + 3]? = some (.stringIter s (pos + 1)) := by
         rw [hgu.block _ (Array.getElem?_eq_some_iff.1 hit).1 (by simp)]
         exact hit
        have hbu : Below w.heap.size w wu := hbel.grown hgu (by omega) (fun k hk => by injection hk with hk; omega)
        have hcu := hRu.out.cell (i := d + 1) (by omega)
        have HRu := hid61 hRu
        have Hmu := hid61 hmu
        have Hgu := hid61 hgu
        clear hwu hgu hmu hRu hcellV
        obtain ⟨i0, hi0, hz0, hz1', hz2⟩ := info_parts (show (Try.prog.info? 9).map (fun i => (i.zero, i.size, i.bytes)) = some (some (.string ⟨#[]⟩), 1, 16) by kernel_rfl)
        have hrk := (HRu.out.row (d + 1) (by omega)).alloc (.cells #[.string ⟨(p ++ [x]).toArray⟩] 9)
        have Hrk := hid61 hrk
        clear hrk
        have hlk : (rowJ x (d + 1) cur j (d + 1)).length ≤ 2048 := by
         have h1 := @rowJ_len x (d + 1) (d + 1) cur j
         have h2 := HRb.out (d + 1)
         have h3 := HRb.out d
         rw [Hold.out (d + 1) (Nat.le_refl _)] at h1
         rw [Hold.out d (by omega)] at hj
         omega
        go_wp2_with (at_builtin; refine wpList_append_own _ rfl _ _ 36 rfl w.heap.size 9 i0 (.string ⟨#[]⟩) 1 16 Try.underlying36 hi0 hz0 hz1' hz2 rfl (by decide) (V (d + 1)) _ _ rfl Hrk.out ⟨wu.heap.size, 0, none⟩ 1 1 [.string ⟨(p ++ [x]).toArray⟩] rfl rfl ?c1 ?c2 ?c3 ?c4 ?c5 ?_)
        case c1 => exact cell_one_new _ _ _
        case c2 => exact fun u hu => by rw [List.mem_singleton.1 hu]; rfl
        case c3 => unfold maxLen; omega
        case c4 => omega
        case c5 => exact Nat.le_trans hbu.size (by simp)
        rintro v4 w4 hown4 hg4 -
        obtain ⟨g4, cap4, rfl⟩ : ∃ g4 cap4, v4 = .slice (some ⟨g4, 0, none⟩) ((rowJ x (d + 1) cur j (d + 1)).length + 1) cap4 := by
         rcases hown4.2 with ⟨_, e2⟩ | ⟨g4, cap4, cur4, e1, _⟩
         ·omega
         ·exact ⟨g4, cap4, e1⟩
        have hRa := HRu.out.alloc (.cells #[.string ⟨(p ++ [x]).toArray⟩] 9)
        have hrow4 : w4.rowIs (w.heap.size + 1) 36 (s.size + 1) V := hRa.out.of_block (hg4.block _ hRa.out.lt (fun e => hRa.ne_out (by omega) e.symm))
        have hcell4 := hrow4.cell (i := d + 1) (by omega)
        have hfr4 := hrow4.frozen (d + 1)
        have hR4 := hRa.push (k := d + 1) (by omega) hpx hg4 hown4
        have hlt1 : w.heap.size < wu.heap.size := (Array.getElem?_eq_some_iff.1 Hmu.out).1
        have hlt2 : w.heap.size + 3 < wu.heap.size := (Array.getElem?_eq_some_iff.1 hitu).1
        have hm4 : (w4.setCell ⟨w.heap.size + 1, d + 1, none⟩ (.slice (some ⟨g4, 0, none⟩) ((rowJ x (d + 1) cur j (d + 1)).length + 1) cap4)).heap[w.heap.size]? = some (.map (mE sV Value.bool (mSet c (p ++ [x]) true m)).toArray (mClk c (p ++ [x]) m)) := by
         rw [Deep.blk_setCell_other _ _ _ _ (by show w.heap.size ≠ w.heap.size + 1; omega), hg4.block _ (by simp; omega) (fun e => HRu.out.ne_obj (by omega) Hmu.out (fun _ _ _ e => by cases e) e.symm), heap_alloc_old _ _ hlt1]
         exact Hmu.out
        have hit4 : (w4.setCell ⟨w.heap.size + 1, d + 1, none⟩ (.slice (some ⟨g4, 0, none⟩) ((rowJ x (d + 1) cur j (d + 1)).length + 1) cap4)).heap[w.heap.size + 3]? = some (.stringIter s (pos + 1)) := by
         rw [Deep.blk_setCell_other _ _ _ _ (by show w.heap.size + 3 ≠ w.heap.size + 1; omega), hg4.block _ (by simp; omega) (fun e => HRu.out.ne_obj (by omega) hitu (fun _ _ _ e => by cases e) e.symm), heap_alloc_old _ _ hlt2]
         exact hitu
        have hb4 : Below w.heap.size w (w4.setCell ⟨w.heap.size + 1, d + 1, none⟩ (.slice (some ⟨g4, 0, none⟩) ((rowJ x (d + 1) cur j (d + 1)).length + 1) cap4)) :=
         ((hbu.alloc (by omega) _).grown hg4 (by simp; omega) (fun k hk => own_ge (HRu.out.row (d + 1) (by omega)) hk)).setCell (by show w.heap.size ≤ w.heap.size + 1; omega) _
        have hmet4 : ∀ q : List UInt8, q.length ≤ s.size → mGetD false q (mSet c (p ++ [x]) true m) = decide (q ∈ rowJ x (d + 1) cur (j + 1) q.length) := by
         intro q hq
         rw [mGetD_set, Hsucc.out]
         by_cases e : p ++ [x] = q
         ·rw [if_pos e]
          exact (decide_eq_true (addR_mem.2 (.inr ⟨by rw [← e]; exact hpx, e.symm⟩))).symm
         ·rw [if_neg e, Hmet.out q hq]
          exact decide_eq_decide.2 ⟨fun h => addR_mem.2 (.inl h), fun h => (addR_mem.1 h).elim id fun h => absurd h.2.symm e⟩
        have hrows : (fun i => if i = d + 1 then rowJ x (d + 1) cur j (d + 1) ++ [p ++ [x]] else rowJ x (d + 1) cur j i) = rowJ x (d + 1) cur (j + 1) := by
         rw [Hsucc.out]
         unfold addR
         rw [if_neg hnew]
        rw [hrows] at hR4
        have HR4 := hid61 hR4
        have Hm4 := hid61 hm4
        have Hit4 := hid61 hit4
        have Hb4 := hid61 hb4
        have Hmet4 := hid61 hmet4
        clear hR4 hm4 hit4 hb4 hmet4 hrows hown4 hg4 hRa hrow4 hcu hitu
        have hjw : ((j + 1 : Nat) : Int) = (j : Int) + 1 := by omega
        go_wp2_with fail
        go_roundg g3
        case measure => omega
        case rel => exact ⟨j + 1, _, _, _, by first | rfl | rw [hjw], by omega, by omega, by rw [if_neg (by omega)]; exact hVf, HR4.out, Hm4.out, Hmet4.out, Hb4.out, Hit4.out⟩
      ·obtain rfl : j = (cur d).length := by omega
       have HS5 : Hid (S61 w s.size (rowK x (d + 1) cur) wr) := ⟨V, m, c, hR1, hM1, hmet, hbel⟩
       have Hcur := hid61 hcur
       clear hR1 hM1 hmet hbel hcur
       go_wp2_with fail
       go_roundg g2
       case measure => omega
       case rel => exact ⟨d, rowK x (d + 1) cur, by first | rfl | (congr 1; omega), by omega, by omega, HS5.out, Hcur.out, fun i hi => (rowK_at (by omega)).trans (Hold.out i (by omega)), hit⟩
  ·obtain rfl : pos = s.size := by omega
   have htk : s.data.toList.take s.size = s.data.toList := List.take_of_length_le (by simp)
   rw [htk] at hS
   have hnx : ∀ ty, (Instr.next (.pointer (some ⟨w.heap.size + 3, 0, none⟩)) true ty).run Try.prog wr = .ok (.tuple #[.bool false]) wr := fun ty => Lib.run_next_end_at wr (w.heap.size + 3) s s.size ty hit (Nat.lt_irrefl _)
   obtain ⟨V, m, c, hR1, hM1, hmet, hbel⟩ := hS
   obtain ⟨hnd, hin⟩ := @allR_mem s.size s.data.toList (by simp)
   have hne0 : ∀ i, i < s.size + 1 → allR s.size s.data.toList i ≠ [] := fun i hi e => by
    have h := (hin i (s.data.toList.take i)).2 ⟨List.take_sublist _ _, by rw [List.length_take]; simp; omega⟩
    rw [e] at h
    cases h
   have hbd : ∀ i, (allR s.size s.data.toList i).length ≤ 1024 := fun i => by
    have h1 := @allR_bound s.size s.data.toList i
    have h2 : 2 ^ s.data.toList.length ≤ 2 ^ 10 := Nat.pow_le_pow_right (by decide) (by simp; omega)
    exact Nat.le_trans h1 h2
   obtain ⟨R, hR⟩ : ∃ R, allR s.size s.data.toList = R := ⟨_, rfl⟩
   rw [hR] at hR1 hne0 hbd
   have hgoal : ∀ (e : Ending) (w' : World), (∃ V, e = .returned (.slice (some ⟨w.heap.size + 1, 0, none⟩) (s.size + 1) (s.size + 1)) ∧ Below w.heap.size w w' ∧ RowsAt w.heap.size (w.heap.size + 1) s.size V (srtT (s.size + 1) R) w') → (∃ V, e = .returned (.slice (some ⟨w.heap.size + 1, 0, none⟩) (s.size + 1) (s.size + 1)) ∧ Below w.heap.size w w' ∧ RowsAt w.heap.size (w.heap.size + 1) s.size V (srtT (s.size + 1) (allR s.size s.data.toList)) w') := fun e w' h => by rw [hR]; exact h
   have Hgoal := hid61 hgoal
   have HR1 := hid61 hR1
   have Hb1 := hid61 hbel
   have Hne := hid61 hne0
   have Hbd := hid61 hbd
   clear hR1 hM1 hmet hbel hit hnd hin hne0 hbd hR hgoal htk hrow hcell0 hfr0 hm1 hins hmm hmk1 hb1 hz1 mty kty
   go_wp2_with fail
   go_loopg [65] (s.size + 1) (fun gk2 s65 wx => ∃ t : Nat, s65 = .int .i64 t ∧ t ≤ s.size + 1 ∧ s.size + 1 ≤ t + gk2 ∧ RowsAt w.heap.size (w.heap.size + 1) s.size V (srtT t R) wx ∧ Below w.heap.size w wx)
   case atStart => exact ⟨0, rfl, by omega, by omega, srtT_zero ▸ HR1.out, Hb1.out⟩
   case round =>
    obtain ⟨t, rfl, ht, htg, hRt, hbt⟩ := hrel
    by_cases hlt2 : t < s.size + 1
    ·obtain ⟨g2, rfl⟩ : ∃ g2, gk = g2 + 1 := ⟨gk - 1, by omega⟩
     have hcell := hRt.out.cell hlt2
     have hrt : srtT t R t = R t := by unfold srtT; rw [if_neg (Nat.lt_irrefl _)]
     have hn0 : (srtT t R t).length ≠ 0 := by rw [hrt]; exact fun e => Hne.out t hlt2 (List.length_eq_zero_iff.1 e)
     obtain ⟨g, cap, cur, hVt, hBg, hbg, hn1, hn2, hn3, hn4⟩ := own_some (hRt.row t hlt2) hn0
     have hH := holds_of_block hbg (by simpa using hn4)
     have hgl : g < wr.heap.size := (Array.getElem?_eq_some_iff.1 hbg).1
     have hsz : (srtT t R t).length < 4611686018427387904 := by rw [hrt]; have := Hbd.out t; omega
     have hcon := Try.slices_Sort_string g 0 cap (srtT t R t) wr hH hgl hsz
     have hredo : ∀ q os, RowsAt w.heap.size (w.heap.size + 1) s.size V (srtT (t + 1) R) (Sort.grow (Sort.putRow encStr (Sort.ahead wr q) g 0 (srt (srtT t R t)).toArray) os) ∧ Below w.heap.size w (Sort.grow (Sort.putRow encStr (Sort.ahead wr q) g 0 (srt (srtT t R t)).toArray) os) := fun q os => by
      have hg := @grownBy_sorted wr g q os (srt (srtT t R t)).toArray
      have ho := @ownsRow_sorted wr w.heap.size g cap q 9 os cur (srtT t R t) (srt (srtT t R t)) srt_len hBg hbg hn1 hn2 hn3
      rw [← hVt] at ho
      refine ⟨?_, hbt.grown hg (by omega) (fun k hk => by cases hk; exact hBg)⟩
      rw [← srtT_succ]
      refine hRt.redo hlt2 srt_len (fun p hp => hRt.len t hlt2 p (srt_mem.1 hp)) (fun e => hn0 (by rw [e]; rfl)) ?_ (by rw [srt_len]; exact ho)
      rw [hVt]
      exact hg
     rw [hVt] at hcell
     have Hcon := hid61 hcon
     have Hredo := hid61 hredo
     clear hcon hredo hH hbg hVt hrt hn0 hsz hn1 hn2 hn3 hn4 hRt hbt
     go_wp2_with fail
     refine Hcon.out.mono ?_
     rintro e w3 ⟨rfl, q, os, rfl⟩
     obtain ⟨hR3, hb3⟩ := Hredo.out q os
     change RowsAt w.heap.size (w.heap.size + 1) s.size V (srtT (t + 1) R) (Sort.grow (Sort.putRow encStr (Sort.ahead wr q) g 0 ((srtT t R t).mergeSort fun x y => decide (x ≤ y)).toArray) os) at hR3
     change Below w.heap.size w (Sort.grow (Sort.putRow encStr (Sort.ahead wr q) g 0 ((srtT t R t).mergeSort fun x y => decide (x ≤ y)).toArray) os) at hb3
     clear Hcon Hredo
     generalize Sort.grow (Sort.putRow encStr (Sort.ahead wr q) g 0 ((srtT t R t).mergeSort fun x y => decide (x ≤ y)).toArray) os = w3 at hR3 hb3 ⊢
     have HR3 := hid61 hR3
     have Hb3 := hid61 hb3
     clear hR3 hb3
     have htw : ((t + 1 : Nat) : Int) = (t : Int) + 1 := by omega
     go_wp2_with fail
     go_roundg g2
     case measure => omega
     case rel => exact ⟨t + 1, by first | rfl | rw [htw], by omega, by omega, HR3.out, Hb3.out⟩
    ·obtain rfl : t = s.size + 1 := by omega
     have HRt := hid61 hRt
     have Hbt := hid61 hbt
     clear hRt hbt
     go_wp2_with fail
     go_ret
     exact Hgoal.out _ _ ⟨V, rfl, Hbt.out, HRt.out⟩
end Go.Proofs.Ytmnmfmghmenkkaa
set_option linter.unusedSimpArgs false
set_option linter.unusedVariables false
namespace Go.Proofs.Ytmnmfmghmenkkaa
open Go.RowKit Go.Abs Go.Pur
set_option maxRecDepth 1000000
set_option maxHeartbeats 8000000
theorem hid52 {p : Prop} (h : p) : Hid p := h
theorem srt_perm {l m : List (List UInt8)} (h : l.Perm m) : srt l = srt m := by
 have hs : ∀ l : List (List UInt8), (srt l).Pairwise (fun a b => decide (a ≤ b) = true) := fun l =>
  List.pairwise_mergeSort (le := fun (x y : List UInt8) => decide (x ≤ y)) (fun a b c h1 h2 => by
   simp only [decide_eq_true_eq] at *
   exact List.le_trans h1 h2) (fun a b => by
   simp only [Bool.or_eq_true, decide_eq_true_eq]
   exact List.le_total a b) l
 refine List.Perm.eq_of_pairwise (le := fun a b => decide (a ≤ b) = true) (fun a b _ _ h1 h2 => ?_) (hs l) (hs m) ?_
 ·simp only [decide_eq_true_eq] at h1 h2
  exact List.le_antisymm h1 h2
 ·exact ((List.mergeSort_perm _ _).trans h).trans (List.mergeSort_perm _ _).symm
theorem own_ne {w : World} {B e n : Nat} {v : Value} {xs : List Value} (h : w.ownsRow B e 1 v n xs) {g : Nat} {o : Obj} (hm : w.heap[g]? = some o) (ho : ∀ c t fr, o ≠ .cells c t fr) : v.ownBlock = none ∨ v.ownBlock ≠ some g := by
 rcases h.2 with ⟨rfl, _⟩ | ⟨g', cap, cur, rfl, _, hb, _⟩
 ·exact .inl rfl
 ·refine .inr fun e => ?_
  cases e
  rw [hb] at hm
  exact ho _ _ _ (Option.some.inj hm).symm
theorem own_ge52 {w : World} {B e n : Nat} {v : Value} {xs : List Value} {g : Nat} (h : w.ownsRow B e 1 v n xs) (hg : v.ownBlock = some g) : B ≤ g := by
 rcases h.2 with ⟨e1, _⟩ | ⟨g', cap, cur, rfl, hb, _⟩
 ·rw [e1] at hg; cases hg
 ·cases hg; exact hb
theorem own_some52 {w : World} {B e n : Nat} {v : Value} {xs : List Value} (h : w.ownsRow B e 1 v n xs) (hn : n ≠ 0) : ∃ g cap cur, v = .slice (some ⟨g, 0, none⟩) n cap ∧ B ≤ g ∧ w.heap[g]? = some (.cells cur e (0, 0)) ∧ n ≤ cap ∧ cap ≤ maxLen ∧ cur.size = cap * 1 ∧ cur.toList.take (n * 1) = xs := by
 rcases h.2 with ⟨_, e0⟩ | ⟨g, cap, cur, h1⟩
 ·exact absurd e0 hn
 ·exact ⟨g, cap, cur, h1⟩
def C52 (w0 : World) (bm c n : Nat) (es : List MapEntry) (v : Value) (seen : Array Nat) (S : List (List UInt8)) (w : World) : Prop :=
 ∃ c0, w.heap[w0.heap.size]? = some (.mapIter (some bm) c seen c0) ∧ c ≤ c0 ∧ w.heap[bm]? = some (.map es.toArray c) ∧ w.ownsRow w0.heap.size 9 1 v S.length (S.map encStr) ∧ S.Nodup ∧ S.length ≤ 4096 ∧
  (∀ k, k ∈ S ↔ ∃ e ∈ es, e.key = strV k ∧ k.length = n ∧ seen.contains e.born = true) ∧ Below w0.heap.size w0 w
theorem ofSize_calls (bm : Nat) (es : List MapEntry) (c n : Nat) (ks : List (List UInt8)) (w : World) (hw : w.heap[bm]? = some (.map es.toArray c)) (hk : es.map (·.key) = ks.map strV) (hlen : es.length ≤ 4096)
  (hb : ∀ e ∈ es, e.born < c) (hnb : (es.map (·.born)).Nodup) (hnk : ks.Nodup) (hne : (ks.filter fun k => decide (k.length = n)) ≠ []) :
  Calls Try.prog 52 #[.map (some bm), .int .i64 n] w fun e w' => ∃ v, e = .returned v ∧ Below w.heap.size w w' ∧ w'.ownsRow w.heap.size 9 1 v (srt (ks.filter fun k => decide (k.length = n))).length ((srt (ks.filter fun k => decide (k.length = n))).map encStr) := by
 have mixed : Try.prog.follows .mixedOrders = true := by kernel_rfl
 have hbl : bm < w.heap.size := (Array.getElem?_eq_some_iff.1 hw).1
 have hrg := run_range_map (P := Try.prog) w 58 9 3 bm es.toArray c Try.underlying58 hw
 obtain ⟨w1, hw1⟩ : ∃ w1, w.alloc (.mapIter (some bm) c #[] c) = w1 := ⟨_, rfl⟩
 have h0 : C52 w bm c n es (.slice none 0 0) #[] [] w1 := by
  refine ⟨c, by rw [← hw1]; exact heap_alloc_new _ _, Nat.le_refl _, by rw [← hw1, heap_alloc_old _ _ hbl]; exact hw, ⟨rfl, .inl ⟨rfl, rfl⟩⟩, List.nodup_nil, by simp, fun k => ?_, by rw [← hw1]; exact (Below.refl _ _).alloc (Nat.le_refl _) _⟩
  simp
 rw [hw1] at hrg
 have H0 := hid52 h0
 have Hne := hid52 hne
 have Hk := hid52 hk
 have Hnk := hid52 hnk
 have Hb := hid52 hb
 have Hnb := hid52 hnb
 have Hlen := hid52 hlen
 clear h0 hne hk hnk hb hnb hw hw1 hlen
 have hkey : ∀ e ∈ es, ∃ k ∈ ks, e.key = strV k := fun e he => by
  have h := List.mem_map_of_mem (f := (·.key)) he
  rw [Hk.out] at h
  obtain ⟨k, hk, e1⟩ := List.mem_map.1 h
  exact ⟨k, hk, e1.symm⟩
 have hinj : ∀ (a b : List UInt8), strV a = strV b → a = b := fun a b h => by
  unfold strV at h
  injection h with h
  injection h with h
  exact List.toArray_inj h
 have hnkey : (es.map (·.key)).Nodup := by
  rw [Hk.out]
  unfold List.Nodup
  rw [List.pairwise_map]
  exact Hnk.out.imp fun h e => h (hinj _ _ e)
 have Hkey := hid52 hkey
 have Hnkey := hid52 hnkey
 have Hinj := hid52 hinj
 clear hkey hnkey hinj
 go_enter Try.func52, Try.ntmps52
 go_wp2_with fail
 go_loopg [5] (es.length + 1) (fun gk s5 wx => ∃ (seen : Array Nat) (S : List (List UInt8)), C52 w bm c n es s5 seen S wx ∧ (leftOf es.toArray seen).size < gk)
 case atStart =>
  refine ⟨#[], [], H0.out, ?_⟩
  have : (leftOf es.toArray #[]).size ≤ es.length := by
   unfold leftOf
   exact Nat.le_trans (Array.size_filter_le ..) (by simp)
  omega
 case round =>
  obtain ⟨seen, S, hC, hg⟩ := hrel
  obtain ⟨g', rfl⟩ : ∃ g', gk = g' + 1 := ⟨gk - 1, by omega⟩
  obtain ⟨c0, q1, q2, q3, q4, q5, q6, q7, q8⟩ := hC
  have Q1 := hid52 q1
  have Q4 := hid52 q4
  have Q7 := hid52 q7
  have Q8 := hid52 q8
  have Q3 := hid52 q3
  have Q5 := hid52 q5
  rcases run_next_at (P := Try.prog) wr 0 w.heap.size bm c c0 seen es.toArray c q1 q3 (by simpa using Hb.out) q2 with ⟨hl0, hrun⟩ | ⟨e, he, w2, hw2, hrun⟩
  ·have hall : ∀ e ∈ es, seen.contains e.born = true := fun e he => by
    cases hc : seen.contains e.born with
    | true => rfl
    | false =>
     have : e ∈ leftOf es.toArray seen := Array.mem_filter.2 ⟨by simpa using he, by rw [hc]; rfl⟩
     rw [Array.eq_empty_of_size_eq_zero hl0] at this
     simp at this
   have hperm : S.Perm (ks.filter fun k => decide (k.length = n)) := by
    refine (List.perm_ext_iff_of_nodup q5 (Hnk.out.filter _)).2 fun k => ?_
    rw [q7 k, List.mem_filter, decide_eq_true_iff]
    constructor
    ·rintro ⟨e, he, h1, h2, _⟩
     obtain ⟨k', hk', h3⟩ := Hkey.out e he
     rw [h1] at h3
     rw [Hinj.out _ _ h3]
     exact ⟨hk', by rw [← Hinj.out _ _ h3]; exact h2⟩
    ·rintro ⟨h1, h2⟩
     have h3 : strV k ∈ es.map (·.key) := by rw [Hk.out]; exact List.mem_map_of_mem h1
     obtain ⟨e, he, h4⟩ := List.mem_map.1 h3
     exact ⟨e, he, h4, h2, hall e he⟩
   have hS0 : S.length ≠ 0 := fun e => Hne.out (by
    have := hperm.length_eq
    rw [e] at this
    exact List.length_eq_zero_iff.1 this.symm)
   have hT := srt_perm hperm
   have hgoal : ∀ (e : Ending) (w' : World), (∃ v, e = .returned v ∧ Below w.heap.size w w' ∧ w'.ownsRow w.heap.size 9 1 v (srt S).length ((srt S).map encStr)) → (∃ v, e = .returned v ∧ Below w.heap.size w w' ∧ w'.ownsRow w.heap.size 9 1 v (srt (ks.filter fun k => decide (k.length = n))).length ((srt (ks.filter fun k => decide (k.length = n))).map encStr)) := fun e w' h => by rw [← hT]; exact h
   have Hgoal := hid52 hgoal
   clear hgoal
   obtain ⟨g, cap, cur, rfl, hBg, hbg, hn1, hn2, hn3, hn4⟩ := own_some52 q4 hS0
   have hH := holds_of_block hbg (by simpa using hn4)
   have hgl : g < wr.heap.size := (Array.getElem?_eq_some_iff.1 hbg).1
   have hcon := Try.slices_Sort_string g 0 cap S wr hH hgl (by omega)
   have hlS : (srt S).length = S.length := by simp [srt]
   have hredo : ∀ q os, (Sort.grow (Sort.putRow encStr (Sort.ahead wr q) g 0 (srt S).toArray) os).ownsRow w.heap.size 9 1 (.slice (some ⟨g, 0, none⟩) S.length cap) (srt S).length ((srt S).map encStr) ∧ Below w.heap.size w (Sort.grow (Sort.putRow encStr (Sort.ahead wr q) g 0 (srt S).toArray) os) := fun q os => by
    have hg := @grownBy_sorted wr g q os (srt S).toArray
    have ho := @ownsRow_sorted wr w.heap.size g cap q 9 os cur S (srt S) hlS hBg hbg hn1 hn2 hn3
    refine ⟨by rw [hlS]; exact ho, q8.grown hg (by have := q8.size; omega) (fun k hk => by cases hk; exact hBg)⟩
   have Hcon := hid52 hcon
   have Hredo := hid52 hredo
   have HlS := hid52 hlS
   clear hcon hredo hlS hH hbg hn1 hn2 hn3 hn4 q1 q3 q4 q5 q6 q7 q8 hT hperm hall hl0 hS0 Q1 Q4 Q7 Q8 Q3 Q5
   go_wp2_with fail
   refine Hcon.out.mono ?_
   rintro e w3 ⟨rfl, q, os, rfl⟩
   obtain ⟨hR3, hb3⟩ := Hredo.out q os
   change (Sort.grow (Sort.putRow encStr (Sort.ahead wr q) g 0 (S.mergeSort fun x y => decide (x ≤ y)).toArray) os).ownsRow w.heap.size 9 1 (.slice (some ⟨g, 0, none⟩) S.length cap) (srt S).length ((srt S).map encStr) at hR3
   change Below w.heap.size w (Sort.grow (Sort.putRow encStr (Sort.ahead wr q) g 0 (S.mergeSort fun x y => decide (x ≤ y)).toArray) os) at hb3
   clear Hcon Hredo
   generalize Sort.grow (Sort.putRow encStr (Sort.ahead wr q) g 0 (S.mergeSort fun x y => decide (x ≤ y)).toArray) os = w3 at hR3 hb3 ⊢
   have HR3 := hid52 hR3
   have Hb3 := hid52 hb3
   clear hR3 hb3
   go_wp2_with fail
   go_ret
   exact Hgoal.out _ _ ⟨_, rfl, Hb3.out, HR3.out⟩
  ·obtain ⟨hm1, hm2⟩ := mem_left he
   have hm1' : e ∈ es := by simpa using hm1
   obtain ⟨k, hkm, hke⟩ := Hkey.out e hm1'
   have hke' : e.key = .string ⟨k.toArray⟩ := hke
   have hshr := left_shrinks es.toArray seen e he
   obtain ⟨W3, hW3⟩ : ∃ W3, ChangeMaps.setBlock w2 w.heap.size (.mapIter (some bm) c (seen.push e.born) c) = W3 := ⟨_, rfl⟩
   have hheap : w2.heap = wr.heap := by rcases hw2 with rfl | rfl <;> rfl
   have hgr : wr.grownBy W3 (some w.heap.size) := by
    rw [← hW3]
    refine ⟨by rcases hw2 with rfl | rfl <;> rfl, by rcases hw2 with rfl | rfl <;> rfl, by rcases hw2 with rfl | rfl <;> rfl, by simp [ChangeMaps.setBlock, hheap], fun j hj hne => ?_⟩
    simp only [ChangeMaps.setBlock, hheap]
    rw [Array.getElem?_setIfInBounds, if_neg (fun e => hne (by rw [e]))]
   have hit3 : W3.heap[w.heap.size]? = some (.mapIter (some bm) c (seen.push e.born) c) := by
    rw [← hW3]
    simp only [ChangeMaps.setBlock, hheap]
    rw [Array.getElem?_setIfInBounds, if_pos rfl, if_pos (Array.getElem?_eq_some_iff.1 q1).1]
   have hmap3 : W3.heap[bm]? = some (.map es.toArray c) := by
    rw [hgr.block bm (by have := q8.size; omega) (fun e => by cases e; omega)]
    exact q3
   have hown3 := q4.kept hgr (own_ne q4 q1 (fun _ _ _ e => by cases e))
   have hb3 : Below w.heap.size w W3 := q8.grown hgr (by have := q8.size; omega) (fun k hk => by cases hk; exact Nat.le_refl _)
   have hen := run_entry_at (P := Try.prog) W3 w.heap.size bm c seen es.toArray c e hit3 hmap3 hm1 (by simpa using Hnb.out)
   obtain ⟨vv, hvv⟩ : ∃ vv, e.val = vv := ⟨_, rfl⟩
   obtain ⟨bb, hbb⟩ : ∃ bb, e.born = bb := ⟨_, rfl⟩
   rw [hW3, hke', hvv] at hrun
   rw [hke', hvv] at hen
   rw [hbb] at hshr hit3
   have hseen : ∀ x : MapEntry, (seen.push bb).contains x.born = (seen.contains x.born || x.born == bb) := fun x => contains_push _ _ _
   have honly : ∀ x ∈ es, x.key = strV k → x = e := fun x hx h => by
    obtain ⟨i, hi, rfl⟩ := List.mem_iff_getElem.1 hx
    obtain ⟨j, hj, rfl⟩ := List.mem_iff_getElem.1 hm1'
    have h1 : (es.map (·.key))[i]? = (es.map (·.key))[j]? := by
     rw [List.getElem?_map, List.getElem?_map, List.getElem?_eq_getElem hi, List.getElem?_eq_getElem hj]
     simp only [Option.map_some]
     rw [h, hke]
    have h2 := (List.getElem?_inj (by simpa using hi) Hnkey.out).1 h1
    subst h2; rfl
   have hbinj : ∀ x ∈ es, x.born = bb → x = e := fun x hx h => by
    obtain ⟨i, hi, rfl⟩ := List.mem_iff_getElem.1 hx
    obtain ⟨j, hj, rfl⟩ := List.mem_iff_getElem.1 hm1'
    have h1 : (es.map (·.born))[i]? = (es.map (·.born))[j]? := by
     rw [List.getElem?_map, List.getElem?_map, List.getElem?_eq_getElem hi, List.getElem?_eq_getElem hj]
     simp only [Option.map_some]
     rw [h, hbb]
    have h2 := (List.getElem?_inj (by simpa using hi) Hnb.out).1 h1
    subst h2; rfl
   by_cases hkn : k.length = n
   ·have hkS : k ∉ S := fun h => by
     obtain ⟨x, hx, h1, _, h3⟩ := (q7 k).1 h
     rw [honly x hx h1] at h3
     rw [hm2] at h3
     cases h3
    have hmem : ∀ k', k' ∈ S ++ [k] ↔ ∃ x ∈ es, x.key = strV k' ∧ k'.length = n ∧ (seen.push bb).contains x.born = true := fun k' => by
     rw [List.mem_append, List.mem_singleton]
     constructor
     ·rintro (h | rfl)
      ·obtain ⟨x, hx, h1, h2, h3⟩ := (q7 k').1 h
       exact ⟨x, hx, h1, h2, by rw [hseen, h3]; rfl⟩
      ·exact ⟨e, hm1', hke, hkn, by rw [hseen, hbb, beq_self_eq_true, Bool.or_true]⟩
     ·rintro ⟨x, hx, h1, h2, h3⟩
      rw [hseen, Bool.or_eq_true] at h3
      rcases h3 with h3 | h3
      ·exact .inl ((q7 k').2 ⟨x, hx, h1, h2, h3⟩)
      ·have := hbinj x hx (by simpa using h3)
       subst this
       rw [hke] at h1
       exact .inr (Hinj.out _ _ h1).symm
    have hnd : (S ++ [k]).Nodup := by
     rw [List.nodup_append]
     refine ⟨q5, by simp, fun a ha b hb e => ?_⟩
     rw [List.mem_singleton] at hb
     subst hb; subst e
     exact hkS ha
    have hlen4 : (S ++ [k]).length ≤ 4096 := by
     have h1 : (S ++ [k]).length ≤ ks.length := by
      refine List.Nodup.length_le_of_subset hnd fun x hx => ?_
      obtain ⟨y, hy, h1, _⟩ := (hmem x).1 hx
      obtain ⟨k', hk', h2⟩ := Hkey.out y hy
      rw [h1] at h2
      rw [Hinj.out _ _ h2]; exact hk'
     have h2 : ks.length = es.length := by
      have := congrArg List.length Hk.out
      simpa using this.symm
     have := Hlen.out
     omega
    have hki : ((k.length : Int) = (n : Int)) := by omega
    obtain ⟨i0, hi0, hz0, hz1', hz2⟩ := info_parts (show (Try.prog.info? 9).map (fun i => (i.zero, i.size, i.bytes)) = some (some (.string ⟨#[]⟩), 1, 16) by kernel_rfl)
    have hrk := hown3.alloc (.cells #[.string ⟨k.toArray⟩] 9)
    have Hrk := hid52 hrk
    have Hmem := hid52 hmem
    have Hnd := hid52 hnd
    have Hlen4 := hid52 hlen4
    have Hit3 := hid52 hit3
    have Hmap3 := hid52 hmap3
    have Hown3 := hid52 hown3
    have Hb3 := hid52 hb3
    have Hshr := hid52 hshr
    have Hkn := hid52 hkn
    clear hrk hmem hnd hlen4 hit3 hmap3 hown3 hb3 hshr hkS honly hbinj hseen hgr hheap hW3 hw2 hm1 hm1' hm2 he hke hke' hvv hbb q1 q3 q4 q5 q7 q8 hkn Q1 Q3 Q4 Q5 Q7
    go_wp2_with (at_builtin; refine wpList_append_own _ rfl _ _ 36 rfl w.heap.size 9 i0 (.string ⟨#[]⟩) 1 16 Try.underlying36 hi0 hz0 hz1' hz2 rfl (by decide) _ _ _ rfl Hrk.out ⟨W3.heap.size, 0, none⟩ 1 1 [.string ⟨k.toArray⟩] rfl rfl ?c1 ?c2 ?c3 ?c4 ?c5 ?_)
    case c1 => exact cell_one_new _ _ _
    case c2 => exact fun u hu => by rw [List.mem_singleton.1 hu]; rfl
    case c3 => unfold maxLen; omega
    case c4 => omega
    case c5 => exact Nat.le_trans Hb3.out.size (by simp)
    rintro v4 w4 hown4 hg4 -
    have hlt1 : w.heap.size < W3.heap.size := (Array.getElem?_eq_some_iff.1 Hit3.out).1
    have hC4 : C52 w bm c n es v4 (seen.push bb) (S ++ [k]) w4 := by
     have hne : ∀ {g : Nat} {o : Obj}, W3.heap[g]? = some o → (∀ c t fr, o ≠ .cells c t fr) → w4.heap[g]? = some o := fun {g o} h1 h2 => by
      have hl : g < W3.heap.size := (Array.getElem?_eq_some_iff.1 h1).1
      rw [hg4.block g (by simp; omega) (fun e => (own_ne Hown3.out h1 h2).elim (fun h => by rw [h] at e; cases e) (fun h => h e.symm)), heap_alloc_old _ _ hl]
      exact h1
     refine ⟨c, hne Hit3.out (fun _ _ _ e => by cases e), Nat.le_refl _, hne Hmap3.out (fun _ _ _ e => by cases e), ?_, Hnd.out, Hlen4.out, Hmem.out, ?_⟩
     ·have : (S ++ [k]).map encStr = S.map encStr ++ [.string ⟨k.toArray⟩] := by rw [List.map_append]; rfl
      rw [this, List.length_append]
      exact hown4
     ·exact (Hb3.out.alloc (by omega) _).grown hg4 (by simp; omega) (fun g hk => own_ge52 Hown3.out hk)
    have HC4 := hid52 hC4
    clear hC4 hown4 hg4
    go_wp2_with fail
    go_roundg g'
    case measure => omega
    case rel => exact ⟨_, _, HC4.out, by have := Hshr.out; omega⟩
   ·have hki : ¬ ((k.length : Int) = (n : Int)) := by omega
    have hC4 : C52 w bm c n es u5 (seen.push bb) S W3 := by
     refine ⟨c, hit3, Nat.le_refl _, hmap3, hown3, q5, q6, fun k' => ?_, hb3⟩
     rw [q7 k']
     constructor
     ·rintro ⟨x, hx, h1, h2, h3⟩
      exact ⟨x, hx, h1, h2, by rw [hseen, h3]; rfl⟩
     ·rintro ⟨x, hx, h1, h2, h3⟩
      rw [hseen, Bool.or_eq_true] at h3
      rcases h3 with h3 | h3
      ·exact ⟨x, hx, h1, h2, h3⟩
      ·have := hbinj x hx (by simpa using h3)
       subst this
       rw [hke] at h1
       rw [← Hinj.out _ _ h1] at h2
       exact absurd h2 hkn
    have HC4 := hid52 hC4
    have Hshr := hid52 hshr
    clear hC4 hit3 hmap3 hown3 hb3 hshr honly hbinj hseen hgr hheap hW3 hw2 hm1 hm1' hm2 he hke hke' hvv hbb q1 q3 q4 q5 q7 q8 hkn Q1 Q3 Q4 Q5 Q7
    go_wp2_with fail
    go_roundg g'
    case measure => omega
    case rel => exact ⟨_, _, HC4.out, by have := Hshr.out; omega⟩
end Go.Proofs.Ytmnmfmghmenkkaa
