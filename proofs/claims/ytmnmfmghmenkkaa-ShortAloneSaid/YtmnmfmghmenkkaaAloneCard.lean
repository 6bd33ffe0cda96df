/-
  Slips,as the rows of this seat read them.
  Four slips,and bytes,as the rows of this seat read them: as values.
  ShortAlone in the model: words are made,the parts of one of them are tried.
  ShortAlone: a part that no other word has: all are tried (words of at most 6 letters by numbers)
  Conditions: the row's own (the tables of math/bits are as the text lays them).
-/
import Derived.Carry
import Derived.Sort.AtCall
import Derived.Test.YtmnmfmghmenkkaaPart5
set_option linter.unusedSimpArgs false
set_option linter.unusedVariables false
set_option linter.unusedSectionVars false
namespace Go.Proofs.Ytmnmfmghmenkkaa
open Go.Abs Go.Pur Go.ChangeShapes Go.WideShapes Go.ChangeAt Go.RowKit
set_option maxRecDepth 100000
section
variable {H : Type} {enc : TypeId × Value → H} {W : World} {r : Reach} {b0 : Nat}
theorem trod_arr {P : Program} {w : World} {base : Nat} {spare : Nat → Bool} {held : Bool} {t e : TypeId} {k : IntKind} {n fuel : Nat} {cs : List Value} {x : DataW H × List MemPlace} (ht : P.underlying t = some (.array n e)) (he : P.underlying e = some (.int k)) (hce : P.cellsOf e = 1)
  (h : DataW.trod enc P w base spare held fuel t cs = some x) (hlen : cs.length = n) : ∀ (i : Nat) (c : Value),cs[i]? = some c → ∃ z,c = .int k z ∧ (Lit.int k z).wf = true := by
 intro i c hc
 cases fuel with
 | zero => simp [DataW.trod] at h
 | succ m =>
  unfold DataW.trod at h
  rw [ht] at h
  simp only [hce] at h
  split at h
  ·simp only [Option.map_eq_some_iff] at h
   obtain ⟨xs,hp,_⟩ := h
   have hi : i < n := by
    rw [← hlen]
    exact (List.getElem?_eq_some_iff.1 hc).1
   have hl := mapM_some_length hp
   have := mapM_some_get hp i i (by simp [hi])
   rw [List.getElem?_eq_getElem (by rw [hl]; simpa using hi)] at this
   have hd : (cs.drop (i * 1)).take 1 = [c] := by
    rw [Nat.mul_one,List.drop_eq_getElem_cons (by omega)]
    simp [(List.getElem?_eq_some_iff.1 hc).2]
   rw [hd] at this
   obtain ⟨z,e1,_,e2⟩ := DataW.trod_int he this
   simp only [List.cons.injEq,and_true] at e1
   exact ⟨z,e1,e2⟩
  ·cases h
theorem trod_two {P : Program} {w : World} {base : Nat} {spare : Nat → Bool} {held : Bool} {t : TypeId} {f0 f1 : Field} {fuel : Nat} {cs : List Value} {x : DataW H × List MemPlace} (ht : P.underlying t = some (.struct #[f0,f1])) (h : DataW.trod enc P w base spare held fuel t cs = some x) :
  ∃ y0 y1 n,x = (.agg [y0.1,y1.1],y0.2 ++ y1.2) ∧ cs.length = P.cellsOf t ∧ DataW.trod enc P w base spare held n f0.type ((cs.drop f0.offset).take (P.cellsOf f0.type)) = some y0 ∧
   DataW.trod enc P w base spare held n f1.type ((cs.drop f1.offset).take (P.cellsOf f1.type)) = some y1 := by
 obtain ⟨xs,n,_,rfl,hl,hlen,hf⟩ := DataW.trod_struct ht h
 match xs,hlen with
 | [y0,y1],_ => exact ⟨y0,y1,n,by simp,hl,by simpa using hf 0 f0 rfl,by simpa using hf 1 f1 rfl⟩
theorem byteI_wf {z : Int} (h : (Lit.int .u8 z).wf = true) : byteI z := by
 have h3 : 0 ≤ z ∧ z ≤ 255 := by simpa [Lit.wf,IntKind.min,IntKind.max,IntKind.has,IntKind.signed,IntKind.bits] using h
 exact h3
theorem cells52 : Try.prog.cellsOf 52 = 10 := by kernel_rfl
theorem cells54 : Try.prog.cellsOf 54 = 11 := by kernel_rfl
theorem cells5s : Try.prog.cellsOf 5 = 1 := by kernel_rfl
end
section
variable {H : Type} {enc : TypeId × Value → H} {P : Program} {w : World} {base : Nat} {spare : Nat → Bool} {held : Bool}
end
end Go.Proofs.Ytmnmfmghmenkkaa
set_option linter.unusedSimpArgs false
set_option linter.unusedVariables false
set_option linter.unusedSectionVars false
namespace Go.Proofs.Ytmnmfmghmenkkaa
open Go.Abs Go.Pur Go.ChangeShapes Go.WideShapes Go.ChangeAt Go.RowKit
set_option maxRecDepth 100000
section
variable {H : Type} {enc : TypeId × Value → H} {W : World} {r : Reach} {b0 : Nat}
theorem okWide_arr4 {P : Program} {w : World} {r : Reach} {base : Nat} {t e : TypeId} {n : Nat} {v : Value} (ht : P.underlying t = some (.array n e)) (h : Value.okWide P w r base t v) : ∃ cs,v = .agg cs ∧ cs.size = P.cellsOf t := by
 unfold Value.okWide at h
 rw [ht] at h
 cases v <;> simp_all
theorem trod_arrE {P : Program} {w : World} {base : Nat} {spare : Nat → Bool} {held : Bool} {t e : TypeId} {n fuel : Nat} {cs : List Value} {x : DataW H × List MemPlace} (ht : P.underlying t = some (.array n e))
  (h : DataW.trod enc P w base spare held fuel t cs = some x) : ∀ i,i < n → ∃ m y,DataW.trod enc P w base spare held m e ((cs.drop (i * P.cellsOf e)).take (P.cellsOf e)) = some y := by
 intro i hi
 cases fuel with
 | zero => simp [DataW.trod] at h
 | succ m =>
  unfold DataW.trod at h
  rw [ht] at h
  simp only [] at h
  split at h
  ·simp only [Option.map_eq_some_iff] at h
   obtain ⟨xs,hp,_⟩ := h
   have hl := mapM_some_length hp
   have := mapM_some_get hp i i (by simp [hi])
   rw [List.getElem?_eq_getElem (by rw [hl]; simpa using hi)] at this
   exact ⟨m,_,this⟩
  ·cases h
theorem bytes_of : ∀ {cs : List Value},(∀ (i : Nat) c,cs[i]? = some c → ∃ z,c = .int .u8 z ∧ (Lit.int .u8 z).wf = true) → ∃ xs,cs = Lib.byteCells xs
 | [],_ => ⟨[],rfl⟩
 | c :: cs,h => by
  obtain ⟨z,rfl,hw⟩ := h 0 c rfl
  obtain ⟨xs,hx⟩ := bytes_of (cs := cs) fun i c hc => h (i + 1) c hc
  have hb := byteI_wf hw
  refine ⟨UInt8.ofNat z.toNat :: xs, ?_⟩
  rw [hx]
  simp only [Lib.byteCells,List.map_cons]
  congr 2
  rw [UInt8.toNat_ofNat']
  obtain ⟨h1,h2⟩ := hb
  omega
theorem cells66 : Try.prog.cellsOf 66 = 44 := by kernel_rfl
theorem val_four {v : Value} {ds : DataW H} {ps : List MemPlace} (hv : Value.okWide Try.prog W r b0 66 v) (h : DataW.Trod enc Try.prog W 0 (fun _ => true) true 66 v ds ps) :
  ∃ xs : List UInt8,xs.length = 44 ∧ v = .agg (Lib.byteCells xs).toArray := by
 obtain ⟨cs,rfl,hs⟩ := okWide_arr4 Try.underlying66 hv
 obtain ⟨fuel,h⟩ := h
 rw [cells66] at hs
 have hcs : (Value.agg cs).cells.toList = cs.toList := rfl
 have key := trod_arrE Try.underlying66 h
 rw [cells54] at key
 obtain ⟨xs,hx⟩ := bytes_of (cs := cs.toList) fun i c hc => by
  have hi : i < 44 := by have := (List.getElem?_eq_some_iff.1 hc).1; simpa [hs] using this
  obtain ⟨m,y,hy⟩ := key (i / 11) (by omega)
  obtain ⟨y0,y1,n,_,hl,h0,h1⟩ := trod_two Try.underlying54 hy
  have hd : ∀ j,j < 11 → (((Value.agg cs).cells.toList.drop (i / 11 * 11)).take 11)[j]? = cs.toList[i / 11 * 11 + j]? := fun j hj => by
   rw [hcs,List.getElem?_take,if_pos hj,List.getElem?_drop]
  by_cases hz : i % 11 = 0
  ·obtain ⟨z,e1,_,e2⟩ := DataW.trod_int Try.underlying5 h0
   rw [cells5s] at e1
   have h3 := hd 0 (by omega)
   have h4 : (((((Value.agg cs).cells.toList.drop (i / 11 * 11)).take 11).drop 0).take 1)[0]? = some (Value.int .u8 z) := by
    have : ((((Value.agg cs).cells.toList.drop (i / 11 * 11)).take 11).drop 0).take 1 = [Value.int .u8 z] := e1
    rw [this]; rfl
   rw [List.getElem?_take,if_pos (by omega),List.drop_zero,h3,show i / 11 * 11 + 0 = i by omega,hc] at h4
   exact ⟨z,Option.some.inj h4,e2⟩
  ·have key2 := trod_arr Try.underlying52 Try.underlying5 cells5s h1 (by
    rw [cells52,List.length_take,List.length_drop,List.length_take,List.length_drop]
    show min 10 (min 11 (cs.toList.length - i / 11 * 11) - 1) = 10
    simp [hs]; omega)
   rw [cells52] at key2
   refine key2 (i % 11 - 1) c ?_
   show ((((((Value.agg cs).cells.toList.drop (i / 11 * 11)).take 11).drop 1).take 10))[i % 11 - 1]? = some c
   rw [List.getElem?_take,if_pos (by omega),List.getElem?_drop,hd _ (by omega),← hc]
   congr 1
   omega
 refine ⟨xs, ?_, ?_⟩
 ·have := congrArg List.length hx
  rw [Lib.byteCells_length] at this
  simpa [hs] using this.symm
 ·rw [← hx]
theorem val_u8 {v : Value} {d : DataW H} {ps : List MemPlace} (hv : Value.okWide Try.prog W r b0 5 v) (h : DataW.Trod enc Try.prog W 0 (fun _ => true) true 5 v d ps) : ∃ n : UInt8,v = .int .u8 n.toNat := by
 obtain ⟨z,rfl,_,h2⟩ := arg_int Try.underlying5 hv h
 obtain ⟨h1,h3⟩ := byteI_wf h2
 refine ⟨UInt8.ofNat z.toNat, ?_⟩
 congr 1
 rw [UInt8.toNat_ofNat']
 omega
end
end Go.Proofs.Ytmnmfmghmenkkaa
set_option linter.unusedSimpArgs false
set_option linter.unusedVariables false
namespace Go.Proofs.Ytmnmfmghmenkkaa
open Go.RowKit Go.Abs Go.Pur Go.Lib
set_option maxRecDepth 1000000
set_option maxHeartbeats 8000000
def Tabs (W : World) : Prop := ∀ (i : Nat) (B : Blk) (L : Abs.Loc),tabs[i]? = some B → tabLocs[i]? = some L → Lies W B L
theorem Tabs.of {W : World} (hS : W.ShapedOpen Try.prog) : Tabs W := fun i B L hB hL => by
 match i,hB,hL with
 | 0,hB,hL => cases hB; cases hL; exact lies_bare 3 hS (by rw [nglob]; decide) z0.2
 | i + 1,hB,hL => simp [tabs] at hB
theorem Tabs.size {W : World} (h : Tabs W) : 0 < W.heap.size := (h 0 _ _ rfl rfl).2.2.1
theorem Tabs.below {W W' : World} {n : Nat} (h : Tabs W) (hn : 0 < n) (hb : Below n W W') : Tabs W' := fun i B L hB hL => by
 match i,hB,hL with
 | 0,hB,hL => cases hB; cases hL; exact Go.Pur.Lies.below (h 0 _ _ rfl rfl) hn hb
 | i + 1,hB,hL => simp [tabs] at hB
theorem pureP {W : World} (hT : Tabs W) {f : FuncId} {us : List PV} {vs : List Value} {rs : List Value} {hp' : List (Option (List PV))} {wl : Option Nat} (hrs : rs.all okP = true) (hA : ArgsIn W vs us) (hE : E Try.prog Y0 f us [] = some (pPack (rs.map .v),hp',wl)) :
  Calls Try.prog f vs.toArray W fun e W' => e = .returned (packed rs) ∧ Below W.heap.size W W' :=
 pure_calls mix ok ext_ok (G := tabs) (GL := tabLocs) (by simp [tabs]) rfl tabs_wr hT (fun g hg => by
  rw [nglob] at hg
  match g,hg with
  | 0,_ => rfl) grOf hrs hA hE
theorem pureD {W : World} (hT : Tabs W) {f : FuncId} {us : List PV} {vs : List Value} {r : PV} {a : KA} {hp' : List (Option (List PV))} {wl : Option Nat} (hra : paArg r = some a) (hA : ArgsIn W vs us) (hE : E Try.prog Y0 f us [] = some (r,hp',wl)) :
  Calls Try.prog f vs.toArray W fun e W' => ∃ v,e = .returned v ∧ LDen W' v a ∧ Below W.heap.size W W' :=
 pure_den mix ok ext_ok (G := tabs) (GL := tabLocs) (by simp [tabs]) rfl tabs_wr hT (fun g hg => by
  rw [nglob] at hg
  match g,hg with
  | 0,_ => rfl) grOf hra hA hE
theorem arg_text {W : World} (w : List UInt8) : ArgIn W (.string ⟨w.toArray⟩) (.v (.string (bs w))) := .one _ _ (.plain _ rfl (fun _ _ e => by cases e))
theorem parts_calls {W : World} (hT : Tabs W) (w : List UInt8) (hw : w.length ≤ 10) : Calls Try.prog 50 #[.string ⟨w.toArray⟩] W fun e W' => ∃ b,e = .returned (.map (some b)) ∧
  W'.heap[b]? = some (.map (mE sV (Value.int .i64) (prtM w (2 ^ w.length)).1).toArray (prtM w (2 ^ w.length)).2) ∧ Below W.heap.size W W' := by
 refine (pureD hT (f := 50) (vs := [.string ⟨w.toArray⟩]) rfl (.cons _ _ _ _ (arg_text w) .nil) (f50_is (hp := []) (f50_law hw (Nat.le_refl 1100)))).mono ?_
 rintro e W' ⟨v,rfl,hd,hb⟩
 cases hd with
 | m b es c h => exact ⟨b,rfl,h,hb⟩
def wd (xs : List UInt8) (j : Nat) : List UInt8 := (((xs.drop (j * 11 + 1)).take (10 : Nat)).take ((xs.getD (j * 11) 0).toNat % 7)).map (lt 3)
def wds (xs : List UInt8) (n : Nat) : List (List UInt8) := (List.range n).map (wd xs)
def Post13 (w : World) (e : Ending) (w' : World) : Prop := e = .returned (.bool true) ∧ Below w.heap.size w w'
theorem slice66 (w : World) (b n : Nat) (hn : n ≤ 4) : (Instr.sliceAt 66 (.pointer (some ⟨b,0,none⟩)) none (some (.int .i64 n)) none).run Try.prog w = .ok (.slice (some ⟨b,0,none⟩) n 4) w := by
 have ha : Try.prog.arrayLen 66 = 4 := by simp [Program.arrayLen,Try.underlying66]
 have he : Try.prog.elem 66 = 54 := by simp [Program.elem,Try.underlying66]
 obtain ⟨i0,hi,hz1⟩ : ∃ i0,Try.prog.info? 54 = some i0 ∧ i0.size = 11 := by
  have : (Try.prog.info? 54).map (·.size) = some 11 := by kernel_rfl
  cases h : Try.prog.info? 54 with
  | none => rw [h] at this; cases this
  | some i => rw [h] at this; exact ⟨i,rfl,Option.some.inj this⟩
 rw [run_sliceAt_array_h w 66 ⟨b,0,none⟩ (by rw [ha,he]; exact Try.underlying66) .i64 (n : Int) (by omega) (by rw [ha]; omega),ha,he]
 have hs : (sizeOf 54).run Try.prog w = .ok 11 w := by
  have hi' : Try.prog.info? 54 = some i0 := hi
  simp [sizeOf,typeInfo,hi',hz1,go_sem]
 rw [hs]
 simp [Result.andThen,slicedAt,Addr.add]
theorem own_fresh {w : World} {B e n : Nat} {v : Value} {xs : List Value} (h : w.ownsRow B e 1 v n xs) : v.ownBlock = none ∨ v.ownBlock ≠ some w.heap.size := by
 rcases h.2 with ⟨rfl,_⟩ | ⟨g',cap,cur,rfl,_,hb,_⟩
 ·exact .inl rfl
 ·refine .inr fun e => ?_
  injection e with e
  have := (Array.getElem?_eq_some_iff.1 hb).1
  simp only [] at e
  omega
theorem own_below {w w' : World} {B e n N : Nat} {v : Value} {xs : List Value} (h : w.ownsRow B e 1 v n xs) (hb : Below N w w') (hN : w.heap.size ≤ N) : w'.ownsRow B e 1 v n xs := by
 refine ⟨h.1,h.2.imp (fun h => h) ?_⟩
 rintro ⟨g,cap,cur,h1,h2,h3,h4⟩
 exact ⟨g,cap,cur,h1,h2,(hb.block g (Nat.lt_of_lt_of_le (Array.getElem?_eq_some_iff.1 h3).1 hN)).trans h3,h4⟩
theorem sz_slt {n : Nat} {w : List UInt8} : (sz n w).Pairwise slt := by
 have h1 : ∀ p ∈ sz n w,p.length = n := fun p hp => (sz_mem hp).2
 exact (sz_sorted (n := n) (w := w)).imp_of_mem fun {a b} ha hb h => .inr ⟨by rw [h1 a ha,h1 b hb],h⟩
theorem pts_sorted {w : List UInt8} : ∀ {l : List Nat},l.Pairwise (· < ·) → (l.flatMap fun j => sz j w).Pairwise slt := by
 intro l
 induction l with
 | nil => intro _; exact List.Pairwise.nil
 | cons j l ih =>
  intro h
  obtain ⟨h1,h2⟩ := List.pairwise_cons.1 h
  rw [List.flatMap_cons,List.pairwise_append]
  refine ⟨sz_slt,ih h2,fun a ha b hb => ?_⟩
  obtain ⟨k,hk,hb⟩ := List.mem_flatMap.1 hb
  have := h1 k hk
  exact .inl (by rw [(sz_mem ha).2,(sz_mem hb).2]; exact this)
theorem short_fin {vs : List (List UInt8)} {k : Nat} {V : List UInt8} {L : List (List UInt8)} {b : List UInt8} {is : Bool} {D : List UInt8 → Bool} (h8 : vs.length ≤ 8) (hch : chkL vs = 0) (hk : k < vs.length) (hvk : vs[k]? = some V) (hl6 : ∀ c ∈ V,c ∈ lets 6)
  (hL : ∀ p,p ∈ L ↔ leftW V p = true) (hD : ∀ p,D p = !((othL vs k).any fun u => leftW u p)) (hB : Bst D L b is) : shortL vs (k : Int) = if is then (b,0) else ([],12) := by
 unfold shortL
 rw [if_neg (by omega),if_neg (by rw [hch]; simp),if_neg (by omega)]
 have e1 : vs.getD (k : Int).toNat [] = V := by rw [Int.toNat_natCast,List.getD_eq_getElem?_getD,hvk]; rfl
 have e2 : ptsL V = (List.range (V.length + 1)).flatMap fun j => sz j V := by
  unfold ptsL
  rw [List.flatMap_def,List.flatMap_def]
  congr 1
  refine List.map_congr_left fun t ht => ?_
  exact srt_eq hl6 (by have := List.mem_range.1 ht; omega)
 have hmem : ∀ p,p ∈ (List.range (V.length + 1)).flatMap (fun j => sz j V) ↔ p ∈ L := fun p => by
  rw [hL,List.mem_flatMap]
  constructor
  ·rintro ⟨j,_,hj⟩; exact (sz_mem hj).1
  ·intro h
   exact ⟨p.length,List.mem_range.2 (by have := (leftW_sub.1 h).length_le; omega),sz_all hl6 h rfl⟩
 rw [e1,e2,Int.toNat_natCast]
 have e3 : (fun p => !((othL vs k).any fun v => leftW v p)) = D := funext fun p => (hD p).symm
 rw [e3]
 cases is with
 | false =>
  have : ((List.range (V.length + 1)).flatMap fun j => sz j V).find? D = none := List.find?_eq_none.2 fun p hp => by rw [hB.2 p ((hmem p).1 hp)]; simp
  rw [this]
  rfl
 | true =>
  obtain ⟨hb1,hb2,hb3⟩ := hB
  have hbm := (hmem b).2 hb1
  cases hf : ((List.range (V.length + 1)).flatMap fun j => sz j V).find? D with
  | none => exact absurd hb2 (by simpa using List.find?_eq_none.1 hf b hbm)
  | some r =>
   have : r = b := by
    obtain ⟨hr,a0,b0,hab,hna⟩ := List.find?_eq_some_iff_append.1 hf
    have hs := pts_sorted (w := V) (l := List.range (V.length + 1)) List.pairwise_lt_range
    rw [hab] at hbm hs
    rcases List.mem_append.1 hbm with h | h
    ·have := hna b h
     rw [hb2] at this
     cases this
    ·rcases List.mem_cons.1 h with rfl | h
     ·rfl
     ·have h5 := (List.pairwise_append.1 hs).2.1
      have h6 := (List.pairwise_cons.1 h5).1 b h
      have hrm : r ∈ (List.range (V.length + 1)).flatMap fun j => sz j V := by rw [hab]; simp
      exact absurd h6 (hb3 r ((hmem r).1 hrm) hr)
   rw [this]
   rfl
def alo (vs : List (List UInt8)) (k : Nat) (p : List UInt8) (j : Nat) : Bool := (List.range j).all fun i => decide (i = k) || !(leftW (vs.getD i []) p)
theorem alo_succ {vs : List (List UInt8)} {k j : Nat} {p u : List UInt8} (hu : vs[j]? = some u) : alo vs k p (j + 1) = (alo vs k p j && (decide (j = k) || !(leftW u p))) := by
 unfold alo
 rw [List.range_succ,List.all_append]
 simp [List.getD_eq_getElem?_getD,hu]
theorem alo_oth {l : List (List UInt8)} {k : Nat} (hk : k < l.length) {p : List UInt8} : alo l k p l.length = !((othL l k).any fun v => leftW v p) := by
 unfold alo
 rw [Bool.eq_iff_iff]
 simp only [List.all_eq_true,List.mem_range,Bool.or_eq_true,decide_eq_true_eq,Bool.not_eq_true',List.any_eq_false,Bool.not_eq_true]
 unfold othL
 constructor
 ·intro h v hv
  rcases List.mem_append.1 hv with h1 | h1
  ·obtain ⟨j,hj,rfl⟩ := List.mem_iff_getElem.1 h1
   rw [List.length_take] at hj
   rw [List.getElem_take]
   have := (h j (by omega)).resolve_left (by omega)
   rwa [List.getD_eq_getElem?_getD,List.getElem?_eq_getElem (by omega)] at this
  ·obtain ⟨j,hj,rfl⟩ := List.mem_iff_getElem.1 h1
   rw [List.length_drop] at hj
   rw [List.getElem_drop]
   have := (h (k + 1 + j) (by omega)).resolve_left (by omega)
   rwa [List.getD_eq_getElem?_getD,List.getElem?_eq_getElem (by omega)] at this
 ·intro h j hj
  by_cases hjk : j = k
  ·exact .inl hjk
  ·refine .inr ?_
   rw [List.getD_eq_getElem?_getD,List.getElem?_eq_getElem hj]
   refine h l[j] ?_
   by_cases hlt : j < k
   ·refine List.mem_append_left _ (List.mem_iff_getElem.2 ⟨j,by rw [List.length_take]; omega, ?_⟩)
    rw [List.getElem_take]
   ·refine List.mem_append_right _ (List.mem_iff_getElem.2 ⟨j - (k + 1),by rw [List.length_drop]; omega, ?_⟩)
    rw [List.getElem_drop]
    congr 1
    omega
theorem lt3 {c : UInt8} : lt 3 c ∈ lets 3 := by
 unfold lt
 have h : ((c.toNat : Int).tmod 3).toNat < 3 := by
  rw [Int.tmod_eq_emod_of_nonneg (by omega)]
  omega
 generalize ((c.toNat : Int).tmod 3).toNat = m at h
 match m,h with
 | 0,_ => decide
 | 1,_ => decide
 | 2,_ => decide
theorem wd_ok {xs : List UInt8} {j : Nat} : (wd xs j).length ≤ 6 ∧ ∀ c ∈ wd xs j,c ∈ lets 3 := by
 unfold wd
 constructor
 ·rw [List.length_map,List.length_take]
  have := Nat.mod_lt (xs.getD (j * 11) 0).toNat (show 0 < 7 by omega)
  omega
 ·intro c hc
  obtain ⟨x,_,rfl⟩ := List.mem_map.1 hc
  exact lt3
theorem chkL_all : ∀ {vs : List (List UInt8)},(∀ v ∈ vs,checkW v = 0) → chkL vs = 0
 | [],_ => rfl
 | v :: vs,h => by
  unfold chkL
  rw [if_pos (h v List.mem_cons_self)]
  exact chkL_all fun u hu => h u (List.mem_cons_of_mem _ hu)
theorem alone_calls (xs : List UInt8) (hx : xs.length = 44) (many which : UInt8) (w : World) (hT : Tabs w) :
  Calls Try.prog 13 #[.agg (Lib.byteCells xs).toArray,.int .u8 many.toNat,.int .u8 which.toNat] w fun e w' => Post13 w e w' := by
 have mixed : Try.prog.follows .mixedOrders = true := by kernel_rfl
 obtain ⟨n,hn,hn1,hn4⟩ : ∃ n : Nat,many.toNat % 4 + 1 = n ∧ 1 ≤ n ∧ n ≤ 4 := ⟨_,rfl,by omega,by have := Nat.mod_lt many.toNat (show 0 < 4 by omega); omega⟩
 have hmi : 1 + (wrap64 (many.toNat : Int)).tmod 4 = (n : Int) := by
  rw [wrap_u8,Int.tmod_eq_emod_of_nonneg (by omega),← hn]
  omega
 have HT := hid70 hT
 clear hT
 go_enter Try.func13,Try.ntmps13
 go_wp2_with fail
 have hsl : (Instr.sliceAt 66 (Value.pointer (some { block := w.heap.size,off := 0 })) none (some (.int .i64 (n : Int))) none).run Try.prog (w.alloc (.cells (Lib.byteCells xs).toArray 66)) = _ := slice66 _ _ _ hn4
 simp only [hmi,hsl,Result.andThen]
 rw [Oper.upon_value]
 obtain ⟨w1,hw1⟩ : ∃ w1,w.alloc (.cells (Lib.byteCells xs).toArray 66) = w1 := ⟨_,rfl⟩
 have hz1 : w1.heap.size = w.heap.size + 1 := by rw [← hw1]; simp
 have hcl : w1.heap[w.heap.size]? = some (.cells (Lib.byteCells xs).toArray 66) := by rw [← hw1]; exact heap_alloc_new _ _
 have hB1 : Below w.heap.size w w1 := by rw [← hw1]; exact (Below.refl _ _).alloc (Nat.le_refl _) _
 rw [hw1]
 have Hcl := hid70 hcl
 have HB1 := hid70 hB1
 clear hcl hB1 hw1 hsl hmi
 go_wp2_with fail
 go_loopg [7,27] (n + 1) (fun gk s7 s27 wx => ∃ i : Nat,s27 = .int .i64 (i : Int) ∧ i ≤ n ∧ n < i + gk ∧ wx.ownsRow (w.heap.size + 1) 9 1 s7 i ((wds xs i).map encStr) ∧ Below (w.heap.size + 1) w1 wx)
 case atStart => exact ⟨0,rfl,by omega,by omega,⟨rfl,.inl ⟨rfl,rfl⟩⟩,Below.refl _ _⟩
 case round =>
  obtain ⟨i,rfl,hi,hg,hown,hb⟩ := hrel
  by_cases hlt : i < n
  ·obtain ⟨g',rfl⟩ : ∃ g',gk = g' + 1 := ⟨gk - 1,by omega⟩
   have hr : wr.rangeAt w.heap.size (i * 11) (Lib.byteCells ((xs.drop (i * 11)).take 11)) := fun j v hv => by
    rw [hb.cell (p := ⟨w.heap.size,i * 11 + j,none⟩) (Nat.lt_succ_self _)]
    simp only [World.cell?,Hcl.out]
    have hj : j < 11 := by
     have := (List.getElem?_eq_some_iff.1 hv).1
     rw [Lib.byteCells_length,List.length_take] at this
     omega
    rw [← hv]
    simp only [Lib.byteCells,List.getElem?_toArray,List.getElem?_map,List.getElem?_take,if_pos hj,List.getElem?_drop]
    rfl
   obtain ⟨ys,hys⟩ : ∃ ys,(xs.drop (i * 11)).take 11 = ys := ⟨_,rfl⟩
   rw [hys] at hr
   have hyl : ys.length = 11 := by rw [← hys,List.length_take,List.length_drop]; omega
   have Hr := hid70 hr
   have Hsz : Hid ((Try.prog.info? 54).map (·.size) = some (Lib.byteCells ys).length) := hid70 (by rw [Lib.byteCells_length,hyl]; kernel_rfl)
   obtain ⟨c0,hc0⟩ : ∃ c0,ys[0]? = some c0 := ⟨_,List.getElem?_eq_getElem (by omega)⟩
   have HM : Hid (∀ W,Calls Try.prog 51 #[.agg (Lib.byteCells ys).toArray,.int .i64 (6 : Nat),.int .i64 (3 : Nat)] W fun e w' => e = .returned (.string ⟨(wd xs i).toArray⟩) ∧ Below W.heap.size W w') := hid70 fun W => by
    have h := made_calls ys hyl 6 3 W c0 hc0 (by omega) (by omega) (by omega)
    have e1 : ((ys.drop 1).take (c0.toNat % (6 + 1))).map (lt ((3 : Nat) : Int)) = wd xs i := by
     unfold wd
     have h1 : xs.getD (i * 11) 0 = c0 := by
      rw [← hys,List.getElem?_take,if_pos (by omega),List.getElem?_drop] at hc0
      rw [List.getD_eq_getElem?_getD]
      simp at hc0
      rw [hc0]; rfl
     rw [h1,← hys,List.drop_take,List.drop_drop]
     rfl
    rw [e1] at h
    exact h
   have hbl : (Lib.byteCells ys).length = 11 := by rw [Lib.byteCells_length,hyl]
   obtain ⟨wa,hwa⟩ : ∃ wa,wr.alloc (.cells #[.int .u8 0,.int .u8 0,.int .u8 0,.int .u8 0,.int .u8 0,.int .u8 0,.int .u8 0,.int .u8 0,.int .u8 0,.int .u8 0,.int .u8 0] 54) = wa := ⟨_,rfl⟩
   have hth : wa.there wr.heap.size 0 (Lib.byteCells ys).toArray.size := fun j hj => by
    have hj2 : j < 11 := by simpa [hbl] using hj
    have e : wa.heap[wr.heap.size]? = some (.cells #[.int .u8 0,.int .u8 0,.int .u8 0,.int .u8 0,.int .u8 0,.int .u8 0,.int .u8 0,.int .u8 0,.int .u8 0,.int .u8 0,.int .u8 0] 54) := by rw [← hwa]; exact heap_alloc_new _ _
    constructor
    ·simp [World.cell?,e]; omega
    ·simp [World.frozen?,e]
   have Hth := hid70 hth
   have h1c : (Lib.byteCells ys).toArray.all (·.oneCell') = true := all_oneCell_toArray fun v hv => by
    unfold Lib.byteCells at hv
    obtain ⟨c,_,rfl⟩ := List.mem_map.1 hv
    rfl
   have H1c := hid70 h1c
   have hrs := World.rangeAt_setCells_same wa wr.heap.size 0 (Lib.byteCells ys) (by simpa using hth)
   have hgs : wa.grownBy (wa.setCells wr.heap.size 0 (Lib.byteCells ys)) (some wr.heap.size) := setCells_grown
   have hwz : wa.heap.size = wr.heap.size + 1 := by rw [← hwa]; simp
   obtain ⟨ws,hws⟩ : ∃ ws,wa.setCells wr.heap.size 0 (Lib.byteCells ys) = ws := ⟨_,rfl⟩
   have hws2 : wa.setCells wr.heap.size 0 (Lib.byteCells ys).toArray.toList = ws := hws
   rw [hws] at hrs hgs
   have hzr : w.heap.size + 1 ≤ wr.heap.size := by have := hb.size; omega
   have hbs : Below (w.heap.size + 1) w1 ws := (by rw [← hwa]; exact hb.alloc (by omega) _ : Below (w.heap.size + 1) w1 wa).grown hgs (by omega) (fun k hk => by cases hk; exact hzr)
   have Hrs := hid70 hrs
   have Hbs := hid70 hbs
   have hos : ws.ownsRow (w.heap.size + 1) 9 1 u7 i ((wds xs i).map encStr) := by
    have h0 : wa.ownsRow (w.heap.size + 1) 9 1 u7 i ((wds xs i).map encStr) := by rw [← hwa]; exact hown.alloc _
    exact own_kept h0 hgs (own_fresh hown)
   have Hos := hid70 hos
   have Hws := hid70 hws2
   have Hwa := hid70 hwa
   clear hr hown hb hys hyl hc0 hth h1c hrs hgs hws hws2 hbs hos hwa
   obtain ⟨i0,hi0,hz0,hz1',hz2⟩ := info_parts (show (Try.prog.info? 9).map (fun i => (i.zero,i.size,i.bytes)) = some (some (.string ⟨#[]⟩),1,16) by kernel_rfl)
   go_wp2_with (first | (refine wpList_load_mid rfl 54 _ rfl w.heap.size (i * 11) rfl (Lib.byteCells ys) _ Hr.out Try.underlying54 rfl Hsz.out ?_) | (rw [Hwa.out]; refine wpList_store_mid rfl 54 _ _ rfl wr.heap.size 0 (Lib.byteCells ys).toArray rfl rfl Hth.out Hsz.out H1c.out ?_; rw [Hws.out]) | (refine wpList_load_mid rfl 54 _ rfl wr.heap.size 0 rfl (Lib.byteCells ys) _ Hrs.out Try.underlying54 rfl Hsz.out ?_) | (go_at_call 51; refine (HM.out _).mono ?_; rintro e wb ⟨rfl,bb⟩; have Hrk := hid70 ((own_below Hos.out bb (Nat.le_refl _)).alloc (.cells #[.string ⟨(wd xs i).toArray⟩] 9))) | (at_builtin; refine wpList_append_own _ rfl _ _ 36 rfl (w.heap.size + 1) 9 i0 (.string ⟨#[]⟩) 1 16 Try.underlying36 hi0 hz0 hz1' hz2 rfl (by decide) _ _ _ rfl Hrk.out ⟨wb.heap.size,0,none⟩ 1 1 [.string ⟨(wd xs i).toArray⟩] rfl rfl ?c1 ?c2 ?c3 ?c4 ?c5 ?_))
   case c1 => exact cell_one_new _ _ _
   case c2 => exact fun u hu => by rw [List.mem_singleton.1 hu]; rfl
   case c3 => unfold maxLen; omega
   case c4 => omega
   case c5 => exact Nat.le_trans (Nat.le_trans (Nat.le_of_eq hz1.symm) (Nat.le_trans Hbs.out.size bb.size)) (by simp)
   rintro v4 w4 hown4 hg4 -
   have hown5 : w4.ownsRow (w.heap.size + 1) 9 1 v4 (i + 1) ((wds xs (i + 1)).map encStr) := by
    have : (wds xs (i + 1)).map encStr = (wds xs i).map encStr ++ [.string ⟨(wd xs i).toArray⟩] := by
     unfold wds
     rw [List.range_succ,List.map_append,List.map_append]
     rfl
    rw [this]
    exact hown4
   have hbzs : w.heap.size + 1 ≤ ws.heap.size := Nat.le_trans (Nat.le_of_eq hz1.symm) Hbs.out.size
   have hb5 : Below (w.heap.size + 1) w1 w4 := ((Hbs.out.trans (bb.mono hbzs)).alloc (Nat.le_trans hbzs bb.size) _).grown hg4 (by have := Nat.le_trans hbzs bb.size; simp; omega) (fun g hk => own_ge52 Hos.out hk)
   have Hown5 := hid70 hown5
   have Hb5 := hid70 hb5
   have HJ := hid70 (show (i : Int) + 1 = ((i + 1 : Nat) : Int) by omega)
   clear hown4 hg4 hown5 hb5 Hr Hsz HM Hth H1c Hrs Hbs Hos Hws Hwa Hrk bb
   go_wp2_with fail
   go_roundg g'
   case measure => omega
   case rel => exact ⟨i + 1,by rw [← HJ.out],by omega,by omega,Hown5.out,Hb5.out⟩
  ·obtain rfl : i = n := by omega
   obtain ⟨wo,rfl⟩ : ∃ wo,wo = wr := ⟨_,rfl⟩
   obtain ⟨vs,hvs⟩ : ∃ vs,wds xs i = vs := ⟨_,rfl⟩
   have hvl : vs.length = i := by rw [← hvs]; simp [wds]
   rw [hvs] at hown
   obtain ⟨g,cap,cur,rfl,hBg,hbg,hn1',hn2',hn3',hn4'⟩ := own_some52 hown (by omega)
   have hvall : ∀ v ∈ vs,v.length ≤ 6 ∧ ∀ c ∈ v,c ∈ lets 6 := fun v hv => by
    rw [← hvs] at hv
    unfold wds at hv
    obtain ⟨j,_,rfl⟩ := List.mem_map.1 hv
    exact ⟨wd_ok.1,fun c hc => lets_up (by omega) (wd_ok.2 c hc)⟩
   have hch : chkL vs = 0 := chkL_all fun v hv => checkW_ok (by have := (hvall v hv).1; omega) (hvall v hv).2
   have hcells : ∀ W,Below wo.heap.size wo W → ∀ (j : Nat) u,vs[j]? = some u → W.cell? ⟨g,0 + j,none⟩ = some (.string ⟨u.toArray⟩) := fun W hW j u hu => by
    have h1 := hown.cells rfl j (encStr u) (by rw [List.getElem?_map,hu]; rfl)
    rw [Addr.add_lit] at h1
    exact (hW.cell (World.block_lt_of_cell? wo _ h1)).trans h1
   obtain ⟨k,hkm,hkl⟩ : ∃ k : Nat,which.toNat % i = k ∧ k < i := ⟨_,rfl,Nat.mod_lt _ (by omega)⟩
   have hmi2 : (wrap64 (which.toNat : Int)).tmod (i : Int) = (k : Int) := by
    rw [wrap_u8,Int.tmod_eq_emod_of_nonneg (by omega),← hkm]
    simp
   have Hmi2 := hid70 hmi2
   clear hmi2 hkm
   obtain ⟨V,hVk⟩ : ∃ V,vs[k]? = some V := ⟨_,List.getElem?_eq_getElem (by omega)⟩
   have hVm := List.mem_of_getElem? hVk
   have hck := hcells wo (Below.refl _ _) k V hVk
   rw [Nat.zero_add] at hck
   have hzo : w.heap.size + 1 ≤ wo.heap.size := Nat.le_trans (Nat.le_of_eq hz1.symm) hb.size
   have hbo : Below w.heap.size w wo := HB1.out.trans (hb.mono (by omega))
   have hTo : ∀ W,Below wo.heap.size wo W → Tabs W := fun W hW => HT.out.below HT.out.size (hbo.trans (hW.mono (by omega)))
   have HTo := hid70 hTo
   have Hbo := hid70 hbo
   have HCells := hid70 hcells
   have Hch := hid70 hch
   have Hvall := hid70 hvall
   have HVk := hid70 hVk
   have HPar : Hid (∀ W,Below wo.heap.size wo W → ∀ u ∈ vs,Calls Try.prog 50 #[.string ⟨u.toArray⟩] W fun e W' => ∃ b,e = .returned (.map (some b)) ∧
     W'.heap[b]? = some (.map (mE sV (Value.int .i64) (prtM u (2 ^ u.length)).1).toArray (prtM u (2 ^ u.length)).2) ∧ Below W.heap.size W W') :=
    hid70 fun W hW u hu => parts_calls (HTo.out W hW) u (by have := (Hvall.out u hu).1; omega)
   have hine : ¬ ((i : Int) = 0) := by omega
   have hk1 : (0 : Int) ≤ (k : Int) := by omega
   have hk2 : (k : Int) < (i : Int) := by omega
   clear hTo hbo hcells hch hvall hVk hown hb hvs hbg hn1' hn2' hn3' hn4' hlt hi hg
   go_upto_region 8 with fail
   simp only [Hmi2.out]
   have hst : (∀ s ∈ (prtM V (2 ^ V.length)).1.map (·.2.2),s < (prtM V (2 ^ V.length)).2) ∧ ((prtM V (2 ^ V.length)).1.map (·.2.2)).Nodup := prtM_st
   have hkeys : ∀ p,p ∈ (prtM V (2 ^ V.length)).1.map (·.1) ↔ leftW V p = true := fun p => by
    rw [prtM_keys]
    constructor
    ·rintro ⟨M,_,rfl⟩; exact leftW_sub.2 tkN_sub
    ·intro h; exact tkN_all (leftW_sub.1 h)
   obtain ⟨m,hm⟩ : ∃ m,(prtM V (2 ^ V.length)).1 = m := ⟨_,rfl⟩
   obtain ⟨c,hc⟩ : ∃ c,(prtM V (2 ^ V.length)).2 = c := ⟨_,rfl⟩
   rw [hm,hc] at hst
   rw [hm] at hkeys
   have HPV : Hid (Calls Try.prog 50 #[.string ⟨V.toArray⟩] wo fun e W' => ∃ b,e = .returned (.map (some b)) ∧ W'.heap[b]? = some (.map (mE sV (Value.int .i64) m).toArray c) ∧ Below wo.heap.size wo W') := by
    have h := HPar.out _ (Below.refl _ _) _ hVm
    rw [hm,hc] at h
    exact hid70 h
   have Hkeys := hid70 hkeys
   have Hst := hid70 hst
   clear hkeys hst hm hc
   go_wp2_with (go_at_call 50; refine HPV.out.mono ?_; rintro e w5 ⟨bm,rfl,hmap,hb5⟩; have hrg := run_range_map (P := Try.prog) w5 58 9 3 bm _ _ Try.underlying58 hmap)
   have Hmap := hid70 hmap
   have Hb5 := hid70 hb5
   obtain ⟨D,hD⟩ : ∃ D : List UInt8 → Bool,D = fun p => alo vs k p i := ⟨_,rfl⟩
   have HD := hid70 hD
   have hC0 : C49 w5 w5.heap.size bm c m D [] #[] [] false (w5.alloc (.mapIter (some bm) c #[] c)) := by
    refine ⟨c,heap_alloc_new _ _,Nat.le_refl _,(Below.refl _ _).alloc (Nat.le_refl _) _,[],fun k => ?_,rfl,fun k hk => by cases hk⟩
    simp
   have HC0 := hid70 hC0
   have hz5 : wo.heap.size ≤ w5.heap.size := hb5.size
   clear hC0 hmap hb5 hD Hmi2 hck hk1 hk2 hine hrg HPV
   go_loopg [11,12] (m.length + 1) (fun gk2 s11 s12 wx => ∃ (seen : Array Nat) (b : List UInt8) (is : Bool),s11 = .string ⟨b.toArray⟩ ∧ s12 = .bool is ∧ C49 w5 w5.heap.size bm c m D [] seen b is wx ∧ (leftOf (mE sV (Value.int .i64) m).toArray seen).size < gk2)
   case atStart =>
    refine ⟨#[],[],false,rfl,rfl,HC0.out, ?_⟩
    have : (leftOf (mE sV (Value.int .i64) m).toArray #[]).size ≤ m.length := by
     unfold leftOf
     exact Nat.le_trans (Array.size_filter_le ..) (by simp [mE])
    omega
   case round =>
    clear HC0
    obtain ⟨seen,b',is',rfl,rfl,hC,hg⟩ := hrel
    obtain ⟨g2,rfl⟩ : ∃ g2,gk = g2 + 1 := ⟨gk - 1,by omega⟩
    obtain ⟨c0,q1,q2,q3,L',q4,q5⟩ := hC
    have hbr : bm < w5.heap.size := (Array.getElem?_eq_some_iff.1 Hmap.out).1
    have hmapw : wr.heap[bm]? = some (.map (mE sV (Value.int .i64) m).toArray c) := by rw [q3.block bm hbr]; exact Hmap.out
    have hborn : ∀ x ∈ (mE sV (Value.int .i64) m).toArray.toList,x.born < c := fun x hx => by
     have hx2 : x ∈ mE sV (Value.int .i64) m := by simpa using hx
     unfold mE at hx2
     obtain ⟨y,hy,rfl⟩ := List.mem_map.1 hx2
     exact Hst.out.1 _ (List.mem_map_of_mem hy)
    have hnb : ((mE sV (Value.int .i64) m).toArray.toList.map (·.born)).Nodup := by
     have : (mE sV (Value.int .i64) m).toArray.toList.map (·.born) = m.map (·.2.2) := by
      unfold mE
      simp [List.map_map,Function.comp_def]
     rw [this]; exact Hst.out.2
    rcases run_next_at (P := Try.prog) wr 0 w5.heap.size bm c c0 seen (mE sV (Value.int .i64) m).toArray c q1 hmapw hborn q2 with ⟨hl0,hrun⟩ | ⟨e,he,w2,hw2,hrun⟩
    ·have hall : ∀ x ∈ m,seen.contains x.2.2 = true := fun x hx => by
      cases hc : seen.contains x.2.2 with
      | true => rfl
      | false =>
       have : (⟨sV x.1,.int .i64 x.2.1,x.2.2⟩ : MapEntry) ∈ leftOf (mE sV (Value.int .i64) m).toArray seen := Array.mem_filter.2 ⟨List.mem_toArray.2 (List.mem_map_of_mem (f := fun e : List UInt8 × Int × Nat => (⟨sV e.1,.int .i64 e.2.1,e.2.2⟩ : MapEntry)) hx),by rw [hc]; rfl⟩
       rw [Array.eq_empty_of_size_eq_zero hl0] at this
       simp at this
     have hL2 : ∀ p,p ∈ L' ↔ leftW V p = true := fun p => by
      rw [q4 p,← Hkeys.out p,List.mem_map]
      constructor
      ·rintro (h | ⟨x,hx,h1,_⟩)
       ·cases h
       ·exact ⟨x,hx,h1⟩
      ·rintro ⟨x,hx,h1⟩
       exact .inr ⟨x,hx,h1,hall x hx⟩
     have hbw : Below wo.heap.size wo wr := Hb5.out.trans (q3.mono hz5)
     have hDo : ∀ p,D p = !((othL vs k).any fun u => leftW u p) := fun p => by
      rw [HD.out]
      show alo vs k p i = _
      rw [← hvl]
      exact alo_oth (by omega)
     have hsh := short_fin (by omega) Hch.out (by omega) HVk.out (Hvall.out V hVm).2 hL2 hDo q5
     have hsh2 : shortL vs (i : Int) = ([],2) := by
      unfold shortL
      rw [if_neg (by omega),if_neg (by rw [Hch.out]; simp),if_pos (.inr (by omega))]
     have hS : ∀ (W : World) (z : Int),Below wo.heap.size wo W → Calls Try.prog 44 #[.slice (some ⟨g,0,none⟩) i cap,.int .i64 z] W fun e w' => Post44 vs z W e w' := fun W z hW => by
      have h := short_calls vs g 0 cap z W (by omega) (HCells.out W hW) (fun W1 h1 v hv => ?_) (fun W1 h1 v hv x hx => ?_)
      ·rw [hvl] at h
       exact h
      ·exact pureP (HTo.out W1 (hW.trans (h1.mono hW.size))) (f := 25) (vs := [.string ⟨v.toArray⟩]) (rs := [.int .i64 (checkW v)]) rfl (.cons _ _ _ _ (arg_text v) .nil) (f25_is (hp := []) rfl)
      ·exact pureP (HTo.out W1 (hW.trans (h1.mono hW.size))) (f := 27) (vs := [.string ⟨v.toArray⟩,.string ⟨x.toArray⟩]) (rs := [.bool (leftW v x)]) rfl (.cons _ _ _ _ (arg_text v) (.cons _ _ _ _ (arg_text x) .nil)) (left_is (hp := []) (by have := (Hvall.out v hv).1; omega) rfl)
     have hWk : ∀ W,Below wo.heap.size wo W → Calls Try.prog 17 #[] W fun e w' => e = .returned (.bool true) ∧ Below W.heap.size W w' := fun W hW =>
      pureP (HTo.out W hW) (f := 17) (vs := []) (rs := [.bool true]) rfl .nil (works_is (hp := []))
     have hS2 : ∀ (W : World),Below wo.heap.size wo W → Calls Try.prog 44 #[.slice (some ⟨g,0,none⟩) i cap,.int .i64 (i : Int)] W fun e w' => e = .returned (.tuple #[.string ⟨#[]⟩,.int .i64 2]) ∧ Below wo.heap.size wo w' := fun W hW => by
      refine (hS W i hW).mono fun e w' ⟨h1,h2⟩ => ⟨?_,hW.trans (h2.mono hW.size)⟩
      rw [hsh2] at h1
      exact h1
     have hS1 : ∀ (W : World),Below wo.heap.size wo W → Calls Try.prog 44 #[.slice (some ⟨g,0,none⟩) i cap,.int .i64 (k : Int)] W fun e w' => e = .returned (.tuple #[.string ⟨(if is' then b' else []).toArray⟩,.int .i64 (if is' then 0 else 12)]) ∧ Below wo.heap.size wo w' := fun W hW => by
      refine (hS W k hW).mono fun e w' ⟨h1,h2⟩ => ⟨?_,hW.trans (h2.mono hW.size)⟩
      rw [hsh] at h1
      cases is' <;> exact h1
     have HS2 := hid70 hS2
     have HWk := hid70 hWk
     have Hbw := hid70 hbw
     clear hall hL2 hDo hS hS2 hWk hsh hsh2 hbw q1 q3 q4 q5 hmapw hborn hnb hl0 HPar Hkeys Hst Hmap HCells Hvall HVk HTo
     cases is' with
     | false =>
      have HS1 : Hid (∀ (W : World),Below wo.heap.size wo W → Calls Try.prog 44 #[.slice (some ⟨g,0,none⟩) i cap,.int .i64 (k : Int)] W fun e w' => e = .returned (.tuple #[.string ⟨#[]⟩,.int .i64 12]) ∧ Below wo.heap.size wo w') := hid70 hS1
      clear hS1
      go_wp2_with (first | (go_at_call_has 44 k; refine (HS1.out _ Hbw.out).mono ?_; rintro e wa ⟨rfl,ba⟩; have Ba := hid70 ba; clear ba) | (go_at_call 44; refine (HS2.out _ Ba.out).mono ?_; rintro e wb ⟨rfl,bb⟩; have Bb := hid70 bb; clear bb) | (go_at_call 17; refine (HWk.out _ Bb.out).mono ?_; rintro e wc ⟨rfl,bc⟩))
      go_ret
      exact ⟨rfl,Hbo.out.trans ((Bb.out.trans (bc.mono Bb.out.size)).mono (by omega))⟩
     | true =>
      have HS1 : Hid (∀ (W : World),Below wo.heap.size wo W → Calls Try.prog 44 #[.slice (some ⟨g,0,none⟩) i cap,.int .i64 (k : Int)] W fun e w' => e = .returned (.tuple #[.string ⟨b'.toArray⟩,.int .i64 0]) ∧ Below wo.heap.size wo w') := hid70 hS1
      clear hS1
      go_wp2_with (first | (go_at_call_has 44 k; refine (HS1.out _ Hbw.out).mono ?_; rintro e wa ⟨rfl,ba⟩; have Ba := hid70 ba; clear ba) | (go_at_call 44; refine (HS2.out _ Ba.out).mono ?_; rintro e wb ⟨rfl,bb⟩; have Bb := hid70 bb; clear bb) | (go_at_call 17; refine (HWk.out _ Bb.out).mono ?_; rintro e wc ⟨rfl,bc⟩))
      go_ret
      exact ⟨rfl,Hbo.out.trans ((Bb.out.trans (bc.mono Bb.out.size)).mono (by omega))⟩
    ·obtain ⟨hm1,hm2⟩ := mem_left he
     obtain ⟨x,hx2,rfl⟩ : ∃ x ∈ m,(⟨sV x.1,.int .i64 x.2.1,x.2.2⟩ : MapEntry) = e := by
      have h : e ∈ mE sV (Value.int .i64) m := by simpa using hm1
      unfold mE at h
      exact List.mem_map.1 h
     obtain ⟨p,v,s⟩ := x
     have hshr : (leftOf (mE sV (Value.int .i64) m).toArray (seen.push s)).size < (leftOf (mE sV (Value.int .i64) m).toArray seen).size := left_shrinks (mE sV (Value.int .i64) m).toArray seen _ he
     obtain ⟨W3,hW3⟩ : ∃ W3,ChangeMaps.setBlock w2 w5.heap.size (.mapIter (some bm) c (seen.push s) c) = W3 := ⟨_,rfl⟩
     have hheap : w2.heap = wr.heap := by rcases hw2 with rfl | rfl <;> rfl
     have hgr : wr.grownBy W3 (some w5.heap.size) := by
      rw [← hW3]
      refine ⟨by rcases hw2 with rfl | rfl <;> rfl,by rcases hw2 with rfl | rfl <;> rfl,by rcases hw2 with rfl | rfl <;> rfl,by simp [ChangeMaps.setBlock,hheap],fun j hj hne => ?_⟩
      simp only [ChangeMaps.setBlock,hheap]
      rw [Array.getElem?_setIfInBounds,if_neg (fun e => hne (by rw [e]))]
     have hitl : w5.heap.size < wr.heap.size := (Array.getElem?_eq_some_iff.1 q1).1
     have hit3 : W3.heap[w5.heap.size]? = some (.mapIter (some bm) c (seen.push s) c) := by
      rw [← hW3]
      simp only [ChangeMaps.setBlock,hheap]
      rw [Array.getElem?_setIfInBounds,if_pos rfl,if_pos hitl]
     have hitl3 : w5.heap.size < W3.heap.size := (Array.getElem?_eq_some_iff.1 hit3).1
     have hb3 : Below w5.heap.size w5 W3 := q3.grown hgr (by have := q3.size; omega) (fun k hk => by cases hk; exact Nat.le_refl _)
     have hmap3 : W3.heap[bm]? = some (.map (mE sV (Value.int .i64) m).toArray c) := by rw [hb3.block bm hbr]; exact Hmap.out
     have hen := run_entry_at (P := Try.prog) W3 w5.heap.size bm c seen (mE sV (Value.int .i64) m).toArray c _ hit3 hmap3 hm1 hnb
     have hmem : ∀ z,z ∈ L' ++ [p] ↔ z ∈ ([] : List (List UInt8)) ∨ ∃ e ∈ m,e.1 = z ∧ (seen.push s).contains e.2.2 = true := fun z => by
      rw [List.mem_append,List.mem_singleton,q4 z]
      have hse : ∀ y,(seen.push s).contains y = (seen.contains y || y == s) := fun y => contains_push _ _ _
      constructor
      ·rintro ((h | ⟨e,he,h1,h2⟩) | rfl)
       ·exact .inl h
       ·exact .inr ⟨e,he,h1,by rw [hse,h2]; rfl⟩
       ·exact .inr ⟨_,hx2,rfl,by rw [hse,beq_self_eq_true,Bool.or_true]⟩
      ·rintro (h | ⟨e,he,h1,h2⟩)
       ·exact .inl (.inl h)
       ·rw [hse,Bool.or_eq_true] at h2
        rcases h2 with h2 | h2
        ·exact .inl (.inr ⟨e,he,h1,h2⟩)
        ·right
         have h3 : e.2.2 = s := by simpa using h2
         have h4 : e = (p,v,s) := by
          obtain ⟨i,hi,rfl⟩ := List.mem_iff_getElem.1 he
          obtain ⟨j,hj,hj2⟩ := List.mem_iff_getElem.1 hx2
          have h5 : (m.map (·.2.2))[i]? = (m.map (·.2.2))[j]? := by
           rw [List.getElem?_map,List.getElem?_map,List.getElem?_eq_getElem hi,List.getElem?_eq_getElem hj,hj2]
           simp only [Option.map_some]
           rw [h3]
          have h6 := (List.getElem?_inj (by simpa using hi) Hst.out.2).1 h5
          subst h6
          exact hj2
         rw [h4] at h1
         exact h1.symm
     rw [hW3] at hrun
     have hsk : sV p = .string ⟨p.toArray⟩ := rfl
     simp only [hsk] at hrun hen
     have hend : ∀ b'' is'' W,Below W3.heap.size W3 W → Bst D (L' ++ [p]) b'' is'' → ∃ (seen : Array Nat) (b : List UInt8) (is : Bool),Value.string ⟨b''.toArray⟩ = .string ⟨b.toArray⟩ ∧ Value.bool is'' = .bool is ∧ C49 w5 w5.heap.size bm c m D [] seen b is W ∧ (leftOf (mE sV (Value.int .i64) m).toArray seen).size < g2 := fun b'' is'' W hW h =>
      ⟨seen.push s,b'',is'',rfl,rfl,⟨c,(hW.block _ hitl3).trans hit3,Nat.le_refl _,hb3.trans (hW.mono (Nat.le_of_lt hitl3)),L' ++ [p],hmem,h⟩,by omega⟩
     have hbo3 : Below wo.heap.size wo W3 := Hb5.out.trans (hb3.mono hz5)
     have Hend := hid70 hend
     have Q5 := hid70 q5
     have Hbo3 := hid70 hbo3
     clear hend hmem hit3 hb3 hmap3 hgr hheap hW3 hw2 hm1 hm2 he hx2 q1 q3 q4 q5 hmapw hborn hnb hshr hsk hitl hbo3
     go_wp2_with fail
     go_loopg [14,54] (i + 1) (fun gk3 s14 s54 wx => ∃ j : Nat,s54 = .int .i64 (j : Int) ∧ s14 = .bool (alo vs k p j) ∧ j ≤ i ∧ i < j + gk3 ∧ Below W3.heap.size W3 wx)
     case atStart => exact ⟨0,rfl,rfl,by omega,by omega,Below.refl _ _⟩
     case round =>
      obtain ⟨j,rfl,rfl,hj,hjg,hbj⟩ := hrel
      have hbw : Below wo.heap.size wo wr := Hbo3.out.trans (hbj.mono Hbo3.out.size)
      have Hbj := hid70 hbj
      have Hbw := hid70 hbw
      by_cases hlt : j < i
      ·obtain ⟨g3,rfl⟩ : ∃ g3,gk = g3 + 1 := ⟨gk - 1,by omega⟩
       obtain ⟨u,hu⟩ : ∃ u,vs[j]? = some u := ⟨_,List.getElem?_eq_getElem (by omega)⟩
       have hcu := HCells.out wr hbw j u hu
       rw [Nat.zero_add] at hcu
       have hsu := alo_succ (k := k) (p := p) hu
       have HU := hid70 (HPar.out wr hbw u (List.mem_of_getElem? hu))
       have HJ := hid70 (show (j : Int) + 1 = ((j + 1 : Nat) : Int) by omega)
       have hj1 : (0 : Int) ≤ (j : Int) := by omega
       have hj2 : (j : Int) < (i : Int) := by omega
       cases hal : alo vs k p j with
       | false =>
        rw [hal,Bool.false_and] at hsu
        have Hsu := hid70 hsu
        clear hsu hal hu hbj hbw hg
        go_wp2_with fail
        go_roundg g3
        case measure => omega
        case rel => exact ⟨j + 1,by rw [← HJ.out],by rw [Hsu.out],by omega,by omega,Hbj.out⟩
       | true =>
        by_cases hjk : j = k
        ·rw [hal,decide_eq_true hjk,Bool.true_or,Bool.true_and] at hsu
         have Hsu := hid70 hsu
         clear hsu hal hu hbj hbw hg
         subst hjk
         go_wp2_with fail
         go_roundg g3
         case measure => omega
         case rel => exact ⟨j + 1,by rw [← HJ.out],by rw [Hsu.out],by omega,by omega,Hbj.out⟩
        ·rw [hal,decide_eq_false hjk,Bool.false_or,Bool.true_and] at hsu
         have hjk2 : ¬ (j : Int) = (k : Int) := by omega
         obtain ⟨A,hA⟩ : ∃ A,mGetD 0 p (prtM u (2 ^ u.length)).1 = A := ⟨_,rfl⟩
         have hA0 : 0 ≤ A := by rw [← hA,prtM_get]; omega
         have hAl : 0 < A ↔ leftW u p = true := by rw [← hA]; exact prtM_has
         have HU2 : Hid (Calls Try.prog 50 #[.string ⟨u.toArray⟩] wr fun e W' => ∃ b,e = .returned (.map (some b)) ∧ (Instr.lookup 58 (.map (some b)) (.string ⟨p.toArray⟩) false).run Try.prog W' = .ok (.int .i64 A) W' ∧ Below wr.heap.size wr W') := by
          refine hid70 (HU.out.mono fun e W' ⟨b,h1,h2,h3⟩ => ⟨b,h1, ?_,h3⟩)
          have h4 := alook_run h2 (look_m (kf := sV) (vf := Value.int .i64) (l := (prtM u (2 ^ u.length)).1) (k := p) (d := 0) (show mapTy Try.prog 58 = some (9,3) by kernel_rfl) (key_str Try.underlying9) (by kernel_rfl) (fun _ => rfl) (ok := false))
          rw [hA] at h4
          exact h4
         clear HU
         cases hl : leftW u p with
         | true =>
          have hA1 : ¬ A = 0 := by have := hAl.2 hl; omega
          rw [hl] at hsu
          have Hsu := hid70 hsu
          clear hsu hal hu hbj hbw hg hA hA0 hAl hl
          go_wp2_with (go_at_call 50; refine HU2.out.mono ?_; rintro e w6 ⟨b6,rfl,hlk,hb6⟩)
          go_roundg g3
          case measure => omega
          case rel => exact ⟨j + 1,by rw [← HJ.out],by rw [Hsu.out]; simp [hjk2,hA1],by omega,by omega,Hbj.out.trans (hb6.mono Hbj.out.size)⟩
         | false =>
          have hA1 : A = 0 := by
           rw [hl] at hAl
           have : ¬ 0 < A := fun h => by cases hAl.1 h
           omega
          subst hA1
          rw [hl] at hsu
          have Hsu := hid70 hsu
          clear hsu hal hu hbj hbw hg hA hA0 hAl hl
          go_wp2_with (go_at_call 50; refine HU2.out.mono ?_; rintro e w6 ⟨b6,rfl,hlk,hb6⟩)
          go_roundg g3
          case measure => omega
          case rel => exact ⟨j + 1,by rw [← HJ.out],by rw [Hsu.out]; rfl,by omega,by omega,Hbj.out.trans (hb6.mono Hbj.out.size)⟩
      ·obtain rfl : j = i := by omega
       have hDp : D p = alo vs k p j := by rw [HD.out]
       have HDp := hid70 hDp
       obtain ⟨al,hal⟩ : ∃ al,alo vs k p j = al := ⟨_,rfl⟩
       rw [hal] at HDp
       have HW := hid70 (fun b'' is'' h => Hend.out b'' is'' wr Hbj.out h)
       have hsz : ∀ x : List UInt8,True := fun _ => trivial
       clear hDp hbj hbw hg hjg HCells HPar
       rw [hal]
       clear hal
       cases al with
       | false =>
        go_wp2_with fail
        go_roundg g2
        case measure => omega
        case rel => exact HW.out _ _ (bst_skip Q5.out (.inl HDp.out))
       | true =>
        cases is' with
        | false =>
         go_wp2_with fail
         go_roundg g2
         case measure => omega
         case rel => exact HW.out _ _ (bst_take Q5.out HDp.out (.inl rfl))
        | true =>
         go_wp2_with fail
         ·rename_i h1 h2 h3
          go_roundg g2
          case measure => omega
          case rel => exact HW.out _ _ (bst_take Q5.out HDp.out (.inr (slt_of h3 h2)))
         ·rename_i h1 h2 h3
          go_roundg g2
          case measure => omega
          case rel => exact HW.out _ _ (bst_skip Q5.out (.inr ⟨rfl,slt_not h3.1 h3.2⟩))
         ·rename_i h1 h2 h3
          go_roundg g2
          case measure => omega
          case rel => exact HW.out _ _ (bst_skip Q5.out (.inr ⟨rfl,fun h => by rcases h with h | ⟨h,_⟩ <;> omega⟩))
         ·rename_i h1
          go_roundg g2
          case measure => omega
          case rel => exact HW.out _ _ (bst_take Q5.out HDp.out (.inr (.inl (by omega))))
end Go.Proofs.Ytmnmfmghmenkkaa
set_option linter.unusedSimpArgs false
set_option linter.unusedVariables false
set_option linter.unusedSectionVars false
namespace Go.Proofs.Ytmnmfmghmenkkaa
open Go.Abs Go.Pur Go.ChangeShapes Go.WideShapes Go.ChangeAt Go.RowKit
namespace ShortAloneCard
set_option maxRecDepth 100000
theorem contract (H : Type) (enc : TypeId × Value → H) (W : World) (base : Nat) (args : Array Value) (ds gs : List (DataW H)) (before : List MemPlace)
  (hval0 : ∀ (j : Nat) t v,Try.f13.params[j]? = some t → args[j]? = some v → Value.okWide Try.prog W .any base t v)
  (hW : DataW.Whole enc Try.prog Try.f13.params.toList Rows.shortAloneSpec.vars false W args.toList ds gs before) (hL : laidMetH Try.prog Rows.shortAloneRow.laid W) (hS : W.ShapedOpen Try.prog) :
  Calls Try.prog 13 args W fun e W' => ∃ v,e = .returned v ∧ Rows.shortAloneSpec.post enc Try.prog Try.f13 false true false false W args v W' := by
 have hval := hval0
 have hW' := hW
 obtain ⟨p,q,hA0,hV,rfl,hfz,hnd⟩ := hW
 have hA : DataW.TrodAll enc Try.prog W 0 (fun _ => true) true Try.f13.params.toList args.toList ds p := hA0
 rw [Try.params13] at hA hval
 obtain ⟨v0,v1,v2,d0,d1,d2,p0,p1,p2,rfl,rfl,rfl,h0,h1,h2⟩ := trodAll_three hA
 obtain ⟨rfl,rfl⟩ := trodVars_none hV
 clear hA0 hval0
 simp only [List.append_nil] at hW'
 have hlt : ∀ x ∈ p0 ++ (p1 ++ p2),x.block < W.heap.size := fun x hx => by simpa using hW'.lt x (by simpa using hx)
 obtain ⟨xs0,hx0,rfl⟩ := val_four (hval 0 66 v0 rfl rfl) h0
 obtain ⟨n1,rfl⟩ := val_u8 (hval 1 5 v1 rfl rfl) h1
 obtain ⟨n2,rfl⟩ := val_u8 (hval 2 5 v2 rfl rfl) h2
 refine (alone_calls xs0 hx0 n1 n2 W (Tabs.of hS)).mono fun e W' ⟨he,hb⟩ => ?_
 subst he
 have hok : Value.okWide Try.prog W' .any 0 4 (.bool true) := okWide_bool_mk Try.underlying4 true
 exact ⟨_,rfl,post_below (pa := p0 ++ (p1 ++ p2)) (pv := []) hW' (fun _ _ _ => trodAll_cons_mk (shut_bool Try.underlying4 _) trodAll_mk0) (fun sp hsp => trodAll_mk3
   (WideElems.Trod_stays laidOut (by kernel_rfl) (of_decide_eq_true (by kernel_rfl)) h0 (fun x hx => hb.same (hlt x (by simp [hx]))) (fun x hx => hsp x (by simp [hx])))
   (WideElems.Trod_stays laidOut (by kernel_rfl) (of_decide_eq_true (by kernel_rfl)) h1 (fun x hx => hb.same (hlt x (by simp [hx]))) (fun x hx => hsp x (by simp [hx])))
   (WideElems.Trod_stays laidOut (by kernel_rfl) (of_decide_eq_true (by kernel_rfl)) h2 (fun x hx => hb.same (hlt x (by simp [hx]))) (fun x hx => hsp x (by simp [hx])))) (fun _ _ => rfl) (by simp)
  hb (ok_one (by kernel_rfl) rfl hok)⟩
def wit : Array Value := #[.agg #[.int .u8 0,.int .u8 0,.int .u8 0,.int .u8 0,.int .u8 0,.int .u8 0,.int .u8 0,.int .u8 0,.int .u8 0,.int .u8 0,.int .u8 0,.int .u8 0,.int .u8 0,.int .u8 0,.int .u8 0,.int .u8 0,.int .u8 0,.int .u8 0,.int .u8 0,.int .u8 0,.int .u8 0,.int .u8 0,.int .u8 0,.int .u8 0,.int .u8 0,.int .u8 0,.int .u8 0,.int .u8 0,.int .u8 0,.int .u8 0,.int .u8 0,.int .u8 0,.int .u8 0,.int .u8 0,.int .u8 0,.int .u8 0,.int .u8 0,.int .u8 0,.int .u8 0,.int .u8 0,.int .u8 0,.int .u8 0,.int .u8 0,.int .u8 0],.int .u8 0,.int .u8 0]
theorem laid_met (os : Os) : laidMet Try.prog Rows.shortAloneRow.laid ((laidWorld os).forCall (fun _ _ => 0) ⟨#[],wit,[]⟩).memory :=
 laidMet_of_run' 80 (by kernel_rfl) (by kernel_rfl)
theorem reads (os : Os) {H : Type} (enc : TypeId × Value → H) : ∃ places,DataW.whole enc Try.prog ((laidWorld os).forCall (fun _ _ => 0) ⟨#[],wit,[]⟩).memory Try.f13.params.toList Rows.shortAloneSpec.vars false wit.toList 80 = some ([.agg [.agg [.lit (.int .u8 0),.agg [.lit (.int .u8 0),.lit (.int .u8 0),.lit (.int .u8 0),.lit (.int .u8 0),.lit (.int .u8 0),.lit (.int .u8 0),.lit (.int .u8 0),.lit (.int .u8 0),.lit (.int .u8 0),.lit (.int .u8 0)]],.agg [.lit (.int .u8 0),.agg [.lit (.int .u8 0),.lit (.int .u8 0),.lit (.int .u8 0),.lit (.int .u8 0),.lit (.int .u8 0),.lit (.int .u8 0),.lit (.int .u8 0),.lit (.int .u8 0),.lit (.int .u8 0),.lit (.int .u8 0)]],.agg [.lit (.int .u8 0),.agg [.lit (.int .u8 0),.lit (.int .u8 0),.lit (.int .u8 0),.lit (.int .u8 0),.lit (.int .u8 0),.lit (.int .u8 0),.lit (.int .u8 0),.lit (.int .u8 0),.lit (.int .u8 0),.lit (.int .u8 0)]],.agg [.lit (.int .u8 0),.agg [.lit (.int .u8 0),.lit (.int .u8 0),.lit (.int .u8 0),.lit (.int .u8 0),.lit (.int .u8 0),.lit (.int .u8 0),.lit (.int .u8 0),.lit (.int .u8 0),.lit (.int .u8 0),.lit (.int .u8 0)]]],.lit (.int .u8 0),.lit (.int .u8 0)],[],places) :=
 ⟨[],by kernel_rfl⟩
theorem lifted (os : Os) (started : os.Started) (H : Type) (enc : TypeId × Value → H) (F : Stop.Interp) :
  ReturnsInHanded {} Try.checked os 13 .any ((OpenSpec.ofChange Rows.shortAloneSpec).preRow enc Try.prog Try.f13 Rows.shortAloneRow.domain false Rows.shortAloneRow.laid) (((OpenSpec.ofChange Rows.shortAloneSpec).at F).post enc Try.prog Try.f13 false true false false) := by
 obtain ⟨places,hx⟩ := reads os enc
 refine returnsInHanded_of_row (C := Try.checked) (s := OpenSpec.ofChange Rows.shortAloneSpec) own started (by kernel_rfl) Try.func13
  (witness_row_at (enc := enc) (C := Try.checked) false (laidWorld os) wit rfl (by kernel_rfl) (by kernel_rfl) (by kernel_rfl)
   (OpenSpec.preRow_of_cond 80 hx (by kernel_rfl) (fun k hk => by cases hk) (by kernel_rfl) (laid_met os))) ?_
 intro W base args ds gs before hval hW _ _ _ hL hS _
 exact contract H enc W base args ds gs before hval hW hL hS
theorem said : Rows.ShortAloneSaid :=
 OpenClaim.holds_of_cond 13 Try.f13 rfl rfl rfl rfl rfl rfl rfl ⟨rfl,rfl,rfl,rfl,rfl⟩ rfl rfl rfl rfl rfl (by kernel_rfl) Try.func13 (by kernel_rfl)
  (of_decide_eq_true (by kernel_rfl)) (by unfold Func.isWrapper; first | (rw [if_pos (by decide +kernel)]; kernel_rfl) | (rw [if_neg (by decide +kernel)]; exact ⟨rfl,rfl⟩))
  (fun os started H enc _ F => by rw [OpenClaim.pre_eq_preRow]; exact lifted os started H enc F)
end ShortAloneCard
theorem shortAlone_said : Rows.ShortAloneSaid := ShortAloneCard.said
end Go.Proofs.Ytmnmfmghmenkkaa
