/-
  From a run of the abstract evaluator to the row's own words: a heap of known blocks, and a call that answers true.
  Conditions: none; lemmas.
-/
import Derived.Test.YtcdhajbhpnbdkaaDoorAbsSound
import Derived.Below
import Derived.ChangeSame
import Derived.ProofKit
import Derived.OpenShut
import Derived.Lib.LaidTab
set_option linter.unusedSimpArgs false
set_option linter.unusedVariables false
set_option linter.unusedSectionVars false
namespace Go.Abs
open Go.RowKit Go.WideShapes Go.ChangeShapes

/-- A heap of these blocks, from number 0 on. -/
def heapOf (l : List Blk) : AHeap := ⟨l.length, l.length, (l.zipIdx.foldl (fun t (b, i) => t.set i (some b)) .nil)⟩

theorem foldl_get : ∀ (l : List Blk) (k : Nat) (t : Tr (Option Blk)) (a : Nat),
    (((l.zipIdx k).foldl (fun t (x : Blk × Nat) => t.set x.2 (some x.1)) t).get a) = if k ≤ a ∧ a < k + l.length then some (l[a - k]?) else t.get a
  | [], k, t, a => by
    rw [if_neg (by simp only [List.length_nil]; omega)]; rfl
  | b :: l, k, t, a => by
    rw [List.zipIdx_cons, List.foldl_cons, foldl_get l (k + 1) _ a, Tr.get_set]
    simp only [List.length_cons]
    by_cases e : a = k
    · subst e
      rw [if_neg (by omega), if_pos rfl, if_pos (by omega)]; simp
    · by_cases e2 : k + 1 ≤ a ∧ a < k + 1 + l.length
      · rw [if_pos e2, if_pos (by omega), show a - k = (a - (k + 1)) + 1 by omega]; simp
      · rw [if_neg e2, if_neg e, if_neg (by omega)]

theorem heapOf_get (l : List Blk) (a : Nat) : (heapOf l).get a = l[a]? := by
  have := foldl_get l 0 .nil a
  unfold AHeap.get heapOf
  simp only []
  rw [show (l.zipIdx.foldl (fun t (b, i) => t.set i (some b)) .nil : Tr (Option Blk)) = l.zipIdx.foldl (fun t (x : Blk × Nat) => t.set x.2 (some x.1)) .nil from rfl, this]
  by_cases h : a < l.length
  · rw [if_pos (by omega)]; simp
  · rw [if_neg (by omega), List.getElem?_eq_none (by omega)]; rfl

def mapOf (ls : List Loc) : BMap := fun a => ls[a]?

section
variable {P : Program} {W : World}

/-- What a block of the start is: read alone, its cells plain. -/
def Lies (W : World) (B : Blk) (L : Loc) : Prop :=
  B.wr = false ∧ B.unk = false ∧ L.b < W.heap.size ∧ B.cells ≠ [] ∧ ∀ k v, B.cells[k]? = some v → W.cell? ⟨L.b, L.base + k, none⟩ = some v ∧ plain v = true

theorem rel_init (l : List Blk) (ls : List Loc) (hlen : l.length = ls.length) (hl : ∀ (i : Nat) (B : Blk) (L : Loc), l[i]? = some B → ls[i]? = some L → Lies W B L)
    (hg : ∀ g, g < P.globals.size → ls[g]? = some ⟨g, 0, 0⟩) : Rel P (mapOf ls) (heapOf l) W := by
  have both : ∀ {a L}, mapOf ls a = some L → ∃ B, l[a]? = some B := fun {a L} h => by
    have : a < ls.length := (List.getElem?_eq_some_iff.1 h).1
    exact ⟨l[a]'(by omega), by simp [hlen, this]⟩
  refine ⟨fun a L h => ?_, fun a ha => ?_, fun a B L hB hL => ?_, fun a a' B B' L L' hB hB' hL hL' _ _ => ?_, hg, fun a ha => ?_⟩
  · obtain ⟨B, hB⟩ := both h
    exact (hl a B L hB h).2.2.1
  · have ha' : l.length ≤ a := ha
    unfold mapOf
    rw [List.getElem?_eq_none (by omega)]
  · rw [heapOf_get] at hB
    obtain ⟨h1, h2, h3, h4, h5⟩ := hl a B L hB hL
    obtain ⟨v, r, hvr⟩ := List.exists_cons_of_ne_nil h4
    have hc0 := (h5 0 v (by rw [hvr]; rfl)).1
    unfold World.cell? at hc0
    simp only [] at hc0
    split at hc0
    · rename_i C e fr hC
      have hcell : ∀ k u, B.cells[k]? = some u → C[L.base + k]? = some u := fun k u hk => by
        have := (h5 k u hk).1
        rwa [cell_of_row W L.b (L.base + k) C e fr hC] at this
      have hsz : L.base + B.cells.length ≤ C.size := by
        have hpos : 0 < B.cells.length := by rw [hvr]; simp
        have h6 := hcell (B.cells.length - 1) (B.cells[B.cells.length - 1]'(by omega)) (by simp)
        have h7 := (Array.getElem?_eq_some_iff.1 h6).1
        omega
      have hrel : ∀ i, i < B.cells.length → VRel (mapOf ls) (B.cells.getD i undef) (C.getD (L.base + i) undef) := fun i hi => by
        have hk : B.cells[i]? = some B.cells[i] := by simp [hi]
        have h6 := hcell i _ hk
        have h7 := (h5 i _ hk).2
        rw [List.getD_eq_getElem?_getD, hk, Array.getD_eq_getD_getElem?, h6]
        exact .plain _ h7
      exact ⟨C, e, fr, hC, (fun hw => by rw [h1] at hw; cases hw), hsz, hrel, (fun hu => by rw [h2] at hu; cases hu)⟩
    · cases hc0
  · rw [heapOf_get] at hB hB'
    exact ⟨(hl a B L hB hL).1, (hl a' B' L' hB' hL').1⟩
  · have ha' : l.length ≤ a := ha
    rw [heapOf_get, List.getElem?_eq_none (by omega)]

/-- A CALL THAT ANSWERS TRUE, and leaves what was there as it was. -/
theorem call_true (hmix : P.follows .mixedOrders = true) {O : CallF} (hOe : CallExt O) (hO : CallOK P O) {n : Nat} {f : FuncId} {args args' : List Value} {l : List Blk} {ls : List Loc} {h' : AHeap} (hR : Rel P (mapOf ls) (heapOf l) W)
    (hl : ∀ B ∈ l, B.wr = false) (hA : LRel (mapOf ls) args args') (hrun : run P O n f args (heapOf l) = some (.bool true, h')) :
    Calls P f args'.toArray W fun e W' => e = .returned (.bool true) ∧ Below W.heap.size W W' := by
  obtain ⟨_, hc⟩ := sound_call hmix hOe hO n f args (heapOf l) (.bool true) h' hrun
  refine (hc _ W args' hR hA).mono fun e W' ⟨m', v', he, hv, _, hs⟩ => ?_
  rw [hv.inv_bool] at he
  refine ⟨he, ⟨hs.os, hs.tape, hs.output, hs.size, fun k hk => hs.frame k hk (fun a B L hB hw _ _ => ?_)⟩⟩
  rw [heapOf_get] at hB
  rw [hl B (List.mem_of_getElem? hB)] at hw
  cases hw

/-! ### Tables that the heap holds -/
def eqInts : List Value → List Value → Bool
  | [], [] => true
  | .int k a :: l, .int j b :: r => decide (k = j) && decide (a = b) && eqInts l r
  | _, _ => false

theorem eqInts_eq : ∀ {l r : List Value}, eqInts l r = true → l = r ∧ ∀ v ∈ l, plain v = true
  | [], [], _ => ⟨rfl, fun v hv => by cases hv⟩
  | v :: l, u :: r, h => by
    cases v <;> cases u <;> simp only [eqInts, Bool.and_eq_true, decide_eq_true_eq] at h <;> try (cases h; done)
    obtain ⟨⟨rfl, rfl⟩, h⟩ := h
    obtain ⟨h1, h2⟩ := eqInts_eq h
    refine ⟨by rw [h1], fun v hv => ?_⟩
    rcases List.mem_cons.1 hv with rfl | hv
    · rfl
    · exact h2 v hv
  | [], _ :: _, h => by cases h
  | v :: _, [], h => by cases v <;> cases h

/-- The blocks from number i on are these. -/
def hasBlks (h : AHeap) : Nat → List Blk → Bool
  | _, [] => true
  | i, B :: l => (match h.get i with
      | some D => eqInts D.cells B.cells && !D.wr && !B.wr && !B.unk && !B.cells.isEmpty
      | none => false) && hasBlks h (i + 1) l

theorem hasBlks_get {h : AHeap} : ∀ {i : Nat} {l : List Blk}, hasBlks h i l = true → ∀ k B, l[k]? = some B → ∃ D, h.get (i + k) = some D ∧ eqInts D.cells B.cells = true ∧ D.wr = false ∧ B.wr = false ∧ B.unk = false ∧ B.cells ≠ []
  | i, [], _, k, B, hk => by simp at hk
  | i, C :: l, hb, k, B, hk => by
    simp only [hasBlks, Bool.and_eq_true] at hb
    cases k with
    | zero =>
      cases hk
      have h1 := hb.1
      split at h1
      · rename_i D hD
        simp only [Bool.and_eq_true, Bool.not_eq_true'] at h1
        obtain ⟨⟨⟨⟨a1, a2⟩, a3⟩, a4⟩, a5⟩ := h1
        exact ⟨D, hD, a1, a2, a3, a4, fun e => by rw [e] at a5; cases a5⟩
      · cases h1
    | succ k =>
      obtain ⟨D, h2⟩ := hasBlks_get hb.2 k B (by simpa using hk)
      exact ⟨D, by rw [show i + (k + 1) = i + 1 + k by omega]; exact h2⟩

theorem hasBlks_ext {h h' : AHeap} (he : AExt h h') : ∀ {i : Nat} {l : List Blk}, i + l.length ≤ h.next → hasBlks h i l = true → hasBlks h' i l = true
  | i, [], _, _ => rfl
  | i, B :: l, hn, hb => by
    simp only [hasBlks, Bool.and_eq_true] at hb ⊢
    simp only [List.length_cons] at hn
    refine ⟨?_, hasBlks_ext he (by omega) hb.2⟩
    have h1 := hb.1
    split at h1
    · rename_i D hD
      simp only [Bool.and_eq_true, Bool.not_eq_true'] at h1
      rw [he.ro i D (by omega) hD h1.1.1.1.2]
      simpa [Bool.and_eq_true] using h1
    · cases h1

/-- A heap that holds the tables is one from which a closed run may start. -/
theorem rel_tabs {m : BMap} {h : AHeap} {w : World} {G : List Blk} (hR : Rel P m h w) (hb : hasBlks h 0 G = true) (hn : P.globals.size = G.length) : Rel P (mapOf ((List.range G.length).map fun g => ⟨g, 0, 0⟩)) (heapOf G) w := by
  refine rel_init G _ (by simp) (fun i B L hB hL => ?_) (fun g hg => ?_)
  · have hi : i < G.length := (List.getElem?_eq_some_iff.1 hB).1
    rw [List.getElem?_map, List.getElem?_range hi] at hL
    cases hL
    obtain ⟨D, h1, h2, h3, h4, h5, h6⟩ := hasBlks_get hb i B hB
    rw [Nat.zero_add] at h1
    have hm := hR.glob i (by omega)
    obtain ⟨e1, e2⟩ := eqInts_eq h2
    obtain ⟨cs, c1, c2⟩ := (hR.blk i D _ h1 hm).cells
    have hcs : cs = D.cells := LRel.all_plain c1 (List.all_eq_true.2 e2)
    refine ⟨h4, h5, hR.lt i _ hm, h6, fun k v hk => ?_⟩
    rw [← e1] at hk
    exact ⟨c2 k v (by rw [hcs]; exact hk), e2 v (List.mem_of_getElem? hk)⟩
  · rw [List.getElem?_map, List.getElem?_range (by omega)]; rfl

/-! ### A function without parameters, of which a closed run is known -/
/-- It answers true, and leaves what was there as it was. -/
def yesO (G : List Blk) (f : FuncId) : CallF := fun g args h =>
  match Nat.beq g f && hasBlks h 0 G, args with
  | true, [] => some (.bool true, h)
  | _, _ => none

theorem yesO_ext (G : List Blk) (f : FuncId) : CallExt (yesO G f) := fun g args h v h' hq => by
  unfold yesO at hq
  split at hq
  · cases hq; exact AExt.refl _
  · cases hq

theorem Rel.below {m : BMap} {h : AHeap} {w w' : World} (hR : Rel P m h w) (hb : Below w.heap.size w w') : Rel P m h w' ∧ Sim m h w m h w' := by
  refine ⟨⟨fun a L hL => Nat.lt_of_lt_of_le (hR.lt a L hL) hb.size, hR.fresh, fun a B L hB hL => (hR.blk a B L hB hL).same (hb.block _ (hR.lt a L hL)), hR.inj, hR.glob, hR.wf⟩,
    ⟨fun _ _ h => h, hb.os, hb.output, hb.tape, hb.size, fun r hr _ => hb.block r hr, fun _ _ h => .inl h, Nat.le_refl _, Nat.le_refl _, fun _ _ => rfl, fun _ _ _ => rfl, fun _ _ h => h, fun _ B' _ h => ⟨B', h, rfl⟩⟩⟩

theorem yesO_ok (hmix : P.follows .mixedOrders = true) {O : CallF} (hOe : CallExt O) (hO : CallOK P O) {G : List Blk} (hG : ∀ B ∈ G, B.wr = false) (hn : P.globals.size = G.length) {f : FuncId} (hb : (bodyOf P f).isSome = true) {n : Nat} {h1 : AHeap}
    (hrun : run P O n f [] (heapOf G) = some (.bool true, h1)) : CallOK P (yesO G f) := by
  intro g args h v h' hq
  unfold yesO at hq
  split at hq
  · rename_i hg
    simp only [Bool.and_eq_true] at hg
    obtain rfl := Nat.eq_of_beq_eq_true hg.1
    cases hq
    refine ⟨hb, fun m w args' hR hA => ?_⟩
    rcases hA.ind with ⟨_, rfl⟩ | ⟨_, _, _, _, h1, _⟩
    · refine (call_true hmix hOe hO (rel_tabs hR hg.2 hn) hG (LRel.nil _) hrun).mono fun e w' ⟨he, hbl⟩ => ?_
      obtain ⟨r1, r2⟩ := hR.below hbl
      exact ⟨m, .bool true, he, .plain _ rfl, r1, r2⟩
    · cases h1
  · cases hq

/-- Two lists of contracts. -/
def orO (O1 O2 : CallF) : CallF := fun f args h =>
  match O1 f args h with
  | some r => some r
  | none => O2 f args h

theorem orO_ext {O1 O2 : CallF} (h1 : CallExt O1) (h2 : CallExt O2) : CallExt (orO O1 O2) := fun f args h v h' hq => by
  unfold orO at hq
  split at hq
  · rename_i hk; cases hq; exact h1 _ _ _ _ _ hk
  · exact h2 _ _ _ _ _ hq
theorem orO_ok {O1 O2 : CallF} (h1 : CallOK P O1) (h2 : CallOK P O2) : CallOK P (orO O1 O2) := fun f args h v h' hq => by
  unfold orO at hq
  split at hq
  · rename_i hk; cases hq; exact h1 _ _ _ _ _ hk
  · exact h2 _ _ _ _ _ hq

variable {H : Type} {enc : TypeId × Value → H}
/-- The row's last step where 'Below' is known. -/
theorem post_below {f : Func} {s : ChangeSpec} {apart fresh handsOn again : Bool} {W' : World} {args : Array Value} {v : Value} {ds gs : List (DataW H)} {before pa pv : List MemPlace}
    (hW : DataW.Whole enc P f.params.toList s.vars apart W args.toList ds gs before)
    (hres : ∀ (b : Nat) (sp : Nat → Bool) (hd : Bool), DataW.TrodAll enc P W' b sp hd f.resultTypes.toList (v.resultList f.resultTypes.size) (s.fn H (ds ++ gs)).results [])
    (hargs : ∀ sp : Nat → Bool, (∀ p ∈ before, sp p.block = true) → DataW.TrodAll enc P W' 0 sp true f.params.toList args.toList (s.fn H (ds ++ gs)).args pa)
    (hvars : ∀ sp : Nat → Bool, (∀ p ∈ before, sp p.block = true) → DataW.TrodVars enc P W' sp s.vars (s.fn H (ds ++ gs)).vars pv)
    (hps : before = pa ++ pv) (hb : Below W.heap.size W W')
    (hok : ∀ (j : Nat) (t : TypeId) (r : Value), f.resultTypes[j]? = some t → (v.resultList f.resultTypes.size)[j]? = some r → Value.okWide P W' .any 0 t r) :
    s.post enc P f apart fresh handsOn again W args v W' := by
  have hlt : ∀ p ∈ before, p.block < W.heap.size := fun p hp => hW.lt p hp
  have hold : ∀ p ∈ before, (fun b => decide (b < W.heap.size)) p.block = true := fun p hp => by simpa using hlt p hp
  refine ⟨ds, gs, before, [], pa, pv, hW, hres _ _ _, hargs _ hold, hvars _ hold, World.keptBut_mono (fun p hp => ⟨hp, ?_⟩) (hb.frame (· ∈ before)), fun _ => ?_⟩
  · rw [hps, List.mem_append] at hp
    exact Or.inr hp
  · obtain ⟨_, _, _, _, _, hz, hn⟩ := hW
    refine ⟨hok, _, _, ([] ++ pa) ++ pv, ⟨[] ++ pa, pv, trodAll_append (hargs _ (fun _ _ => rfl)) (hres _ _ _), hvars _ (fun _ _ => rfl), rfl, ?_, ?_⟩, ?_⟩
    · intro b off hp
      have hin : MemPlace.cell b off ∈ before := by rw [hps]; simpa using hp
      rw [hb.frozen (hlt _ hin)]
      exact hz b off hin
    · intro ha
      have := hn ha
      rw [hps] at this
      simpa using this
    · intro p hp _
      rw [hps]
      simpa using hp

/-- A table of the start, as a block. -/
def tabBlk (k : IntKind) (zs : List Int) (e : TypeId) : Blk := ⟨zs.map (.int k ·), e, false, false⟩

theorem lies_tab {name : String} {k : IntKind} {zs : List Int} {g : Nat} (e : TypeId) (hg : P.globalNamed name = some g) (h : Lib.TabIs P W name k zs) (hz : zs ≠ []) : Lies W (tabBlk k zs e) ⟨g, 0, 0⟩ := by
  have hcell : ∀ j z, zs[j]? = some z → W.cell? ⟨g, j, none⟩ = some (.int k z) := fun j z hj => by
    have hlt := (List.getElem?_eq_some_iff.1 hj).1
    have := h.cell hg j hlt
    rw [this, List.getD_eq_getElem?_getD, hj]; rfl
  obtain ⟨z, r, hzr⟩ := List.exists_cons_of_ne_nil hz
  refine ⟨rfl, rfl, block_lt_of_cell (hcell 0 z (by rw [hzr]; rfl)), by simp [tabBlk, hz], fun j v hj => ?_⟩
  simp only [tabBlk, List.getElem?_map, Option.map_eq_some_iff] at hj
  obtain ⟨z', hz', rfl⟩ := hj
  exact ⟨by simpa using hcell j z' hz', rfl⟩

/-- What a list of variables says of those behind the first. -/
theorem laidMet_tail {x : String × DataW Unit} {rest : List (String × DataW Unit)} (h : laidMet P (x :: rest) W) : laidMet P rest W := by
  obtain ⟨ps, hps, hnd, hfr⟩ := h
  obtain ⟨g, t, cs, fuel, p, q, _, _, _, _, hq, rfl⟩ := hps
  exact ⟨q, hq, (List.nodup_append.1 hnd).2.1, fun b off hin => hfr b off (List.mem_append_right _ hin)⟩

end
end Go.Abs
