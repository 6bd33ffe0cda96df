/-
  The operations that turn blocks: store, append, copy, clear.
  Conditions: none; lemmas.
-/
import Derived.Test.YtcdhajbhpnbdkaaDoorAbsLoud
import Derived.Deep.Upon
set_option linter.unusedSimpArgs false
set_option linter.unusedVariables false
set_option linter.unusedSectionVars false
namespace Go.Abs

/-! ### Cells written over a block -/
def setL (C : Array Value) : Nat → List Value → Array Value
  | _, [] => C
  | o, v :: r => setL (C.setIfInBounds o v) (o + 1) r

theorem setL_size : ∀ (vs : List Value) (C : Array Value) (o : Nat), (setL C o vs).size = C.size
  | [], _, _ => rfl
  | v :: r, C, o => by simp [setL, setL_size r]

theorem setL_getD : ∀ (vs : List Value) (C : Array Value) (o k : Nat), o + vs.length ≤ C.size → (setL C o vs).getD k undef = if o ≤ k ∧ k < o + vs.length then vs.getD (k - o) undef else C.getD k undef
  | [], C, o, k, _ => by
    rw [if_neg (by simp only [List.length_nil]; omega), setL]
  | v :: r, C, o, k, h => by
    have h' : o + 1 + r.length ≤ (C.setIfInBounds o v).size := by simp at h ⊢; omega
    rw [setL, setL_getD r _ _ _ h']
    simp only [List.length_cons] at h ⊢
    by_cases e : k = o
    · subst e
      rw [if_neg (by omega), if_pos (by omega)]
      have : k < C.size := by omega
      simp [Array.getD, this]
    · by_cases e2 : o + 1 ≤ k ∧ k < o + 1 + r.length
      · rw [if_pos e2, if_pos (by omega), show k - o = (k - (o + 1)) + 1 by omega]
        simp
      · rw [if_neg e2, if_neg (by omega)]
        simp only [Array.getD_eq_getD_getElem?]
        rw [Array.getElem?_setIfInBounds_ne (Ne.symm e)]

theorem heap_setCells (b : Nat) (e : TypeId) : ∀ (vs : List Value) (o : Nat) (w : World) (C : Array Value), w.heap[b]? = some (.cells C e (0, 0)) →
    (w.setCells b o vs).heap[b]? = some (.cells (setL C o vs) e (0, 0))
  | [], _, _, _, h => h
  | v :: r, o, w, C, h => by
    rw [World.setCells]
    exact heap_setCells b e r (o + 1) _ _ (heap_setCell_same w b o C e v h)

theorem heap_setCells_ne (b r : Nat) (hr : r ≠ b) : ∀ (vs : List Value) (o : Nat) (w : World), (w.setCells b o vs).heap[r]? = w.heap[r]?
  | [], _, _ => rfl
  | v :: vs, o, w => by
    rw [World.setCells, heap_setCells_ne b r hr vs]
    exact heap_setCell_other w _ r v hr

theorem size_setCells (b : Nat) : ∀ (vs : List Value) (o : Nat) (w : World), (w.setCells b o vs).heap.size = w.heap.size
  | [], _, _ => rfl
  | v :: vs, o, w => by rw [World.setCells, size_setCells b vs]; simp

theorem tape_setCells (b : Nat) : ∀ (vs : List Value) (o : Nat) (w : World), (w.setCells b o vs).tape = w.tape
  | [], _, _ => rfl
  | v :: vs, o, w => by rw [World.setCells, tape_setCells b vs]; rfl

theorem there_of_block {w : World} {b : Nat} {C : Array Value} {e : TypeId} (hb : w.heap[b]? = some (.cells C e (0, 0))) {o n : Nat} (h : o + n ≤ C.size) : w.there b o n := fun j hj => by
  refine ⟨?_, frozen_of_row w b (o + j) C e hb⟩
  rw [cell_of_row w b (o + j) C e (0, 0) hb, Array.getElem?_eq_getElem (by omega)]; rfl

section
variable {P : Program} {m : BMap} {h : AHeap} {w : World}

/-- A list of cells laid over a list of cells. -/
theorem getD_splice (l vs : List Value) (n i : Nat) (hn : n + vs.length ≤ l.length) :
    (l.take n ++ (vs ++ l.drop (n + vs.length))).getD i undef = if n ≤ i ∧ i < n + vs.length then vs.getD (i - n) undef else l.getD i undef := by
  have hl : (l.take n).length = n := by simp; omega
  simp only [List.getD_eq_getElem?_getD]
  rw [List.getElem?_append, hl]
  by_cases h1 : i < n
  · rw [if_pos h1, if_neg (by omega), List.getElem?_take, if_pos h1]
  · rw [if_neg h1, List.getElem?_append]
    by_cases h2 : i - n < vs.length
    · rw [if_pos h2, if_pos (by omega)]
    · rw [if_neg h2, if_neg (by omega), List.getElem?_drop]
      congr 2
      omega

theorem aput_rel (hR : Rel P m h w) {a : Addr} {L : Loc} {vs vs' : List Value} {h' : AHeap} (hm : m a.block = some L) (hv : LRel m vs vs') (hp : aput h a vs = some h') :
    w.there L.b (L.base + a.off) vs'.length ∧ (∀ v ∈ vs', v.oneCell' = true) ∧ Rel P m h' (w.setCells L.b (L.base + a.off) vs') ∧ Sim m h w m h' (w.setCells L.b (L.base + a.off) vs') := by
  unfold aput at hp
  split at hp
  · rename_i B hg
    split at hp
    · rename_i hwr
      split at hp
      · rename_i hone
        split at hp
        · rename_i cs hcs
          cases hp
          obtain ⟨hle, rfl⟩ := splice_some hcs
          obtain ⟨C, e, fr, h1, h2, h3, h4, h5⟩ := hR.blk _ _ _ hg hm
          obtain rfl := h2 hwr
          have hlen : vs.length = vs'.length := hv.1
          have hsz : L.base + a.off + vs'.length ≤ C.size := by omega
          have hheap := heap_setCells L.b e vs' (L.base + a.off) w C h1
          have hget : ∀ k, (h.put a.block (some { B with cells := B.cells.take a.off ++ (vs ++ B.cells.drop (a.off + vs.length)) })).get k = if k = a.block then some { B with cells := B.cells.take a.off ++ (vs ++ B.cells.drop (a.off + vs.length)) } else h.get k := fun k => AHeap.get_put _ _ _ _
          have hblk : BlkRel P m (w.setCells L.b (L.base + a.off) vs') { B with cells := B.cells.take a.off ++ (vs ++ B.cells.drop (a.off + vs.length)) } L := by
            have hl2 : (B.cells.take a.off ++ (vs ++ B.cells.drop (a.off + vs.length))).length = B.cells.length := by simp; omega
            refine ⟨setL C (L.base + a.off) vs', e, (0, 0), hheap, fun _ => rfl, by simpa [setL_size, hl2] using h3, fun i hi => ?_, fun hu => by simpa [setL_size] using h5 hu⟩
            rw [hl2] at hi
            simp only []
            rw [getD_splice _ _ _ _ hle, setL_getD _ _ _ _ hsz, ← hlen]
            by_cases hc : a.off ≤ i ∧ i < a.off + vs.length
            · rw [if_pos hc, if_pos (by omega), show L.base + i - (L.base + a.off) = i - a.off by omega]
              exact hv.2 _ (by omega)
            · rw [if_neg hc, if_neg (by omega)]
              exact h4 i hi
          have hother : ∀ r, r ≠ L.b → (w.setCells L.b (L.base + a.off) vs').heap[r]? = w.heap[r]? := fun r hr => heap_setCells_ne L.b r hr vs' _ w
          refine ⟨there_of_block h1 hsz, fun v hv' => ?_, ⟨?_, ?_, ?_, ?_, hR.glob, ?_⟩, ⟨fun _ _ h => h, World.os_setCells w _ _ _, World.output_setCells w _ _ _, tape_setCells _ _ _ _, ?_, ?_, fun _ _ h => .inl h, Nat.min_le_left _ _, Nat.le_refl _, fun _ _ => rfl, ?_, ?_, ?_⟩⟩
          · obtain ⟨i, hi, rfl⟩ := List.getElem_of_mem hv'
            have hi' : i < vs.length := by omega
            have := hv.2 i hi'
            simp only [List.getD_eq_getElem?_getD, List.getElem?_eq_getElem hi, List.getElem?_eq_getElem hi', Option.getD_some] at this
            rw [this.oneCell]
            exact List.all_eq_true.1 hone _ (List.getElem_mem hi')
          · intro b K hk
            rw [size_setCells]; exact hR.lt b K hk
          · exact hR.fresh
          · intro b B' K hg' hk
            rw [hget] at hg'
            split at hg'
            · rename_i hb
              subst hb
              cases hg'
              rw [hm] at hk
              cases hk
              exact hblk
            · rename_i hb
              refine (hR.blk b B' K hg' hk).same (hother _ (fun he => ?_))
              have := (hR.inj b a.block B' B K L hg' hg hk hm he hb).2
              rw [hwr] at this; cases this
          · intro b b' B1 B2 K1 K2 g1 g2 k1 k2 he hne
            rw [hget] at g1 g2
            have key : ∀ {c : Nat} {D : Blk}, (if c = a.block then some { B with cells := B.cells.take a.off ++ (vs ++ B.cells.drop (a.off + vs.length)) } else h.get c) = some D → ∃ D', h.get c = some D' ∧ D'.wr = D.wr := by
              intro c D hd
              split at hd
              · rename_i hc; subst hc; cases hd; exact ⟨B, hg, rfl⟩
              · exact ⟨D, hd, rfl⟩
            obtain ⟨D1, d1, e1⟩ := key g1
            obtain ⟨D2, d2, e2⟩ := key g2
            have := hR.inj b b' D1 D2 K1 K2 d1 d2 k1 k2 he hne
            rw [e1, e2] at this
            exact this
          · intro b hb
            rw [hget]
            split
            · rename_i he; subst he
              have := hR.wf _ hb
              rw [hg] at this; cases this
            · exact hR.wf b hb
          · rw [size_setCells]; exact Nat.le_refl _
          · intro r hr hno
            exact hother r (fun he => hno a.block B L hg hwr hm (Nat.min_le_right _ _) he.symm)
          · intro b hb hl
            rw [hget, if_neg]
            intro he; subst he
            exact absurd hl (Nat.not_lt.2 (Nat.min_le_right _ _))
          · intro b hb hd
            rw [hget]
            split
            · rename_i he; subst he; rw [hg] at hd; cases hd
            · exact hd
          · intro b B' hb hg'
            rw [hget] at hg'
            split at hg'
            · rename_i he; subst he; cases hg'; exact ⟨B, hg, rfl⟩
            · exact ⟨B', hg', rfl⟩
        · cases hp
      · cases hp
    · cases hp
  · cases hp

theorem astore_rel (hR : Rel P m h w) {t : TypeId} {p p' v v' : Value} {h' : AHeap} (hp : VRel m p p') (hv : VRel m v v') (hs : astore P t p v h = some h') :
    ∃ w', (Instr.storeAt t p' v').run P w = .ok () w' ∧ Rel P m h' w' ∧ Sim m h w m h' w' := by
  unfold astore at hs
  split at hs
  · rename_i a
    obtain ⟨L, hm, hsp, rfl⟩ := hp.inv_ptr
    split at hs
    · rename_i i hi
      split at hs
      · rename_i hb
        have hsz := Nat.eq_of_beq_eq_true hb
        have hc : LRel m (vcells v) v'.cells.toList := hv.cells
        obtain ⟨h1, h2, h3, h4⟩ := aput_rel hR hm hc hs
        refine ⟨_, ?_, h3, h4⟩
        have hst := run_storeCells_cells (P := P) L.b (L.base + a.off) v'.cells.toList 0 w (fun j hj => by simpa using (h1 j hj).1) (fun j hj => by simpa using (h1 j hj).2) h2
        have hcs : v'.cells.size = i.size := by have := hc.1; rw [hsz] at this; simpa using this.symm
        simp only [Nat.add_zero] at hst
        simp [Instr.storeAt, Instr.sureAddr, storeVar, run_sizeOf hi, hcs, hst]
      · cases hs
    · cases hs
  · cases hs

/-! ### append -/
theorem src_rel (hR : Rel P m h w) {size n : Nat} {tx : TypeId} {dx : TypeDesc} {x x' : Value} {new : List Value} (hu : P.underlying tx = some dx) (hk : isSrcT dx x = true) (hx : VRel m x x') (hl : srcLen x = some n) (hn : n ≠ 0)
    (hc : srcCells size n x h = some new) : ∃ new', Src P size tx x' n new' w ∧ LRel m new new' := by
  unfold srcCells at hc
  split at hc
  · rename_i a k c
    cases hl
    split at hc
    · rename_i cs hcs
      split at hc
      · rename_i hone
        cases hc
        obtain ⟨a', c', rfl, h1, _, _⟩ := hx.inv_slice
        obtain ⟨L, hm, hs, rfl, _⟩ := h1 (.inl hn)
        obtain ⟨cs', hr, hrange, hlen⟩ := cellsAt_rel hR hm hcs
        cases dx <;> try (cases hk; done)
        refine ⟨cs', Src.ofSlice w hu _ n c' cs' (by rw [← hr.1, hlen]) (fun j u hj => by rw [add_lit]; exact hrange j u hj) (fun v hv => ?_), hr⟩
        obtain ⟨i, hi, rfl⟩ := List.getElem_of_mem hv
        have hi' : i < new.length := by rw [hr.1]; exact hi
        have := hr.2 i hi'
        simp only [List.getD_eq_getElem?_getD, List.getElem?_eq_getElem hi, List.getElem?_eq_getElem hi', Option.getD_some] at this
        rw [this.oneCell]
        exact List.all_eq_true.1 hone _ (List.getElem_mem hi')
      · cases hc
    · cases hc
  · rename_i s
    cases hl
    split at hc
    · rename_i hb
      simp only [Bool.and_eq_true] at hb
      have h2 := Nat.eq_of_beq_eq_true hb.2
      cases hc
      subst h2
      have he := hx.inv_string
      subst he
      cases dx <;> try (cases hk; done)
      refine ⟨byteCells s, Src.ofString w hu s, LRel.of_get rfl (fun i v v' h1 h2 => ?_)⟩
      unfold byteCells at h2
      rw [h1] at h2; cases h2
      refine .plain _ ?_
      simp only [List.getElem?_map, Option.map_eq_some_iff] at h1
      obtain ⟨b, _, rfl⟩ := h1
      rfl
    · cases hc
  · cases hc

/-- Nothing is appended, or copied. -/
theorem src_zero {size : Nat} {tx : TypeId} {dx : TypeDesc} {x x' : Value} (hu : P.underlying tx = some dx) (hk : isSrcT dx x = true) (hx : VRel m x x') (hl : srcLen x = some 0) : Src P size tx x' 0 [] w := by
  cases x <;> try (cases dx <;> cases hk; done)
  case string s =>
    have h0 : s.size = 0 := Option.some.inj hl
    cases dx <;> try (cases hk; done)
    have he := hx.inv_string
    subst he
    have hc : ∀ w' : World, (Builtin.firstCells size 0 (.string s)).run P w' = .ok (#[] : Array Value) w' := fun w' => by
      simp [Builtin.firstCells]
    exact ⟨.inr hu, fun w' => by simp [Builtin.lenOf, h0], hc w, hc w.drew, by simp, fun u hu => by cases hu⟩
  case slice a n c =>
    cases hl
    cases dx <;> try (cases hk; done)
    cases a with
    | none =>
      have he := hx.inv_snil
      subst he
      exact Src.ofNil w hu c
    | some a =>
      obtain ⟨a', c', rfl, _⟩ := hx.inv_slice
      exact Src.ofSlice w hu a' 0 c' [] (by simp) (fun j u hj => by simp at hj) (fun v hv => by simp at hv)

theorem rel_kill (hR : Rel P m h w) {a : Nat} {B : Blk} (hg : h.get a = some B) : Rel P m (h.put a none) w ∧ Sim m h w m (h.put a none) w := by
  have hget : ∀ k, (h.put a none).get k = if k = a then none else h.get k := fun k => AHeap.get_put _ _ _ _
  have hsub : ∀ {k D}, (h.put a none).get k = some D → h.get k = some D := fun {k D} hk => by
    rw [hget] at hk; split at hk
    · cases hk
    · exact hk
  refine ⟨⟨hR.lt, hR.fresh, fun b B' K hg' hk => hR.blk b B' K (hsub hg') hk, fun b b' B1 B2 K1 K2 g1 g2 => hR.inj b b' B1 B2 K1 K2 (hsub g1) (hsub g2), hR.glob, fun b hb => by
      rw [hget]; split
      · rfl
      · exact hR.wf b hb⟩,
    ⟨fun _ _ h => h, rfl, rfl, rfl, Nat.le_refl _, fun _ _ _ => rfl, fun _ _ h => .inl h, Nat.min_le_left _ _, Nat.le_refl _, fun _ _ => rfl, ?_, ?_, ?_⟩⟩
  · intro b hb hl
    rw [hget, if_neg]
    intro he; subst he
    exact absurd hl (Nat.not_lt.2 (Nat.min_le_right _ _))
  · intro b hb hd
    rw [hget]
    split
    · rfl
    · exact hd
  · intro b B' hb hg'
    exact ⟨B', hsub hg', rfl⟩

/-- The block at its tip goes on: what it was is no more looked at, a new number stands for all of it. -/
theorem rel_tip (hR : Rel P m h w) {a : Nat} {B : Blk} {L : Loc} {C : Array Value} {e0 e : TypeId} {new new' : List Value} (hg : h.get a = some B) (hwr : B.wr = true) (hm : m a = some L) (hbase : L.base = 0)
    (hC : w.heap[L.b]? = some (.cells C e0 (0, 0))) (hsz : B.cells.length + new'.length ≤ C.size) (hn : LRel m new new') (hcs : C.size = L.cap * P.cellsOf e) (hlt : a < h.next) :
    Rel P (upd m h.next ⟨L.b, 0, L.cap⟩) ((h.put a none).alloc ⟨B.cells ++ new, e, true, true⟩) (w.setCells L.b B.cells.length new') ∧
      Sim m h w (upd m h.next ⟨L.b, 0, L.cap⟩) ((h.put a none).alloc ⟨B.cells ++ new, e, true, true⟩) (w.setCells L.b B.cells.length new') := by
  have hf := hR.fresh h.next (Nat.le_refl _)
  have hext := upd_ext (L := ⟨L.b, 0, L.cap⟩) hf
  have hget : ∀ k, ((h.put a none).alloc ⟨B.cells ++ new, e, true, true⟩).get k = if k = h.next then some ⟨B.cells ++ new, e, true, true⟩ else if k = a then none else h.get k := fun k => by
    rw [AHeap.get_alloc, AHeap.get_put]; rfl
  have hlow : ((h.put a none).alloc ⟨B.cells ++ new, e, true, true⟩).low ≤ a := Nat.min_le_right _ _
  have hother : ∀ r, r ≠ L.b → (w.setCells L.b B.cells.length new').heap[r]? = w.heap[r]? := fun r hr => heap_setCells_ne L.b r hr new' _ w
  have hcase : ∀ b K, upd m h.next ⟨L.b, 0, L.cap⟩ b = some K → (b = h.next ∧ K = ⟨L.b, 0, L.cap⟩) ∨ (b ≠ h.next ∧ m b = some K) := fun b K hk => by
    unfold upd at hk
    split at hk
    · cases hk; exact .inl ⟨‹_›, rfl⟩
    · exact .inr ⟨‹_›, hk⟩
  have hold : ∀ {b D}, b ≠ h.next → ((h.put a none).alloc ⟨B.cells ++ new, e, true, true⟩).get b = some D → b ≠ a ∧ h.get b = some D := fun {b D} hne hd => by
    rw [hget, if_neg hne] at hd
    split at hd
    · cases hd
    · exact ⟨‹_›, hd⟩
  obtain ⟨C1, e1, fr1, k1, k2, k3, k4, k5⟩ := hR.blk _ _ _ hg hm
  rw [hC] at k1
  cases k1
  have hblk : BlkRel P (upd m h.next ⟨L.b, 0, L.cap⟩) (w.setCells L.b B.cells.length new') ⟨B.cells ++ new, e, true, true⟩ ⟨L.b, 0, L.cap⟩ := by
    refine ⟨setL C B.cells.length new', e0, (0, 0), heap_setCells L.b e0 new' _ w C hC, fun _ => rfl, ?_, fun i hi => ?_, fun _ => ⟨rfl, rfl, by rw [setL_size]; exact hcs⟩⟩
    · rw [setL_size]; simp only [List.length_append, hn.1]; omega
    · refine VRel.mono hext ?_
      simp only [Nat.zero_add]
      rw [setL_getD _ _ _ _ hsz]
      simp only [List.length_append] at hi
      rw [List.getD_eq_getElem?_getD, List.getElem?_append]
      by_cases hlt' : i < B.cells.length
      · rw [if_pos hlt', if_neg (by omega), ← List.getD_eq_getElem?_getD]
        have := k4 i hlt'
        rwa [hbase, Nat.zero_add] at this
      · rw [if_neg hlt', if_pos (by rw [← hn.1]; omega), ← List.getD_eq_getElem?_getD]
        exact hn.2 _ (by omega)
  refine ⟨⟨?_, ?_, ?_, ?_, fun g hg => hext _ _ (hR.glob g hg), fun b hb => ?_⟩, ⟨hext, World.os_setCells w _ _ _, World.output_setCells w _ _ _, tape_setCells _ _ _ _, by rw [size_setCells]; exact Nat.le_refl _, ?_, ?_, Nat.min_le_left _ _, Nat.le_succ _, ?_, ?_, ?_, ?_⟩⟩
  · intro b K hk
    rw [size_setCells]
    rcases hcase b K hk with ⟨_, rfl⟩ | ⟨_, hk⟩
    · exact hR.lt a L hm
    · exact hR.lt b K hk
  · intro b hb
    have hb' : h.next + 1 ≤ b := hb
    unfold upd
    rw [if_neg (by omega)]
    exact hR.fresh b (by omega)
  · intro b D K hd hk
    rcases hcase b K hk with ⟨rfl, rfl⟩ | ⟨hne, hk⟩
    · rw [hget, if_pos rfl] at hd
      cases hd
      exact hblk
    · obtain ⟨hna, hd⟩ := hold hne hd
      refine ((hR.blk b D K hd hk).mono hext).same (hother _ (fun he => ?_))
      have := (hR.inj b a D B K L hd hg hk hm he hna).2
      rw [hwr] at this; cases this
  · intro b b' D1 D2 K1 K2 g1 g2 m1 m2 he hne
    rcases hcase b K1 m1 with ⟨rfl, rfl⟩ | ⟨n1, m1⟩
    · rcases hcase b' K2 m2 with ⟨rfl, rfl⟩ | ⟨n2, m2⟩
      · exact absurd rfl hne
      · obtain ⟨hna, hd⟩ := hold n2 g2
        have := (hR.inj b' a D2 B K2 L hd hg m2 hm he.symm hna).2
        rw [hwr] at this; cases this
    · rcases hcase b' K2 m2 with ⟨rfl, rfl⟩ | ⟨n2, m2⟩
      · obtain ⟨hna, hd⟩ := hold n1 g1
        have := (hR.inj b a D1 B K1 L hd hg m1 hm he hna).2
        rw [hwr] at this; cases this
      · exact hR.inj b b' D1 D2 K1 K2 (hold n1 g1).2 (hold n2 g2).2 m1 m2 he hne
  · have hb' : h.next + 1 ≤ b := hb
    rw [hget, if_neg (by omega)]
    split
    · rfl
    · exact hR.wf b (by omega)
  · intro r hr hno
    exact hother r (fun he => hno a B L hg hwr hm hlow he.symm)
  · intro b K hk
    rcases hcase b K hk with ⟨_, rfl⟩ | ⟨_, hk⟩
    · exact .inr (.inr ⟨a, B, L, hg, hwr, hm, rfl, hlow⟩)
    · exact .inl hk
  · intro b hb
    unfold upd
    rw [if_neg (by omega)]
  · intro b hb hl
    rw [hget, if_neg (by omega), if_neg (by omega)]
  · intro b hb hd
    rw [hget, if_neg (by omega)]
    split
    · rfl
    · exact hd
  · intro b D hb hd
    exact ⟨D, (hold (by omega) hd).2, rfl⟩

theorem lim {size bytes n : Nat} (hb : Nat.ble (n * (bytes + size + 1)) limit = true) : n < unkCap ∧ n * bytes ≤ 140737488355328 ∧ (n : Int) ≤ 9223372036854775807 := by
  have hb := Nat.le_of_ble_eq_true hb
  have h1 : n ≤ n * (bytes + size + 1) := Nat.le_mul_of_pos_right _ (by omega)
  have h2 : n * bytes ≤ n * (bytes + size + 1) := Nat.mul_le_mul_left _ (by omega)
  have hv : limit = 1099511627776 := by decide
  rw [hv] at hb
  exact ⟨Nat.lt_of_le_of_lt (Nat.le_trans h1 hb) (by decide), by omega, by omega⟩

theorem lrel_getD {l : List Value} {C : Array Value} {cs : List Value} (h : LRel m l cs) (hC : ∀ i, i < cs.length → C.getD i undef = cs.getD i undef) : ∀ i, i < l.length → VRel m (l.getD i undef) (C.getD i undef) := fun i hi => by
  rw [hC i (by rw [← h.1]; exact hi)]
  exact h.2 i hi

/-- A row that an append makes anew: what is known of it, then whatever the capacity leaves. -/
theorem grown_getD (l r : List Value) (Z : Array Value) (i : Nat) (hi : i < (l ++ r).length) : ((l ++ r).toArray ++ Z).getD i undef = (l ++ r).getD i undef := by
  have h1 : i < (l ++ r).toArray.size := by simpa using hi
  simp only [Array.getD_eq_getD_getElem?, List.getD_eq_getElem?_getD]
  rw [Array.getElem?_append_left h1]
  simp

theorem agrow_rel (hR : Rel P m h w) {t tx ty e : TypeId} {dx : TypeDesc} {i : TypeInfo} {z : Value} {s s' x x' v : Value} {n : Nat} {new : List Value} {h' : AHeap}
    (ht : P.underlying t = some (.slice e)) (hu : P.underlying tx = some dx) (hi : P.info? e = some i) (hz : i.zero = some z) (hk : isSrcT dx x = true) (hx : VRel m x x') (hl : srcLen x = some n) (hn : n ≠ 0)
    (hc : srcCells i.size n x h = some new) (hs : VRel m s s') (hg : agrow P.cellsOf i.size i.bytes z e s n new h = some (v, h')) :
    ∃ m' v' w', (Builtin.append_ #[t, tx] ty #[s', x']).run P w = .ok v' w' ∧ VRel m' v v' ∧ Rel P m' h' w' ∧ Sim m h w m' h' w' := by
  obtain ⟨new', hsrc, hnew⟩ := src_rel hR hu hk hx hl hn hc
  have hnl : new.length = n * i.size := by rw [hnew.1]; exact hsrc.newsLen
  have hfresh := hR.fresh h.next (Nat.le_refl _)
  -- the new row
  have grow : ∀ (h0 : AHeap) (s0 : Sim m h w m h0 w) (_ : Rel P m h0 w) (_ : h0.next = h.next) (base : Option Addr) (sLen sCap : Nat) (old olds : List Value) (_ : LRel m old olds) (_ : old.length = sLen * i.size)
      (_ : (Builtin.firstCells i.size sLen (.slice base sLen sCap)).run P w.drew = .ok olds.toArray w.drew) (_ : sCap < sLen + n) (_ : Nat.ble ((sLen + n) * (i.bytes + i.size + 1)) limit = true) (_ : Nat.beq (vcells z).length i.size = true),
      ∃ m' v' w', (Builtin.append_ #[t, tx] ty #[.slice base sLen sCap, x']).run P w = .ok v' w' ∧ VRel m' (.slice (some ⟨h.next, 0, none⟩) (sLen + n) unkCap) v' ∧ Rel P m' (h0.alloc ⟨old ++ new, e, true, true⟩) w' ∧ Sim m h w m' (h0.alloc ⟨old ++ new, e, true, true⟩) w' := by
    intro h0 s0 r0 hnx base sLen sCap old olds hold hol hrun hlt hb hzs
    obtain ⟨hl1, hl2, hl3⟩ := lim hb
    have hzs' : z.cells.size = i.size := by
      have := Nat.eq_of_beq_eq_true hzs
      rw [← cells_toList] at this
      simpa using this
    have hr := run_append_grow_src (P := P) w t tx ty e i z ht hi hz base sLen sCap olds hrun x' n new' hsrc hlt hl3 (growslice_fits hlt hl2)
    have hcap := grownCap_ge w (sLen + n) sCap e
    have hsz : ((olds ++ new').toArray ++ Builtin.zeroCells z.cells (grownCap w (sLen + n) sCap e - (sLen + n))).size = grownCap w (sLen + n) sCap e * i.size := by
      have e1 : olds.length = sLen * i.size := by rw [← hold.1]; exact hol
      have e2 : new'.length = n * i.size := hsrc.newsLen
      simp only [Builtin.zeroCells, Array.size_append, List.size_toArray, List.length_append, Array.size_map, Array.size_range, e1, e2, hzs']
      rw [← Nat.add_mul, ← Nat.add_mul, Nat.add_sub_cancel' hcap]
    obtain ⟨q1, q2⟩ := rel_alloc (h := h0) (B := ⟨old ++ new, e, true, true⟩) (C := (olds ++ new').toArray ++ Builtin.zeroCells z.cells (grownCap w (sLen + n) sCap e - (sLen + n))) (e := e) (n := w.heap.size) (grownCap w (sLen + n) sCap e) r0
      (by rw [hsz]; simp only [List.length_append, hol, hnl]; rw [← Nat.add_mul]; exact Nat.mul_le_mul_right _ hcap)
      (lrel_getD (hold.append hnew) (fun k hk => grown_getD _ _ _ k hk))
      (fun _ => ⟨rfl, by rw [hsz, Program.cellsOf, hi]; rfl⟩) rfl (.inr rfl)
    rw [hnx] at q1 q2
    refine ⟨_, _, _, hr, ?_, q1, s0.trans hR q2⟩
    have := VRel.unk (m := upd m h.next ⟨w.heap.size, 0, grownCap w (sLen + n) sCap e⟩) ⟨h.next, 0, none⟩ ⟨w.heap.size, 0, grownCap w (sLen + n) sCap e⟩ (sLen + n) (by simp [upd]) rfl rfl rfl hcap
    exact this
  unfold agrow at hg
  split at hg
  · rename_i sLen sCap
    split at hg
    · rename_i hb
      simp only [Bool.and_eq_true] at hb
      obtain ⟨⟨⟨hb1, hb2⟩, hb3⟩, hb4⟩ := hb
      obtain rfl := Nat.eq_of_beq_eq_true hb1
      obtain rfl := Nat.eq_of_beq_eq_true hb2
      cases hg
      have he := hs.inv_snil
      subst he
      have := grow h (Sim.refl _ _ _) hR rfl none 0 0 [] [] (LRel.nil m) (by simp) (run_firstCells_none w.drew i.size 0 0 0) (by omega) (by simpa using hb3) hb4
      simpa using this
    · cases hg
  · rename_i a sLen sCap
    obtain ⟨a', c', rfl, g1, g2, g3⟩ := hs.inv_slice
    split at hg
    · rename_i hb
      simp only [Bool.and_eq_true] at hb
      obtain ⟨hb3, hb4⟩ := hb
      split at hg
      · rename_i hcap
        rw [Nat.blt_eq] at hcap
        obtain rfl := g2 hcap
        obtain ⟨L, hm, hsp, rfl, _⟩ := g1 (.inr (by intro e; rw [e] at hcap; exact absurd hcap (by decide)))
        split at hg
        · rename_i hroom
          have hroom' := Nat.le_of_ble_eq_true hroom
          split at hg
          · rename_i h1 hp
            cases hg
            obtain ⟨p1, p2, p3, p4⟩ := aput_rel hR (a := a.add (sLen * i.size)) (by rw [add_block]; exact hm) hnew hp
            rw [add_off, ← Nat.add_assoc] at p1 p3 p4
            refine ⟨m, _, _, run_append_room_src w t tx ty e i ht hi L.b (L.base + a.off) sLen c' x' n new' hsrc hroom' (fun j hj => (p1 j hj).1) (fun j hj => (p1 j hj).2), .slice a L _ _ hm hsp hcap, p3, p4⟩
          · cases hg
        · rename_i hroom
          split at hg
          · rename_i old hold
            cases hg
            have hlt : c' < sLen + n := by
              rcases Nat.lt_or_ge c' (sLen + n) with h' | h'
              · exact h'
              · have := Nat.ble_eq_true_of_le h'; rw [hroom] at this; cases this
            have hold' : ∃ cs, cellsAt h a (sLen * i.size) = some cs ∧ old = cs := by
              unfold srcCells at hold
              simp only [] at hold
              split at hold
              · rename_i cs hcs
                split at hold
                · cases hold; exact ⟨_, hcs, rfl⟩
                · cases hold
              · cases hold
            obtain ⟨cs, hcs, rfl⟩ := hold'
            obtain ⟨olds, r1, r2, r3⟩ := cellsAt_rel hR hm hcs
            exact grow h (Sim.refl _ _ _) hR rfl _ sLen c' old olds r1 r3 (run_firstCells_some w.drew i.size sLen ⟨L.b, L.base + a.off, none⟩ sLen c' olds (by rw [← r1.1, r3]) (fun j u hj => by rw [add_lit]; exact r2 j u hj)) hlt hb3 hb4
          · cases hg
      · rename_i hcap
        have hcap' : unkCap ≤ sCap := by
          rcases Nat.lt_or_ge sCap unkCap with h' | h'
          · have : Nat.blt sCap unkCap = true := by rw [Nat.blt_eq]; exact h'
            rw [hcap] at this; cases this
          · exact h'
        split at hg
        · rename_i B hbq hgB
          split at hg
          · rename_i hb
            simp only [Bool.and_eq_true] at hb
            obtain ⟨⟨⟨⟨b1, b2⟩, b3⟩, b4⟩, _⟩ := hb
            cases hg
            obtain rfl := Nat.eq_of_beq_eq_true hbq
            have b2' := Nat.eq_of_beq_eq_true b2
            have b3' := Nat.eq_of_beq_eq_true b3
            rw [Nat.blt_eq] at b4
            obtain ⟨L, hm, hsp, rfl, hun⟩ := g1 (.inr (by decide))
            obtain ⟨h0, hbase, rfl⟩ := hun rfl
            obtain ⟨C, e0, fr, k1, k2, k3, k4, k5⟩ := hR.blk _ _ _ hgB hm
            obtain ⟨hwr, _, hCs⟩ := k5 b1
            obtain rfl := k2 hwr
            obtain ⟨q1, q2⟩ := rel_kill hR hgB
            obtain ⟨hl1, hl2, hl3⟩ := lim hb3
            have hcell : P.cellsOf B.elem = i.size := b3'
            rw [hcell] at hCs
            by_cases hroom : sLen + n ≤ L.cap
            · -- there is room: the row goes on
              have hroomC : (sLen + n) * i.size ≤ C.size := by rw [hCs]; exact Nat.mul_le_mul_right _ hroom
              have hlen' : new'.length = n * i.size := hsrc.newsLen
              have hth : w.there L.b (L.base + a.off + sLen * i.size) new'.length := there_of_block k1 (by rw [hbase, h0, hlen']; rw [Nat.add_mul] at hroomC; omega)
              have hrun := run_append_room_src w t tx ty e i ht hi L.b (L.base + a.off) sLen L.cap x' n new' hsrc hroom (fun j hj => (hth j hj).1) (fun j hj => (hth j hj).2)
              obtain ⟨r1, r2⟩ := rel_tip hR (a := a.block) hgB hwr hm hbase k1 (by rw [hlen', b2', hCs, ← Nat.add_mul]; exact Nat.mul_le_mul_right _ hroom) hnew (by rw [hCs, Program.cellsOf, hi]; rfl) b4 (e := e)
              rw [show L.base + a.off + sLen * i.size = B.cells.length by rw [hbase, h0, b2']; omega] at hrun
              refine ⟨_, _, _, hrun, ?_, r1, r2⟩
              have := VRel.unk (m := upd m h.next ⟨L.b, 0, L.cap⟩) ⟨h.next, 0, none⟩ ⟨L.b, 0, L.cap⟩ (sLen + n) (by simp [upd]) rfl rfl rfl hroom
              rw [hbase, h0]
              exact this
            · have hlt : L.cap < sLen + n := by omega
              obtain ⟨olds, r1, r2⟩ := (hR.blk _ _ _ hgB hm).cells
              have r3 : olds.length = sLen * i.size := by rw [← r1.1, b2']
              exact grow _ q2 q1 rfl _ sLen L.cap B.cells olds r1 b2' (run_firstCells_some w.drew i.size sLen ⟨L.b, L.base + a.off, none⟩ sLen L.cap olds r3 (fun j u hj => by rw [add_lit, h0, Nat.add_zero]; exact r2 j u hj)) hlt hb3 hb4
          · cases hg
        · cases hg
    · cases hg
  · cases hg

theorem aappend_rel (hR : Rel P m h w) {types : Array TypeId} {ty : TypeId} {s s' x x' v : Value} {h' : AHeap} (hs : VRel m s s') (hx : VRel m x x') (ha : aappend P types s x h = some (v, h')) :
    ∃ m' v' w', (Builtin.append_ types ty #[s', x']).run P w = .ok v' w' ∧ VRel m' v v' ∧ Rel P m' h' w' ∧ Sim m h w m' h' w' := by
  unfold aappend at ha
  split at ha
  · rename_i t tx htt
    obtain rfl : types = #[t, tx] := Array.ext' (by simpa using htt)
    split at ha
    · rename_i e dx ht hu
      split at ha
      · rename_i i hi hk
        split at ha
        · rename_i z n hz hl
          split at ha
          · rename_i hn
            obtain rfl := Nat.eq_of_beq_eq_true hn
            split at ha
            · rename_i base sLen sCap
              split at ha
              · rename_i hle
                have hle' := Nat.le_of_ble_eq_true hle
                cases ha
                cases base with
                | none =>
                  have he := hs.inv_snil
                  subst he
                  exact ⟨m, _, w, run_append_nothing w t tx ty e i ht hi none sLen sCap hle' x' (src_zero hu hk hx hl), hs, hR, Sim.refl _ _ _⟩
                | some a =>
                  obtain ⟨a', c', rfl, _, g2, g3⟩ := hs.inv_slice
                  have hle2 : sLen ≤ c' := by
                    rcases Nat.lt_or_ge sCap unkCap with hh | hh
                    · rw [g2 hh]; exact hle'
                    · exact (g3 hh).2
                  exact ⟨m, _, w, run_append_nothing w t tx ty e i ht hi (some a') sLen c' hle2 x' (src_zero hu hk hx hl), hs, hR, Sim.refl _ _ _⟩
              · cases ha
            · cases ha
          · rename_i hn
            split at ha
            · rename_i new hnew
              exact agrow_rel hR ht hu hi hz hk hx hl (Nat.ne_of_beq_eq_false hn) hnew hs ha
            · cases ha
        · cases ha
      · cases ha
    · cases ha
  · cases ha

theorem src_first (hR : Rel P m h w) {size n len : Nat} {x x' : Value} {new : List Value} (hx : VRel m x x') (hl : srcLen x = some len) (hn : n ≠ 0) (hle : n ≤ len)
    (hc : srcCells size n x h = some new) : ∃ new', (Builtin.firstCells size n x').run P w = .ok new'.toArray w ∧ LRel m new new' := by
  unfold srcCells at hc
  split at hc
  · rename_i a k c
    cases hl
    have hk : len ≠ 0 := fun e => hn (Nat.le_zero.1 (e ▸ hle))
    split at hc
    · rename_i cs hcs
      split at hc
      · cases hc
        obtain ⟨a', c', rfl, h1, _, _⟩ := hx.inv_slice
        obtain ⟨L, hm, hs, rfl, _⟩ := h1 (.inl hk)
        obtain ⟨cs', hr, hrange, hlen⟩ := cellsAt_rel hR hm hcs
        exact ⟨cs', run_firstCells_some w size n ⟨L.b, L.base + a.off, none⟩ _ c' cs' (by rw [← hr.1, hlen]) (fun j u hj => by rw [add_lit]; exact hrange j u hj), hr⟩
      · cases hc
    · cases hc
  · rename_i s
    cases hl
    split at hc
    · rename_i hb
      simp only [Bool.and_eq_true] at hb
      have h1 := Nat.eq_of_beq_eq_true hb.1
      have h2 := Nat.eq_of_beq_eq_true hb.2
      cases hc
      subst h1 h2
      have he := hx.inv_string
      subst he
      refine ⟨byteCells s, firstCells_string s w, LRel.of_get rfl (fun i v v' h1 h2 => ?_)⟩
      unfold byteCells at h2
      rw [h1] at h2; cases h2
      refine .plain _ ?_
      simp only [List.getElem?_map, Option.map_eq_some_iff] at h1
      obtain ⟨b, _, rfl⟩ := h1
      rfl
    · cases hc
  · cases hc

theorem lenOf_rel {x x' : Value} {n : Nat} (hx : VRel m x x') (hl : srcLen x = some n) : (Builtin.lenOf x').run P w = .ok n w ∧ (Builtin.firstCells (P.cellsOf 0) 0 x').run P w = .ok #[] w ∧ ∀ size, (Builtin.firstCells size 0 x').run P w = .ok #[] w := by
  cases x <;> try (cases hl; done)
  case string s =>
    cases hl
    have he := hx.inv_string
    subst he
    have hc : ∀ size, (Builtin.firstCells size 0 (.string s)).run P w = .ok (#[] : Array Value) w := fun size => by simp [Builtin.firstCells]
    exact ⟨rfl, hc _, hc⟩
  case slice a n c =>
    cases hl
    cases a with
    | none =>
      have he := hx.inv_snil
      subst he
      have hc : ∀ size, (Builtin.firstCells size 0 (.slice none n c)).run P w = .ok (#[] : Array Value) w := fun size => by simp [Builtin.firstCells]
      exact ⟨rfl, hc _, hc⟩
    | some a =>
      obtain ⟨a', c', rfl, _⟩ := hx.inv_slice
      have hc : ∀ size, (Builtin.firstCells size 0 (.slice (some a') n c')).run P w = .ok (#[] : Array Value) w := fun size => by
        simp [Builtin.firstCells, loadCells, loadCellsFrom]
      exact ⟨rfl, hc _, hc⟩

theorem acopy_rel (hR : Rel P m h w) {types : Array TypeId} {ty : TypeId} {d d' x x' v : Value} {h' : AHeap} (hd : VRel m d d') (hx : VRel m x x') (ha : acopy P types d x h = some (v, h')) :
    ∃ v' w', (Builtin.copy_ types ty #[d', x']).run P w = .ok v' w' ∧ VRel m v v' ∧ Rel P m h' w' ∧ Sim m h w m h' w' := by
  unfold acopy at ha
  split at ha
  · rename_i t tx htt
    obtain rfl : types = #[t, tx] := Array.ext' (by simpa using htt)
    split at ha
    · rename_i e dx ht hu
      split at ha
      · rename_i i hi hk
        split at ha
        · rename_i base dLen dCap n hl
          obtain ⟨l1, _, l3⟩ := lenOf_rel (P := P) (w := w) hx hl
          split at ha
          · rename_i hn
            have hn' := Nat.eq_of_beq_eq_true hn
            cases ha
            cases base with
            | none =>
              have he := hd.inv_snil
              subst he
              exact ⟨.int .i64 0, w, by simp [Builtin.copy_, run_underlying ht, run_sizeOf hi, l1, hn', l3, goInt], .plain _ rfl, hR, Sim.refl _ _ _⟩
            | some a =>
              obtain ⟨a', c', rfl, _⟩ := hd.inv_slice
              exact ⟨.int .i64 0, w, by simp [Builtin.copy_, run_underlying ht, run_sizeOf hi, l1, hn', l3, goInt, storeCells], .plain _ rfl, hR, Sim.refl _ _ _⟩
          · rename_i hn
            have hn' := Nat.ne_of_beq_eq_false hn
            split at ha
            · rename_i cs a hcs
              split at ha
              · rename_i h1 hp
                cases ha
                obtain ⟨a', c', rfl, g1, _, _⟩ := hd.inv_slice
                have hd0 : dLen ≠ 0 := by intro e; subst e; exact hn' (Nat.min_zero _)
                obtain ⟨L, hm, hsp, rfl, _⟩ := g1 (.inl hd0)
                obtain ⟨cs', f1, f2⟩ := src_first hR hx hl hn' (Nat.min_le_left _ _) hcs
                obtain ⟨p1, p2, p3, p4⟩ := aput_rel hR hm f2 hp
                have hst := run_storeCells_cells (P := P) L.b (L.base + a.off) cs' 0 w (fun j hj => by simpa using (p1 j hj).1) (fun j hj => by simpa using (p1 j hj).2) p2
                simp only [Nat.add_zero] at hst
                exact ⟨_, _, by simp [Builtin.copy_, run_underlying ht, run_sizeOf hi, l1, f1, hst, goInt], .plain _ rfl, p3, p4⟩
              · cases ha
            · cases ha
        · cases ha
      · cases ha
    · cases ha
  · cases ha

theorem aclear_rel (hR : Rel P m h w) {types : Array TypeId} {t ty : TypeId} {x x' v : Value} {h' : AHeap} (ht : types[0]? = some t) (hx : VRel m x x') (ha : aclear P t x h = some (v, h')) :
    ∃ v' w', (Builtin.clear_ types ty #[x']).run P w = .ok v' w' ∧ VRel m v v' ∧ Rel P m h' w' ∧ Sim m h w m h' w' := by
  unfold aclear at ha
  split at ha
  · rename_i e n c hu
    cases ha
    have he := hx.inv_snil
    subst he
    exact ⟨.tuple #[], w, by simp [Builtin.clear_, ht, run_underlying hu], .undef m, hR, Sim.refl _ _ _⟩
  · rename_i e a n c hu
    obtain ⟨a', c', rfl, g1, _, _⟩ := hx.inv_slice
    split at ha
    · rename_i hn
      obtain rfl := Nat.eq_of_beq_eq_true hn
      cases ha
      exact ⟨.tuple #[], w, by simp [Builtin.clear_, ht, run_underlying hu], .undef m, hR, Sim.refl _ _ _⟩
    · rename_i hn
      have hn' := Nat.ne_of_beq_eq_false hn
      obtain ⟨L, hm, hsp, rfl, _⟩ := g1 (.inl hn')
      split at ha
      · rename_i i hi
        split at ha
        · rename_i z hz
          split at ha
          · rename_i hb
            simp only [Bool.and_eq_true] at hb
            split at ha
            · rename_i h1 hp
              cases ha
              have hr : LRel m (zeros (vcells z) n) (zeros z.cells.toList n) := LRel.zeros (VRel.of_plainV (m := m) hb.1).cells n
              obtain ⟨p1, p2, p3, p4⟩ := aput_rel hR hm hr hp
              have hst := run_storeCells_cells (P := P) L.b (L.base + a.off) (zeros z.cells.toList n) 0 w (fun j hj => by simpa using (p1 j hj).1) (fun j hj => by simpa using (p1 j hj).2) p2
              simp only [Nat.add_zero] at hst
              refine ⟨.tuple #[], _, ?_, .undef m, p3, p4⟩
              have hz0 : (Builtin.zeroCells z.cells n).toList = zeros z.cells.toList n := by
                unfold Builtin.zeroCells
                rw [zeros_eq]
              obtain ⟨k, rfl⟩ : ∃ k, n = k + 1 := ⟨n - 1, by omega⟩
              simp [Builtin.clear_, ht, run_underlying hu, zeroValue, typeInfo, hi, hz, hz0, hst]
            · cases ha
          · cases ha
        · cases ha
      · cases ha
  · cases ha

end
end Go.Abs
