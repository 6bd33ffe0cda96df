/-
  The operations that make or turn blocks: what the abstract evaluator says of them, the model does.
  Conditions: none; lemmas.
-/
import Derived.Test.YtcdhajbhpnbdkaaDoorAbsQuiet
import Derived.IntWalk
set_option linter.unusedSimpArgs false
set_option linter.unusedVariables false
set_option linter.unusedSectionVars false
namespace Go.Abs
section
variable {P : Program} {m : BMap} {h : AHeap} {w : World}

/-! ### A new block -/
def upd (m : BMap) (id : Nat) (L : Loc) : BMap := fun a => if a = id then some L else m a

theorem upd_ext {id : Nat} {L : Loc} (hf : m id = none) : ∀ a K, m a = some K → upd m id L a = some K := fun a K hk => by
  unfold upd
  split
  · rename_i e; subst e; rw [hf] at hk; cases hk
  · exact hk

theorem cells_new (w : World) (C : Array Value) (e : TypeId) : (w.alloc (.cells C e)).heap[w.heap.size]? = some (.cells C e (0, 0)) := heap_alloc_new w _

theorem heap_alloc_lt (w : World) (o : Obj) (r : Nat) (hr : r < w.heap.size) : (w.alloc o).heap[r]? = w.heap[r]? := by
  show (w.heap.push o)[r]? = _
  rw [Array.getElem?_push, if_neg (by omega)]

/-- The new block's own standing. -/
theorem blk_new {B : Blk} {C : Array Value} {e : TypeId} {w' : World} {r : Nat} (cap : Nat) (hw : w'.heap[r]? = some (.cells C e (0, 0))) (hs : B.cells.length ≤ C.size) (hc : ∀ i, i < B.cells.length → VRel m (B.cells.getD i undef) (C.getD i undef))
    (hu : B.unk = true → B.wr = true ∧ C.size = cap * P.cellsOf B.elem) : BlkRel P m w' B ⟨r, 0, cap⟩ :=
  ⟨C, e, (0, 0), hw, fun _ => rfl, by simpa using hs, fun i hi => by simpa using hc i hi, fun h => ⟨(hu h).1, rfl, (hu h).2⟩⟩

theorem rel_alloc {B : Blk} {C : Array Value} {e : TypeId} {n : Nat} (cap : Nat) (hR : Rel P m h w) (hs : B.cells.length ≤ C.size) (hc : ∀ i, i < B.cells.length → VRel m (B.cells.getD i undef) (C.getD i undef))
    (hu : B.unk = true → B.wr = true ∧ C.size = cap * P.cellsOf B.elem) (hn : n = w.heap.size) {w' : World} (hw : w' = w.alloc (.cells C e) ∨ w' = w.drew.alloc (.cells C e)) :
    Rel P (upd m h.next ⟨n, 0, cap⟩) (h.alloc B) w' ∧ Sim m h w (upd m h.next ⟨n, 0, cap⟩) (h.alloc B) w' := by
  subst hn
  have hf := hR.fresh h.next (Nat.le_refl _)
  have hext := upd_ext (L := ⟨w.heap.size, 0, cap⟩) hf
  have hheap : ∀ r, r < w.heap.size → w'.heap[r]? = w.heap[r]? := by
    rcases hw with rfl | rfl
    · exact fun r hr => heap_alloc_lt w _ r hr
    · exact fun r hr => heap_alloc_lt w.drew _ r hr
  have hnew : w'.heap[w.heap.size]? = some (.cells C e (0, 0)) := by
    rcases hw with rfl | rfl
    · exact cells_new w C e
    · exact cells_new w.drew C e
  have hsize : w'.heap.size = w.heap.size + 1 := by
    rcases hw with rfl | rfl <;> simp
  have hos : w'.os = w.os ∧ w'.output = w.output ∧ w'.tape = w.tape := by
    rcases hw with rfl | rfl <;> exact ⟨rfl, rfl, rfl⟩
  have hcase : ∀ a K, upd m h.next ⟨w.heap.size, 0, cap⟩ a = some K → (a = h.next ∧ K = ⟨w.heap.size, 0, cap⟩) ∨ (a ≠ h.next ∧ m a = some K) := fun a K hk => by
    unfold upd at hk
    split at hk
    · cases hk; exact .inl ⟨‹_›, rfl⟩
    · exact .inr ⟨‹_›, hk⟩
  refine ⟨⟨?_, ?_, ?_, ?_, ?_, ?_⟩, ⟨hext, hos.1, hos.2.1, hos.2.2, by omega, fun r hr _ => hheap r hr, ?_, Nat.le_refl _, Nat.le_succ _, ?_, ?_, ?_, ?_⟩⟩
  · intro a K hk
    rcases hcase a K hk with ⟨_, rfl⟩ | ⟨_, hk⟩
    · simp [hsize]
    · have := hR.lt a K hk; omega
  · intro a ha
    have ha' : h.next + 1 ≤ a := ha
    unfold upd
    rw [if_neg (by omega)]
    exact hR.fresh a (by omega)
  · intro a B' K hg hk
    rw [AHeap.get_alloc] at hg
    rcases hcase a K hk with ⟨rfl, rfl⟩ | ⟨hne, hk⟩
    · rw [if_pos rfl] at hg
      cases hg
      exact blk_new cap hnew hs (fun i hi => (hc i hi).mono hext) hu
    · rw [if_neg hne] at hg
      exact ((hR.blk a B' K hg hk).mono hext).same (hheap _ (hR.lt a K hk))
  · intro a a' B1 B2 K1 K2 g1 g2 k1 k2 he hne
    rw [AHeap.get_alloc] at g1 g2
    rcases hcase a K1 k1 with ⟨rfl, rfl⟩ | ⟨n1, k1⟩
    · rcases hcase a' K2 k2 with ⟨rfl, rfl⟩ | ⟨n2, k2⟩
      · exact absurd rfl hne
      · have := hR.lt a' K2 k2; simp at he; omega
    · rcases hcase a' K2 k2 with ⟨rfl, rfl⟩ | ⟨n2, k2⟩
      · have := hR.lt a K1 k1; simp at he; omega
      · rw [if_neg n1] at g1
        rw [if_neg n2] at g2
        exact hR.inj a a' B1 B2 K1 K2 g1 g2 k1 k2 he hne
  · intro g hg
    exact hext _ _ (hR.glob g hg)
  · intro a ha
    have ha' : h.next + 1 ≤ a := ha
    rw [AHeap.get_alloc, if_neg (by omega)]
    exact hR.wf a (by omega)
  · intro a K hk
    rcases hcase a K hk with ⟨_, rfl⟩ | ⟨_, hk⟩
    · exact .inr (.inl (Nat.le_refl _))
    · exact .inl hk
  · intro a ha
    unfold upd
    rw [if_neg (by omega)]
  · intro a ha _
    rw [AHeap.get_alloc, if_neg (by omega)]
  · intro a ha hd
    rw [AHeap.get_alloc, if_neg (by omega)]; exact hd
  · intro a B' ha hg
    rw [AHeap.get_alloc, if_neg (by omega)] at hg
    exact ⟨B', hg, rfl⟩

/-! ### Cells of a zero value, again and again -/
theorem zeros_length (z : List Value) : ∀ n, (zeros z n).length = n * z.length
  | 0 => by simp [zeros]
  | n + 1 => by simp [zeros, zeros_length z n, Nat.succ_mul, Nat.add_comm]

theorem zeros_get (z : List Value) (hz : 0 < z.length) : ∀ n j, j < n * z.length → (zeros z n)[j]? = z[j % z.length]?
  | 0, j, hj => by simp at hj
  | n + 1, j, hj => by
    rw [zeros]
    rcases Nat.lt_or_ge j z.length with h' | h'
    · rw [List.getElem?_append_left h', Nat.mod_eq_of_lt h']
    · rw [List.getElem?_append_right h', zeros_get z hz n (j - z.length) (by rw [Nat.succ_mul] at hj; omega)]
      congr 1
      rw [Nat.mod_eq_sub_mod h']

/-- As the model makes them. -/
theorem zeros_eq (z : Array Value) (n : Nat) : (Array.range (n * z.size)).map (fun j => z[j % z.size]!) = (zeros z.toList n).toArray := by
  apply Array.ext
  · simp [zeros_length]
  · intro j h1 h2
    have hj : j < n * z.size := by simpa using h1
    have hz : 0 < z.size := by
      rcases Nat.eq_zero_or_pos z.size with h0 | h0
      · rw [h0] at hj; simp at hj
      · exact h0
    have hm : j % z.size < z.size := Nat.mod_lt _ hz
    have hg := zeros_get z.toList (by simpa using hz) n j (by simpa using hj)
    simp only [Array.length_toList, Array.getElem?_toList] at hg
    rw [Array.getElem?_eq_getElem hm, List.getElem?_eq_getElem (by simpa [zeros_length] using hj)] at hg
    simp only [Array.getElem_map, Array.getElem_range, List.getElem_toArray]
    rw [getElem!_pos z (j % z.size) hm]
    exact (Option.some.inj hg).symm

theorem LRel.zeros {z z' : List Value} (hz : LRel m z z') : ∀ n, LRel m (zeros z n) (zeros z' n)
  | 0 => LRel.nil m
  | n + 1 => hz.append (LRel.zeros hz n)

theorem lrel_arr {l : List Value} {C : Array Value} (hl : LRel m l C.toList) : l.length = C.size ∧ ∀ i, i < l.length → VRel m (l.getD i undef) (C.getD i undef) := by
  refine ⟨by simpa using hl.1, fun i hi => ?_⟩
  have h2 := hl.2 i hi
  have hi' : i < C.size := by have := hl.1; simp at this; omega
  simpa [List.getD_eq_getElem?_getD, Array.getD, hi, hi'] using h2

variable {nt : Nat} {ts : Tr Value} {a : Act}

theorem zero_cells {i : TypeInfo} {z : Value} (n : Nat) (hs : z.cells.size = i.size) :
    (n * i.size = 0 ∧ (Array.range (n * i.size)).map (fun x => (#[] : Array Value)[x % (#[] : Array Value).size]!) = (zeros (vcells z) n).toArray) ∨
    (n * i.size ≠ 0 ∧ (Array.range (n * i.size)).map (fun x => z.cells[x % z.cells.size]!) = (zeros (vcells z) n).toArray) := by
  rcases Nat.eq_zero_or_pos (n * i.size) with h0 | h0
  · refine .inl ⟨h0, ?_⟩
    have he0 : zeros (vcells z) n = [] := by
      apply List.eq_nil_of_length_eq_zero
      rw [zeros_length, ← cells_toList]
      simpa [hs] using h0
    rw [he0, h0]
    simp
  · refine .inr ⟨by omega, ?_⟩
    rw [← hs, zeros_eq, cells_toList]

theorem run_val' {s : Sem Value} {v : Value} {w' : World} (hs : s.run P w = .ok v w') : (do pure (Next.value (← s)) : Sem Next).run P w = .ok (.value v) w' := by
  simp [hs]

/-- What the abstract evaluator says of an operation that makes a block, whatever number the block is given. -/
theorem anew_rel (hR : Rel P m h w) (hT : TRel m nt ts a) (o : Oper) {id : Nat} {v : Value} {B : Blk} (hf : m id = none) (hq : anew P o.op ts id = some (v, B)) :
    ∃ v' C e, (execOp a.eval o).run P w = .ok (.value v') (w.alloc (.cells C e)) ∧ VRel (upd m id ⟨w.heap.size, 0, 0⟩) v v' ∧ LRel m B.cells C.toList ∧ B.wr = true ∧ B.unk = false := by
  have hG := hR.glob
  have hptr : VRel (upd m id ⟨w.heap.size, 0, 0⟩) (.pointer (some ⟨id, 0, none⟩)) (.pointer (some ⟨w.heap.size, 0, none⟩)) := by
    have := VRel.ptr (m := upd m id ⟨w.heap.size, 0, 0⟩) ⟨id, 0, none⟩ ⟨w.heap.size, 0, 0⟩ (by simp [upd]) rfl
    simpa using this
  have hsl : ∀ n c, c < unkCap → VRel (upd m id ⟨w.heap.size, 0, 0⟩) (.slice (some ⟨id, 0, none⟩) n c) (.slice (some ⟨w.heap.size, 0, none⟩) n c) := fun n c hc => by
    have := VRel.slice (m := upd m id ⟨w.heap.size, 0, 0⟩) ⟨id, 0, none⟩ ⟨w.heap.size, 0, 0⟩ n c (by simp [upd]) rfl hc
    simpa using this
  have hlim : ∀ {k c x : Nat}, Nat.ble (c * (x + k + 1)) limit = true → c < unkCap ∧ c * x ≤ limit := fun {k c x} hb => by
    have hb := Nat.le_of_ble_eq_true hb
    have h1 : c ≤ c * (x + k + 1) := Nat.le_mul_of_pos_right _ (by omega)
    have h2 : c * x ≤ c * (x + k + 1) := Nat.mul_le_mul_left _ (by omega)
    exact ⟨Nat.lt_of_le_of_lt (Nat.le_trans h1 hb) (by decide), Nat.le_trans h2 hb⟩
  obtain ⟨dst, op, type, pos, after, guard⟩ := o
  cases op with
  | box e x =>
    simp only [anew] at hq
    split at hq
    · rename_i u hu
      cases hq
      have hr := ev_rel hT hG hu
      exact ⟨_, (a.eval x).cells, e, by simp [execOp, Instr.box, newVar, newRow], hptr, by simpa [cells_toList] using hr.cells, rfl, rfl⟩
    · cases hq
  | alloc e =>
    simp only [anew] at hq
    split at hq
    · rename_i i hi
      split at hq
      · rename_i z hz
        split at hq
        · rename_i hpl
          cases hq
          have hr : VRel m z z := VRel.of_plainV hpl
          exact ⟨_, z.cells, e, by simp [execOp, Instr.alloc, newVar, newRow, zeroValue, typeInfo, hi, hz], hptr, by simpa [cells_toList] using hr.cells, rfl, rfl⟩
        · cases hq
      · cases hq
    · cases hq
  | buildSlice t len parts =>
    simp only [anew] at hq
    split at hq
    · rename_i ps hps
      unfold abuildSlice at hq
      split at hq
      · rename_i e hu
        split at hq
        · rename_i i hi
          split at hq
          · rename_i z hz
            split at hq
            · rename_i hb
              simp only [Bool.and_eq_true] at hb
              obtain ⟨⟨hb0, hb2⟩, hb3⟩ := hb
              have hb0 := Nat.le_of_ble_eq_true hb0
              have hlen1 : len ≤ len * (i.size + 1) := Nat.le_mul_of_pos_right _ (by omega)
              have hlen2 : len * i.size ≤ len * (i.size + 1) := Nat.mul_le_mul_left _ (by omega)
              have hc1 : len < unkCap := Nat.lt_of_le_of_lt (Nat.le_trans hlen1 hb0) (by decide)
              have hno : ¬ (len * i.size > 2 ^ 24) := by unfold limit24 at hb0; omega
              split at hq
              · rename_i cells hfill
                cases hq
                have hz' : z.cells.size = i.size := by
                  have := Nat.eq_of_beq_eq_true hb3
                  rw [← cells_toList] at this
                  simpa using this
                have hrz : LRel m (zeros (vcells z) len) (zeros (vcells z) len) := by
                  have := (VRel.of_plainV (m := m) hb2).cells
                  rw [cells_toList] at this
                  exact this.zeros len
                obtain ⟨out', ho, hr⟩ := fill_rel _ (evParts_rel hT hG hps) (cs' := (zeros (vcells z) len).toArray) (by simpa using hrz) hfill
                have ho' : Instr.fill (fun j => some (j * i.size, i.size)) (zeros (vcells z) len).toArray (parts.toList.map fun p => (p.1, a.eval p.2)) = some out' := ho
                refine ⟨_, out', e, ?_, hsl len len hc1, hr, rfl, rfl⟩
                have hrun : (Instr.buildSlice t len (parts.map fun p => (p.1, a.eval p.2))).run P w = .ok (.slice (some ⟨w.heap.size, 0, none⟩) len len) (w.alloc (.cells out' e)) := by
                  rcases zero_cells len hz' with ⟨h0, hm⟩ | ⟨h0, hm⟩
                  · simp only [Instr.buildSlice, Sem.run_bind, run_underlying hu w, Result.andThen_ok, run_sizeOf hi, if_neg hno, if_pos h0, Sem.run_pure, hm, Array.toList_map, ho', newRow, run_newObj]
                    rfl
                  · simp only [Instr.buildSlice, Sem.run_bind, run_underlying hu w, Result.andThen_ok, run_sizeOf hi, if_neg hno, if_neg h0, zeroValue, typeInfo, run_program, hi, hz, Sem.run_pure, hm, Array.toList_map, ho', newRow, run_newObj]
                    rfl
                exact run_val' hrun
              · cases hq
            · cases hq
          · cases hq
        · cases hq
      · cases hq
    · cases hq
  | makeSlice t l0 c0 =>
    simp only [anew] at hq
    split at hq
    · rename_i lv cv hl hc
      unfold amake at hq
      split at hq
      · rename_i e k1 l k2 c hu
        split at hq
        · rename_i i hi
          split at hq
          · rename_i z hz
            split at hq
            · rename_i hb
              simp only [Bool.and_eq_true] at hb
              obtain ⟨⟨⟨hb0, hb1⟩, hb2⟩, hb3⟩ := hb
              cases hq
              have hz' : z.cells.size = i.size := by
                have := Nat.eq_of_beq_eq_true hb3
                rw [← cells_toList] at this
                simpa using this
              have hrz : LRel m (zeros (vcells z) c) (zeros (vcells z) c) := by
                have := (VRel.of_plainV (m := m) hb2).cells
                rw [cells_toList] at this
                exact this.zeros c
              obtain ⟨hc1, hc2⟩ := hlim hb1
              have hle := Nat.le_of_ble_eq_true hb0
              refine ⟨_, (zeros (vcells z) c).toArray, e, ?_, hsl l c hc1, by simpa using hrz, rfl, rfl⟩
              have e1 : a.eval l0 = .int k1 (l : Int) := (ev_rel hT hG hl).inv_int
              have e2 : a.eval c0 = .int k2 (c : Int) := (ev_rel hT hG hc).inv_int
              have hbytes : c * i.bytes ≤ c * (i.bytes + i.size + 1) := Nat.mul_le_mul_left _ (by omega)
              have hc3 : c ≤ c * (i.bytes + i.size + 1) := Nat.le_mul_of_pos_right _ (by omega)
              have hb1' := Nat.le_of_ble_eq_true hb1
              have hlimv : limit = 1099511627776 := by decide
              rw [hlimv] at hb1'
              have wr : ∀ n : Nat, n ≤ 1099511627776 → IntKind.i64.wrap (n : Int) = n := fun n hn => IntWalk.i64_in _ (by omega)
              have w1 := wr l (by omega)
              have w2 := wr c (by omega)
              have t1 : ¬ ((i.bytes : Int) * (c : Int) > 2 ^ 48) := by
                rw [← Int.natCast_mul, Nat.mul_comm]
                have hN := Nat.le_trans hbytes hb1'
                clear hb1' hbytes hb1
                generalize c * i.bytes = q at *
                omega
              have t2 : ¬ ((c : Int) < 0) := by omega
              have t3 : ¬ ((l : Int) < 0) := by omega
              have t4 : ¬ ((l : Int) > (c : Int)) := by omega
              have hrun : (Instr.makeSlice t (a.eval l0) (a.eval c0)).run P w = .ok (.slice (some ⟨w.heap.size, 0, none⟩) l c) (w.alloc (.cells (zeros (vcells z) c).toArray e)) := by
                rcases zero_cells c hz' with ⟨h0, hm⟩ | ⟨h0, hm⟩
                · simp only [Instr.makeSlice, e1, e2, asInt, asIntOf, Sem.run_bind, run_underlying hu w, Result.andThen_ok, Sem.run_pure, typeInfo, run_program, hi, w1, w2, t1, t2, t3, t4, decide_false, Bool.or_false, Bool.false_eq_true, if_false, run_askRoom, run_sizeOf hi, Int.toNat_natCast, if_pos h0, hm, newRow, run_newObj]
                  rfl
                · simp only [Instr.makeSlice, e1, e2, asInt, asIntOf, Sem.run_bind, run_underlying hu w, Result.andThen_ok, Sem.run_pure, typeInfo, run_program, hi, w1, w2, t1, t2, t3, t4, decide_false, Bool.or_false, Bool.false_eq_true, if_false, run_askRoom, run_sizeOf hi, Int.toNat_natCast, if_neg h0, zeroValue, hz, hm, newRow, run_newObj]
                  rfl
              exact run_val' hrun
            · cases hq
          · cases hq
        · cases hq
      · cases hq
    · cases hq
  | _ => simp only [anew] at hq; cases hq
end
end Go.Abs
