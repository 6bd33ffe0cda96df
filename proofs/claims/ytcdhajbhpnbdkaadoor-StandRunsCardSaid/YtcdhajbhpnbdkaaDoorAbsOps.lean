/-
  Each operation of the abstract evaluator stands for the model's: operations that leave memory alone, and those that make one block.
  Conditions: none; lemmas.
-/
import Derived.Test.YtcdhajbhpnbdkaaDoorAbsRel
import Derived.Deep.AppendSrc
import Derived.WideLaws
set_option linter.unusedSimpArgs false
set_option linter.unusedVariables false
set_option linter.unusedSectionVars false
namespace Go.Abs

def tget (ts : Tr Value) (t : Tmp) : Value :=
  match ts.get t with
  | some v => v
  | none => undef

/-- The temporaries of a frame. -/
structure TRel (m : BMap) (nt : Nat) (ts : Tr Value) (a : Act) : Prop where
  size : a.tmps.size = nt
  defers : a.defers = []
  val : ∀ t, VRel m (tget ts t) (a.tmps.getD t undef)

theorem TRel.mono {m m' : BMap} (hm : ∀ a L, m a = some L → m' a = some L) {nt : Nat} {ts : Tr Value} {a : Act} (h : TRel m nt ts a) : TRel m' nt ts a :=
  ⟨h.size, h.defers, fun t => (h.val t).mono hm⟩

theorem tget_set (ts : Tr Value) (d t : Tmp) (v : Value) : tget (ts.set d v) t = if t = d then v else tget ts t := by
  simp only [tget, Tr.get_set]
  split <;> rename_i h <;> split at h <;> simp_all

theorem TRel.put {m : BMap} {nt : Nat} {ts ts' : Tr Value} {a : Act} {v v' : Value} {dst : Option Tmp} (h : TRel m nt ts a) (hp : putA nt ts dst v = some ts') (hv : VRel m v v') : TRel m nt ts' (a.put dst v') := by
  cases dst with
  | none => cases hp; exact h
  | some d =>
    simp only [putA] at hp
    split at hp
    · rename_i hb
      cases hp
      have hd : d < nt := by simpa [Nat.blt_eq] using hb
      refine ⟨by simpa [Act.put] using h.size, h.defers, fun t => ?_⟩
      rw [tget_set]
      have := h.val t
      have hs := h.size
      by_cases e : t = d
      · subst e
        simp [Act.put, Array.getD, hs, hd, hv]
      · rw [if_neg e]
        simp only [Act.put, Array.getD_eq_getD_getElem?]
        rw [Array.getElem?_setIfInBounds_ne (Ne.symm e), ← Array.getD_eq_getD_getElem?]
        exact this
    · cases hp

section
variable {P : Program} {m : BMap} {nt : Nat} {ts : Tr Value} {a : Act}

theorem ev_rel (hT : TRel m nt ts a) (hg : ∀ g, g < P.globals.size → m g = some ⟨g, 0, 0⟩) {x : Operand} {v : Value} (h : ev P ts x = some v) : VRel m v (a.eval x) := by
  cases x with
  | tmp t =>
    have : v = tget ts t := by
      simp only [ev] at h
      unfold tget
      split at h <;> simp_all
    rw [this]
    exact hT.val t
  | const c =>
    simp only [ev] at h
    split at h
    · cases h; exact .plain _ ‹_›
    · cases h
  | global g =>
    simp only [ev] at h
    split at h
    · rename_i hb
      cases h
      have := VRel.ptr (m := m) ⟨g, 0, none⟩ ⟨g, 0, 0⟩ (hg g (by simpa [Nat.blt_eq] using hb)) rfl
      simpa [Act.eval] using this
    · cases h
  | func f =>
    cases h
    exact VRel.func_of (LRel.nil m) (LRel.nil m)

theorem evs_rel (hT : TRel m nt ts a) (hg : ∀ g, g < P.globals.size → m g = some ⟨g, 0, 0⟩) : ∀ {l : List Operand} {vs : List Value}, evs P ts l = some vs → LRel m vs (l.map a.eval)
  | [], vs, h => by cases h; exact LRel.nil m
  | x :: l, vs, h => by
    simp only [evs] at h
    split at h
    · rename_i v hv
      split at h
      · rename_i us hus
        cases h
        exact LRel.cons (ev_rel hT hg hv) (evs_rel hT hg hus)
      · cases h
    · cases h

def PRel (m : BMap) : List (Nat × Value) → List (Nat × Value) → Prop
  | [], [] => True
  | (i, v) :: l, (j, u) :: r => i = j ∧ VRel m v u ∧ PRel m l r
  | _, _ => False

theorem evParts_rel (hT : TRel m nt ts a) (hg : ∀ g, g < P.globals.size → m g = some ⟨g, 0, 0⟩) : ∀ {l : List (Nat × Operand)} {vs : List (Nat × Value)}, evParts P ts l = some vs → PRel m vs (l.map fun (i, x) => (i, a.eval x))
  | [], vs, h => by cases h; trivial
  | (i, x) :: l, vs, h => by
    simp only [evParts] at h
    split at h
    · rename_i v hv
      split at h
      · rename_i us hus
        cases h
        exact ⟨rfl, ev_rel hT hg hv, evParts_rel hT hg hus⟩
      · cases h
    · cases h

theorem optEv_rel (hT : TRel m nt ts a) (hg : ∀ g, g < P.globals.size → m g = some ⟨g, 0, 0⟩) {x : Option Operand} {v : Option Value} (h : optEv P ts x = some v) : x.map a.eval = v := by
  cases x with
  | none => cases h; rfl
  | some x =>
    simp only [optEv] at h
    split at h
    · rename_i u hu
      split at h
      · rename_i hp
        cases h
        rw [Option.map_some, (ev_rel hT hg hu).inv_plain hp]
      · cases h
    · cases h

theorem prun_run {α : Type} (s : Sem α) (x : α) (w : World) (h : prun P s = some x) : s.run P w = .ok x w := by
  induction s with
  | pure a => cases h; rfl
  | program k ih => exact ih P h
  | mark _ k ih => exact ih h
  | _ => cases h

theorem prunP_run {s : Sem Value} {v : Value} (w : World) (h : prunP P s = some v) : s.run P w = .ok v w ∧ plain v = true := by
  simp only [prunP] at h
  split at h
  · rename_i u hu
    split at h
    · cases h; exact ⟨prun_run s _ w hu, ‹_›⟩
    · cases h
  · cases h

/-! ### Filling a literal -/
theorem LRel.set {l l' : List Value} (h : LRel m l l') (i : Nat) {v v' : Value} (hv : VRel m v v') : LRel m (l.set i v) (l'.set i v') :=
  LRel.of_get (by simp [h.1]) (fun j u u' h1 h2 => by
    rw [List.getElem?_set] at h1 h2
    split at h1
    · rw [if_pos ‹_›] at h2
      split at h1
      · split at h2
        · cases h1; cases h2; exact hv
        · cases h2
      · cases h1
    · rw [if_neg ‹_›] at h2
      obtain ⟨q, hq, hr⟩ := h.get h1
      rw [hq] at h2; cases h2; exact hr)

theorem foldl_set_rel (off : Nat) : ∀ {l l' : List Value} (_ : LRel m l l') (k : Nat) {cs cs' : Array Value} (_ : LRel m cs.toList cs'.toList),
    LRel m ((l.zipIdx k).foldl (fun cs (c, j) => cs.setIfInBounds (off + j) c) cs).toList ((l'.zipIdx k).foldl (fun cs (c, j) => cs.setIfInBounds (off + j) c) cs').toList := by
  intro l
  induction l with
  | nil => intro l' h k cs cs' hc; rcases h.ind with ⟨_, rfl⟩ | ⟨_, _, _, _, h, _⟩
           · exact hc
           · cases h
  | cons v l ih =>
    intro l' h k cs cs' hc
    rcases h.ind with ⟨h, _⟩ | ⟨v, v', q, q', h1, rfl, hv, hq⟩
    · cases h
    · cases h1
      simp only [List.zipIdx_cons, List.foldl_cons]
      refine ih hq (k + 1) ?_
      rw [Array.toList_setIfInBounds, Array.toList_setIfInBounds]
      exact hc.set _ hv

theorem cells_toList (v : Value) : v.cells.toList = vcells v := by cases v <;> rfl

theorem VRel.cells' {v v' : Value} (h : VRel m v v') : LRel m v.cells.toList v'.cells.toList := by
  rw [cells_toList v]; exact h.cells

theorem fill_rel (place : Nat → Option (Nat × Nat)) : ∀ {ps ps' : List (Nat × Value)} (_ : PRel m ps ps') {cs cs' out : Array Value} (_ : LRel m cs.toList cs'.toList),
    Instr.fill place cs ps = some out → ∃ out', Instr.fill place cs' ps' = some out' ∧ LRel m out.toList out'.toList := by
  intro ps
  induction ps with
  | nil => intro ps' h cs cs' out hc ho
           cases ps' with
           | nil => cases ho; exact ⟨cs', rfl, hc⟩
           | cons _ _ => exact h.elim
  | cons p ps ih =>
    obtain ⟨i, v⟩ := p
    intro ps' h cs cs' out hc ho
    cases ps' with
    | nil => exact h.elim
    | cons p' ps' =>
      obtain ⟨j, u⟩ := p'
      obtain ⟨rfl, hv, hr⟩ := h
      simp only [Instr.fill] at ho ⊢
      cases hp : place i with
      | none => simp [hp] at ho
      | some q =>
        obtain ⟨off, size⟩ := q
        simp only [hp] at ho ⊢
        have e1 : u.cells.size = v.cells.size := by have := hv.cells'.1; simpa using this.symm
        have e2 : cs'.size = cs.size := by have := hc.1; simpa using this.symm
        rw [e1, e2]
        split at ho
        · cases ho
        · rename_i hn
          rw [if_neg hn]
          refine ih hr ?_ ho
          rw [← Array.foldl_toList, ← Array.foldl_toList, Array.toList_zipIdx, Array.toList_zipIdx]
          exact foldl_set_rel off hv.cells' 0 hc

theorem built_rel {t : TypeId} {ps ps' : List (Nat × Value)} (hp : PRel m ps ps') {out : Array Value} {i : TypeInfo} {z : Value} (hi : P.info? t = some i) (hz : i.zero = some z) (hpl : plainV z = true)
    (h : P.built t ps = some out) : ∃ out', P.built t ps' = some out' ∧ LRel m out.toList out'.toList := by
  have hzz : LRel m z.cells.toList z.cells.toList := (VRel.of_plainV (m := m) hpl).cells'
  unfold Program.built at h ⊢
  split at h
  · rename_i it n e h1 h2
    cases h1.symm.trans hi
    simp only [hz] at h
    cases he : P.info? e with
    | none => simp [he] at h
    | some ie =>
      simp only [he] at h
      obtain ⟨out', ho, hr⟩ := fill_rel _ hp hzz h
      exact ⟨out', by simp only [hi, h2, hz, he, ho], hr⟩
  · rename_i it fs h1 h2
    cases h1.symm.trans hi
    simp only [hz] at h
    cases hpl : fs.toList.mapM (fun f => (P.info? f.type).map fun i => (f.offset, i.size)) with
    | none => simp [hpl] at h
    | some places =>
      simp only [hpl] at h
      obtain ⟨out', ho, hr⟩ := fill_rel _ hp hzz h
      exact ⟨out', by simp only [hi, h2, hz, hpl, ho], hr⟩
  · cases h
end

/-! ### Loads -/
section
variable {P : Program} {m : BMap} {h : AHeap} {w : World}

theorem rangeAt_sub {w : World} {b o : Nat} {cs : List Value} (hr : w.rangeAt b o cs) (k n : Nat) : w.rangeAt b (o + k) ((cs.drop k).take n) := fun j v hv => by
  rw [List.getElem?_take] at hv
  split at hv
  · rw [List.getElem?_drop] at hv
    have := hr (k + j) v hv
    rwa [show o + (k + j) = o + k + j by omega] at this
  · cases hv

/-- The cells of a live block, from a place in it on. -/
theorem live_cells (hR : Rel P m h w) {a : Addr} {L : Loc} {B : Blk} (hm : m a.block = some L) (hg : h.get a.block = some B) :
    ∃ cs : List Value, LRel m B.cells cs ∧ w.rangeAt L.b L.base cs := (hR.blk _ _ _ hg hm).cells

theorem isRowT_some {t : TypeId} {b : Bool} (hr : isRowT P t = some b) : ∃ d, P.underlying t = some d ∧ d.isRow = b := by
  unfold isRowT at hr
  cases hu : P.underlying t with
  | none => simp [hu] at hr
  | some d => cases d <;> simp [hu] at hr <;> exact ⟨_, rfl, by simp [TypeDesc.isRow, ← hr]⟩

theorem cellsAt_rel (hR : Rel P m h w) {a : Addr} {L : Loc} {n : Nat} {vs : List Value} (hm : m a.block = some L) (hc : cellsAt h a n = some vs) :
    ∃ cs : List Value, LRel m vs cs ∧ w.rangeAt L.b (L.base + a.off) cs ∧ vs.length = n := by
  unfold cellsAt at hc
  split at hc
  · rename_i B hg
    obtain ⟨cs, h1, h2⟩ := live_cells hR hm hg
    obtain ⟨h3, h4⟩ := takeN_some hc
    refine ⟨(cs.drop a.off).take n, ?_, rangeAt_sub h2 a.off n, by rw [h3]; simp at h4 ⊢; omega⟩
    rw [h3]
    exact (h1.drop a.off).take n
  · cases hc

theorem aload_rel (hR : Rel P m h w) {t : TypeId} {p p' v : Value} (hp : VRel m p p') (hl : aload P t p h = some v) :
    ∃ v', (Instr.loadAt t p').run P w = .ok v' w ∧ VRel m v v' := by
  unfold aload at hl
  split at hl
  · rename_i a
    obtain ⟨L, hm, hs, rfl⟩ := hp.inv_ptr
    split at hl
    · rename_i B hg
      obtain ⟨cs, hcs, hrange⟩ := live_cells hR hm hg
      split at hl
      · rename_i hrow
        obtain ⟨d, hu, hd⟩ := isRowT_some hrow
        split at hl
        · rename_i i hi
          split at hl
          · rename_i vs hvs
            cases hl
            obtain ⟨h3, h4⟩ := takeN_some hvs
            have hrel : LRel m vs ((cs.drop a.off).take i.size) := by rw [h3]; exact (hcs.drop a.off).take i.size
            refine ⟨.agg ((cs.drop a.off).take i.size).toArray, ?_, VRel.agg_of hrel⟩
            refine run_loadAt_mid w L.b (L.base + a.off) t _ d (rangeAt_sub hrange a.off i.size) hu hd ?_
            rw [hi]
            have e1 : vs.length = i.size := by rw [h3]; simp at h4 ⊢; omega
            simp only [Option.map_some, ← hrel.1, e1]
          · cases hl
        · cases hl
      · rename_i hrow
        obtain ⟨d, hu, hd⟩ := isRowT_some hrow
        obtain ⟨v', hv', hr⟩ := hcs.get hl
        refine ⟨v', ?_, hr⟩
        have hcell := hrange a.off v' hv'
        have hagg : (isAgg t).run P w = .ok false w := by
          unfold isAgg
          rw [Sem.run_bind, run_underlying hu w]
          cases d <;> simp_all
        simp only [Instr.loadAt, Instr.sureAddr, Sem.run_bind, Sem.run_pure, Result.andThen_ok, loadVar, hagg, Bool.false_eq_true, if_false, run_load, hcell]
      · cases hl
    · cases hl
  · cases hl

theorem apart'_rel {t : TypeId} {cs cs' : List Value} {off : Nat} {v : Value} (hc : LRel m cs cs') (hl : apart' P t cs off = some v) :
    ∃ v', (part t cs'.toArray off).run P w = .ok v' w ∧ VRel m v v' := by
  unfold apart' at hl
  split at hl
  · rename_i hrow
    obtain ⟨d, hu, hd⟩ := isRowT_some hrow
    split at hl
    · rename_i i hi
      split at hl
      · rename_i vs hvs
        cases hl
        obtain ⟨h3, h4⟩ := takeN_some hvs
        have hagg : (isAgg t).run P w = .ok true w := by
          unfold isAgg
          rw [Sem.run_bind, run_underlying hu w]
          cases d <;> simp_all
        refine ⟨.agg (cs'.toArray.extract off (off + i.size)), ?_, ?_⟩
        · simp [part, hagg, sizeOf, typeInfo, hi]
        · have hrel : LRel m vs ((cs'.drop off).take i.size) := by rw [h3]; exact (hc.drop off).take i.size
          have e : cs'.toArray.extract off (off + i.size) = ((cs'.drop off).take i.size).toArray := by
            apply Array.ext'
            simp [List.extract_eq_take_drop]
          rw [e]
          exact VRel.agg_of hrel
      · cases hl
    · cases hl
  · rename_i hrow
    obtain ⟨d, hu, hd⟩ := isRowT_some hrow
    obtain ⟨v', hv', hr⟩ := hc.get hl
    have hagg : (isAgg t).run P w = .ok false w := by
      unfold isAgg
      rw [Sem.run_bind, run_underlying hu w]
      cases d <;> simp_all
    exact ⟨v', by simp [part, hagg, hv'], hr⟩
  · cases hl
end

end Go.Abs
