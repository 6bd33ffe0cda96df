/-
  Arguments of a law, as the row reads them, for the pure evaluator.
  Conditions: none; lemmas.
-/
import Derived.Test.YtcdhajbhpnbdkaaDoorPurTop
import Derived.Carry
import Derived.Deep.Slices
set_option linter.unusedSimpArgs false
set_option linter.unusedVariables false
set_option linter.unusedSectionVars false
namespace Go.Pur
open Go.Abs Go.RowKit Go.ChangeShapes Go.WideShapes

section
variable {H : Type} {enc : TypeId × Value → H} {P : Program} {W : World} {held : Bool}

def intOf : Value → Int
  | .int _ n => n
  | _ => 0

theorem cells_ints {t e : TypeId} {k : IntKind} {fuel : Nat} {cs : List Value} {x : DataW H × List MemPlace} (ht : P.underlying t = some (.slice e)) (he : P.underlying e = some (.int k)) (hc : P.cellsOf e = 1)
    (h : DataW.trod enc P W 0 (fun _ => true) held fuel t cs = some x) : ∃ (v : Value) (zs : List Int), cs = [v] ∧ CellIn W v (.l .fz .any zs.length (zs.map fun z => .v (.int k z))) ∧ ∀ z ∈ zs, (Lit.int k z).wf = true := by
  rcases Go.Deep.open_slice1 ht hc h with ⟨rfl, _⟩ | ⟨a, len, cap, m, n, V, D, Pl, rfl, _, hl, hm, hmm, _, hV⟩
  · exact ⟨_, [], rfl, .nil, by simp⟩
  · simp only [if_true] at hmm
    subst hmm
    have hi : ∀ i, i < len → W.cell? (a.add i) = some (.int k (intOf (V i))) ∧ (Lit.int k (intOf (V i))).wf = true := fun i hi => by
      obtain ⟨h1, h2⟩ := hV i (by omega)
      obtain ⟨z, e1, _, e2⟩ := DataW.trod_int he h2
      simp only [List.cons.injEq, and_true] at e1
      rw [e1] at h1 ⊢
      exact ⟨h1, e2⟩
    refine ⟨_, (List.range len).map fun i => intOf (V i), rfl, ?_, ?_⟩
    · have := CellIn.slice (W := W) a len m (((List.range len).map fun i => intOf (V i)).map (.int k ·)) hl (Nat.lt_of_le_of_lt (Nat.le_trans hl hm) (by decide)) (by rintro rfl; rfl) (fun h0 e => by simp at e; exact h0 e) (fun j v hj => by
        simp only [List.getElem?_map, Option.map_eq_some_iff] at hj
        obtain ⟨z, ⟨i, hi1, rfl⟩, rfl⟩ := hj
        obtain ⟨hlt, rfl⟩ := List.getElem?_eq_some_iff.1 hi1
        simp at hlt
        refine ⟨by simpa using (hi j hlt).1, rfl, fun _ _ e => by cases e⟩)
      simpa [List.map_map, Function.comp_def] using this
    · intro z hz
      obtain ⟨i, hi2, rfl⟩ := List.mem_map.1 hz
      exact (hi i (List.mem_range.1 hi2)).2

/-- A slice of numbers. -/
theorem arg_ints {t e : TypeId} {k : IntKind} {v : Value} {d : DataW H} {ps : List MemPlace} {r : Reach} {b0 : Nat} (ht : P.underlying t = some (.slice e)) (he : P.underlying e = some (.int k)) (hc : P.cellsOf e = 1) (hv : Value.okWide P W r b0 t v)
    (h : DataW.Trod enc P W 0 (fun _ => true) held t v d ps) : ∃ zs : List Int, ArgIn W v (.l .fz .any zs.length (zs.map fun z => .v (.int k z))) ∧ ∀ z ∈ zs, (Lit.int k z).wf = true := by
  obtain ⟨a, len, cap, rfl⟩ := okWide_slice ht hv
  obtain ⟨fuel, h⟩ := h
  obtain ⟨v, zs, e1, e2, e3⟩ := cells_ints ht he hc h
  simp [Value.cells] at e1
  subst e1
  exact ⟨zs, .one _ _ e2, e3⟩
theorem arg_int {t : TypeId} {k : IntKind} {v : Value} {d : DataW H} {ps : List MemPlace} {r : Reach} {b0 : Nat} (ht : P.underlying t = some (.int k)) (hv : Value.okWide P W r b0 t v)
    (h : DataW.Trod enc P W 0 (fun _ => true) held t v d ps) : ∃ z : Int, v = .int k z ∧ ArgIn W v (.v (.int k z)) ∧ (Lit.int k z).wf = true := by
  obtain ⟨z, rfl⟩ := okWide_int ht hv
  obtain ⟨fuel, h⟩ := h
  obtain ⟨z', e1, _, e3⟩ := DataW.trod_int ht h
  simp [Value.cells] at e1
  subst e1
  exact ⟨z, rfl, .one _ _ (.plain _ rfl (fun _ _ e => by cases e)), e3⟩
end
end Go.Pur
