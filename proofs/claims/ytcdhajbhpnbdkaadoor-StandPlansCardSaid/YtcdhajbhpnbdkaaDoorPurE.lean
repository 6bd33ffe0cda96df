/-
  Strings in the pure evaluator: one byte, and parts.
  Conditions: none; lemmas.
-/
import Derived.Test.YtcdhajbhpnbdkaaDoorPurD
set_option linter.unusedSimpArgs false
set_option linter.unusedVariables false
namespace Go.Pur
open Go.Abs
set_option linter.unusedSimpArgs false
section
variable {P : Program} {t : TypeId}
theorem prun_bnd {α β : Type} (x : Sem α) (f : α → Sem β) : prun P (x >>= f) = match prun P x with
    | some a => prun P (f a)
    | none => none := by
  show prun P (x.bind f) = _
  induction x with
  | pure a => rfl
  | program k ih => exact ih P
  | mark _ k ih => exact ih
  | _ => rfl
theorem prun_pure {α : Type} (a : α) : prun P (pure a) = some a := rfl
theorem prun_map {α β : Type} (g : α → β) (x : Sem α) : prun P (g <$> x) = (prun P x).map g := by
  show prun P (x.bind fun a => pure (g a)) = _
  rw [show x.bind (fun a => pure (g a)) = (x >>= fun a => pure (g a)) from rfl, prun_bnd]
  cases prun P x <;> rfl
theorem str_index (ht : P.underlying t = some .string) {s : ByteArray} {k : IntKind} {i : Nat} (h : i < s.size) : prunP P (Instr.index t (.string s) (.int k i)) = some (.int .u8 (s[i]'h).toNat) := by
  have : s[i]? = some (s[i]'h) := by simp [h]
  unfold prunP Instr.index
  simp [prun_bnd, prun_pure, prun_und ht, asIntOf, this, plain]
theorem prun_bound {k : IntKind} {a y : Nat} {c : BoundsCode} (h : a ≤ y) : prun P (Instr.sliceBound (.int k a) y c) = some a := by
  have h' : (a : Int) ≤ y := by omega
  unfold Instr.sliceBound
  simp [prun_bnd, prun_pure, asIntOf, h, h']
theorem str_slice (ht : P.underlying t = some .string) {s : ByteArray} {k j : IntKind} {a b : Nat} (h1 : a ≤ b) (h2 : b ≤ s.size) : prunP P (Instr.slice t (.string s) (some (.int k a)) (some (.int j b)) none) = some (.string (s.extract a b)) := by
  unfold prunP Instr.slice Instr.sliceBounds
  simp [prun_bnd, prun_pure, prun_map, prun_und ht, prun_bound h1, prun_bound h2, plain]
theorem str_from (ht : P.underlying t = some .string) {s : ByteArray} {k : IntKind} {a : Nat} (h1 : a ≤ s.size) : prunP P (Instr.slice t (.string s) (some (.int k a)) none none) = some (.string (s.extract a s.size)) := by
  unfold prunP Instr.slice Instr.sliceBounds
  simp [prun_bnd, prun_pure, prun_map, prun_und ht, prun_bound h1, plain]
theorem str_to (ht : P.underlying t = some .string) {s : ByteArray} {k : IntKind} {b : Nat} (h1 : b ≤ s.size) : prunP P (Instr.slice t (.string s) none (some (.int k b)) none) = some (.string (s.extract 0 b)) := by
  unfold prunP Instr.slice Instr.sliceBounds
  simp [prun_bnd, prun_pure, prun_map, prun_und ht, prun_bound h1, plain]
end
end Go.Pur
