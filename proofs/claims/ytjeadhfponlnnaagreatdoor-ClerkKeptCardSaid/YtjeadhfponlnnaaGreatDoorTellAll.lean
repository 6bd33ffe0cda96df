/-
  Tell: an office is told a line.
  Conditions: none; lemmas.
-/
import Derived.Test.YtjeadhfponlnnaaGreatDoorTell1
import Derived.Test.YtjeadhfponlnnaaGreatDoorTell2
import Derived.Test.YtjeadhfponlnnaaGreatDoorTell5
import Derived.Test.YtjeadhfponlnnaaGreatDoorOrdDo
set_option linter.unusedSimpArgs false
set_option linter.unusedVariables false
namespace Go.Proofs.YtjeadhfponlnnaaGreatDoor
open Go.RowKit Go.Pur Go.Clerk
open Go.Abs
set_option maxRecDepth 100000
def TellP (w : World) (o : Nat) (r : Nat × Off) (e : Ending) (w' : World) : Prop := e = .returned (nV r.1) ∧ OffAt w' o r.2 ∧ But (· = o) w.heap.size w w'
theorem tell_calls (o : Nat) (S : Off) (line : Tx) (w : World) (hO : OffAt w o S) (hE : Env w) (h16 : 16 ≤ o) (hl : line.length ≤ 100000) (hS : OffOK S) :
  Calls Tryz.prog 18 #[ptrV o, sV line] w fun e w' => TellP w o (tell S line) e w' := by
 unfold TellP
 have hv := hS.now.shut
 rcases hp : parse line with ⟨x, e⟩
 cases e with
 | succ e =>
  rw [tell_err_eq hp]
  exact tell_err o S line w hO hE h16 hl x e hp
 | zero =>
  cases x with
  | none =>
   by_cases h0 : S.lines = []
   ·rw [tell_undo0_eq hp h0]
    exact tell_undo0 o S line w hO hE h16 hl hp (by rw [h0]; rfl)
   ·rw [tell_undo_eq hp h0]
    have hpos : 0 < S.lines.length := List.length_pos_iff.2 h0
    exact tell_undo o (S.lines.length - 1) S line w hO hE h16 hl hp (by omega) (by have := hS.few; omega)
  | some x =>
   obtain ⟨T, v, K, hr⟩ := ord_do hS.now (parse_ok hp)
   by_cases h0 : S.lines.length = 150
   ·rw [tell_full_eq hp h0]
    exact tell_full o S line w hO hE h16 hl x T v hr.val hp h0
   ·have hf := hS.few
    rcases hd : doO x S.now with ⟨a, d⟩
    cases a with
    | succ e =>
     rw [tell_refused_eq hp h0 (e := e) (by rw [hd])]
     exact tell_refused o S.lines.length e d S line w hO hE h16 hl x T v K hd hr.val hp rfl (by omega) (by omega) hr.na hr.me hr.cf hr.run
    | zero =>
     rw [tell_taken_eq hp h0 (by rw [hd]), hd]
     exact tell_taken o S.lines.length d S line w hO hE h16 hl x T v K hd hr.val hp rfl (by omega) (by omega) hr.na hr.me hr.cf hr.run
end Go.Proofs.YtjeadhfponlnnaaGreatDoor
