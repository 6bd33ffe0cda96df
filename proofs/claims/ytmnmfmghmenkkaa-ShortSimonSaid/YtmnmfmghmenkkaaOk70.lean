/-
  short.differ, for the evaluator.
  Conditions: none; lemmas.
-/
import Derived.Test.YtmnmfmghmenkkaaDiff70
import Derived.Test.YtmnmfmghmenkkaaNext70
import Derived.Test.YtmnmfmghmenkkaaLaw5b
set_option linter.unusedSimpArgs false
set_option linter.unusedVariables false
namespace Go.Proofs.Ytmnmfmghmenkkaa
open Go.RowKit Go.Abs Go.Pur
set_option maxRecDepth 1000000
theorem q68_law {w : List UInt8} {c : UInt8} {F : Nat} (hw : w.length ≤ 1000) (hF : w.length + 1 ≤ F) :
  (bhd w c = none → Q.f68S F (ints w) (c.toNat : Int) = some (-1)) ∧ ∀ w', bhd w c = some w' → ∃ j, j < w.length ∧ w' = w.drop (j + 1) ∧ Q.f68S F (ints w) (c.toNat : Int) = some (j : Int) := by
 have e : @Q.f68S = @f68S := by kernel_rfl
 rw [e]
 exact f68_law hw hF
theorem wr70 {z : Nat} (hz : z ≤ 1000) : IntKind.i64.wrap (z : Int) = z := by
 unfold IntKind.wrap
 simp [IntKind.bits, IntKind.signed]
 omega
theorem q81_law {w : List UInt8} {i : Nat} {c : UInt8} (hw : w.length ≤ 10) (hi : i ≤ w.length) : Q.f81S 100 w (i : Int) (c.toNat : Int) = some (nxI w i c) := by
 have hd : (w.drop i).length ≤ 10 := by rw [List.length_drop]; omega
 have hL := q68_law (w := w.drop i) (c := c) (F := 100) (by omega) (by omega)
 unfold Q.f81S
 rw [Option.bind_some, decide_eq_false (by omega)]
 dsimp only
 rw [subF_at hi, Option.bind_some, bytO_at (by omega), Option.bind_some, show ((w.drop i).map fun b => (b.toNat : Int)) = ints (w.drop i) from rfl]
 unfold nxI nxN
 cases hb : bhd (w.drop i) c with
 | none =>
  rw [hL.1 hb]
  rfl
 | some w' =>
  obtain ⟨j, hj, e1, e2⟩ := hL.2 w' hb
  rw [e2, Option.bind_some, Option.bind_some, decide_eq_false (by omega)]
  dsimp only [Option.map_some]
  rw [Option.bind_some, Option.bind_some]
  rw [List.length_drop] at hj
  rw [show ((i : Int) + (j : Int)) = ((i + j : Nat) : Int) by omega, wr70 (by omega), show (((i + j : Nat) : Int) + 1) = ((i + j + 1 : Nat) : Int) by omega, wr70 (by omega)]
  rw [e1, List.length_drop, List.length_drop]
  congr 1
  omega
theorem ok70 : FnOK Try.prog Y0 70 := by
 refine fnOK_lib e70 rfl (by kernel_rfl) (fun xs rs he m h w hR args hd => ?_)
 unfold e70 at he
 split at he
 ·rename_i s t most
  split at he
  ·rename_i hok
   cases he
   cases hd with
   | cons v a vs ks' k1 ht =>
   cases ht with
   | cons v2 a2 vs2 ks2 k2 ht2 =>
   cases ht2 with
   | cons v3 a3 vs3 ks3 k3 ht3 =>
   cases ht3
   cases k1
   cases k2
   cases k3
   simp only [Bool.and_eq_true, decide_eq_true_eq] at hok
   refine (differ_calls s.data.toList t.data.toList most w hok.1.1 hok.1.2 hok.2 (fun W hB x i c hx hi hc => ?_)).mono fun e w' hp => ?_
   ·have hxl : x.length ≤ 10 := by rcases hx with rfl | rfl <;> omega
    have h1 := Q.f81_is (hp := []) (q81_law (c := c) hxl hi)
    refine (pure_plain (Y := Q.Y0) (f := 81) (vs := [.string ⟨x.toArray⟩, .int .i64 (i : Int), .int .u8 (c.toNat : Int)]) (rs := [.int .i64 (nxI x i c)]) (by kernel_rfl) progFine (fun g hg => by cases hg) rfl (hR.below hB).1 rfl ?_ h1)
    intro v hv
    simp only [List.mem_cons, List.not_mem_nil, or_false] at hv
    rcases hv with rfl | rfl | rfl <;> exact ⟨rfl, fun n c e => by cases e⟩
   ·obtain ⟨R, e1, e2, e3⟩ := hp
    have e4 : bfs0 s.data.toList t.data.toList most = R := e1
    rw [e4]
    exact ⟨[.string ⟨(R.getD []).toArray⟩, .bool R.isSome], e2, e3, .cons _ _ _ _ (.p _) (.cons _ _ _ _ (.p _) .nil)⟩
  ·cases he
 ·cases he
end Go.Proofs.Ytmnmfmghmenkkaa
