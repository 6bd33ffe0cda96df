/-
  Slips, as the rows of this seat read them.
  Conditions: none; lemmas.
-/
import Derived.Test.YtmnmfmghmenkkaaArgs
import Derived.Test.YtmnmfmghmenkkaaMathP
import Derived.Carry
set_option linter.unusedSimpArgs false
set_option linter.unusedVariables false
set_option linter.unusedSectionVars false
namespace Go.Proofs.Ytmnmfmghmenkkaa
open Go.Abs Go.Pur Go.ChangeShapes Go.WideShapes Go.ChangeAt Go.RowKit
set_option maxRecDepth 100000
section
variable {H : Type} {enc : TypeId × Value → H} {W : World} {r : Reach} {b0 : Nat}
theorem trod_arr {P : Program} {w : World} {base : Nat} {spare : Nat → Bool} {held : Bool} {t e : TypeId} {k : IntKind} {n fuel : Nat} {cs : List Value} {x : DataW H × List MemPlace} (ht : P.underlying t = some (.array n e)) (he : P.underlying e = some (.int k)) (hce : P.cellsOf e = 1)
  (h : DataW.trod enc P w base spare held fuel t cs = some x) (hlen : cs.length = n) : ∀ (i : Nat) (c : Value), cs[i]? = some c → ∃ z, c = .int k z ∧ (Lit.int k z).wf = true := by
 intro i c hc
 cases fuel with
 | zero => simp [DataW.trod] at h
 | succ m =>
  unfold DataW.trod at h
  rw [ht] at h
  simp only [hce] at h
  split at h
  ·simp only [Option.map_eq_some_iff] at h
   obtain ⟨xs, hp, _⟩ := h
   have hi : i < n := by
    rw [← hlen]
    exact (List.getElem?_eq_some_iff.1 hc).1
   have hl := mapM_some_length hp
   have := mapM_some_get hp i i (by simp [hi])
   rw [List.getElem?_eq_getElem (by rw [hl]; simpa using hi)] at this
   have hd : (cs.drop (i * 1)).take 1 = [c] := by
    rw [Nat.mul_one, List.drop_eq_getElem_cons (by omega)]
    simp [(List.getElem?_eq_some_iff.1 hc).2]
   rw [hd] at this
   obtain ⟨z, e1, _, e2⟩ := DataW.trod_int he this
   simp only [List.cons.injEq, and_true] at e1
   exact ⟨z, e1, e2⟩
  ·cases h
theorem trod_two {P : Program} {w : World} {base : Nat} {spare : Nat → Bool} {held : Bool} {t : TypeId} {f0 f1 : Field} {fuel : Nat} {cs : List Value} {x : DataW H × List MemPlace} (ht : P.underlying t = some (.struct #[f0, f1])) (h : DataW.trod enc P w base spare held fuel t cs = some x) :
  ∃ y0 y1 n, x = (.agg [y0.1, y1.1], y0.2 ++ y1.2) ∧ cs.length = P.cellsOf t ∧ DataW.trod enc P w base spare held n f0.type ((cs.drop f0.offset).take (P.cellsOf f0.type)) = some y0 ∧
   DataW.trod enc P w base spare held n f1.type ((cs.drop f1.offset).take (P.cellsOf f1.type)) = some y1 := by
 obtain ⟨xs, n, _, rfl, hl, hlen, hf⟩ := DataW.trod_struct ht h
 match xs, hlen with
 | [y0, y1], _ => exact ⟨y0, y1, n, by simp, hl, by simpa using hf 0 f0 rfl, by simpa using hf 1 f1 rfl⟩
theorem byteI_wf {z : Int} (h : (Lit.int .u8 z).wf = true) : byteI z := by
 have h3 : 0 ≤ z ∧ z ≤ 255 := by simpa [Lit.wf, IntKind.min, IntKind.max, IntKind.has, IntKind.signed, IntKind.bits] using h
 exact h3
theorem cells52 : Try.prog.cellsOf 52 = 10 := by kernel_rfl
theorem cells54 : Try.prog.cellsOf 54 = 11 := by kernel_rfl
theorem cells5s : Try.prog.cellsOf 5 = 1 := by kernel_rfl
theorem cell_u8 {z : Int} : CellIn W (.int .u8 z) (kv .u8 z) := .plain _ rfl (fun _ _ e => by cases e)
theorem arg_slip {v : Value} {ds : DataW H} {ps : List MemPlace} (hv : Value.okWide Try.prog W r b0 54 v) (h : DataW.Trod enc Try.prog W 0 (fun _ => true) true 54 v ds ps) :
  ∃ a b c d e f g h i j k : Int, (∀ p ∈ [a, b, c, d, e, f, g, h, i, j, k], byteI p) ∧ ArgIn W v (.a [kv .u8 a, kv .u8 b, kv .u8 c, kv .u8 d, kv .u8 e, kv .u8 f, kv .u8 g, kv .u8 h, kv .u8 i, kv .u8 j, kv .u8 k]) := by
 obtain ⟨cs, rfl, hs⟩ := okWide_struct Try.underlying54 hv
 obtain ⟨fuel, h⟩ := h
 obtain ⟨y0, y1, n, _, hl, h0, h1⟩ := trod_two Try.underlying54 h
 simp only [Value.cells] at hl h0 h1
 rw [cells54] at hl
 obtain ⟨za, ea, _, wa⟩ := DataW.trod_int Try.underlying5 h0
 rw [cells5s] at ea
 match cs, hl with
 | ⟨[c0, c1, c2, c3, c4, c5, c6, c7, c8, c9, c10]⟩, _ =>
  simp at ea
  subst ea
  have key := trod_arr Try.underlying52 Try.underlying5 cells5s h1 (by rw [cells52]; rfl)
  rw [cells52] at key
  obtain ⟨z1, e1, w1⟩ := key 0 _ rfl
  obtain ⟨z2, e2, w2⟩ := key 1 _ rfl
  obtain ⟨z3, e3, w3⟩ := key 2 _ rfl
  obtain ⟨z4, e4, w4⟩ := key 3 _ rfl
  obtain ⟨z5, e5, w5⟩ := key 4 _ rfl
  obtain ⟨z6, e6, w6⟩ := key 5 _ rfl
  obtain ⟨z7, e7, w7⟩ := key 6 _ rfl
  obtain ⟨z8, e8, w8⟩ := key 7 _ rfl
  obtain ⟨z9, e9, w9⟩ := key 8 _ rfl
  obtain ⟨z10, e10, w10⟩ := key 9 _ rfl
  subst e1 e2 e3 e4 e5 e6 e7 e8 e9 e10
  refine ⟨za, z1, z2, z3, z4, z5, z6, z7, z8, z9, z10, ?_, .agg _ _ (.cons _ _ _ _ cell_u8 (.cons _ _ _ _ cell_u8 (.cons _ _ _ _ cell_u8 (.cons _ _ _ _ cell_u8 (.cons _ _ _ _ cell_u8 (.cons _ _ _ _ cell_u8 (.cons _ _ _ _ cell_u8 (.cons _ _ _ _ cell_u8 (.cons _ _ _ _ cell_u8 (.cons _ _ _ _ cell_u8 (.cons _ _ _ _ cell_u8 .nil)))))))))))⟩
  intro p hp
  simp only [List.mem_cons, List.not_mem_nil, or_false] at hp
  rcases hp with rfl | rfl | rfl | rfl | rfl | rfl | rfl | rfl | rfl | rfl | rfl
  ·exact byteI_wf wa
  ·exact byteI_wf w1
  ·exact byteI_wf w2
  ·exact byteI_wf w3
  ·exact byteI_wf w4
  ·exact byteI_wf w5
  ·exact byteI_wf w6
  ·exact byteI_wf w7
  ·exact byteI_wf w8
  ·exact byteI_wf w9
  ·exact byteI_wf w10
theorem arg_b8 {v : Value} {d : DataW H} {ps : List MemPlace} (hv : Value.okWide Try.prog W r b0 5 v) (h : DataW.Trod enc Try.prog W 0 (fun _ => true) true 5 v d ps) : ∃ z : Int, byteI z ∧ ArgIn W v (.v (.int .u8 z)) := by
 obtain ⟨z, rfl, h1, h2⟩ := arg_int Try.underlying5 hv h
 exact ⟨z, byteI_wf h2, h1⟩
end
section
variable {H : Type} {enc : TypeId × Value → H} {P : Program} {w : World} {base : Nat} {spare : Nat → Bool} {held : Bool}
end
end Go.Proofs.Ytmnmfmghmenkkaa
