/-
  Jobs by numbers, as the rows of this seat read them.
  Conditions: none; lemmas.
-/
import Derived.Test.YtcdhajbhpnbdkaaDoorArgs
import Derived.Test.YtcdhajbhpnbdkaaDoorOutLaw
set_option linter.unusedSimpArgs false
set_option linter.unusedVariables false
set_option linter.unusedSectionVars false
namespace Go.Proofs.YtcdhajbhpnbdkaaDoor
open Go.Abs Go.Pur Go.ChangeShapes Go.WideShapes Go.ChangeAt Go.RowKit
set_option maxRecDepth 100000
section
variable {H : Type} {enc : TypeId × Value → H} {W : World} {r : Reach} {b0 : Nat}
theorem trod_arr {P : Program} {w : World} {base : Nat} {spare : Nat → Bool} {held : Bool} {t e : TypeId} {k : IntKind} {n fuel : Nat} {cs : List Value} {x : DataW H × List MemPlace} (ht : P.underlying t = some (.array n e)) (he : P.underlying e = some (.int k)) (hce : P.cellsOf e = 1)
  (h : DataW.trod enc P w base spare held fuel t cs = some x) (hlen : cs.length = n) : ∀ (i : Nat) (c : Value), cs[i]? = some c → ∃ z, c = .int k z ∧ (Lit.int k z).wf = true := by
 intro i c hc
 cases fuel with
 | zero => simp [DataW.trod] at h
 | succ m =>
  unfold DataW.trod at h
  rw [ht] at h
  simp only [hce] at h
  split at h
  ·simp only [Option.map_eq_some_iff] at h
   obtain ⟨xs, hp, _⟩ := h
   have hi : i < n := by
    rw [← hlen]
    exact (List.getElem?_eq_some_iff.1 hc).1
   have hl := mapM_some_length hp
   have := mapM_some_get hp i i (by simp [hi])
   rw [List.getElem?_eq_getElem (by rw [hl]; simpa using hi)] at this
   have hd : (cs.drop (i * 1)).take 1 = [c] := by
    rw [Nat.mul_one, List.drop_eq_getElem_cons (by omega)]
    simp [(List.getElem?_eq_some_iff.1 hc).2]
   rw [hd] at this
   obtain ⟨z, e1, _, e2⟩ := DataW.trod_int he this
   simp only [List.cons.injEq, and_true] at e1
   exact ⟨z, e1, e2⟩
  ·cases h
theorem trod_three {P : Program} {w : World} {base : Nat} {spare : Nat → Bool} {held : Bool} {t : TypeId} {f0 f1 f2 : Field} {fuel : Nat} {cs : List Value} {x : DataW H × List MemPlace} (ht : P.underlying t = some (.struct #[f0, f1, f2])) (h : DataW.trod enc P w base spare held fuel t cs = some x) :
  ∃ y0 y1 y2 n, x = (.agg [y0.1, y1.1, y2.1], y0.2 ++ (y1.2 ++ y2.2)) ∧ cs.length = P.cellsOf t ∧ DataW.trod enc P w base spare held n f0.type ((cs.drop f0.offset).take (P.cellsOf f0.type)) = some y0 ∧
   DataW.trod enc P w base spare held n f1.type ((cs.drop f1.offset).take (P.cellsOf f1.type)) = some y1 ∧ DataW.trod enc P w base spare held n f2.type ((cs.drop f2.offset).take (P.cellsOf f2.type)) = some y2 := by
 obtain ⟨xs, n, _, rfl, hl, hlen, hf⟩ := DataW.trod_struct ht h
 match xs, hlen with
 | [y0, y1, y2], _ => exact ⟨y0, y1, y2, n, by simp, hl, by simpa using hf 0 f0 rfl, by simpa using hf 1 f1 rfl, by simpa using hf 2 f2 rfl⟩
theorem byte_wf {z : Int} (h : (Lit.int .u8 z).wf = true) : byte z := by
 have h3 : 0 ≤ z ∧ z ≤ 255 := by simpa [Lit.wf, IntKind.min, IntKind.max, IntKind.has, IntKind.signed, IntKind.bits] using h
 exact h3
theorem cells54 : Tryd.prog.cellsOf 54 = 12 := by kernel_rfl
theorem cells56 : Tryd.prog.cellsOf 56 = 14 := by kernel_rfl
theorem cells5s : Tryd.prog.cellsOf 5 = 1 := by kernel_rfl
theorem cell_u8 {z : Int} : CellIn W (.int .u8 z) (kv .u8 z) := .plain _ rfl (fun _ _ e => by cases e)
theorem arg_sheets {v : Value} {ds : DataW H} {ps : List MemPlace} (hv : Value.okWide Tryd.prog W r b0 56 v) (h : DataW.Trod enc Tryd.prog W 0 (fun _ => true) true 56 v ds ps) :
  ∃ a b c d e f g h i j k l m n : Int, byte a ∧ byte b ∧ (∀ p ∈ [c, d, e, f, g, h, i, j, k, l, m, n], byte p) ∧
   ArgIn W v (.a [kv .u8 a, kv .u8 b, kv .u8 c, kv .u8 d, kv .u8 e, kv .u8 f, kv .u8 g, kv .u8 h, kv .u8 i, kv .u8 j, kv .u8 k, kv .u8 l, kv .u8 m, kv .u8 n]) := by
 obtain ⟨cs, rfl, hs⟩ := okWide_struct Tryd.underlying56 hv
 obtain ⟨fuel, h⟩ := h
 obtain ⟨y0, y1, y2, n, _, hl, h0, h1, h2⟩ := trod_three Tryd.underlying56 h
 simp only [Value.cells] at hl h0 h1 h2
 rw [cells56] at hl
 obtain ⟨za, ea, _, wa⟩ := DataW.trod_int Tryd.underlying5 h0
 obtain ⟨zb, eb, _, wb⟩ := DataW.trod_int Tryd.underlying5 h1
 rw [cells5s] at ea eb
 match cs, hl with
 | ⟨[c0, c1, c2, c3, c4, c5, c6, c7, c8, c9, c10, c11, c12, c13]⟩, _ =>
  simp at ea eb
  subst ea; subst eb
  have key := trod_arr Tryd.underlying54 Tryd.underlying5 cells5s h2 (by rw [cells54]; rfl)
  rw [cells54] at key
  obtain ⟨z2, e2, w2⟩ := key 0 _ rfl
  obtain ⟨z3, e3, w3⟩ := key 1 _ rfl
  obtain ⟨z4, e4, w4⟩ := key 2 _ rfl
  obtain ⟨z5, e5, w5⟩ := key 3 _ rfl
  obtain ⟨z6, e6, w6⟩ := key 4 _ rfl
  obtain ⟨z7, e7, w7⟩ := key 5 _ rfl
  obtain ⟨z8, e8, w8⟩ := key 6 _ rfl
  obtain ⟨z9, e9, w9⟩ := key 7 _ rfl
  obtain ⟨z10, e10, w10⟩ := key 8 _ rfl
  obtain ⟨z11, e11, w11⟩ := key 9 _ rfl
  obtain ⟨z12, e12, w12⟩ := key 10 _ rfl
  obtain ⟨z13, e13, w13⟩ := key 11 _ rfl
  subst e2 e3 e4 e5 e6 e7 e8 e9 e10 e11 e12 e13
  refine ⟨za, zb, z2, z3, z4, z5, z6, z7, z8, z9, z10, z11, z12, z13, byte_wf wa, byte_wf wb, ?_, .agg _ _ (.cons _ _ _ _ cell_u8 (.cons _ _ _ _ cell_u8 (.cons _ _ _ _ cell_u8 (.cons _ _ _ _ cell_u8 (.cons _ _ _ _ cell_u8 (.cons _ _ _ _ cell_u8 (.cons _ _ _ _ cell_u8 (.cons _ _ _ _ cell_u8 (.cons _ _ _ _ cell_u8 (.cons _ _ _ _ cell_u8 (.cons _ _ _ _ cell_u8 (.cons _ _ _ _ cell_u8 (.cons _ _ _ _ cell_u8 (.cons _ _ _ _ cell_u8 .nil))))))))))))))⟩
  intro p hp
  simp only [List.mem_cons, List.not_mem_nil, or_false] at hp
  rcases hp with rfl | rfl | rfl | rfl | rfl | rfl | rfl | rfl | rfl | rfl | rfl | rfl
  ·exact byte_wf w2
  ·exact byte_wf w3
  ·exact byte_wf w4
  ·exact byte_wf w5
  ·exact byte_wf w6
  ·exact byte_wf w7
  ·exact byte_wf w8
  ·exact byte_wf w9
  ·exact byte_wf w10
  ·exact byte_wf w11
  ·exact byte_wf w12
  ·exact byte_wf w13
theorem arg_u16 {v : Value} {d : DataW H} {ps : List MemPlace} (hv : Value.okWide Tryd.prog W r b0 79 v) (h : DataW.Trod enc Tryd.prog W 0 (fun _ => true) true 79 v d ps) : ∃ z : Int, (0 ≤ z ∧ z < 65536) ∧ ArgIn W v (kv .u16 z) := by
 obtain ⟨z, _, h1, h2⟩ := arg_int Tryd.underlying79 hv h
 have h3 : 0 ≤ z ∧ z ≤ 65535 := by simpa [Lit.wf, IntKind.min, IntKind.max, IntKind.has, IntKind.signed, IntKind.bits] using h2
 exact ⟨z, ⟨h3.1, by omega⟩, h1⟩
end
end Go.Proofs.YtcdhajbhpnbdkaaDoor
