/-
  ShortArches: arches, and the shortest words that are missing, are as stated.
  Conditions: the row's own (the tables of math/bits are as the text lays them).
-/
import Derived.Test.YtmnmfmghmenkkaaArgs
import Derived.Test.YtmnmfmghmenkkaaLaw5b
set_option linter.unusedSimpArgs false
set_option linter.unusedVariables false
set_option linter.unusedSectionVars false
namespace Go.Proofs.Ytmnmfmghmenkkaa
open Go.Abs Go.Pur Go.ChangeShapes Go.WideShapes Go.ChangeAt Go.RowKit
namespace ShortArchesCard
set_option maxRecDepth 100000
theorem contract (H : Type) (enc : TypeId × Value → H) (W : World) (base : Nat) (args : Array Value) (ds gs : List (DataW H)) (before : List MemPlace)
  (hval0 : ∀ (j : Nat) t v, Try.f5.params[j]? = some t → args[j]? = some v → Value.okWide Try.prog W .any base t v)
  (hW : DataW.Whole enc Try.prog Try.f5.params.toList Rows.shortArchesSpec.vars false W args.toList ds gs before) (hL : laidMetH Try.prog Rows.shortArchesRow.laid W) (hS : W.ShapedOpen Try.prog) :
  Calls Try.prog 5 args W fun e W' => ∃ v, e = .returned v ∧ Rows.shortArchesSpec.post enc Try.prog Try.f5 false true false false W args v W' := by
 have hval := hval0
 have hW' := hW
 obtain ⟨p, q, hA0, hV, rfl, hfz, hnd⟩ := hW
 have hA : DataW.TrodAll enc Try.prog W 0 (fun _ => true) true Try.f5.params.toList args.toList ds p := hA0
 rw [Try.params5] at hA hval
 obtain ⟨v0, v1, d0, d1, p0, p1, rfl, rfl, rfl, h0, h1⟩ := trodAll_two hA
 obtain ⟨rfl, rfl⟩ := trodVars_none hV
 clear hA0 hval0
 simp only [List.append_nil] at hW'
 have hlt : ∀ x ∈ p0 ++ p1, x.block < W.heap.size := fun x hx => by simpa using hW'.lt x (by simpa using hx)
 obtain ⟨s0, a0⟩ := arg_str (hval 0 9 v0 rfl rfl) h0
 obtain ⟨z1, a1⟩ := arg_int3 (hval 1 3 v1 rfl rfl) h1
 refine (law_true hS (.cons _ _ _ _ a0 (.cons _ _ _ _ a1 .nil)) (by obtain ⟨l, rfl⟩ : ∃ l, s0 = bs l := ⟨s0.data.toList, by simp⟩; exact f5_is (f5_law (F := 1000) (by omega)))).mono fun e W' ⟨he, hb⟩ => ?_
 subst he
 have hok : Value.okWide Try.prog W' .any 0 4 (.bool true) := okWide_bool_mk Try.underlying4 true
 exact ⟨_, rfl, post_below (pa := p0 ++ p1) (pv := []) hW' (fun _ _ _ => trodAll_cons_mk (shut_bool Try.underlying4 _) trodAll_mk0) (fun sp hsp => trodAll_mk2
   (WideElems.Trod_stays laidOut (by kernel_rfl) (of_decide_eq_true (by kernel_rfl)) h0 (fun x hx => hb.same (hlt x (List.mem_append_left _ hx))) (fun x hx => hsp x (List.mem_append_left _ hx)))
   (WideElems.Trod_stays laidOut (by kernel_rfl) (of_decide_eq_true (by kernel_rfl)) h1 (fun x hx => hb.same (hlt x (List.mem_append_right _ hx))) (fun x hx => hsp x (List.mem_append_right _ hx)))) (fun _ _ => rfl) (by simp)
  hb (ok_one (by kernel_rfl) rfl hok)⟩
def wit : Array Value := #[.string ByteArray.empty, .int .i64 0]
theorem laid_met (os : Os) : laidMet Try.prog Rows.shortArchesRow.laid ((laidWorld os).forCall (fun _ _ => 0) ⟨#[], wit, []⟩).memory :=
 laidMet_of_run' 80 (by kernel_rfl) (by kernel_rfl)
theorem reads (os : Os) {H : Type} (enc : TypeId × Value → H) : ∃ places, DataW.whole enc Try.prog ((laidWorld os).forCall (fun _ _ => 0) ⟨#[], wit, []⟩).memory Try.f5.params.toList Rows.shortArchesSpec.vars false wit.toList 80 = some ([.lit (.string []), .lit (.int .i64 0)], [], places) :=
 ⟨[], by kernel_rfl⟩
theorem lifted (os : Os) (started : os.Started) (H : Type) (enc : TypeId × Value → H) (F : Stop.Interp) :
  ReturnsInHanded {} Try.checked os 5 .any ((OpenSpec.ofChange Rows.shortArchesSpec).preRow enc Try.prog Try.f5 Rows.shortArchesRow.domain false Rows.shortArchesRow.laid) (((OpenSpec.ofChange Rows.shortArchesSpec).at F).post enc Try.prog Try.f5 false true false false) := by
 obtain ⟨places, hx⟩ := reads os enc
 refine returnsInHanded_of_row (C := Try.checked) (s := OpenSpec.ofChange Rows.shortArchesSpec) own started (by kernel_rfl) Try.func5
  (witness_row_at (enc := enc) (C := Try.checked) false (laidWorld os) wit rfl (by kernel_rfl) (by kernel_rfl) (by kernel_rfl)
   (OpenSpec.preRow_of_cond 80 hx (by kernel_rfl) (fun k hk => by cases hk) (by kernel_rfl) (laid_met os))) ?_
 intro W base args ds gs before hval hW _ _ _ hL hS _
 exact contract H enc W base args ds gs before hval hW hL hS
theorem said : Rows.ShortArchesSaid :=
 OpenClaim.holds_of_cond 5 Try.f5 rfl rfl rfl rfl rfl rfl rfl ⟨rfl, rfl, rfl, rfl, rfl⟩ rfl rfl rfl rfl rfl (by kernel_rfl) Try.func5 (by kernel_rfl)
  (of_decide_eq_true (by kernel_rfl)) (by unfold Func.isWrapper; first | (rw [if_pos (by decide +kernel)]; kernel_rfl) | (rw [if_neg (by decide +kernel)]; exact ⟨rfl, rfl⟩))
  (fun os started H enc _ F => by rw [OpenClaim.pre_eq_preRow]; exact lifted os started H enc F)
end ShortArchesCard
theorem shortArches_said : Rows.ShortArchesSaid := ShortArchesCard.said
end Go.Proofs.Ytmnmfmghmenkkaa
