/-
  ClerkKept: all lines that came are in volumes, or wait; all pence that were paid are accounted for
  Conditions: the row's own (the listed variables are as the text lays them).
-/
import Derived.Test.YtjeadhfponlnnaaGreatDoorLaidS
import Derived.Deep.DeepWitnessRowRef
import Derived.Test.YtjeadhfponlnnaaGreatDoorKept9
import Derived.Test.YtjeadhfponlnnaaGreatDoorFacts14
import Derived.Test.YtjeadhfponlnnaaGreatDoorEnds14
set_option linter.unusedSimpArgs false
set_option linter.unusedVariables false
set_option linter.unusedSectionVars false
namespace Go.Proofs.YtjeadhfponlnnaaGreatDoor
open Go Go.Abs Go.Pur Go.Clerk Go.ChangeShapes Go.WideShapes Go.ChangeAt Go.RowKit
namespace ClerkKeptCard
set_option maxRecDepth 100000
theorem contract (H : Type) (enc : TypeId × Value → H) (W : World) (base : Nat) (args : Array Value) (ds gs : List (DataW H)) (before : List MemPlace)
  (hval0 : ∀ (j : Nat) t v, Tryz.f9.params[j]? = some t → args[j]? = some v → Value.okWide Tryz.prog W .any base t v)
  (hW : DataW.Whole enc Tryz.prog Tryz.f9.params.toList Rows.clerkKeptSpec.vars false W args.toList ds gs before) (hL : laidMetH Tryz.prog Rows.clerkKeptRow.laid W) (hS : W.ShapedOpen Tryz.prog) :
  Calls Tryz.prog 9 args W fun e W' => ∃ v, e = .returned v ∧ Rows.clerkKeptSpec.post enc Tryz.prog Tryz.f9 false true false false W args v W' := by
 have hval := hval0
 have hW' := hW
 obtain ⟨p, q, hA0, hV, rfl, hfz, hnd⟩ := hW
 have hA : DataW.TrodAll enc Tryz.prog W 0 (fun _ => true) true Tryz.f9.params.toList args.toList ds p := hA0
 rw [Tryz.params9] at hA hval
 obtain ⟨v0, d0, rfl, rfl, h0⟩ := trodAll_one hA
 obtain ⟨rfl, rfl⟩ := trodVars_none hV
 clear hA0 hval0
 simp only [List.append_nil] at hW'
 have hlt : ∀ x ∈ p, x.block < W.heap.size := fun x hx => by simpa using hW'.lt x (by simpa using hx)
 obtain ⟨l0, ad0, cap0, rfl, ha0, hok0, hc0, hm0⟩ := arg_acts (hval 0 65 v0 rfl rfl) h0
 refine (kept9_calls W ad0 cap0 l0 ha0 hc0 (env_ofS hL hS) hok0 hm0).mono fun e W' ⟨he, hb⟩ => ?_
 subst he
 have hok : Value.okWide Tryz.prog W' .any 0 4 (.bool true) := okWide_bool_mk Tryz.underlying4 true
 exact ⟨_, rfl, post_below (pa := p) (pv := []) hW' (fun _ _ _ => trodAll_cons_mk (shut_bool Tryz.underlying4 _) trodAll_mk0) (fun sp hsp => trodAll_mk1
   (WideElems.Trod_stays laidOut (by kernel_rfl) (of_decide_eq_true (by kernel_rfl)) h0 (fun x hx => hb.same (hlt x hx)) (fun x hx => hsp x hx))) (fun _ _ => rfl) (by simp)
  hb (ok_one (by kernel_rfl) rfl hok)⟩
def wit : Array Value := #[.slice none 0 0]
theorem laid_met (os : Os) : laidMet Tryz.prog Rows.clerkKeptRow.laid ((laidWorldS os).forCall (fun _ _ => 0) ⟨#[], wit, []⟩).memory :=
 laid_metS os wit
theorem reads (os : Os) {H : Type} (enc : TypeId × Value → H) : ∃ places, DataW.whole enc Tryz.prog ((laidWorldS os).forCall (fun _ _ => 0) ⟨#[], wit, []⟩).memory Tryz.f9.params.toList Rows.clerkKeptSpec.vars false wit.toList 80 = some ([.nil], [], places) :=
 ⟨[], by kernel_rfl⟩
theorem lifted (os : Os) (started : os.Started) (H : Type) (enc : TypeId × Value → H) (F : Stop.Interp) :
  ReturnsInHanded {} Tryz.checked os 9 .any ((OpenSpec.ofChange Rows.clerkKeptSpec).preRow enc Tryz.prog Tryz.f9 Rows.clerkKeptRow.domain false Rows.clerkKeptRow.laid) (((OpenSpec.ofChange Rows.clerkKeptSpec).at F).post enc Tryz.prog Tryz.f9 false true false false) := by
 obtain ⟨places, hx⟩ := reads os enc
 refine returnsInHanded_of_row (C := Tryz.checked) (s := OpenSpec.ofChange Rows.clerkKeptSpec) own started (by kernel_rfl) Tryz.func9
  (witness_row_atRef (enc := enc) (C := Tryz.checked) false (laidWorldS os) wit rfl (by kernel_rfl) (by kernel_rfl) (by kernel_rfl)
   (OpenSpec.preRow_of_cond 80 hx (by kernel_rfl) (fun k hk => by cases hk) (by kernel_rfl) (laid_met os))) ?_
 intro W base args ds gs before hval hW _ _ _ hL hS _
 exact contract H enc W base args ds gs before hval hW hL hS
theorem fact0 : (fun (P : Program) (f : FuncId) (fn : Func) (s : ChangeSpec) (c : OpenClaim) => (c.wf (OpenSpec.ofChange s) : Bool)) Tryz.prog 9 Tryz.f9 ((OpenSpec.ofChange Rows.clerkKeptSpec).bare) (Rows.clerkKeptRow) = true := by kernel_rfl
theorem fact1 : (fun (P : Program) (f : FuncId) (fn : Func) (s : ChangeSpec) (c : OpenClaim) => (laidOutB P : Bool)) Tryz.prog 9 Tryz.f9 ((OpenSpec.ofChange Rows.clerkKeptSpec).bare) (Rows.clerkKeptRow) = true := pfact1
theorem fact2 : (fun (P : Program) (f : FuncId) (fn : Func) (s : ChangeSpec) (c : OpenClaim) => (mapsRowed P : Bool)) Tryz.prog 9 Tryz.f9 ((OpenSpec.ofChange Rows.clerkKeptSpec).bare) (Rows.clerkKeptRow) = true := pfact2
theorem fact3 : (fun (P : Program) (f : FuncId) (fn : Func) (s : ChangeSpec) (c : OpenClaim) => (fn.params.all (P.readableRec ·) : Bool)) Tryz.prog 9 Tryz.f9 ((OpenSpec.ofChange Rows.clerkKeptSpec).bare) (Rows.clerkKeptRow) = true := by kernel_rfl
theorem fact4 : (fun (P : Program) (f : FuncId) (fn : Func) (s : ChangeSpec) (c : OpenClaim) => (namedTie P c.named s.vars : Bool)) Tryz.prog 9 Tryz.f9 ((OpenSpec.ofChange Rows.clerkKeptSpec).bare) (Rows.clerkKeptRow) = true := by kernel_rfl
theorem fact5 : (fun (P : Program) (f : FuncId) (fn : Func) (s : ChangeSpec) (c : OpenClaim) => ((c.stops == []) : Bool)) Tryz.prog 9 Tryz.f9 ((OpenSpec.ofChange Rows.clerkKeptSpec).bare) (Rows.clerkKeptRow) = true := by kernel_rfl
theorem fact6 : (fun (P : Program) (f : FuncId) (fn : Func) (s : ChangeSpec) (c : OpenClaim) => ((P.stops == []) : Bool)) Tryz.prog 9 Tryz.f9 ((OpenSpec.ofChange Rows.clerkKeptSpec).bare) (Rows.clerkKeptRow) = true := pfact6
theorem fact7 : (fun (P : Program) (f : FuncId) (fn : Func) (s : ChangeSpec) (c : OpenClaim) => ((c.knobs == []) : Bool)) Tryz.prog 9 Tryz.f9 ((OpenSpec.ofChange Rows.clerkKeptSpec).bare) (Rows.clerkKeptRow) = true := by kernel_rfl
theorem fact8 : (fun (P : Program) (f : FuncId) (fn : Func) (s : ChangeSpec) (c : OpenClaim) => ((P.stopKnobs == []) : Bool)) Tryz.prog 9 Tryz.f9 ((OpenSpec.ofChange Rows.clerkKeptSpec).bare) (Rows.clerkKeptRow) = true := pfact8
theorem fact9 : (fun (P : Program) (f : FuncId) (fn : Func) (s : ChangeSpec) (c : OpenClaim) => ((c.inPlace == P.inPlace f) : Bool)) Tryz.prog 9 Tryz.f9 ((OpenSpec.ofChange Rows.clerkKeptSpec).bare) (Rows.clerkKeptRow) = true := by kernel_rfl
theorem fact10 : (fun (P : Program) (f : FuncId) (fn : Func) (s : ChangeSpec) (c : OpenClaim) => ((c.unfollowed == P.unfollowed f) : Bool)) Tryz.prog 9 Tryz.f9 ((OpenSpec.ofChange Rows.clerkKeptSpec).bare) (Rows.clerkKeptRow) = true := by kernel_rfl
theorem fact11 : (fun (P : Program) (f : FuncId) (fn : Func) (s : ChangeSpec) (c : OpenClaim) => ((c.recurses == P.recurses f) : Bool)) Tryz.prog 9 Tryz.f9 ((OpenSpec.ofChange Rows.clerkKeptSpec).bare) (Rows.clerkKeptRow) = true := by kernel_rfl
theorem fact12 : (fun (P : Program) (f : FuncId) (fn : Func) (s : ChangeSpec) (c : OpenClaim) => ((c.named == P.varsNamed f) : Bool)) Tryz.prog 9 Tryz.f9 ((OpenSpec.ofChange Rows.clerkKeptSpec).bare) (Rows.clerkKeptRow) = true := by kernel_rfl
theorem fact13 : (fun (P : Program) (f : FuncId) (fn : Func) (s : ChangeSpec) (c : OpenClaim) => ((c.maps == (fn.params.toList ++ s.plain.varTypes P).any (P.mapsRec ·)) : Bool)) Tryz.prog 9 Tryz.f9 ((OpenSpec.ofChange Rows.clerkKeptSpec).bare) (Rows.clerkKeptRow) = true := by kernel_rfl
theorem fact14 : (fun (P : Program) (f : FuncId) (fn : Func) (s : ChangeSpec) (c : OpenClaim) => ((c.ifaces == (fn.params.toList ++ s.plain.varTypes P).any (P.ifacesRec ·)) : Bool)) Tryz.prog 9 Tryz.f9 ((OpenSpec.ofChange Rows.clerkKeptSpec).bare) (Rows.clerkKeptRow) = true := by kernel_rfl
theorem fact15 : (fun (P : Program) (f : FuncId) (fn : Func) (s : ChangeSpec) (c : OpenClaim) => ((c.mapsOut == P.mapsAmong fn.resultTypes.toList) : Bool)) Tryz.prog 9 Tryz.f9 ((OpenSpec.ofChange Rows.clerkKeptSpec).bare) (Rows.clerkKeptRow) = true := by kernel_rfl
theorem fact16 : (fun (P : Program) (f : FuncId) (fn : Func) (s : ChangeSpec) (c : OpenClaim) => ((c.loops == (fn.params.toList ++ s.plain.varTypes P).any (P.loopsFrom ·)) : Bool)) Tryz.prog 9 Tryz.f9 ((OpenSpec.ofChange Rows.clerkKeptSpec).bare) (Rows.clerkKeptRow) = true := by kernel_rfl
theorem fact17 : (fun (P : Program) (f : FuncId) (fn : Func) (s : ChangeSpec) (c : OpenClaim) => ((c.wideKeys == (fn.params.toList ++ s.plain.varTypes P ++ fn.resultTypes.toList).any (P.wideKeysFrom ·)) : Bool)) Tryz.prog 9 Tryz.f9 ((OpenSpec.ofChange Rows.clerkKeptSpec).bare) (Rows.clerkKeptRow) = true := by kernel_rfl
theorem fact18 : (fun (P : Program) (f : FuncId) (fn : Func) (s : ChangeSpec) (c : OpenClaim) => (s.vars.all (P.varReadable ·) : Bool)) Tryz.prog 9 Tryz.f9 ((OpenSpec.ofChange Rows.clerkKeptSpec).bare) (Rows.clerkKeptRow) = true := by kernel_rfl
theorem fact19 : (fun (P : Program) (f : FuncId) (fn : Func) (s : ChangeSpec) (c : OpenClaim) => (fn.resultTypes.all (fun t => P.readableRec t && decide (t < P.types.size)) : Bool)) Tryz.prog 9 Tryz.f9 ((OpenSpec.ofChange Rows.clerkKeptSpec).bare) (Rows.clerkKeptRow) = true := by kernel_rfl
theorem fact20 : (fun (P : Program) (f : FuncId) (fn : Func) (s : ChangeSpec) (c : OpenClaim) => ((c.ifacesOut == fn.resultTypes.toList.any (P.ifacesRec ·)) : Bool)) Tryz.prog 9 Tryz.f9 ((OpenSpec.ofChange Rows.clerkKeptSpec).bare) (Rows.clerkKeptRow) = true := by kernel_rfl
theorem fact21 : (fun (P : Program) (f : FuncId) (fn : Func) (s : ChangeSpec) (c : OpenClaim) => ((c.loopsOut == fn.resultTypes.toList.any (P.loopsFrom ·)) : Bool)) Tryz.prog 9 Tryz.f9 ((OpenSpec.ofChange Rows.clerkKeptSpec).bare) (Rows.clerkKeptRow) = true := by kernel_rfl
theorem fact22 : (fun (P : Program) (f : FuncId) (fn : Func) (s : ChangeSpec) (c : OpenClaim) => ((c.plainKeys == P.plainKeys) : Bool)) Tryz.prog 9 Tryz.f9 ((OpenSpec.ofChange Rows.clerkKeptSpec).bare) (Rows.clerkKeptRow) = true := pfact22
theorem fact23 : (fun (P : Program) (f : FuncId) (fn : Func) (s : ChangeSpec) (c : OpenClaim) => (c.shortTexts.isNone : Bool)) Tryz.prog 9 Tryz.f9 ((OpenSpec.ofChange Rows.clerkKeptSpec).bare) (Rows.clerkKeptRow) = true := by kernel_rfl
theorem fact24 : (fun (P : Program) (f : FuncId) (fn : Func) (s : ChangeSpec) (c : OpenClaim) => (P.stopsHeard : Bool)) Tryz.prog 9 Tryz.f9 ((OpenSpec.ofChange Rows.clerkKeptSpec).bare) (Rows.clerkKeptRow) = true := pfact24
theorem fact25 : (fun (P : Program) (f : FuncId) (fn : Func) (s : ChangeSpec) (c : OpenClaim) => (P.mayEnter : Bool)) Tryz.prog 9 Tryz.f9 ((OpenSpec.ofChange Rows.clerkKeptSpec).bare) (Rows.clerkKeptRow) = true := pfact25
theorem fact26 : (fun (P : Program) (f : FuncId) (fn : Func) (s : ChangeSpec) (c : OpenClaim) => ((c.lifted == P.liftsFinal) : Bool)) Tryz.prog 9 Tryz.f9 ((OpenSpec.ofChange Rows.clerkKeptSpec).bare) (Rows.clerkKeptRow) = true := pfact26
theorem fact27 : (fun (P : Program) (f : FuncId) (fn : Func) (s : ChangeSpec) (c : OpenClaim) => ((P.make == some c.make) : Bool)) Tryz.prog 9 Tryz.f9 ((OpenSpec.ofChange Rows.clerkKeptSpec).bare) (Rows.clerkKeptRow) = true := pfact27
theorem fact28 : (fun (P : Program) (f : FuncId) (fn : Func) (s : ChangeSpec) (c : OpenClaim) => ((c.kinds == (if c.domain.isEmpty then [] else fn.params.toList.map fun t => match P.underlying t with | some (.int k) => some k | _ => none)) : Bool)) Tryz.prog 9 Tryz.f9 ((OpenSpec.ofChange Rows.clerkKeptSpec).bare) (Rows.clerkKeptRow) = true := by kernel_rfl
theorem fact29 : (fun (P : Program) (f : FuncId) (fn : Func) (s : ChangeSpec) (c : OpenClaim) => ((c.pinned == c.pinnedBy) : Bool)) Tryz.prog 9 Tryz.f9 ((OpenSpec.ofChange Rows.clerkKeptSpec).bare) (Rows.clerkKeptRow) = true := by kernel_rfl
theorem fact30 : (fun (P : Program) (f : FuncId) (fn : Func) (s : ChangeSpec) (c : OpenClaim) => ((c.veiled == (fn.params.toList ++ s.plain.varTypes P ++ fn.resultTypes.toList).any (P.veiledRec ·)) : Bool)) Tryz.prog 9 Tryz.f9 ((OpenSpec.ofChange Rows.clerkKeptSpec).bare) (Rows.clerkKeptRow) = true := by kernel_rfl
theorem fact31 : (fun (P : Program) (f : FuncId) (fn : Func) (s : ChangeSpec) (c : OpenClaim) => (c.veiledFits P fn.params.toList (fn.params.toList ++ s.plain.varTypes P ++ fn.resultTypes.toList) : Bool)) Tryz.prog 9 Tryz.f9 ((OpenSpec.ofChange Rows.clerkKeptSpec).bare) (Rows.clerkKeptRow) = true := by kernel_rfl
theorem closed : joinedFacts Tryz.prog 9 Tryz.f9 ((OpenSpec.ofChange Rows.clerkKeptSpec).bare) (Rows.clerkKeptRow) = true := (and2 (and2 (and2 (and2 (and2 (and2 (and2 (and2 (and2 (and2 (and2 (and2 (and2 (and2 (and2 (and2 (and2 (and2 (and2 (and2 (and2 (and2 (and2 (and2 (and2 (and2 (and2 (and2 (and2 (and2 (and2 fact0 fact1) fact2) fact3) fact4) fact5) fact6) fact7) fact8) fact9) fact10) fact11) fact12) fact13) fact14) fact15) fact16) fact17) fact18) fact19) fact20) fact21) fact22) fact23) fact24) fact25) fact26) fact27) fact28) fact29) fact30) fact31)
theorem said : Rows.ClerkKeptSaid :=
 OpenClaim.holds_of_cond 9 Tryz.f9 rfl rfl rfl rfl rfl rfl rfl ⟨rfl, rfl, rfl, rfl, rfl⟩ rfl rfl rfl rfl rfl (by kernel_rfl) Tryz.func9 closed
  (of_decide_eq_true (by kernel_rfl)) (by unfold Func.isWrapper; first | (rw [if_pos (by decide +kernel)]; kernel_rfl) | (rw [if_neg (by decide +kernel)]; exact ⟨rfl, rfl⟩))
  (fun os started H enc _ F => by rw [OpenClaim.pre_eq_preRow]; exact lifted os started H enc F)
theorem plainLooks (f : FuncId) (fn : Func) (hf : Tryz.pinned.checked.prog.funcNamed "headword/headwordlaw14.ClerkKept" = some f) (hfn : Tryz.pinned.checked.prog.funcs[f]? = some fn) :
  true = Tryz.pinned.checked.prog.looks [] ∧ ∀ (j : Nat) t, fn.params[j]? = some t → Tryz.pinned.checked.prog.wantsStandIn t = false := by
 obtain rfl : f = 9 := Option.some.inj ((show Tryz.prog.funcNamed "headword/headwordlaw14.ClerkKept" = some 9 by kernel_rfl).symm.trans hf) |>.symm
 obtain rfl : fn = Tryz.f9 := (Option.some.inj (Tryz.func9.symm.trans hfn)).symm
 refine ⟨by kernel_rfl, fun j t ht => ?_⟩
 rw [Tryz.params9] at ht
 match j, ht with
 | 0, ht => obtain rfl : 65 = t := Option.some.inj ht; exact (show Tryz.prog.wantsStandIn 65 = false by kernel_rfl)
end ClerkKeptCard
theorem clerkKept_card : Rows.ClerkKeptCardSaid :=
 Claim7.holds_tied_plain_at .later [] _ _ _ _ ClerkKeptCard.said (fun _ h => by cases h) (by kernel_rfl) (fun _ h => by cases h) clerkKept_row_tie rfl ⟨rfl, rfl⟩ (by kernel_rfl) rfl ClerkKeptCard.plainLooks (by kernel_rfl)
end Go.Proofs.YtjeadhfponlnnaaGreatDoor
