/-
  The closed facts of every row of this seat that look at the program alone: each by the kernel, one theorem each (all at once outgrow the memory).
  Conditions: none.
-/
import Derived.Test.YtjeadhfponlnnaaGreatDoorRows
import Derived.JoinedOf
import Derived.KernelRfl
set_option linter.unusedVariables false
namespace Go.Proofs.YtjeadhfponlnnaaGreatDoor
open Go
theorem and2 {a b : Bool} (ha : a = true) (hb : b = true) : (a && b) = true := by rw [ha, hb]; rfl
theorem pfact1 : (fun (P : Program) (f : FuncId) (fn : Func) (s : ChangeSpec) (c : OpenClaim) => (laidOutB P : Bool)) Tryz.prog 6 Tryz.f6 ((OpenSpec.ofChange Rows.clerkKnownSpec).bare) (Rows.clerkKnownRow) = true := by kernel_rfl
theorem pfact2 : (fun (P : Program) (f : FuncId) (fn : Func) (s : ChangeSpec) (c : OpenClaim) => (mapsRowed P : Bool)) Tryz.prog 6 Tryz.f6 ((OpenSpec.ofChange Rows.clerkKnownSpec).bare) (Rows.clerkKnownRow) = true := by kernel_rfl
theorem pfact6 : (fun (P : Program) (f : FuncId) (fn : Func) (s : ChangeSpec) (c : OpenClaim) => ((P.stops == []) : Bool)) Tryz.prog 6 Tryz.f6 ((OpenSpec.ofChange Rows.clerkKnownSpec).bare) (Rows.clerkKnownRow) = true := by kernel_rfl
theorem pfact8 : (fun (P : Program) (f : FuncId) (fn : Func) (s : ChangeSpec) (c : OpenClaim) => ((P.stopKnobs == []) : Bool)) Tryz.prog 6 Tryz.f6 ((OpenSpec.ofChange Rows.clerkKnownSpec).bare) (Rows.clerkKnownRow) = true := by kernel_rfl
theorem pfact22 : (fun (P : Program) (f : FuncId) (fn : Func) (s : ChangeSpec) (c : OpenClaim) => ((c.plainKeys == P.plainKeys) : Bool)) Tryz.prog 6 Tryz.f6 ((OpenSpec.ofChange Rows.clerkKnownSpec).bare) (Rows.clerkKnownRow) = true := by kernel_rfl
theorem pfact24 : (fun (P : Program) (f : FuncId) (fn : Func) (s : ChangeSpec) (c : OpenClaim) => (P.stopsHeard : Bool)) Tryz.prog 6 Tryz.f6 ((OpenSpec.ofChange Rows.clerkKnownSpec).bare) (Rows.clerkKnownRow) = true := by kernel_rfl
theorem pfact25 : (fun (P : Program) (f : FuncId) (fn : Func) (s : ChangeSpec) (c : OpenClaim) => (P.mayEnter : Bool)) Tryz.prog 6 Tryz.f6 ((OpenSpec.ofChange Rows.clerkKnownSpec).bare) (Rows.clerkKnownRow) = true := by kernel_rfl
theorem pfact26 : (fun (P : Program) (f : FuncId) (fn : Func) (s : ChangeSpec) (c : OpenClaim) => ((c.lifted == P.liftsFinal) : Bool)) Tryz.prog 6 Tryz.f6 ((OpenSpec.ofChange Rows.clerkKnownSpec).bare) (Rows.clerkKnownRow) = true := by kernel_rfl
theorem pfact27 : (fun (P : Program) (f : FuncId) (fn : Func) (s : ChangeSpec) (c : OpenClaim) => ((P.make == some c.make) : Bool)) Tryz.prog 6 Tryz.f6 ((OpenSpec.ofChange Rows.clerkKnownSpec).bare) (Rows.clerkKnownRow) = true := by kernel_rfl
end Go.Proofs.YtjeadhfponlnnaaGreatDoor
