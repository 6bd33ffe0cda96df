/-
  What is known of the functions that build texts, as facts of the pure evaluator.
  Conditions: none; lemmas.
-/
import Derived.Test.YtmnmfmghmenkkaaPurBase
import Derived.Test.YtmnmfmghmenkkaaPurG
set_option linter.unusedSimpArgs false
set_option linter.unusedVariables false
namespace Go.Proofs.Ytmnmfmghmenkkaa
open Go.Abs Go.Pur
theorem pvOf_mnil : pvOf (.map none) = some (.v (.map none)) := rfl
def txtO : Option (List KR) → Option (List UInt8)
 | some [.p (.string s)] => some s.data.toList
 | _ => none
def intO : Option (List KR) → Option Int
 | some [.p (.int .i64 z)] => some z
 | _ => none
theorem known_txt {g : FuncId} {args : List PV} {ks : List KA} {r : List UInt8} {hp : List (Option (List PV))} (hy : Y0.yes g = true) (ha : paArgs args = some ks) (h : txtO (extN g ks) = some r) : E Try.prog Y0 g args hp = some (.v (.string (bs r)), hp, none) := by
 refine E_known hy ?_
 show libP (extN g) args hp = _
 unfold libP
 rw [ha]
 unfold txtO at h
 split at h
 ·rename_i s e
  cases h
  simp only [e]
  rfl
 ·cases h
theorem known_int {g : FuncId} {args : List PV} {ks : List KA} {r : Int} {hp : List (Option (List PV))} (hy : Y0.yes g = true) (ha : paArgs args = some ks) (h : intO (extN g ks) = some r) : E Try.prog Y0 g args hp = some (.v (.int .i64 r), hp, none) := by
 refine E_known hy ?_
 show libP (extN g) args hp = _
 unfold libP
 rw [ha]
 unfold intO at h
 split at h
 ·rename_i s e
  cases h
  simp only [e]
  rfl
 ·cases h
def f53O (l : List UInt8) (m : Int) : Option (List UInt8) := txtO (e53 [.p (.string (bs l)), .p (.int .i64 m)])
def f55O (l : List UInt8) : Option (List UInt8) := txtO (e55 [.p (.string (bs l))])
theorem f55_is {l : List UInt8} {r : List UInt8} {hp : List (Option (List PV))} (h : f55O l = some r) : E Try.prog Y0 55 [.v (.string (bs l))] hp = some (.v (.string (bs r)), hp, none) := known_txt rfl rfl h
def f56O (l : List UInt8) (c : Int) : Option Int := intO (e56 [.p (.string (bs l)), .p (.int .u8 c)])
def slipV (l : List Int) : Value := .agg (l.map (Value.int .u8)).toArray
def f51O (l : List Int) (n k : Int) : Option (List UInt8) := txtO (e51 [.p (slipV l), .p (.int .i64 n), .p (.int .i64 k)])
theorem f53_is {l : List UInt8} {m : Int} {r : List UInt8} {hp : List (Option (List PV))} (h : f53O l m = some r) : E Try.prog Y0 53 [.v (.string (bs l)), .v (.int .i64 m)] hp = some (.v (.string (bs r)), hp, none) := known_txt rfl rfl h
theorem f56_is {l : List UInt8} {c : Int} {r : Int} {hp : List (Option (List PV))} (h : f56O l c = some r) : E Try.prog Y0 56 [.v (.string (bs l)), .v (.int .u8 c)] hp = some (.v (.int .i64 r), hp, none) := known_int rfl rfl h
theorem f51_is {a b c d e f g i j k m n p : Int} {r : List UInt8} {hp : List (Option (List PV))} (h : f51O [a, b, c, d, e, f, g, i, j, k, m] n p = some r) : E Try.prog Y0 51 [.a [kv .u8 a, kv .u8 b, kv .u8 c, kv .u8 d, kv .u8 e, kv .u8 f, kv .u8 g, kv .u8 i, kv .u8 j, kv .u8 k, kv .u8 m], .v (.int .i64 n), .v (.int .i64 p)] hp = some (.v (.string (bs r)), hp, none) := known_txt rfl rfl h
end Go.Proofs.Ytmnmfmghmenkkaa
