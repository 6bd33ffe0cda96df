/-
  What is known of the functions that build texts, as facts of the pure evaluator.
  Conditions: none; lemmas.
-/
import Derived.Test.YtmnmfmghmenkkaaPurBase
import Derived.Test.YtmnmfmghmenkkaaPurG
import Derived.Test.YtmnmfmghmenkkaaPurM
set_option linter.unusedSimpArgs false
set_option linter.unusedVariables false
namespace Go.Proofs.Ytmnmfmghmenkkaa
open Go.Abs Go.Pur
theorem pvOf_mnil : pvOf (.map none) = some (.v (.map none)) := rfl
def txtO : Option (List KR) → Option (List UInt8)
 | some [.p (.string s)] => some s.data.toList
 | _ => none
theorem known_txt {g : FuncId} {args : List PV} {ks : List KA} {r : List UInt8} {hp : List (Option (List PV))} (hy : Y0.yes g = true) (ha : paArgs args = some ks) (h : txtO (extN g ks) = some r) : E Try.prog Y0 g args hp = some (.v (.string (bs r)), hp, none) := by
 refine E_known hy ?_
 show libP (extN g) args hp = _
 unfold libP
 rw [ha]
 unfold txtO at h
 split at h
 ·rename_i s e
  cases h
  simp only [e]
  rfl
 ·cases h
def f53O (l : List UInt8) (m : Int) : Option (List UInt8) := txtO (e53 [.p (.string (bs l)), .p (.int .i64 m)])
def slipV (l : List Int) : Value := .agg (l.map (Value.int .u8)).toArray
def f51O (l : List Int) (n k : Int) : Option (List UInt8) := txtO (e51 [.p (slipV l), .p (.int .i64 n), .p (.int .i64 k)])
theorem f53_is {l : List UInt8} {m : Int} {r : List UInt8} {hp : List (Option (List PV))} (h : f53O l m = some r) : E Try.prog Y0 53 [.v (.string (bs l)), .v (.int .i64 m)] hp = some (.v (.string (bs r)), hp, none) := known_txt rfl rfl h
theorem f51_is {a b c d e f g i j k m n p : Int} {r : List UInt8} {hp : List (Option (List PV))} (h : f51O [a, b, c, d, e, f, g, i, j, k, m] n p = some r) : E Try.prog Y0 51 [.a [kv .u8 a, kv .u8 b, kv .u8 c, kv .u8 d, kv .u8 e, kv .u8 f, kv .u8 g, kv .u8 i, kv .u8 j, kv .u8 k, kv .u8 m], .v (.int .i64 n), .v (.int .i64 p)] hp = some (.v (.string (bs r)), hp, none) := known_txt rfl rfl h
def lstO : Option (List KR) → Option (List (List UInt8))
 | some [.l cs] => txs cs
 | _ => none
where txs : List Value → Option (List (List UInt8))
 | [] => some []
 | v :: l => match keyS v, txs l with
  | some k, some r => some (k :: r)
  | _, _ => none
theorem lstO_txs : ∀ {cs : List Value} {r : List (List UInt8)}, lstO.txs cs = some r → cs = r.map fun b => .string (bs b)
 | [], r, h => by cases h; rfl
 | v :: l, r, h => by
  unfold lstO.txs at h
  split at h
  ·rename_i k r' h1 h2
   cases h
   rw [List.map_cons, ← lstO_txs h2]
   congr 1
   unfold keyS at h1
   split at h1
   ·cases h1; simp
   ·cases h1
  ·cases h
theorem known_lst {g : FuncId} {args : List PV} {ks : List KA} {r : List (List UInt8)} {hp : List (Option (List PV))} (hy : Y0.yes g = true) (ha : paArgs args = some ks) (h : lstO (extN g ks) = some r) (hl : r.length < 1000000) : E Try.prog Y0 g args hp = some (.l .fz .any r.length (r.map tv), hp, none) := by
 refine E_known hy ?_
 show libP (extN g) args hp = _
 unfold libP
 rw [ha]
 unfold lstO at h
 split at h
 ·rename_i cs e
  obtain rfl := lstO_txs h
  have hok : ([KR.l (r.map fun b => .string (bs b))].all okR) = true := by
   simp only [List.all_cons, List.all_nil, Bool.and_true, okR, Bool.and_eq_true]
   refine ⟨?_, Nat.ble_eq_true_of_le (by rw [List.length_map]; unfold unkCap; omega)⟩
   rw [List.all_eq_true]
   intro v hv
   obtain ⟨b, _, rfl⟩ := List.mem_map.1 hv
   rfl
  simp only [e, hok]
  simp only [pRes, pPack, List.length_map, List.map_map]
  rfl
 ·cases h
def f52O (m : Mp (List UInt8) Int) (c : Nat) (z : Int) : Option (List (List UInt8)) := match lstO (e52 [.m (mE sV (Value.int .i64) m) c, .p (.int .i64 z)]) with
 | some r => match Nat.blt r.length 1000000 with
  | true => some r
  | false => none
 | none => none
theorem f52_is {m : Mp (List UInt8) Int} {c : Nat} {z : Int} {k : Vl} {r : List (List UInt8)} {hp : List (Option (List PV))} (h : f52O m c z = some r) : E Try.prog Y0 52 [.m k (mE sV (Value.int .i64) m) c, iv z] hp = some (.l .fz .any r.length (r.map tv), hp, none) := by
 unfold f52O at h
 split at h
 ·rename_i r' h1
  split at h
  ·rename_i h2
   cases h
   exact known_lst rfl rfl h1 (Nat.le_of_ble_eq_true h2)
  ·cases h
 ·cases h
end Go.Proofs.Ytmnmfmghmenkkaa
