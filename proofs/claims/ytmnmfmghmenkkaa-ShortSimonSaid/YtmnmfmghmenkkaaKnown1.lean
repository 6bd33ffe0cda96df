/-
  What is known of the functions that build texts, as facts of the pure evaluator.
  Conditions: none; lemmas.
-/
import Derived.Test.YtmnmfmghmenkkaaPurBase
import Derived.Test.YtmnmfmghmenkkaaPurG
import Derived.Test.YtmnmfmghmenkkaaPurM
set_option linter.unusedSimpArgs false
set_option linter.unusedVariables false
namespace Go.Proofs.Ytmnmfmghmenkkaa
open Go.Abs Go.Pur
theorem pvOf_mnil : pvOf (.map none) = some (.v (.map none)) := rfl
def txtO : Option (List KR) → Option (List UInt8)
 | some [.p (.string s)] => some s.data.toList
 | _ => none
theorem known_txt {g : FuncId} {args : List PV} {ks : List KA} {r : List UInt8} {hp : List (Option (List PV))} (hy : Y0.yes g = true) (ha : paArgs args = some ks) (h : txtO (extN g ks) = some r) : E Try.prog Y0 g args hp = some (.v (.string (bs r)), hp, none) := by
 refine E_known hy ?_
 show libP (extN g) args hp = _
 unfold libP
 rw [ha]
 unfold txtO at h
 split at h
 ·rename_i s e
  cases h
  simp only [e]
  rfl
 ·cases h
def f53O (l : List UInt8) (m : Int) : Option (List UInt8) := txtO (e53 [.p (.string (bs l)), .p (.int .i64 m)])
def slipV (l : List Int) : Value := .agg (l.map (Value.int .u8)).toArray
def f48O (l : List Int) (n k : Int) : Option (List UInt8) := txtO (e48 [.p (slipV l), .p (.int .i64 n), .p (.int .i64 k)])
theorem f53_is {l : List UInt8} {m : Int} {r : List UInt8} {hp : List (Option (List PV))} (h : f53O l m = some r) : E Try.prog Y0 53 [.v (.string (bs l)), .v (.int .i64 m)] hp = some (.v (.string (bs r)), hp, none) := known_txt rfl rfl h
theorem f48_is {a b c d e f g i j k m n p : Int} {r : List UInt8} {hp : List (Option (List PV))} (h : f48O [a, b, c, d, e, f, g, i, j, k, m] n p = some r) : E Try.prog Y0 48 [.a [kv .u8 a, kv .u8 b, kv .u8 c, kv .u8 d, kv .u8 e, kv .u8 f, kv .u8 g, kv .u8 i, kv .u8 j, kv .u8 k, kv .u8 m], .v (.int .i64 n), .v (.int .i64 p)] hp = some (.v (.string (bs r)), hp, none) := known_txt rfl rfl h
def lstO : Option (List KR) → Option (List (List UInt8))
 | some [.l cs] => txs cs
 | _ => none
where txs : List Value → Option (List (List UInt8))
 | [] => some []
 | v :: l => match keyS v, txs l with
  | some k, some r => some (k :: r)
  | _, _ => none
def f49O (m1 : Mp (List UInt8) Int) (c1 : Nat) (m2 : Mp (List UInt8) Int) (c2 : Nat) : Option (List UInt8 × Bool) := match stOK c1 m1 && stOK c2 m2 with
 | true => some (fst49 m1 m2)
 | false => none
theorem decM_mE {m : Mp (List UInt8) Int} : decM (mE sV (Value.int .i64) m) = some m := by
 induction m with
 | nil => rfl
 | cons e l ih =>
  show (match sV e.1, Value.int .i64 e.2.1, decM (mE sV (Value.int .i64) l) with
   | .string s, .int .i64 v, some r => some ((s.data.toList, v, e.2.2) :: r)
   | _, _, _ => none) = _
  rw [ih]
theorem f49_is {m1 m2 : Mp (List UInt8) Int} {c1 c2 : Nat} {k1 k2 : Vl} {r : List UInt8 × Bool} {hp : List (Option (List PV))} (h : f49O m1 c1 m2 c2 = some r) : E Try.prog Y0 49 [.m k1 (mE sV (Value.int .i64) m1) c1, .m k2 (mE sV (Value.int .i64) m2) c2] hp = some (.t [.v (.string (bs r.1)), .v (.bool r.2)], hp, none) := by
 unfold f49O at h
 split at h
 ·rename_i hok
  cases h
  refine E_known rfl ?_
  show libP e49 [.m k1 (mE sV (Value.int .i64) m1) c1, .m k2 (mE sV (Value.int .i64) m2) c2] hp = _
  have he : e49 [.m (mE sV (Value.int .i64) m1) c1, .m (mE sV (Value.int .i64) m2) c2] = some [.p (.string ⟨(fst49 m1 m2).1.toArray⟩), .p (.bool (fst49 m1 m2).2)] := by
   show (match decM (mE sV (Value.int .i64) m1), decM (mE sV (Value.int .i64) m2) with
    | some m1, some m2 => match stOK c1 m1 && stOK c2 m2 with
     | true => some [KR.p (.string ⟨(fst49 m1 m2).1.toArray⟩), .p (.bool (fst49 m1 m2).2)]
     | false => none
    | _, _ => none) = _
   rw [decM_mE, decM_mE]
   dsimp only
   rw [hok]
  unfold libP
  show (match e49 [.m (mE sV (Value.int .i64) m1) c1, .m (mE sV (Value.int .i64) m2) c2] with
   | some rs => match rs.all okR with
    | true => some (pPack (pRes rs), hp, none)
    | false => none
   | none => none) = _
  rw [he]
  rfl
 ·cases h
def f70O (a b : List UInt8) (most : Int) : Option (List UInt8 × Bool) := match decide (a.length ≤ 10) && decide (b.length ≤ 10) && decide (most ≤ 10) with
 | true => some ((bfs0 a b most).getD [], (bfs0 a b most).isSome)
 | false => none
theorem f70_is {a b : List UInt8} {most : Int} {r : List UInt8 × Bool} {hp : List (Option (List PV))} (h : f70O a b most = some r) : E Try.prog Y0 70 [.v (.string (bs a)), .v (.string (bs b)), iv most] hp = some (.t [.v (.string (bs r.1)), .v (.bool r.2)], hp, none) := by
 unfold f70O at h
 split at h
 ·rename_i hok
  cases h
  refine E_known rfl ?_
  show libP e70 [.v (.string (bs a)), .v (.string (bs b)), iv most] hp = _
  have he : e70 [.p (.string (bs a)), .p (.string (bs b)), .p (.int .i64 most)] = some [.p (.string ⟨((bfs0 a b most).getD []).toArray⟩), .p (.bool (bfs0 a b most).isSome)] := by
   show (match decide (a.length ≤ 10) && decide (b.length ≤ 10) && decide (most ≤ 10) with
    | true => some [KR.p (.string ⟨((bfs0 a b most).getD []).toArray⟩), .p (.bool (bfs0 a b most).isSome)]
    | false => none) = _
   rw [hok]
  unfold libP
  show (match e70 [.p (.string (bs a)), .p (.string (bs b)), .p (.int .i64 most)] with
   | some rs => match rs.all okR with
    | true => some (pPack (pRes rs), hp, none)
    | false => none
   | none => none) = _
  rw [he]
  rfl
 ·cases h
end Go.Proofs.Ytmnmfmghmenkkaa
