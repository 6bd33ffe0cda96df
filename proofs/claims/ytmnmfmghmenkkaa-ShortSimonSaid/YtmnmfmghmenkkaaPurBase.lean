/-
  The seat's policy for the pure evaluator.
  Conditions: none; definitions and closed facts.
-/
import Derived.Test.YtmnmfmghmenkkaaPurTypes
import Derived.Test.YtmnmfmghmenkkaaPurK
import Derived.Test.YtmnmfmghmenkkaaRows0
set_option linter.unusedSimpArgs false
set_option linter.unusedVariables false
namespace Go.Proofs.Ytmnmfmghmenkkaa
open Go.Abs Go.Pur
def mvOf (f t : Nat) : Bool := false
def tk (f : Nat → Bool) (l : List UInt8) : Nat → List UInt8
 | 0 => []
 | k + 1 => tk f l k ++ (if f k then (l[k]?).toList else [])
def tkB (m : Int) (k : Nat) : Bool := bits BinOp.and IntKind.i64 (m / 2 ^ min k 64) 1 == 1
def abc : List UInt8 := [97, 98, 99, 100, 101, 102]
def lt (k : Int) (c : UInt8) : UInt8 := abc.getD ((c.toNat : Int).tmod k).toNat 0
def byV : Value → Option UInt8
 | .int .u8 (.ofNat c) => match Nat.blt c 256 with
  | true => some c.toUInt8
  | false => none
 | _ => none
def bysV : List Value → Option (List UInt8)
 | [] => some []
 | v :: l => match byV v, bysV l with
  | some c, some r => some (c :: r)
  | _, _ => none
def e17 : List KA → Option (List KR)
 | [] => some [.p (.bool true)]
 | _ => none
def e53 : List KA → Option (List KR)
 | [.p (.string s), .p (.int .i64 m)] => match Nat.ble s.size 1000 with
  | true => some [.p (.string ⟨(tk (tkB m) s.data.toList s.size).toArray⟩)]
  | false => none
 | _ => none
def e48 : List KA → Option (List KR)
 | [.p (.agg A), .p (.int .i64 (.ofNat n)), .p (.int .i64 (.ofNat k))] => match bysV A.toList, Nat.beq A.size 11, Nat.ble n 10, Nat.ble 1 k, Nat.ble k 6 with
  | some xs, true, true, true, true => some [.p (.string ⟨(((xs.drop 1).take n).map (lt k)).toArray⟩)]
  | _, _, _, _, _ => none
 | _ => none
def e51 : List KA → Option (List KR)
 | [.p (.agg A), .p (.int .i64 (.ofNat n)), .p (.int .i64 (.ofNat k))] => match bysV A.toList, Nat.beq A.size 11, Nat.ble n 10, Nat.ble 1 k, Nat.ble k 6 with
  | some (c0 :: xs), true, true, true, true => some [.p (.string ⟨((xs.take (c0.toNat % (n + 1))).map (lt k)).toArray⟩)]
  | _, _, _, _, _ => none
 | _ => none
def ixB : List UInt8 → UInt8 → Int
 | [], _ => -1
 | b :: l, c => if b == c then 0 else if ixB l c == -1 then -1 else ixB l c + 1
def e56 : List KA → Option (List KR)
 | [.p (.string s), .p (.int .u8 (.ofNat c))] => some [.p (.int .i64 (ixB s.data.toList c.toUInt8))]
 | _ => none
def e55 : List KA → Option (List KR)
 | [.p (.string s)] => match Nat.ble s.size 1000 with
  | true => some [.p (.string ⟨s.data.toList.reverse.toArray⟩)]
  | false => none
 | _ => none
def strV (b : List UInt8) : Value := .string ⟨b.toArray⟩
def rows61 (w : List UInt8) : List (List (List UInt8)) := (List.range (w.length + 1)).map fun i => srt (allR w.length w i)
def e61 : List KA → Option (List KR)
 | [.p (.string s)] => match Nat.ble s.size 10, s.data.toList.all fun x => Nat.blt x.toNat 128 with
  | true, true => some [.ll ((rows61 s.data.toList).map fun l => l.map strV)]
  | _, _ => none
 | _ => none
def keyS : Value → Option (List UInt8)
 | .string s => some s.data.toList
 | _ => none
def keysS : List MapEntry → Option (List (List UInt8))
 | [] => some []
 | e :: l => match keyS e.key, keysS l with
  | some k, some r => some (k :: r)
  | _, _ => none
def ofs (n : Nat) (ks : List (List UInt8)) : List (List UInt8) := srt (ks.filter fun k => decide (k.length = n))
def ok52B (n c : Nat) (es : List MapEntry) (ks : List (List UInt8)) : Bool := decide (es.length ≤ 4096) && decide (∀ e ∈ es, e.born < c) && decide ((es.map (·.born)).Nodup) && decide (ks.Nodup) && decide ((ks.filter fun k => decide (k.length = n)) ≠ [])
def e52 : List KA → Option (List KR)
 | [.m es c, .p (.int .i64 (.ofNat n))] => match keysS es with
  | some ks => match ok52B n c es ks with
   | true => some [.l ((ofs n ks).map strV)]
   | false => none
  | none => none
 | _ => none
def e49 : List KA → Option (List KR)
 | [.m es1 c1, .m es2 c2] => match decM es1, decM es2 with
  | some m1, some m2 => match stOK c1 m1 && stOK c2 m2 with
   | true => some [.p (.string ⟨(fst49 m1 m2).1.toArray⟩), .p (.bool (fst49 m1 m2).2)]
   | false => none
  | _, _ => none
 | _ => none
def e70 : List KA → Option (List KR)
 | [.p (.string s), .p (.string t), .p (.int .i64 most)] => match decide (s.data.toList.length ≤ 10) && decide (t.data.toList.length ≤ 10) && decide (most ≤ 10) with
  | true => some [.p (.string ⟨((bfs0 s.data.toList t.data.toList most).getD []).toArray⟩), .p (.bool (bfs0 s.data.toList t.data.toList most).isSome)]
  | false => none
 | _ => none
def extN : Nat → List KA → Option (List KR)
 | 17 => e17
 | 48 => e48
 | 51 => e51
 | 53 => e53
 | 55 => e55
 | 56 => e56
 | 61 => e61
 | 52 => e52
 | 49 => e49
 | 70 => e70
 | _ => fun _ => none
def yesOf (g : FuncId) : Bool := Nat.beq g 17 || Nat.beq g 48 || Nat.beq g 51 || Nat.beq g 53 || Nat.beq g 55 || Nat.beq g 56 || Nat.beq g 61 || Nat.beq g 52 || Nat.beq g 49 || Nat.beq g 70
def extOf (g : FuncId) : List PV → List (Option (List PV)) → Option (PV × List (Option (List PV)) × Option Nat) := libP (extN g)
def Y0 : Pol := { keep := keepOf, glob := [], mv := mvOf, yes := yesOf, ext := extOf }
theorem works_is {hp : List (Option (List PV))} : E Try.prog Y0 17 [] hp = some (.v (.bool true), hp, none) := E_known rfl rfl
def fzmOf (f t : Nat) : Bool := false
theorem Y0_fzm {f t : Nat} : Y0.fzm f t = fzmOf f t := rfl
theorem Y0_keep {f t : Nat} : Y0.keep f t = keepOf f t := rfl
def howOf (f g : Nat) : List (Bool × Nat) := []
def partOf (f : Nat) : List (Bool × Nat) := []
theorem Y0_how {f g : Nat} : Y0.how f g = howOf f g := rfl
theorem Y0_mv {f t : Nat} : Y0.mv f t = mvOf f t := rfl
theorem Y0_part {f : Nat} : Y0.part f = partOf f := rfl
end Go.Proofs.Ytmnmfmghmenkkaa
