/-
  What the texts of chapter 14 need of the evaluator's own: reading maps, tables, texts as values.
  Conditions: none; definitions and lemmas.
-/
import Derived.Below
import Derived.Calls
import Derived.Carry
import Derived.ChangeSame
import Derived.Deep.AppendSrc
import Derived.Deep.MidRow
import Derived.Deep.Slices
import Derived.Deep.Upon
import Derived.IntWalk
import Derived.Laws.BytesArg
import Derived.Laws.IdiomCopy
import Derived.Laws.Tables
import Derived.Lib.ConvBytes
import Derived.Lib.LaidTab
import Derived.LoopN
import Derived.OpenShut
import Derived.Orders
import Derived.ProofKit
import Derived.WideLaws
set_option linter.unusedSimpArgs false
set_option linter.unusedVariables false
set_option linter.unusedSectionVars false
namespace Go.Abs
def plain : Value → Bool
 | .bool _ | .int _ _ | .float _ _ | .complex _ _ _ | .string _ => true
 | .pointer none | .slice none _ _ | .map none | .chan none | .nilFunc | .nilIface => true
 | _ => false
def plainV : Value → Bool
 | .agg cs => cs.toList.all plain
 | v => plain v
def prun {α : Type} (P : Program) : Sem α → Option α
 | .pure a => some a
 | .program k => prun P (k P)
 | .mark _ k => prun P k
 | _ => none
def mapTy (P : Program) (t : TypeId) : Option (TypeId × TypeId) :=
 match P.underlying t with
 | some (.map k e) => some (k, e)
 | _ => none
def afind (P : Program) (kt : TypeId) (emp : Bool) (k : Value) (es : List MapEntry) : Option (Option (Nat × Value)) :=
 match prun P (Instr.checkKey emp 10000 kt k) with
 | some _ => prun P (Instr.findKey kt k es)
 | none => none
def azero (P : Program) (t : TypeId) : Option Value :=
 match P.info? t with
 | some i => i.zero
 | none => none
def lookRes (ok : Bool) (v : Value) (b : Bool) : Value :=
 match ok with
 | true => .tuple #[v, .bool b]
 | false => v
def alook (P : Program) (t : TypeId) (es : List MapEntry) (k : Value) (ok : Bool) : Option Value :=
 match mapTy P t with
 | some (kt, et) => match afind P kt es.isEmpty k es with
  | some (some (_, v)) => match plainV v with
   | true => some (lookRes ok v true)
   | false => none
  | some none => match azero P et with
   | some z => match plainV z with
    | true => some (lookRes ok z false)
    | false => none
   | none => none
  | none => none
 | none => none
def aupd (P : Program) (t : TypeId) (es : List MapEntry) (c : Nat) (k v : Value) : Option (List MapEntry × Nat) :=
 match mapTy P t with
 | some (kt, _) => match afind P kt false k es with
  | some (some (i, _)) => match es[i]? with
   | some e => match Instr.sameBits 10000 e.key k with
    | true => some (es.set i ⟨k, v, e.born⟩, c)
    | false => none
   | none => none
  | some none => some (es ++ [⟨k, v, c⟩], c + 1)
  | none => none
 | none => none
section
variable {P : Program}
theorem prun_run {α : Type} (s : Sem α) (x : α) (w : World) (h : prun P s = some x) : s.run P w = .ok x w := by
 induction s with
 | pure a => cases h; rfl
 | program k ih => exact ih P h
 | mark _ k ih => exact ih h
 | _ => cases h
end
section
variable {P : Program} {w : World}
def itSet (w : World) (r : Nat) (o : Obj) : World := { w with heap := w.heap.setIfInBounds r o }
end
section
variable {P : Program} {w : World}
theorem mapTy_some {t k e : TypeId} (ht : mapTy P t = some (k, e)) : P.underlying t = some (.map k e) := by
 unfold mapTy at ht
 split at ht
 ·rename_i hu; cases ht; exact hu
 ·cases ht
end
section
variable {P : Program} {w : World}
theorem run_afind {kt : TypeId} {emp : Bool} {k : Value} {es : List MapEntry} {r : Option (Nat × Value)} (ha : afind P kt emp k es = some r) (w : World) :
  (Instr.checkKey emp 10000 kt k).run P w = .ok () w ∧ (Instr.findKey kt k es).run P w = .ok r w := by
 unfold afind at ha
 split at ha
 ·rename_i u hu
  exact ⟨prun_run _ _ w hu, prun_run _ _ w ha⟩
 ·cases ha
end
section
variable {P : Program} {w : World}
theorem run_azero {t : TypeId} {z : Value} (hz : azero P t = some z) (w : World) : (zeroValue t).run P w = .ok z w := by
 unfold azero at hz
 split at hz
 ·rename_i i hi
  simp [zeroValue, typeInfo, hi, hz]
 ·cases hz
end
section
variable {P : Program} {w : World}
theorem modify_eq {es : List MapEntry} {i : Nat} {e : MapEntry} {g : MapEntry → MapEntry} (he : es[i]? = some e) : es.modify i g = es.set i (g e) := by
 obtain ⟨hi, rfl⟩ := List.getElem?_eq_some_iff.1 he
 apply List.ext_getElem?
 intro j
 rw [List.getElem?_modify, List.getElem?_set]
 by_cases e : i = j
 ·subst e; simp [hi]
 ·simp [e]
end
section
variable {P : Program} {w : World}
theorem run_stays {old new : Value} (hs : Instr.sameBits 10000 old new = true) (w : World) : (Instr.keyThatStays old new).run P w = .ok new w := by
 unfold Instr.keyThatStays
 rw [if_pos hs]
 rfl
end
section
variable {P : Program} {w : World}
theorem aupd_run {t : TypeId} {es es' : List MapEntry} {c c' r : Nat} {k v : Value} (hr : w.heap[r]? = some (.map es.toArray c)) (ha : aupd P t es c k v = some (es', c')) :
  (Instr.mapUpdate t (.map (some r)) k v).run P w = .ok () (itSet w r (.map es'.toArray c')) := by
 obtain ⟨hlt, hg⟩ := Array.getElem?_eq_some_iff.1 hr
 unfold aupd at ha
 split at ha
 ·rename_i kt et ht
  have hu := mapTy_some ht
  split at ha
  ·rename_i i u hf
   obtain ⟨c1, c2⟩ := run_afind hf w
   split at ha
   ·rename_i e he
    split at ha
    ·rename_i hs
     cases ha
     have c3 := run_stays (P := P) hs w
     simp [Instr.mapUpdate, run_underlying hu, getObj, setObj, hr, Sem.run, c1, c2, he, c3, Result.andThen, itSet, modify_eq he, hlt, hg]
    ·cases ha
   ·cases ha
  ·rename_i hf
   obtain ⟨c1, c2⟩ := run_afind hf w
   cases ha
   simp [Instr.mapUpdate, run_underlying hu, getObj, setObj, hr, Sem.run, c1, c2, Result.andThen, itSet, hlt, hg]
  ·cases ha
 ·cases ha
end
end Go.Abs
namespace Go.Abs
section
variable {P : Program} {W : World}
variable {H : Type} {enc : TypeId × Value → H}
theorem laidMet_tail {x : String × DataW Unit} {rest : List (String × DataW Unit)} (h : laidMet P (x :: rest) W) : laidMet P rest W := by
 obtain ⟨ps, hps, hnd, hfr⟩ := h
 obtain ⟨g, t, cs, fuel, p, q, _, _, _, _, hq, rfl⟩ := hps
 exact ⟨q, hq, (List.nodup_append.1 hnd).2.1, fun b off hin => hfr b off (List.mem_append_right _ hin)⟩
end
end Go.Abs
namespace Go.Pur
open Go.Abs
section
variable {P : Program}
variable {P : Program}
theorem prun_bind {α β : Type} (s : Sem α) (k : α → Sem β) {a : α} (hs : prun P s = some a) : prun P (s >>= k) = prun P (k a) := by
 show prun P (s.bind k) = _
 induction s generalizing a with
 | pure x => simp only [prun, Option.some.injEq] at hs; rw [← hs]; rfl
 | program g ih => exact ih P (by simpa [prun] using hs)
 | mark m g ih => exact ih (by simpa [prun] using hs)
 | _ => simp [prun] at hs
end
section
variable {P : Program}
variable {P : Program}
theorem prun_und {t : TypeId} {d : TypeDesc} (hu : P.underlying t = some d) : prun P (Go.underlying t) = some d := by
 unfold Go.underlying
 rw [prun_bind (program : Sem Program) _ (a := P) rfl]
 simp only [hu]; rfl
end
end Go.Pur
namespace Go.Pur
open Go.Abs
abbrev bs (l : List UInt8) : ByteArray := ⟨l.toArray⟩
theorem bs_size {l : List UInt8} : (bs l).size = l.length := by simp [ByteArray.size]
theorem bs_eq {l m : List UInt8} : (bs l = bs m) ↔ l = m := ⟨fun h => by simpa using congrArg (fun b : ByteArray => b.data.toList) h, fun h => by rw [h]⟩
end Go.Pur
namespace Go.Pur
open Go.Abs
abbrev Mp (K V : Type) := List (K × V × Nat)
section
variable {K V : Type} [DecidableEq K] {P : Program}
def mGet (k : K) : Mp K V → Option V
 | [] => none
 | e :: l => match decide (e.1 = k) with
  | true => some e.2.1
  | false => mGet k l
def mSet (c : Nat) (k : K) (v : V) : Mp K V → Mp K V
 | [] => [(k, v, c)]
 | e :: l => match decide (e.1 = k) with
  | true => (k, v, e.2.2) :: l
  | false => e :: mSet c k v l
def mClk (c : Nat) (k : K) : Mp K V → Nat
 | [] => c + 1
 | e :: l => match decide (e.1 = k) with
  | true => c
  | false => mClk c k l
def mGetD (d : V) (k : K) (l : Mp K V) : V := (mGet k l).getD d
def mHas (k : K) (l : Mp K V) : Bool := (mGet k l).isSome
def mIdx (k : K) : Mp K V → Nat → Option (Nat × V)
 | [], _ => none
 | e :: l, i => match decide (e.1 = k) with
  | true => some (i, e.2.1)
  | false => mIdx k l (i + 1)
def mE (kf : K → Value) (vf : V → Value) (l : Mp K V) : List MapEntry := l.map fun e => ⟨kf e.1, vf e.2.1, e.2.2⟩
theorem mE_nil {kf : K → Value} {vf : V → Value} : mE kf vf [] = [] := rfl
theorem mE_len {kf : K → Value} {vf : V → Value} {l : Mp K V} : (mE kf vf l).length = l.length := by simp [mE]
theorem mIdx_get {k : K} : ∀ {l : Mp K V} {i : Nat}, (mIdx k l i).map (·.2) = mGet k l
 | [], _ => rfl
 | e :: l, i => by
  unfold mIdx mGet
  split
  ·rfl
  ·exact mIdx_get
structure KeyT (P : Program) (kt : TypeId) (kf : K → Value) : Prop where
 chk : ∀ emp k, prun P (Instr.checkKey emp 10000 kt (kf k)) = some ()
 fnd : ∀ {W : Type} (vf : W → Value) (l : Mp K W) (k : K), prun P (Instr.findKey kt (kf k) (mE kf vf l)) = some ((mIdx k l 0).map fun p => (p.1, vf p.2))
 bits : ∀ k, Instr.sameBits 10000 (kf k) (kf k) = true
 plain : ∀ k, plainV (kf k) = true
theorem mIdx_none {k : K} : ∀ {l : Mp K V} {i : Nat}, mIdx k l i = none → mGet k l = none ∧ (∀ c v, mSet c k v l = l ++ [(k, v, c)]) ∧ ∀ c, mClk c k l = c + 1
 | [], _, _ => ⟨rfl, fun _ _ => rfl, fun _ => rfl⟩
 | e :: l, i, h => by
  unfold mIdx at h
  split at h
  ·cases h
  ·rename_i he
   obtain ⟨a, b, c⟩ := mIdx_none h
   refine ⟨?_, fun x v => ?_, fun x => ?_⟩
   ·unfold mGet; rw [he]; exact a
   ·unfold mSet; rw [he]; simp [b]
   ·unfold mClk; rw [he]; exact c x
theorem mIdx_some {k : K} : ∀ {l : Mp K V} {i j : Nat} {v : V}, mIdx k l i = some (j, v) → i ≤ j ∧ mGet k l = some v ∧ ∃ e, l[j - i]? = some e ∧ e.1 = k ∧ (∀ c u, mSet c k u l = l.set (j - i) (k, u, e.2.2)) ∧ ∀ c, mClk c k l = c
 | [], _, _, _, h => by cases h
 | e :: l, i, j, v, h => by
  unfold mIdx at h
  split at h
  ·rename_i he
   cases h
   refine ⟨Nat.le_refl _, by unfold mGet; rw [he], e, by simp, of_decide_eq_true he, fun c u => ?_, fun c => ?_⟩
   ·unfold mSet; rw [he]; simp
   ·unfold mClk; rw [he]
  ·rename_i he
   obtain ⟨h0, h1, e', h2, h3, h4, h5⟩ := mIdx_some h
   have hj : j - i = (j - (i + 1)) + 1 := by omega
   refine ⟨by omega, by unfold mGet; rw [he]; exact h1, e', by rw [hj]; simpa using h2, h3, fun c u => ?_, fun c => ?_⟩
   ·unfold mSet; rw [he, hj]; simp [h4]
   ·unfold mClk; rw [he]; exact h5 c
theorem find_m {kt : TypeId} {kf : K → Value} (hk : KeyT P kt kf) {emp : Bool} {vf : V → Value} {l : Mp K V} {k : K} : afind P kt emp (kf k) (mE kf vf l) = some ((mIdx k l 0).map fun p => (p.1, vf p.2)) := by
 unfold afind
 rw [hk.chk]
 exact hk.fnd vf l k
theorem look_m {t kt et : TypeId} {kf : K → Value} {vf : V → Value} {l : Mp K V} {k : K} {d : V} (hm : mapTy P t = some (kt, et)) (hk : KeyT P kt kf) (hz : azero P et = some (vf d)) (hp : ∀ v, plainV (vf v) = true) {ok : Bool} :
  alook P t (mE kf vf l) (kf k) ok = some (lookRes ok (vf (mGetD d k l)) (mHas k l)) := by
 unfold alook
 rw [hm]
 simp only [find_m hk]
 have hg := mIdx_get (k := k) (l := l) (i := 0)
 unfold mGetD mHas
 cases h : mIdx k l 0 with
 | none =>
  rw [h] at hg
  simp only [Option.map_none] at hg ⊢
  rw [← hg]
  simp only [hz, hp, Option.getD_none, Option.isSome_none]
 | some p =>
  rw [h] at hg
  simp only [Option.map_some] at hg ⊢
  rw [← hg]
  simp only [hp, Option.getD_some, Option.isSome_some]
theorem upd_m {t kt et : TypeId} {kf : K → Value} {vf : V → Value} {l : Mp K V} {k : K} {v : V} {c : Nat} (hm : mapTy P t = some (kt, et)) (hk : KeyT P kt kf) :
  aupd P t (mE kf vf l) c (kf k) (vf v) = some (mE kf vf (mSet c k v l), mClk c k l) := by
 unfold aupd
 rw [hm]
 simp only [find_m hk]
 cases h : mIdx k l 0 with
 | none =>
  obtain ⟨_, h2, h3⟩ := mIdx_none h
  simp only [Option.map_none, h2, h3]
  simp [mE]
 | some p =>
  obtain ⟨i, u⟩ := p
  obtain ⟨_, _, e, h2, h3, h4, h5⟩ := mIdx_some h
  simp only [Nat.sub_zero] at h2 h4
  have he : (mE kf vf l)[i]? = some ⟨kf e.1, vf e.2.1, e.2.2⟩ := by simp [mE, h2]
  simp only [Option.map_some, he, h3, hk.bits, h4, h5]
  congr 2
  simp only [mE, List.map_set]
theorem key_now {kt : TypeId} {d : TypeDesc} {kf : K → Value} (hu : P.underlying kt = some d) (hs : ∀ a b, Instr.sameNow d (kf a) (kf b) = some (decide (b = a))) (hb : ∀ k, Instr.sameBits 10000 (kf k) (kf k) = true) (hp : ∀ k, plainV (kf k) = true) (hc : ∀ emp k, prun P (Instr.checkKey emp 10000 kt (kf k)) = some ()) : KeyT P kt kf := by
 refine ⟨hc, fun {W} vf l k => ?_, hb, hp⟩
 have hn : ∀ (l : Mp K W) i, Instr.findNow d (kf k) (mE kf vf l) i = some ((mIdx k l i).map fun p => (p.1, vf p.2)) := by
  intro l
  induction l with
  | nil => intro i; rfl
  | cons e l ih =>
   intro i
   show Instr.findNow d (kf k) (⟨kf e.1, vf e.2.1, e.2.2⟩ :: mE kf vf l) i = _
   unfold Instr.findNow mIdx
   rw [hs]
   cases decide (e.1 = k) with
   | true => rfl
   | false => exact ih (i + 1)
 unfold Instr.findKey
 rw [prun_bind _ _ (prun_und hu), hn]
 rfl
theorem key_int {kt : TypeId} {k : IntKind} (hu : P.underlying kt = some (.int k)) : KeyT P kt (Value.int k) := by
 refine key_now hu (fun a b => ?_) (fun z => ?_) (fun _ => rfl) (fun emp z => ?_)
 ·simp only [Instr.sameNow, if_true]
  congr 1
  by_cases h : a = b
  ·subst h; simp
  ·have h1 : ¬ b = a := fun e => h e.symm
   simp only [h1, decide_false]
   exact beq_eq_false_iff_ne.2 h
 ·show (k == k && z == z) = true
  simp
 ·show prun P (Instr.checkKey emp (9999 + 1) kt _) = _
  unfold Instr.checkKey
  rw [prun_bind _ _ (prun_und hu)]
  rfl
theorem bytes_eq (a b : ByteArray) : (a == b) = decide (a = b) := by
 show (a.data == b.data) = _
 have : (a = b) ↔ a.data = b.data := ⟨fun h => by rw [h], fun h => ByteArray.ext h⟩
 rw [show decide (a = b) = decide (a.data = b.data) from decide_eq_decide.2 this]
 cases h : (a.data == b.data) with
 | true => exact (decide_eq_true (eq_of_beq h)).symm
 | false => exact (decide_eq_false (fun e => by rw [e] at h; simp at h)).symm
abbrev sV (s : List UInt8) : Value := .string (bs s)
theorem key_str {kt : TypeId} (hu : P.underlying kt = some .string) : KeyT P kt sV := by
 refine key_now hu (fun a b => ?_) (fun z => ?_) (fun _ => rfl) (fun emp z => ?_)
 ·simp only [Instr.sameNow]
  congr 1
  rw [bytes_eq]
  by_cases h : a = b
  ·subst h; simp
  ·have h1 : ¬ bs a = bs b := fun e => h (bs_eq.1 e)
   have h2 : ¬ b = a := fun e => h e.symm
   simp [h1, h2]
 ·show (bs z == bs z) = true
  rw [bytes_eq]
  simp
 ·show prun P (Instr.checkKey emp (9999 + 1) kt _) = _
  unfold Instr.checkKey
  rw [prun_bind _ _ (prun_und hu)]
  rfl
end
theorem bs_extract {s : List UInt8} {a b : Nat} : (bs s).extract a b = bs ((s.take b).drop a) := by
 apply ByteArray.ext
 apply Array.ext'
 rw [ByteArray.data_extract]
 simp [List.drop_take]
def sub2 (s : List UInt8) (lo hi : Int) : Option (List UInt8) := match lo, hi with
 | .ofNat a, .ofNat b => match Nat.ble a b && Nat.ble b s.length with
  | true => some ((s.take b).drop a)
  | false => none
 | _, _ => none
def subF (s : List UInt8) (lo : Int) : Option (List UInt8) := match lo with
 | .ofNat a => match Nat.ble a s.length with
  | true => some (s.drop a)
  | false => none
 | _ => none
def subT (s : List UInt8) (hi : Int) : Option (List UInt8) := match hi with
 | .ofNat b => match Nat.ble b s.length with
  | true => some (s.take b)
  | false => none
 | _ => none
end Go.Pur
