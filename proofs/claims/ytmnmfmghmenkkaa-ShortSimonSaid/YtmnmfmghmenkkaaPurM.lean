/-
  Maps, as plain lists of keys, elements and stamps; parts of texts.
  Conditions: none; definitions and lemmas.
-/
import Derived.Test.YtmnmfmghmenkkaaPurI
set_option linter.unusedSimpArgs false
set_option linter.unusedVariables false
set_option linter.unusedSectionVars false
namespace Go.Pur
open Go.Abs
abbrev Mp (K V : Type) := List (K × V × Nat)
section
variable {K V : Type} [DecidableEq K] {P : Program}
def mGet (k : K) : Mp K V → Option V
 | [] => none
 | e :: l => match decide (e.1 = k) with
  | true => some e.2.1
  | false => mGet k l
def mSet (c : Nat) (k : K) (v : V) : Mp K V → Mp K V
 | [] => [(k, v, c)]
 | e :: l => match decide (e.1 = k) with
  | true => (k, v, e.2.2) :: l
  | false => e :: mSet c k v l
def mClk (c : Nat) (k : K) : Mp K V → Nat
 | [] => c + 1
 | e :: l => match decide (e.1 = k) with
  | true => c
  | false => mClk c k l
def mGetD (d : V) (k : K) (l : Mp K V) : V := (mGet k l).getD d
def mHas (k : K) (l : Mp K V) : Bool := (mGet k l).isSome
def mIdx (k : K) : Mp K V → Nat → Option (Nat × V)
 | [], _ => none
 | e :: l, i => match decide (e.1 = k) with
  | true => some (i, e.2.1)
  | false => mIdx k l (i + 1)
def mE (kf : K → Value) (vf : V → Value) (l : Mp K V) : List MapEntry := l.map fun e => ⟨kf e.1, vf e.2.1, e.2.2⟩
theorem mE_nil {kf : K → Value} {vf : V → Value} : mE kf vf [] = [] := rfl
theorem mIdx_get {k : K} : ∀ {l : Mp K V} {i : Nat}, (mIdx k l i).map (·.2) = mGet k l
 | [], _ => rfl
 | e :: l, i => by
  unfold mIdx mGet
  split
  ·rfl
  ·exact mIdx_get
structure KeyT (P : Program) (kt : TypeId) (kf : K → Value) : Prop where
 chk : ∀ emp k, prun P (Instr.checkKey emp 10000 kt (kf k)) = some ()
 fnd : ∀ {W : Type} (vf : W → Value) (l : Mp K W) (k : K), prun P (Instr.findKey kt (kf k) (mE kf vf l)) = some ((mIdx k l 0).map fun p => (p.1, vf p.2))
 bits : ∀ k, Instr.sameBits 10000 (kf k) (kf k) = true
 plain : ∀ k, plainV (kf k) = true
theorem mIdx_none {k : K} : ∀ {l : Mp K V} {i : Nat}, mIdx k l i = none → mGet k l = none ∧ (∀ c v, mSet c k v l = l ++ [(k, v, c)]) ∧ ∀ c, mClk c k l = c + 1
 | [], _, _ => ⟨rfl, fun _ _ => rfl, fun _ => rfl⟩
 | e :: l, i, h => by
  unfold mIdx at h
  split at h
  ·cases h
  ·rename_i he
   obtain ⟨a, b, c⟩ := mIdx_none h
   refine ⟨?_, fun x v => ?_, fun x => ?_⟩
   ·unfold mGet; rw [he]; exact a
   ·unfold mSet; rw [he]; simp [b]
   ·unfold mClk; rw [he]; exact c x
theorem mIdx_some {k : K} : ∀ {l : Mp K V} {i j : Nat} {v : V}, mIdx k l i = some (j, v) → i ≤ j ∧ mGet k l = some v ∧ ∃ e, l[j - i]? = some e ∧ e.1 = k ∧ (∀ c u, mSet c k u l = l.set (j - i) (k, u, e.2.2)) ∧ ∀ c, mClk c k l = c
 | [], _, _, _, h => by cases h
 | e :: l, i, j, v, h => by
  unfold mIdx at h
  split at h
  ·rename_i he
   cases h
   refine ⟨Nat.le_refl _, by unfold mGet; rw [he], e, by simp, of_decide_eq_true he, fun c u => ?_, fun c => ?_⟩
   ·unfold mSet; rw [he]; simp
   ·unfold mClk; rw [he]
  ·rename_i he
   obtain ⟨h0, h1, e', h2, h3, h4, h5⟩ := mIdx_some h
   have hj : j - i = (j - (i + 1)) + 1 := by omega
   refine ⟨by omega, by unfold mGet; rw [he]; exact h1, e', by rw [hj]; simpa using h2, h3, fun c u => ?_, fun c => ?_⟩
   ·unfold mSet; rw [he, hj]; simp [h4]
   ·unfold mClk; rw [he]; exact h5 c
theorem find_m {kt : TypeId} {kf : K → Value} (hk : KeyT P kt kf) {emp : Bool} {vf : V → Value} {l : Mp K V} {k : K} : afind P kt emp (kf k) (mE kf vf l) = some ((mIdx k l 0).map fun p => (p.1, vf p.2)) := by
 unfold afind
 rw [hk.chk]
 exact hk.fnd vf l k
theorem look_m {t kt et : TypeId} {kf : K → Value} {vf : V → Value} {l : Mp K V} {k : K} {d : V} (hm : mapTy P t = some (kt, et)) (hk : KeyT P kt kf) (hz : azero P et = some (vf d)) (hp : ∀ v, plainV (vf v) = true) {ok : Bool} :
  alook P t (mE kf vf l) (kf k) ok = some (lookRes ok (vf (mGetD d k l)) (mHas k l)) := by
 unfold alook
 rw [hm]
 simp only [find_m hk]
 have hg := mIdx_get (k := k) (l := l) (i := 0)
 unfold mGetD mHas
 cases h : mIdx k l 0 with
 | none =>
  rw [h] at hg
  simp only [Option.map_none] at hg ⊢
  rw [← hg]
  simp only [hz, hp, Option.getD_none, Option.isSome_none]
 | some p =>
  rw [h] at hg
  simp only [Option.map_some] at hg ⊢
  rw [← hg]
  simp only [hp, Option.getD_some, Option.isSome_some]
theorem upd_m {t kt et : TypeId} {kf : K → Value} {vf : V → Value} {l : Mp K V} {k : K} {v : V} {c : Nat} (hm : mapTy P t = some (kt, et)) (hk : KeyT P kt kf) :
  aupd P t (mE kf vf l) c (kf k) (vf v) = some (mE kf vf (mSet c k v l), mClk c k l) := by
 unfold aupd
 rw [hm]
 simp only [find_m hk]
 cases h : mIdx k l 0 with
 | none =>
  obtain ⟨_, h2, h3⟩ := mIdx_none h
  simp only [Option.map_none, h2, h3]
  simp [mE]
 | some p =>
  obtain ⟨i, u⟩ := p
  obtain ⟨_, _, e, h2, h3, h4, h5⟩ := mIdx_some h
  simp only [Nat.sub_zero] at h2 h4
  have he : (mE kf vf l)[i]? = some ⟨kf e.1, vf e.2.1, e.2.2⟩ := by simp [mE, h2]
  simp only [Option.map_some, he, h3, hk.bits, h4, h5]
  congr 2
  simp only [mE, List.map_set]
theorem key_now {kt : TypeId} {d : TypeDesc} {kf : K → Value} (hu : P.underlying kt = some d) (hs : ∀ a b, Instr.sameNow d (kf a) (kf b) = some (decide (b = a))) (hb : ∀ k, Instr.sameBits 10000 (kf k) (kf k) = true) (hp : ∀ k, plainV (kf k) = true) (hc : ∀ emp k, prun P (Instr.checkKey emp 10000 kt (kf k)) = some ()) : KeyT P kt kf := by
 refine ⟨hc, fun {W} vf l k => ?_, hb, hp⟩
 have hn : ∀ (l : Mp K W) i, Instr.findNow d (kf k) (mE kf vf l) i = some ((mIdx k l i).map fun p => (p.1, vf p.2)) := by
  intro l
  induction l with
  | nil => intro i; rfl
  | cons e l ih =>
   intro i
   show Instr.findNow d (kf k) (⟨kf e.1, vf e.2.1, e.2.2⟩ :: mE kf vf l) i = _
   unfold Instr.findNow mIdx
   rw [hs]
   cases decide (e.1 = k) with
   | true => rfl
   | false => exact ih (i + 1)
 unfold Instr.findKey
 rw [prun_bind _ _ (prun_und hu), hn]
 rfl
theorem bytes_eq (a b : ByteArray) : (a == b) = decide (a = b) := by
 show (a.data == b.data) = _
 have : (a = b) ↔ a.data = b.data := ⟨fun h => by rw [h], fun h => ByteArray.ext h⟩
 rw [show decide (a = b) = decide (a.data = b.data) from decide_eq_decide.2 this]
 cases h : (a.data == b.data) with
 | true => exact (decide_eq_true (eq_of_beq h)).symm
 | false => exact (decide_eq_false (fun e => by rw [e] at h; simp at h)).symm
abbrev sV (s : List UInt8) : Value := .string (bs s)
theorem key_str {kt : TypeId} (hu : P.underlying kt = some .string) : KeyT P kt sV := by
 refine key_now hu (fun a b => ?_) (fun z => ?_) (fun _ => rfl) (fun emp z => ?_)
 ·simp only [Instr.sameNow]
  congr 1
  rw [bytes_eq]
  by_cases h : a = b
  ·subst h; simp
  ·have h1 : ¬ bs a = bs b := fun e => h (bs_eq.1 e)
   have h2 : ¬ b = a := fun e => h e.symm
   simp [h1, h2]
 ·show (bs z == bs z) = true
  rw [bytes_eq]
  simp
 ·show prun P (Instr.checkKey emp (9999 + 1) kt _) = _
  unfold Instr.checkKey
  rw [prun_bind _ _ (prun_und hu)]
  rfl
end
theorem bs_extract {s : List UInt8} {a b : Nat} : (bs s).extract a b = bs ((s.take b).drop a) := by
 apply ByteArray.ext
 apply Array.ext'
 rw [ByteArray.data_extract]
 simp [List.drop_take]
def subF (s : List UInt8) (lo : Int) : Option (List UInt8) := match lo with
 | .ofNat a => match Nat.ble a s.length with
  | true => some (s.drop a)
  | false => none
 | _ => none
section
variable {P : Program}
theorem subF_ok {t : TypeId} (ht : P.underlying t = some .string) {s r : List UInt8} {lo : Int} (h : subF s lo = some r) {k : IntKind} : prunP P (Instr.slice t (.string (bs s)) (some (.int k lo)) none none) = some (.string (bs r)) := by
 unfold subF at h
 split at h
 ·rename_i a
  split at h
  ·rename_i hc
   cases h
   simp only [Nat.ble_eq] at hc
   have := str_from (P := P) ht (s := bs s) (k := k) (a := a) (by rw [bs_size]; exact hc)
   rw [bs_extract, bs_size, List.take_length] at this
   exact this
  ·cases h
 ·cases h
end
end Go.Pur
