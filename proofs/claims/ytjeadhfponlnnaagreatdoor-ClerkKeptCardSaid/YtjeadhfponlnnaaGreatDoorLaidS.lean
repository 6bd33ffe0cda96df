/-
  The arguments of the rows that take acts.
  The witness's world of the rows that cut texts at blanks: the listed variables are met.
  Conditions: none; definitions and lemmas.
-/
import Derived.Test.YtjeadhfponlnnaaGreatDoorArgsS
import Derived.Test.YtjeadhfponlnnaaGreatDoorTold41
import Derived.Deep.Slices
set_option linter.unusedSimpArgs false
set_option linter.unusedVariables false
set_option linter.unusedSectionVars false
namespace Go.Proofs.YtjeadhfponlnnaaGreatDoor
open Go.Abs Go.Pur Go.ChangeShapes Go.WideShapes Go.ChangeAt Go.RowKit Go.Clerk
set_option maxRecDepth 100000
section
variable {H : Type} {enc : TypeId × Value → H} {W : World} {r : Reach} {b0 : Nat}
theorem cells5b : Tryz.prog.cellsOf 5 = 1 := by kernel_rfl
theorem cells91 : Tryz.prog.cellsOf 91 = 4 := by kernel_rfl
theorem u8_wf {z : Int} (h : (Lit.int .u8 z).wf = true) : ∃ n : Nat, n < 256 ∧ z = n := by
 have h3 : 0 ≤ z ∧ z ≤ 255 := by simpa [Lit.wf, IntKind.min, IntKind.max, IntKind.has, IntKind.signed, IntKind.bits] using h
 exact ⟨z.toNat, by omega, by omega⟩
theorem trod_act {base fuel : Nat} {spare : Nat → Bool} {held : Bool} {cs : List Value} {x : DataW H × List MemPlace} (h : DataW.trod enc Tryz.prog W base spare held fuel 91 cs = some x) : ∃ a : ActT, a.ok ∧ cs = cellsAct a := by
 obtain ⟨xs, n, _, rfl, hl, hlen, hf⟩ := DataW.trod_struct Tryz.underlying91 h
 rw [cells91] at hl
 match cs, hl with
 | [c0, c1, c2, c3], _ =>
  match xs, hlen with
  | [y0, y1, y2, y3], _ =>
   have h0 := hf 0 _ rfl
   change DataW.trod enc Tryz.prog W base spare held n 5 ((List.drop 0 [c0, c1, c2, c3]).take (Tryz.prog.cellsOf 5)) = some y0 at h0
   rw [cells5b] at h0
   have h1 := hf 1 _ rfl
   change DataW.trod enc Tryz.prog W base spare held n 5 ((List.drop 1 [c0, c1, c2, c3]).take (Tryz.prog.cellsOf 5)) = some y1 at h1
   rw [cells5b] at h1
   have h2 := hf 2 _ rfl
   change DataW.trod enc Tryz.prog W base spare held n 5 ((List.drop 2 [c0, c1, c2, c3]).take (Tryz.prog.cellsOf 5)) = some y2 at h2
   rw [cells5b] at h2
   have h3 := hf 3 _ rfl
   change DataW.trod enc Tryz.prog W base spare held n 5 ((List.drop 3 [c0, c1, c2, c3]).take (Tryz.prog.cellsOf 5)) = some y3 at h3
   rw [cells5b] at h3
   obtain ⟨z0, e0, _, w0⟩ := DataW.trod_int Tryz.underlying5 h0
   obtain ⟨z1, e1, _, w1⟩ := DataW.trod_int Tryz.underlying5 h1
   obtain ⟨z2, e2, _, w2⟩ := DataW.trod_int Tryz.underlying5 h2
   obtain ⟨z3, e3, _, w3⟩ := DataW.trod_int Tryz.underlying5 h3
   simp at e0 e1 e2 e3
   subst e0; subst e1; subst e2; subst e3
   obtain ⟨n0, b0, rfl⟩ := u8_wf w0
   obtain ⟨n1, b1, rfl⟩ := u8_wf w1
   obtain ⟨n2, b2, rfl⟩ := u8_wf w2
   obtain ⟨n3, b3, rfl⟩ := u8_wf w3
   exact ⟨⟨n0, n1, n2, n3⟩, ⟨b0, b1, b2, b3⟩, rfl⟩
theorem arg_acts {v : Value} {d : DataW H} {ps : List MemPlace} (hv : Value.okWide Tryz.prog W r b0 65 v) (h : DataW.Trod enc Tryz.prog W 0 (fun _ => true) true 65 v d ps) :
  ∃ (l : List ActT) (ad : Option Addr) (cap : Nat), v = .slice ad l.length cap ∧ ActsAt W (.slice ad l.length cap) l ∧ (∀ a ∈ l, a.ok) ∧ l.length ≤ cap ∧ l.length ≤ maxLen := by
 obtain ⟨a, len, cap, rfl⟩ := okWide_slice Tryz.underlying65 hv
 obtain ⟨fuel, h⟩ := h
 rcases Go.Deep.open_slice Tryz.underlying65 h with ⟨e, _⟩ | ⟨a', len', cap', m, n, D, Pl, e, _, hl, hm, hmm, _, hV⟩
 ·simp [Value.cells] at e
  obtain ⟨rfl, rfl, rfl⟩ := e
  exact ⟨[], none, 0, rfl, ⟨none, 0, rfl, .inl rfl⟩, fun a h => (by cases h), Nat.le_refl _, Nat.zero_le _⟩
 ·simp only [if_true] at hmm
  subst hmm
  simp [Value.cells] at e
  obtain ⟨rfl, rfl, rfl⟩ := e
  have hx : ∀ i, i < len → ∃ x : ActT, x.ok ∧ ∀ j u, (cellsAct x)[j]? = some u → W.cell? ((a'.add (i * 4)).add j) = some u := fun i hi => by
   obtain ⟨cs', h1, h2⟩ := hV i (by omega)
   rw [cells91] at h1
   obtain ⟨x, hx, rfl⟩ := trod_act h2
   obtain ⟨_, _, h3⟩ := World.cells?_some h1
   refine ⟨x, hx, fun j u hu => ?_⟩
   have hj : j < 4 := (List.getElem?_eq_some_iff.1 hu).1
   rw [h3 j hj]
   exact hu
  have hx2 : ∀ i, ∃ x : ActT, i < len → x.ok ∧ ∀ j u, (cellsAct x)[j]? = some u → W.cell? ((a'.add (i * 4)).add j) = some u := fun i => by
   by_cases h : i < len
   ·obtain ⟨x, h1⟩ := hx i h
    exact ⟨x, fun _ => h1⟩
   ·exact ⟨⟨0, 0, 0, 0⟩, fun h' => absurd h' h⟩
  obtain ⟨f, hf⟩ := Classical.axiomOfChoice hx2
  refine ⟨(List.range len).map f, some a', cap, by simp, ⟨some a', cap, by simp, ?_⟩, fun x hx => ?_, by simp; exact hl, by simp; omega⟩
  ·cases len with
   | zero => exact .inl rfl
   | succ k =>
    right
    obtain ⟨g, off, sp⟩ := a'
    have h0 := (hf 0 (by omega)).2 0 _ rfl
    have e1 : ((⟨g, off, sp⟩ : Addr).add (0 * 4)).add 0 = ⟨g, off, sp⟩ := rfl
    rw [e1] at h0
    have hsp : sp = none := by
     unfold World.cell? at h0
     split at h0
     ·split at h0
      ·cases h0
      ·rename_i hs
       cases sp with
       | none => rfl
       | some x => exact absurd rfl hs
     ·cases h0
    subst hsp
    have hg : g < W.heap.size := by
     unfold World.cell? at h0
     split at h0
     ·rename_i hc
      exact (Array.getElem?_eq_some_iff.1 hc).1
     ·cases h0
    refine ⟨g, off, rfl, hg, fun i x hi j u hu => ?_⟩
    rw [List.getElem?_map, Option.map_eq_some_iff] at hi
    obtain ⟨i', hi', rfl⟩ := hi
    obtain ⟨hlt, rfl⟩ := List.getElem?_eq_some_iff.1 hi'
    simp at hlt
    have := (hf i (by omega)).2 j u (by simpa using hu)
    rw [← this]
    congr 1
    unfold Addr.add
    by_cases h4 : i * 4 = 0
    ·rw [if_pos h4]
     by_cases hj : j = 0
     ·rw [if_pos hj, h4, hj]; rfl
     ·rw [if_neg hj, h4]; rfl
    ·rw [if_neg h4]
     by_cases hj : j = 0
     ·rw [if_pos hj, hj]; rfl
     ·rw [if_neg hj]
  ·obtain ⟨i, hi, rfl⟩ := List.mem_map.1 hx
   exact (hf i (by simpa using hi)).1
theorem arg_text {v : Value} {d : DataW H} {ps : List MemPlace} (hv : Value.okWide Tryz.prog W r b0 9 v) (h : DataW.Trod enc Tryz.prog W 0 (fun _ => true) true 9 v d ps) : ∃ t : Tx, v = sV t := by
 obtain ⟨s, rfl⟩ := okWide_string Tryz.underlying9 hv
 exact ⟨s.data.toList, by simp [sV, bs]⟩
end
end Go.Proofs.YtjeadhfponlnnaaGreatDoor
set_option linter.unusedSimpArgs false
set_option linter.unusedVariables false
namespace Go.Proofs.YtjeadhfponlnnaaGreatDoor
open Go.RowKit Go.Pur Go.Clerk
open Go.Abs
set_option maxRecDepth 100000
def placeKey : MemPlace → Nat
 | .cell b o => b * 512 + o
 | .map b => b * 512 + 511
def maskOK : List Nat → Nat → Bool
 | [], _ => true
 | k :: l, m => !(m.testBit k) && (match m ||| (1 <<< k) with
  | 0 => false
  | n + 1 => maskOK l (n + 1))
theorem maskOK_nodup : ∀ {l : List Nat} {m : Nat}, maskOK l m = true → l.Nodup ∧ ∀ k ∈ l, m.testBit k = false
 | [], _, _ => ⟨List.nodup_nil, fun k h => (by cases h)⟩
 | k :: l, m, h => by
  unfold maskOK at h
  rw [Bool.and_eq_true] at h
  obtain ⟨h1, h2⟩ := h
  have h3 : maskOK l (m ||| (1 <<< k)) = true := by
   revert h2
   generalize m ||| (1 <<< k) = q
   cases q with
   | zero => intro h; cases h
   | succ n => exact fun h => h
  obtain ⟨h4, h5⟩ := maskOK_nodup h3
  have hb : ∀ j, (m ||| (1 <<< k)).testBit j = (m.testBit j || decide (k = j)) := fun j => by
   rw [Nat.testBit_or, Nat.one_shiftLeft, Nat.testBit_two_pow]
  refine ⟨List.nodup_cons.2 ⟨fun hk => ?_, h4⟩, fun j hj => ?_⟩
  ·have := h5 k hk
   rw [hb, decide_eq_true rfl, Bool.or_true] at this
   cases this
  ·rcases List.mem_cons.1 hj with rfl | hj
   ·simpa using h1
   ·have := h5 j hj
    rw [hb] at this
    simp at this
    exact this.1
theorem laidMet_mask {P : Program} {w : World} {l : List (String × DataW Unit)} (fuel : Nat) (h : (DataW.laidRun P w fuel (l.map (·.1))).map (·.1) = some l)
  (hr : (DataW.laidRun P w fuel (l.map (·.1))).map (fun x => maskOK (x.2.map placeKey) 0) = some true) (hb : (DataW.laidRun P w fuel (l.map (·.1))).map (fun x => laidRowsB P w x.2) = some true) : laidMet P l w := by
 cases hx : DataW.laidRun P w fuel (l.map (·.1)) with
 | none => simp [hx] at h
 | some x =>
  obtain ⟨l', ps⟩ := x
  simp only [hx, Option.map_some, Option.some.injEq] at h hr hb
  subst h
  exact laidMet_of_run fuel hx (decide_eq_true (List.Pairwise.of_map placeKey (fun a b h e => h (by rw [e])) (maskOK_nodup hr).1)) hb
theorem laidS1 (os : Os) (wit : Array Value) : (DataW.laidRun Tryz.prog ((laidWorldS os).forCall (fun _ _ => 0) ⟨#[], wit, []⟩).memory 80 (laidListS.map (·.1))).map (·.1) = some laidListS := by kernel_rfl
theorem laidS2 (os : Os) (wit : Array Value) : (DataW.laidRun Tryz.prog ((laidWorldS os).forCall (fun _ _ => 0) ⟨#[], wit, []⟩).memory 80 (laidListS.map (·.1))).map (fun x => maskOK (x.2.map placeKey) 0) = some true := by kernel_rfl
theorem laidS3 (os : Os) (wit : Array Value) : (DataW.laidRun Tryz.prog ((laidWorldS os).forCall (fun _ _ => 0) ⟨#[], wit, []⟩).memory 80 (laidListS.map (·.1))).map (fun x => laidRowsB Tryz.prog ((laidWorldS os).forCall (fun _ _ => 0) ⟨#[], wit, []⟩).memory x.2) = some true := by kernel_rfl
theorem laid_metS (os : Os) (wit : Array Value) : laidMet Tryz.prog laidListS ((laidWorldS os).forCall (fun _ _ => 0) ⟨#[], wit, []⟩).memory := laidMet_mask 80 (laidS1 os wit) (laidS2 os wit) (laidS3 os wit)
end Go.Proofs.YtjeadhfponlnnaaGreatDoor
