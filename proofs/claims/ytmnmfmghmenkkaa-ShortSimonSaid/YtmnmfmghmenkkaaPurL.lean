/-
  The pure evaluator's answers, for proofs in the model: calls whose arguments lie in memory and whose answer is plain.
  Conditions: none; lemmas.
-/
import Derived.Test.YtmnmfmghmenkkaaPurK
set_option linter.unusedSimpArgs false
set_option linter.unusedVariables false
set_option linter.unusedSectionVars false
namespace Go.Pur
open Go.Abs Go.RowKit
theorem pplains_map : ∀ {rs : List Value}, pplains (rs.map .v) = some rs
 | [] => rfl
 | r :: rs => by
  show (match (PV.v r :: rs.map .v) with
   | [] => some []
   | .v x :: l => match pplains l with
    | some r => some (x :: r)
    | none => none
   | _ :: _ => none) = _
  simp only [pplains_map]
theorem vr_packed {C : Ctx} {h : AHeap} {π : Option Pl} {rs : List Value} {x : Value} (hv : VR C h π (pPack (rs.map .v)) x) : x = packed rs := by
 have two : ∀ {rs : List Value} {x : Value}, VR C h π (.t (rs.map .v)) x → x = .tuple rs.toArray := fun {rs x} hv => by
  obtain ⟨l, rfl, hl⟩ := hv.inv_t
  obtain ⟨e, _⟩ := pplains_lr pplains_map hl
  rw [e]
 match rs, hv with
 | [], hv => exact two hv
 | [v], hv => exact hv.inv_v.1
 | a :: b :: r, hv => exact two hv
theorem vrel_packed {m : BMap} {rs : List Value} {v : Value} (hok : rs.all okP = true) (h : VRel m (packed rs) v) : v = packed rs := by
 have two : ∀ {rs : List Value} {v : Value}, rs.all okP = true → VRel m (.tuple rs.toArray) v → v = .tuple rs.toArray := fun {rs v} hok h => by
  obtain ⟨l, rfl, hl⟩ := h.inv_tuple
  have := LRel.all_plain hl (List.all_eq_true.2 fun v hv => okP_plain (List.all_eq_true.1 hok v hv))
  have e : l = rs.toArray := Array.toList_inj.1 this
  rw [e]
 match rs, hok, h with
 | [], hok, h => exact two hok h
 | [a], hok, h => exact h.inv_plain (v := a) (okP_plain (by simpa using hok))
 | a :: b :: r, hok, h => exact two hok h
section
variable {P : Program} {Y : Pol} {W : World}
theorem Lies.below {B : Blk} {L : Abs.Loc} {n : Nat} {W W' : World} (h : Lies W B L) (hL : L.b < n) (hb : Below n W W') : Lies W' B L := by
 obtain ⟨h1, h2, h3, h4, h5⟩ := h
 have e : W'.heap[L.b]? = W.heap[L.b]? := hb.block _ hL
 refine ⟨h1, h2, Nat.lt_of_lt_of_le h3 hb.size, h4.imp (fun h => h) (fun ⟨C, t, fr, h⟩ => ⟨C, t, fr, by rw [e]; exact h⟩), fun k v hk => ?_⟩
 obtain ⟨c1, c2⟩ := h5 k v hk
 exact ⟨by rw [World.cell?_of_block (w := W) e]; exact c1, c2⟩
theorem rel_bare {m : BMap} {h : AHeap} (hR : Rel P m h W) : Rel P m ⟨h.next, h.next, .nil, .nil⟩ W :=
 ⟨hR.lt, hR.fresh, (fun a B L hg => by cases hg), (fun a a' B B' L L' hg => by cases hg), hR.glob, fun _ _ => rfl, ⟨(fun a x L hx => by cases hx), (fun a a' x x' L L' hx => by cases hx), fun _ _ => rfl⟩⟩
theorem lp_plain {C : Ctx} {h : AHeap} : ∀ {vs : List Value}, (∀ v ∈ vs, plain v = true ∧ ∀ n c, v ≠ .slice none n c) → LP1 C h (vs.map .v) vs
 | [], _ => trivial
 | v :: vs, hv => ⟨⟨fun d => .v _ v (hv v List.mem_cons_self).1 (hv v List.mem_cons_self).2, rfl⟩, lp_plain fun x hx => hv x (List.mem_cons_of_mem _ hx)⟩
theorem pure_plain (hmix : P.follows .mixedOrders = true) (hok : progOK P = true) (hlib : ∀ g, Y.yes g = true → FnOK P Y g) (hgl : Y.glob = []) {m : BMap} {h : AHeap} (hR : Rel P m h W)
  {f : FuncId} {vs : List Value} {rs : List Value} {hp' : List (Option (List PV))} {wl : Option Nat} (hrs : rs.all okP = true) (hv : ∀ v ∈ vs, plain v = true ∧ ∀ n c, v ≠ .slice none n c) (hE : E P Y f (vs.map .v) [] = some (pPack (rs.map .v), hp', wl)) :
  Calls P f vs.toArray W fun e W' => e = .returned (packed rs) ∧ Below W.heap.size W W' := by
 have hR0 := rel_bare hR
 obtain ⟨n, hn⟩ := E_iff.1 hE
 obtain ⟨O, hl, hO, hOe⟩ := lib_of hlib
 obtain ⟨C', h', x', r1, r2⟩ := purRun_sim hl hok n f (vs.map .v) [] _ hp' wl hn (C0 P 0) ⟨h.next, h.next, .nil, .nil⟩ vs 0
  ⟨rfl, ⟨fun _ h => h, fun id h => absurd h (Nat.not_lt_zero _), fun _ _ h => (by cases h), fun _ _ h => (by cases h), fun _ _ _ h => (by cases h), fun _ _ h => (by simp at h), fun _ _ h => (by simp at h)⟩, (fun g cs hg => by rw [hgl] at hg; cases hg), fun _ _ h => (by cases h), lp_plain hv⟩
 obtain rfl := vr_packed r2.res
 have hL : LRel m vs vs := ⟨rfl, fun i hi => by
  have e : vs.getD i undef = vs[i] := by rw [List.getD_eq_getElem?_getD, List.getElem?_eq_getElem hi]; rfl
  rw [e]
  exact .plain _ (hv _ (List.getElem_mem hi)).1⟩
 obtain ⟨_, hc⟩ := sound_call hmix hOe hO n f vs _ (packed rs) h' r1
 refine (hc _ W vs hR0 hL).mono fun e W' ⟨m', v', he, hv, _, hs⟩ => ?_
 rw [vrel_packed hrs hv] at he
 exact ⟨he, ⟨hs.os, hs.tape, hs.output, hs.size, fun k hk => hs.frame k hk (fun a B L hB hwr _ _ => by cases hB) (fun a x L hx => (by cases hx))⟩⟩
end
end Go.Pur
