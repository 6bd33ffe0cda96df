/-
  Each of the eight orders does what the plain machine says.
  Conditions: none; lemmas.
-/
import Derived.Test.YtjeadhfponlnnaaGreatDoorKeep14
import Derived.Test.YtjeadhfponlnnaaGreatDoorDo1
import Derived.Test.YtjeadhfponlnnaaGreatDoorSee242
import Derived.Test.YtjeadhfponlnnaaGreatDoorWord237
import Derived.Test.YtjeadhfponlnnaaGreatDoorClose245
set_option linter.unusedSimpArgs false
set_option linter.unusedVariables false
namespace Go.Proofs.YtjeadhfponlnnaaGreatDoor
open Go.RowKit Go.Pur Go.Clerk
open Go.Abs
set_option maxRecDepth 100000
structure OrdRuns (x : Ord) (d : Desk) (T : TypeId) (v : Value) (K : FuncId) : Prop where
 val : ordV (some x) = .iface T v
 na : ∀ w, (nilAhead 403 T v "headword/clerk.do").run Tryz.prog w = .ok (some false) w
 me : ∀ w, (method 403 T v "headword/clerk.do").run Tryz.prog w = .ok (K, v) w
 cf : ∀ args w, (callFunc K args).run Tryz.prog w = .ok (.enter K args) w
 run : ∀ W m q, DeskAt W m q d → Env W → Calls Tryz.prog K #[v, ptrV q] W fun e W' => DoP W m q (doO x d) e W'
theorem ord_do {x : Ord} {d : Desk} (hd : DeskOK d) (hx : OrdOK x) : ∃ T v K, OrdRuns x d T v K := by
 have hel : d.ents.length ≤ 1000 := Nat.le_trans hd.few (by decide)
 cases x with
 | word w =>
  refine ⟨159, _, 237, rfl, fun _ => by kernel_rfl, fun _ => by kernel_rfl, fun _ _ => by kernel_rfl, fun W m q h _ => ?_⟩
  exact word_do m q w d W h hx.spec.1 hx.spec.2.1 hel
 | short w f =>
  refine ⟨161, _, 239, rfl, fun _ => by kernel_rfl, fun _ => by kernel_rfl, fun _ _ => by kernel_rfl, fun W m q h _ => ?_⟩
  exact short_do m q w f d W h hx.1.spec.1 (Nat.le_trans hx.1.spec.2.1 (by decide)) fun e he => Nat.le_trans (hd.ent e he).word.spec.2.1 (by decide)
 | give w p n =>
  refine ⟨163, _, 240, rfl, fun _ => by kernel_rfl, fun _ => by kernel_rfl, fun _ _ => by kernel_rfl, fun W m q h _ => ?_⟩
  exact give_do m q w p n d W h hx.1.spec.1
 | come w n =>
  refine ⟨165, _, 241, rfl, fun _ => by kernel_rfl, fun _ => by kernel_rfl, fun _ _ => by kernel_rfl, fun W m q h _ => ?_⟩
  exact come_do m q w n d W h hx.1.spec.1 hx.2 fun e he => (hd.ent e (getE_in he).1).asked
 | see w o =>
  refine ⟨167, _, 242, rfl, fun _ => by kernel_rfl, fun _ => by kernel_rfl, fun _ _ => by kernel_rfl, fun W m q h _ => ?_⟩
  exact see_do m q w o d W h hx.1.spec.1 hel
 | close c =>
  refine ⟨212, _, 245, rfl, fun _ => by kernel_rfl, fun _ => by kernel_rfl, fun _ _ => by kernel_rfl, fun W m q h _ => ?_⟩
  refine close_do m q c d W h (by have := hx.2; omega) (fun e he => (hd.ent e he).word.spec.1) hel ?_ hd.keys hd.keysa ?_ (Nat.le_trans hd.fewa (by decide)) fun a ha => ?_
  ·unfold selN
   have h1 := sumN_le (k := 9999) (l := ((entL d.ents).filter fun y => closes c y.2).map (·.2.came)) (fun n hn => by
    obtain ⟨y, hy, rfl⟩ := List.mem_map.1 hn
    obtain ⟨e, he, rfl⟩ := List.mem_map.1 (List.mem_filter.1 hy).1
    exact (hd.ent e he).came)
   have h2 : (((entL d.ents).filter fun y => closes c y.2).map (·.2.came)).length ≤ d.ents.length := by
    rw [List.length_map]
    refine Nat.le_trans (List.length_filter_le _ _) ?_
    unfold entL
    rw [List.length_map]; exact Nat.le_refl _
   have := hd.few
   omega
  ·have := hd.shut
   omega
  ·have := hd.acc a ha
   have := hd.shut
   omega
 | pay p n =>
  refine ⟨214, _, 246, rfl, fun _ => by kernel_rfl, fun _ => by kernel_rfl, fun _ _ => by kernel_rfl, fun W m q h _ => ?_⟩
  exact pay_do m q p n d W h hx.2 fun a ha => (hd.acc a (getA_in ha).1).2.1
 | stop p =>
  refine ⟨216, _, 247, rfl, fun _ => by kernel_rfl, fun _ => by kernel_rfl, fun _ _ => by kernel_rfl, fun W m q h _ => ?_⟩
  exact stop_do m q p d W h
end Go.Proofs.YtjeadhfponlnnaaGreatDoor
