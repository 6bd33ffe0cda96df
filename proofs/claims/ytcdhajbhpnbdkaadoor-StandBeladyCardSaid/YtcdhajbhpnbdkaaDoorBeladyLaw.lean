/-
  StandBelady answers true: the plain law.
  Conditions: none; lemmas.
-/
import Derived.Test.YtcdhajbhpnbdkaaDoorLaw7
import Derived.Test.YtcdhajbhpnbdkaaDoorBelady
import Derived.Test.YtcdhajbhpnbdkaaDoorOutLaw2
set_option linter.unusedSimpArgs false
set_option linter.unusedVariables false
namespace Go.Proofs.YtcdhajbhpnbdkaaDoor
open Go.Abs Go.Pur
set_option maxRecDepth 100000
theorem standBelady_eq {a b c d e f g h i j k l m n : Int} (ha : byte a) (hb : byte b) (hs : ∀ p ∈ [c, d, e, f, g, h, i, j, k, l, m, n], byte p) : f7S fuel a b c d e f g h i j k l m n = some true := by
 obtain ⟨room, pages, e1, h1, h2, h3, h4⟩ := made_ok (room := 4) (times := 10) (by decide) (by decide) (by decide) (by decide) ha hb hs
 have hn : pages.length ≤ 12 := by omega
 have hc : chk room pages = 0 := chk_intro h1 (by omega) hn h4
 have s5 : ∀ {α : Type} (x : α), onS pages x = some x := fun x => onS_at (by omega)
 have hfl : (firstN room (rem6 pages 0) 0).length < 1000000000 := by
  have := firstN_len (room := room) (rem6 pages 0) 0
  unfold rem6 at this ⊢
  simp at this ⊢
  omega
 obtain ⟨S, e2, hL⟩ := rule_run (last := true) (recent := false) hc
 rw [later_all hc] at e2
 have hpl : (refPlan true false room pages).length = pages.length := by
  unfold refPlan
  rw [if_pos hc, refG_eq, List.nil_append, plansR_len]
 have e50 := f50_eq (F := fuel) (plan := refPlan true false room pages) hc (by rw [fuel_eq]; decide)
 rw [e2] at e50
 have s6 : ∀ {α : Type} (x : α), onS (refPlan true false room pages) x = some x := fun x => onS_at (by omega)
 have eb : bruS room pages = some (((need room (rem6 pages 0) 0 : Nat) : Int), firstN room (rem6 pages 0) 0, ((ways room (rem6 pages 0) 0 : Nat) : Int)) := by
  unfold bruS
  rw [decide_eq_true hc]
 unfold f7S
 rw [bindS e1, bindS eb]
 simp only [obind, s5, hc, decide_true, fewS, firS, cntS, if_true, onS_at hfl]
 rw [bindS e50]
 simp only [runR, if_true, obind, s6, e2, id, decide_true, works_true]
theorem standBelady_is {a b c d e f g h i j k l m n : Int} (ha : byte a) (hb : byte b) (hs : ∀ p ∈ [c, d, e, f, g, h, i, j, k, l, m, n], byte p) :
  E Tryd.prog Y0 7 [.a [kv .u8 a, kv .u8 b, kv .u8 c, kv .u8 d, kv .u8 e, kv .u8 f, kv .u8 g, kv .u8 h, kv .u8 i, kv .u8 j, kv .u8 k, kv .u8 l, kv .u8 m, kv .u8 n]] [] = some (.v (.bool true), [], none) := f7_is (standBelady_eq ha hb hs)
end Go.Proofs.YtcdhajbhpnbdkaaDoor
