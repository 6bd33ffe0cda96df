/-
  StandMore answers true: the plain law.
  Conditions: none; lemmas.
-/
import Derived.Test.YtcdhajbhpnbdkaaDoorLaw13
import Derived.Test.YtcdhajbhpnbdkaaDoorOutLaw
set_option linter.unusedSimpArgs false
set_option linter.unusedVariables false
namespace Go.Proofs.YtcdhajbhpnbdkaaDoor
open Go.Abs Go.Pur
set_option maxRecDepth 100000
theorem standMore_eq {a b c d e f g h i j k l m n q : Int} (ha : byte a) (hb : byte b) (hs : ∀ p ∈ [c, d, e, f, g, h, i, j, k, l, m, n], byte p) (hq : byte q) : f13S fuel a b c d e f g h i j k l m n q = some true := by
 obtain ⟨room, pages, e1, h1, h2, h3, h4⟩ := made_ok (room := 5) (times := 11) (by decide) (by decide) (by decide) (by decide) ha hb hs
 obtain ⟨ck, e61⟩ := @f61_eq fuel pages (by omega)
 unfold byte at hq
 have hx := tmod_range (x := q) (m := 6) hq.1 (by decide)
 have hc1 : chk room pages = 0 := chk_intro h1 h2 (by omega) h4
 have h4' : ∀ x ∈ pages ++ [Int.tmod q 6], 0 ≤ x ∧ x ≤ 5 := fun x hx' => by
  rcases List.mem_append.1 hx' with hx' | hx'
  ·exact h4 x hx'
  ·simp at hx'; subst hx'; omega
 have hc2 : chk room (pages ++ [Int.tmod q 6]) = 0 := chk_intro h1 h2 (by simp; omega) h4'
 have hn := @need_snoc room (Int.tmod q 6).toNat (rem6 pages 0) 0
 have hl := need_len (pages := pages) h1
 have w1 : IntKind.i64.wrap q = q := wrapN (by omega) (by omega)
 have w2 : IntKind.i64.wrap (((need room (rem6 pages 0) 0 : Nat) : Int) + 1) = ((need room (rem6 pages 0) 0 : Nat) : Int) + 1 := wrapN (by omega) (by omega)
 have c1 : decide (((need room (rem6 pages 0) 0 : Nat) : Int) ≤ ((need room (rem6 pages 0 ++ [(Int.tmod q 6).toNat]) 0 : Nat) : Int)) = true := decide_eq_true (by omega)
 have c2 : decide (((need room (rem6 pages 0 ++ [(Int.tmod q 6).toNat]) 0 : Nat) : Int) ≤ ((need room (rem6 pages 0) 0 : Nat) : Int) + 1) = true := decide_eq_true (by omega)
 unfold f13S
 simp only [e1, Option.bind_some, e61, w1, app1_at (l := pages) (v := Int.tmod q 6) (by omega), onS_at (l := pages) (show pages.length < 1000000000 by omega), onS_at (l := pages ++ [Int.tmod q 6]) (show (pages ++ [Int.tmod q 6]).length < 1000000000 by simp; omega), fewS, hc1, hc2, if_true, decide_true, rem6_app, w2, c1, c2, works_true]
theorem standMore_is {a b c d e f g h i j k l m n q : Int} (ha : byte a) (hb : byte b) (hs : ∀ p ∈ [c, d, e, f, g, h, i, j, k, l, m, n], byte p) (hq : byte q) :
  E Tryd.prog Y0 13 [.a [kv .u8 a, kv .u8 b, kv .u8 c, kv .u8 d, kv .u8 e, kv .u8 f, kv .u8 g, kv .u8 h, kv .u8 i, kv .u8 j, kv .u8 k, kv .u8 l, kv .u8 m, kv .u8 n], kv .u8 q] [] = some (.v (.bool true), [], none) := f13_is (standMore_eq ha hb hs hq)
end Go.Proofs.YtcdhajbhpnbdkaaDoor
