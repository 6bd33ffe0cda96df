/-
  StandRoom answers true: the plain law.
  Conditions: none; lemmas.
-/
import Derived.Test.YtcdhajbhpnbdkaaDoorLaw10
import Derived.Test.YtcdhajbhpnbdkaaDoorRulesRun
set_option linter.unusedSimpArgs false
set_option linter.unusedVariables false
namespace Go.Proofs.YtcdhajbhpnbdkaaDoor
open Go.Abs Go.Pur
set_option maxRecDepth 100000
theorem andNot_tab : (List.range 64).all (fun s => (List.range 64).all fun u => !((List.range 6).all fun q => !s.testBit q || u.testBit q) || decide (andNotI .i64 (s : Int) (u : Int) = 0)) = true := by kernel_rfl
theorem andNot_sub {s u : Nat} (hs : s < 64) (hu : u < 64) (h : ∀ q, q < 6 → s.testBit q = true → u.testBit q = true) : andNotI .i64 (s : Int) (u : Int) = 0 := by
 have := andNot_tab
 rw [List.all_eq_true] at this
 have := this s (List.mem_range.2 hs)
 rw [List.all_eq_true] at this
 have := this u (List.mem_range.2 hu)
 rw [Bool.or_eq_true] at this
 rcases this with h2 | h2
 ·rw [Bool.not_eq_true', List.all_eq_false] at h2
  obtain ⟨q, hq, h3⟩ := h2
  rw [List.mem_range] at hq
  have := h q hq
  cases a : s.testBit q <;> simp_all
 ·simpa using h2
def SubL : List (List Int) → List (List Int) → Prop
 | [], [] => True
 | a :: l, b :: m => (∀ x ∈ a, x ∈ b) ∧ SubL l m
 | _, _ => False
theorem lru_all {k : Nat} {pages : List Int} (hk : 1 ≤ k) (hk2 : k + 1 ≤ 5) : ∀ (rest : List Int) (t s : Nat) (A B : List Int), (∀ x ∈ rest, 0 ≤ x ∧ x ≤ 5) → Same B s → B.length ≤ k + 1 → A = (if B.length ≤ k then B else B.tail) →
  missR false true ((k + 1 : Nat) : Int) pages rest t B ≤ missR false true (k : Int) pages rest t A ∧ SubL (nowsR false true (k : Int) pages rest t A) (nowsR false true ((k + 1 : Nat) : Int) pages rest t B)
 | [], _, _, _, _, _, _, _, _ => ⟨Nat.le_refl _, trivial⟩
 | x :: r, t, s, A, B, hx, hS, hl, hA => by
  obtain ⟨hx0, hx5⟩ := hx x (by simp)
  obtain ⟨p, rfl⟩ := Int.eq_ofNat_of_zero_le hx0
  have hp : p < 6 := by omega
  have gA : gonR false (k : Int) pages A (p : Int) t = if (p : Int) ∉ A ∧ A.length = k then A.headD 0 else -1 := by
   unfold gonR
   by_cases h : (p : Int) ∉ A ∧ A.length = k
   ·rw [if_pos h, if_pos ⟨h.1, by omega⟩, if_neg (by decide)]
   ·rw [if_neg h, if_neg fun h2 => h ⟨h2.1, by omega⟩]
  have gB : gonR false ((k + 1 : Nat) : Int) pages B (p : Int) t = if (p : Int) ∉ B ∧ B.length = k + 1 then B.headD 0 else -1 := by
   unfold gonR
   by_cases h : (p : Int) ∉ B ∧ B.length = k + 1
   ·rw [if_pos h, if_pos ⟨h.1, by omega⟩, if_neg (by decide)]
   ·rw [if_neg h, if_neg fun h2 => h ⟨h2.1, by omega⟩]
  obtain ⟨h1, h2, h3⟩ := lru_step hk hS.nd (fun x hx => ((hS.mem x).1 hx).1) hl hA gA gB
  have hok := gonR_ok (last := false) (pages := pages) (t := t) (room := ((k + 1 : Nat) : Int)) (by omega) hS hp (by omega)
  have hS2 := hS.withR (recent := true) hp hok.2.1
  obtain ⟨i1, i2⟩ := lru_all hk hk2 r (t + 1) _ _ _ (fun y hy => hx y (by simp [hy])) hS2 h1 h2
  simp only [missR, nowsR]
  refine ⟨?_, ?_, i2⟩
  ·by_cases hm : (p : Int) ∈ A
   ·rw [if_pos hm, if_pos (h3 hm)]; omega
   ·rw [if_neg hm]; split <;> omega
  ·rw [h2]
   split
   ·exact fun x hx => hx
   ·exact fun x hx => List.mem_of_mem_tail hx
theorem SubL.at : ∀ {l m : List (List Int)}, SubL l m → ∀ (i : Nat) (h1 : i < l.length) (h2 : i < m.length), ∀ x ∈ l[i], x ∈ m[i]
 | a :: l, b :: m, h, 0, _, _ => h.1
 | a :: l, b :: m, h, i + 1, h1, h2 => by
  simp only [List.getElem_cons_succ]
  exact h.2.at i (by simpa using h1) (by simpa using h2)
 | [], [], _, i, h1, _ => by simp at h1
 | [], _ :: _, h, _, _, _ => h.elim
 | _ :: _, [], h, _, _, _ => h.elim
theorem l10 {X U : List Nat} {F : Nat} {K : Unit → Option Bool} (hlen : X.length = U.length) (h12 : X.length ≤ 1000) (h : ∀ (i : Nat) (h1 : i < X.length) (h2 : i < U.length), andNotI .i64 (X[i] : Int) (U[i] : Int) = 0) :
  ∀ (k i m : Nat), i + k = X.length → k < m → f10_L0 F (X.map Int.ofNat) (U.map Int.ofNat) (X.length : Int) K m (i : Int) = K ()
 | k, i, 0, _, h => by omega
 | 0, i, m + 1, hk, _ => by
  rw [f10_L0]
  have h1 : decide ((i : Int) < (X.length : Int)) = false := decide_eq_false (by omega)
  simp only [Option.bind_some, h1]
 | k + 1, i, m + 1, hk, hm => by
  rw [f10_L0]
  have h1 : decide ((i : Int) < (X.length : Int)) = true := decide_eq_true (by omega)
  have hi : i < X.length := by omega
  have hj : i < U.length := by omega
  have w : IntKind.i64.wrap ((i : Int) + 1) = ((i + 1 : Nat) : Int) := wrap_nat (by omega)
  have g1 : gI (X.map Int.ofNat) (i : Int) = some ((X[i] : Nat) : Int) := by rw [gI_at (by simpa using hi)]; simp
  have g2 : gI (U.map Int.ofNat) (i : Int) = some ((U[i] : Nat) : Int) := by rw [gI_at (by simpa using hj)]; simp
  simp only [Option.bind_some, h1, g1, g2, h i hi hj, decide_true, w]
  exact l10 hlen h12 h k (i + 1) m (by omega) (by omega)
theorem worse_C : ((f56S fuel 3).bind fun (x33, (c34, l35)) =>
  (onS l35 (refPlan false false x33 l35, chk x33 l35)).bind fun x37 =>
  (f56S fuel 4).bind fun (x38, (c39, l40)) =>
  (onS l40 (refPlan false false x38 l40, chk x38 l40)).bind fun x42 =>
  (f50S fuel x33 l35 x37.1).bind fun ((c43, l44), x45, b46) =>
  (f50S fuel x38 l40 x42.1).bind fun ((c48, l49), x50, b51) =>
  some (x37.2, x42.2, b46, b51, x45, x50)) = some (0, 0, true, true, 9, 10) := by kernel_rfl
theorem standRoom_eq {a b c d e f g h i j k l m n : Int} (ha : byte a) (hb : byte b) (hs : ∀ p ∈ [c, d, e, f, g, h, i, j, k, l, m, n], byte p) : f10S fuel a b c d e f g h i j k l m n = some true := by
 obtain ⟨room, pages, e1, h1, h2, h3, h4⟩ := made_ok (room := 4) (times := 12) (by decide) (by decide) (by decide) (by decide) ha hb hs
 have hn : pages.length ≤ 12 := by omega
 obtain ⟨K, rfl⟩ := Int.eq_ofNat_of_zero_le (show 0 ≤ room by omega)
 have hc1 : chk (K : Int) pages = 0 := chk_intro h1 (by omega) hn h4
 have hc2 : chk ((K + 1 : Nat) : Int) pages = 0 := chk_intro (by omega) (by omega) hn h4
 have hF : 100 < fuel := by rw [fuel_eq]; decide
 obtain ⟨X, ex, hX⟩ := @rule_run false true K pages hc1
 obtain ⟨U, eu, hU⟩ := @rule_run false true ((K + 1 : Nat) : Int) pages hc2
 obtain ⟨i1, i2⟩ := @lru_all K pages (by omega) (by omega) pages 0 0 [] [] h4 Same.nil (by simp) (by simp)
 have f1 : f50S fuel K pages (refPlan false true K pages) = some ((.nz, X.map Int.ofNat), (missR false true (K : Int) pages pages 0 [] : Int), true) := by
  rw [f50_eq hc1 hF, ex]; rfl
 have f2 : f50S fuel ((K + 1 : Nat) : Int) pages (refPlan false true ((K + 1 : Nat) : Int) pages) = some ((.nz, U.map Int.ofNat), (missR false true ((K + 1 : Nat) : Int) pages pages 0 [] : Int), true) := by
  rw [f50_eq hc2 hF, eu]; rfl
 have w1 : IntKind.i64.wrap ((K : Int) + 1) = ((K + 1 : Nat) : Int) := wrap_nat (by omega)
 have hnr := need_room (room := K) (l := rem6 pages 0) h1 (rem6_six h4)
 have c1 : decide (((need (K : Int) (rem6 pages 0) 0 : Nat) : Int) < ((need ((K + 1 : Nat) : Int) (rem6 pages 0) 0 : Nat) : Int)) = false := decide_eq_false (by
  have : (((K + 1 : Nat) : Int)) = (K : Int) + 1 := rfl
  rw [this]; omega)
 have c2 : decide ((missR false true (K : Int) pages pages 0 [] : Int) < (missR false true ((K + 1 : Nat) : Int) pages pages 0 [] : Int)) = false := decide_eq_false (by omega)
 have lx := hX.len
 have lu := hU.len
 rw [nowsR_len] at lx lu
 have hl10 := fun Kf => @l10 X U fuel Kf (by omega) (by omega) (fun i hi hj => by
  have s1 := hX.at i (by rw [nowsR_len]; omega) hi
  have s2 := hU.at i (by rw [nowsR_len]; omega) hj
  refine andNot_sub s1.lt s2.lt fun q hq hb => ?_
  have m1 : (q : Int) ∈ (nowsR false true (K : Int) pages pages 0 [])[i]'(by rw [nowsR_len]; omega) := (s1.mem q).2 ⟨by omega, by omega, by simpa using hb⟩
  have m2 := i2.at i (by rw [nowsR_len]; omega) (by rw [nowsR_len]; omega) _ m1
  have := ((s2.mem q).1 m2).2.2
  simpa using this) X.length 0 fuel (by omega) (by rw [fuel_eq]; omega)
 unfold f10S
 simp only [e1, Option.bind_some, w1, onS_at (l := pages) (show pages.length < 1000000000 by omega), fewS, hc1, hc2, if_true, decide_true, c1]
 rw [bindS f1]
 simp only []
 rw [bindS f2]
 simp only [c2, Option.bind_some, List.length_map]
 refine (hl10 _).trans ?_
 have hw := worse_C
 obtain ⟨⟨x33, c34, l35⟩, ez1, hw⟩ := bind_ok hw
 dsimp only at hw
 obtain ⟨x37, e37, hw⟩ := bind_ok hw
 obtain ⟨⟨x38, c39, l40⟩, ez2, hw⟩ := bind_ok hw
 dsimp only at hw
 obtain ⟨x42, e42, hw⟩ := bind_ok hw
 obtain ⟨⟨⟨c43, l44⟩, x45, b46⟩, e46, hw⟩ := bind_ok hw
 dsimp only at hw
 obtain ⟨⟨⟨c48, l49⟩, x50, b51⟩, e51, hw⟩ := bind_ok hw
 simp only [Option.some.injEq, Prod.mk.injEq] at hw
 obtain ⟨q1, q2, rfl, rfl, rfl, rfl⟩ := hw
 rw [bindS ez1]
 dsimp only
 rw [bindS e37, bindS ez2]
 dsimp only
 rw [bindS e42, bindS e46]
 dsimp only
 rw [bindS e51]
 simp only [Option.bind_some, q1, q2, decide_true, works_true]
theorem standRoom_is {a b c d e f g h i j k l m n : Int} (ha : byte a) (hb : byte b) (hs : ∀ p ∈ [c, d, e, f, g, h, i, j, k, l, m, n], byte p) :
  E Tryd.prog Y0 10 [.a [kv .u8 a, kv .u8 b, kv .u8 c, kv .u8 d, kv .u8 e, kv .u8 f, kv .u8 g, kv .u8 h, kv .u8 i, kv .u8 j, kv .u8 k, kv .u8 l, kv .u8 m, kv .u8 n]] [] = some (.v (.bool true), [], none) := f10_is (standRoom_eq ha hb hs)
end Go.Proofs.YtcdhajbhpnbdkaaDoor
