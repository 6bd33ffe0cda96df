/-
  Spans and bounds: what the printed functions compute is the bound of some times.
  Bounds of sets of times, a bit each; the greatest bound is the fewest settings.
  The greatest bound of all sets of times is the fewest settings.
  Conditions: none; definitions and lemmas.
-/
import Derived.Test.YtcdhajbhpnbdkaaDoorSteps
import Derived.Test.YtcdhajbhpnbdkaaDoorBounds1
set_option linter.unusedSimpArgs false
set_option linter.unusedVariables false
namespace Go.Proofs.YtcdhajbhpnbdkaaDoor
open Go.Abs Go.Pur
set_option maxRecDepth 100000
def spG (pages : List Int) : Nat → Nat → List (Int × Int)
 | 0, _ => []
 | k + 1, i => if nxt pages (pages.getD i 0) (i + 1) < pages.length then ((i : Int), (nxt pages (pages.getD i 0) (i + 1) : Int)) :: spG pages k (i + 1) else spG pages k (i + 1)
theorem spG_len {pages : List Int} : ∀ {k i : Nat}, (spG pages k i).length ≤ k
 | 0, i => by simp [spG]
 | k + 1, i => by
  have := @spG_len pages k (i + 1)
  simp only [spG]
  split
  ·simp; omega
  ·omega
theorem spG_range {pages : List Int} : ∀ {k i : Nat}, i + k = pages.length → ∀ x ∈ spG pages k i, (i : Int) ≤ x.1 ∧ x.1 < x.2 ∧ x.2 < pages.length
 | 0, i, _, x, h => by simp [spG] at h
 | k + 1, i, hk, x, h => by
  have ih := @spG_range pages k (i + 1) (by omega)
  simp only [spG] at h
  split at h
  ·rename_i hn
   rcases List.mem_cons.1 h with rfl | h
   ·have : i + 1 ≤ nxt pages (pages.getD i 0) (i + 1) := by unfold nxt; omega
    exact ⟨Int.le_refl _, by simp only; omega, by simp only; omega⟩
   ·have := ih x h; omega
  ·have := ih x h; omega
section
variable {pages : List Int} {room : Int} {F : Nat}
theorem aft_cases {p : Int} {t : Nat} (ht : t ≤ pages.length) : (aft pages p t = nxt pages p t ∧ nxt pages p t < pages.length) ∨ (aft pages p t = 12 ∧ nxt pages p t = pages.length) := by
 unfold aft nxt
 have e : (fun y => decide (p = y)) = fun y => decide (y = p) := by funext y; simp [eq_comm]
 rw [e]
 generalize (fun y : Int => decide (y = p)) = q
 unfold ixOf
 cases hf : (pages.drop t).findIdx? q with
 | none =>
  right
  rw [List.findIdx?_eq_none_iff_findIdx_eq] at hf
  rw [hf]
  simp; omega
 | some i =>
  left
  rw [List.findIdx?_eq_some_iff_findIdx_eq] at hf
  obtain ⟨h1, h2⟩ := hf
  rw [h2]
  simp at h1
  simp; omega
theorem l84 {K : List (Int × Int) → Option (Ck × List (Int × Int))} (hn : pages.length ≤ 12) : ∀ (k i m : Nat) (v : List (Int × Int)), i + k = pages.length → k < m → v.length ≤ i → f84_L0 F pages (pages.length : Int) K m (v, (i : Int)) = K (v ++ spG pages k i)
 | k, i, 0, v, _, h, _ => by omega
 | 0, i, m + 1, v, hk, _, _ => by
  rw [f84_L0]
  have h1 : decide ((i : Int) < (pages.length : Int)) = false := decide_eq_false (by omega)
  simp only [Option.bind_some, h1, spG, List.append_nil]
 | k + 1, i, m + 1, v, hk, hm, hv => by
  rw [f84_L0]
  have h1 : decide ((i : Int) < (pages.length : Int)) = true := decide_eq_true (by omega)
  have hi : i < pages.length := by omega
  have w : IntKind.i64.wrap ((i : Int) + 1) = ((i + 1 : Nat) : Int) := wrap_nat (by omega)
  simp only [Option.bind_some, h1, gI_at hi, w, onT_at (l := pages) (t := i + 1) (by omega) (by omega)]
  simp only [spG, getD_at hi]
  rcases @aft_cases pages pages[i] (i + 1) (by omega) with ⟨ha, hx⟩ | ⟨ha, hx⟩
  ·have h2 : decide ((nxt pages pages[i] (i + 1) : Int) < 12) = true := decide_eq_true (by omega)
   simp only [ha, h2, app1_at (l := v) (by omega), Option.bind_some]
   rw [l84 hn k (i + 1) m _ (by omega) (by omega) (by simp; omega), if_pos hx, List.append_assoc]
   rfl
  ·have h2 : decide ((12 : Int) < 12) = false := rfl
   simp only [ha, h2]
   rw [l84 hn k (i + 1) m _ (by omega) (by omega) (by omega), if_neg (by omega)]
theorem f84_eq (hn : pages.length ≤ 12) (hF : pages.length < F) : f84S F room pages = some (.nz, spG pages pages.length 0) := by
 unfold f84S
 rw [Option.bind_some, show (0 : Int) = ((0 : Nat) : Int) from rfl, l84 hn pages.length 0 F [] (by omega) hF (by simp)]
 rfl
def bare (T : List Int) (x : Int × Int) : Bool := !T.any fun t => decide (x.1 < t) && decide (t < x.2)
def bndT (room : Int) (pages T : List Int) : Int := max 0 ((pages.length : Int) - (room - 1) * T.length - ((spG pages pages.length 0).countP (bare T) : Nat))
end
end Go.Proofs.YtcdhajbhpnbdkaaDoor
set_option linter.unusedSimpArgs false
set_option linter.unusedVariables false
namespace Go.Proofs.YtcdhajbhpnbdkaaDoor
open Go.Abs Go.Pur
set_option maxRecDepth 100000
theorem andI_nat {s x : Nat} (hs : s < 4096) (hx : x < 4096) : andI .u64 (s : Int) (x : Int) = ((s &&& x : Nat) : Int) := by
 have e : (BitVec.ofInt 64 (s : Int) &&& BitVec.ofInt 64 (x : Int)).toNat = s &&& x := by
  rw [BitVec.toNat_and, BitVec.toNat_ofInt, BitVec.toNat_ofInt]
  congr 1
  ·omega
  ·omega
 show IntKind.u64.wrap ((BitVec.ofInt 64 (s : Int) &&& BitVec.ofInt 64 (x : Int)).toNat : Int) = _
 rw [e]
 have : s &&& x ≤ s := Nat.and_le_left
 exact wrapUC ⟨by omega, by omega⟩
theorem span_tab : (List.range 12).all (fun b => (List.range b).all fun a => decide (IntKind.u64.wrap (shlI .u64 1 b - shlI .u64 1 ((a : Int) + 1)) = ((2 ^ b - 2 ^ (a + 1) : Nat) : Int)) && decide (2 ^ b - 2 ^ (a + 1) < 4096) && (List.range 12).all fun t => (2 ^ b - 2 ^ (a + 1) : Nat).testBit t == (decide (a < t) && decide (t < b))) = true := by kernel_rfl
theorem span_at {a b : Nat} (h1 : a < b) (h2 : b < 12) : IntKind.u64.wrap (shlI .u64 1 b - shlI .u64 1 ((a : Int) + 1)) = ((2 ^ b - 2 ^ (a + 1) : Nat) : Int) ∧ 2 ^ b - 2 ^ (a + 1) < 4096 ∧ ∀ t, t < 12 → (2 ^ b - 2 ^ (a + 1) : Nat).testBit t = (decide (a < t) && decide (t < b)) := by
 have := span_tab
 rw [List.all_eq_true] at this
 have := this b (List.mem_range.2 h2)
 rw [List.all_eq_true] at this
 have := this a (List.mem_range.2 h1)
 simp only [Bool.and_eq_true, decide_eq_true_eq] at this
 obtain ⟨⟨a1, a2⟩, a3⟩ := this
 refine ⟨a1, a2, fun t ht => ?_⟩
 rw [List.all_eq_true] at a3
 simpa using a3 t (List.mem_range.2 ht)
theorem and_zero {s x : Nat} (hs : s < 4096) : s &&& x = 0 ↔ ∀ t, t < 12 → ¬ (s.testBit t = true ∧ x.testBit t = true) := by
 constructor
 ·intro h t _ ⟨h1, h2⟩
  have := congrArg (fun n => Nat.testBit n t) h
  simp [Nat.testBit_and, h1, h2] at this
 ·intro h
  refine Nat.eq_of_testBit_eq fun i => ?_
  rw [Nat.testBit_and, Nat.zero_testBit]
  rcases Nat.lt_or_ge i 12 with hi | hi
  ·have := h i hi
   cases a : s.testBit i <;> cases b : x.testBit i <;> simp_all
  ·have h2 : 2 ^ 12 ≤ 2 ^ i := Nat.pow_le_pow_right (by decide) hi
   rw [Nat.testBit_lt_two_pow (show s < 2 ^ i by omega)]
   rfl
theorem bare_bits {s a b : Nat} (hs : s < 4096) (h1 : a < b) (h2 : b < 12) : decide (andI .u64 (s : Int) (IntKind.u64.wrap (shlI .u64 1 b - shlI .u64 1 ((a : Int) + 1))) = 0) = bare (bitsL s) ((a : Int), (b : Int)) := by
 obtain ⟨e1, e2, e3⟩ := span_at h1 h2
 rw [e1, andI_nat hs e2]
 rw [Bool.eq_iff_iff, decide_eq_true_eq]
 unfold bare
 rw [Bool.not_eq_true', List.any_eq_false]
 constructor
 ·intro h t ht
  have h := (and_zero (x := 2 ^ b - 2 ^ (a + 1)) hs).1 (by omega)
  obtain ⟨n, rfl, hn, hb⟩ := bitsL_mem.1 ht
  have := h n hn
  rw [e3 n hn] at this
  simp only [hb, true_and, Bool.and_eq_true, decide_eq_true_eq] at this ⊢
  omega
 ·intro h
  have : s &&& (2 ^ b - 2 ^ (a + 1)) = 0 := (and_zero hs).2 fun t ht ⟨x1, x2⟩ => by
   rw [e3 t ht] at x2
   simp only [Bool.and_eq_true, decide_eq_true_eq] at x2
   have := h (t : Int) (bitsL_mem.2 ⟨t, rfl, ht, x1⟩)
   simp only [Bool.and_eq_true, decide_eq_true_eq] at this
   omega
  omega
section
variable {pages : List Int} {room : Int} {F : Nat}
theorem shlO_at {k : IntKind} {m : Int} {n : Nat} : shlO k m (n : Int) = some (shlI k m (n : Int)) := rfl
theorem l87 {s : Nat} {L : List (Int × Int)} {K : Int → Option Int} (hs : s < 4096) (hL : L.length ≤ 1000) (hLr : ∀ x ∈ L, 0 ≤ x.1 ∧ x.1 < x.2 ∧ x.2 < 12) : ∀ (k j m : Nat) (z : Int), j + k = L.length → k < m → -100000000 ≤ z - k → z ≤ 100000000 → f87_L0 F (s : Int) L (L.length : Int) K m (z, (j : Int)) = K (z - ((L.drop j).countP (bare (bitsL s)) : Nat))
 | k, j, 0, z, _, h, _, _ => by omega
 | 0, j, m + 1, z, hk, _, _, _ => by
  rw [f87_L0]
  have h1 : decide ((j : Int) < (L.length : Int)) = false := decide_eq_false (by omega)
  simp only [Option.bind_some, h1, List.drop_of_length_le (show L.length ≤ j by omega), List.countP_nil]
  simp
 | k + 1, j, m + 1, z, hk, hm, hz1, hz2 => by
  rw [f87_L0]
  have h1 : decide ((j : Int) < (L.length : Int)) = true := decide_eq_true (by omega)
  have hj : j < L.length := by omega
  obtain ⟨r1, r2, r3⟩ := hLr _ (List.getElem_mem hj)
  have w : IntKind.i64.wrap ((j : Int) + 1) = ((j + 1 : Nat) : Int) := wrap_nat (by omega)
  have w2 : IntKind.i64.wrap (z - 1) = z - 1 := wrapN (by omega) (by omega)
  simp only [Option.bind_some, h1, gI_at hj]
  rw [List.drop_eq_getElem_cons hj, List.countP_cons]
  obtain ⟨⟨a, b⟩, hx⟩ : ∃ x, L[j] = x := ⟨_, rfl⟩
  rw [hx] at r1 r2 r3
  rw [hx]
  obtain ⟨a, rfl⟩ := Int.eq_ofNat_of_zero_le r1
  obtain ⟨b, rfl⟩ := Int.eq_ofNat_of_zero_le (show 0 ≤ b by simp only at r1 r2; omega)
  simp only at r1 r2 r3
  have w3 : IntKind.i64.wrap ((a : Int) + 1) = ((a + 1 : Nat) : Int) := wrap_nat (by omega)
  have hb := @bare_bits s a b hs (by omega) (by omega)
  simp only [w3, shlO_at, Option.bind_some]
  rw [show ((a + 1 : Nat) : Int) = (a : Int) + 1 from rfl, hb]
  cases bare (bitsL s) ((a : Int), (b : Int)) with
  | true =>
   simp only [Option.bind_some, w, w2]
   rw [l87 hs hL hLr k (j + 1) m (z - 1) (by omega) (by omega) (by omega) (by omega)]
   congr 1
   simp
   omega
  | false =>
   simp only [Option.bind_some, w]
   rw [l87 hs hL hLr k (j + 1) m z (by omega) (by omega) (by omega) (by omega)]
   simp
theorem f87_eq {s : Nat} (hr1 : 1 ≤ room) (hr2 : room ≤ 5) (hn : pages.length ≤ 12) (hs : s < 4096) (hF : 1000 < F) : f87S F room pages (s : Int) = some (bndT room pages (bitsL s)) := by
 unfold f87S
 have hc : cnt s ≤ 12 := by rw [← bitsN_len]; exact bitsN_le
 have hm := @mul_small (room - 1) (cnt s) (by omega) (by omega) (by omega) (by omega)
 have w1 : IntKind.i64.wrap (room - 1) = room - 1 := wrapN (by omega) (by omega)
 have w2 : mulI .i64 (room - 1) (cnt s : Int) = (room - 1) * cnt s := wrapN (by omega) (by omega)
 have w3 : IntKind.i64.wrap ((pages.length : Int) - (room - 1) * cnt s) = (pages.length : Int) - (room - 1) * cnt s := wrapN (by omega) (by omega)
 have hsl := @spG_len pages pages.length 0
 simp only [Option.bind_some, w1, onB_at hs, w2, w3, f84_eq (room := room) (F := F) (pages := pages) (by omega) (by omega)]
 rw [show (0 : Int) = ((0 : Nat) : Int) from rfl, l87 hs (by omega) (fun x hx => by
  have := spG_range (by omega) x hx
  omega) _ 0 F _ (Nat.zero_add _) (by omega) (by omega) (by omega)]
 unfold bndT
 rw [bitsL_len]
 rfl
end
end Go.Proofs.YtcdhajbhpnbdkaaDoor
set_option linter.unusedSimpArgs false
set_option linter.unusedVariables false
namespace Go.Proofs.YtcdhajbhpnbdkaaDoor
open Go.Abs Go.Pur
set_option maxRecDepth 100000
def zipF (s : Nat) : List Int → Nat → List (Nat × Bool)
 | [], _ => []
 | p :: r, i => (p.toNat, s.testBit i) :: zipF s r (i + 1)
theorem zipF_len {s : Nat} : ∀ {l : List Int} {i : Nat}, (zipF s l i).length = l.length
 | [], _ => rfl
 | p :: r, i => by simp only [zipF, List.length_cons]; rw [zipF_len]
theorem zipF_fst {s : Nat} : ∀ {l : List Int} {i : Nat}, (zipF s l i).map (·.1) = l.map Int.toNat
 | [], _ => rfl
 | p :: r, i => by simp only [zipF, List.map_cons]; rw [zipF_fst]
section
variable {pages : List Int} {s : Nat}
theorem fresh_zip {p : Int} (hp : 0 ≤ p) (hpg : ∀ q ∈ pages, 0 ≤ q) : ∀ (k j : Nat), j + k = pages.length → (fresh p.toNat (zipF s (pages.drop j) j) = true ↔ nxt pages p j < pages.length ∧ ∀ t, j ≤ t → t < nxt pages p j → s.testBit t = false)
 | 0, j, hk => by
  rw [List.drop_of_length_le (by omega), nxt_end (by omega)]
  simp [zipF, fresh]; omega
 | k + 1, j, hk => by
  have hj : j < pages.length := by omega
  have ih := fresh_zip hp hpg k (j + 1) (by omega)
  have hq := hpg _ (List.getElem_mem hj)
  rw [List.drop_eq_getElem_cons hj, nxt_step hj]
  simp only [zipF, fresh]
  by_cases e : pages[j] = p
  ·rw [if_pos (by rw [e]), if_pos e]
   simp only [true_iff]
   exact ⟨hj, fun t h1 h2 => by omega⟩
  ·rw [if_neg (by omega), if_neg e]
   have hle : j + 1 ≤ nxt pages p (j + 1) := by unfold nxt; omega
   cases hb : s.testBit j with
   | true =>
    simp only [if_true, Bool.false_eq_true, false_iff]
    rintro ⟨_, h⟩
    have := h j (Nat.le_refl _) (by omega)
    rw [hb] at this; cases this
   | false =>
    simp only [Bool.false_eq_true, if_false]
    rw [ih]
    refine and_congr_right fun _ => ⟨fun h t h1 h2 => ?_, fun h t h1 h2 => h t (by omega) h2⟩
    by_cases e2 : t = j
    ·subst e2; exact hb
    ·exact h t (by omega) h2
theorem unhit_zip (hpg : ∀ q ∈ pages, 0 ≤ q) (hn : pages.length ≤ 12) : ∀ (k i : Nat), i + k = pages.length → unhit (zipF s (pages.drop i) i) = (spG pages k i).countP (bare (bitsL s))
 | 0, i, hk => by
  rw [List.drop_of_length_le (by omega)]
  rfl
 | k + 1, i, hk => by
  have hi : i < pages.length := by omega
  have ih := unhit_zip hpg hn k (i + 1) (by omega)
  have hf := @fresh_zip pages s pages[i] (hpg _ (List.getElem_mem hi)) hpg k (i + 1) (by omega)
  rw [List.drop_eq_getElem_cons hi]
  simp only [zipF, unhit, spG, getD_at hi]
  rw [ih]
  by_cases hx : nxt pages pages[i] (i + 1) < pages.length
  ·rw [if_pos hx, List.countP_cons]
   have : fresh pages[i].toNat (zipF s (pages.drop (i + 1)) (i + 1)) = bare (bitsL s) ((i : Int), (nxt pages pages[i] (i + 1) : Int)) := by
    rw [Bool.eq_iff_iff, hf]
    unfold bare
    rw [Bool.not_eq_true', List.any_eq_false]
    constructor
    ·rintro ⟨_, h⟩ t ht
     obtain ⟨n, rfl, _, hb⟩ := bitsL_mem.1 ht
     simp only [Bool.and_eq_true, decide_eq_true_eq]
     rintro ⟨h1, h2⟩
     have := h n (by omega) (by omega)
     rw [hb] at this; cases this
    ·intro h
     refine ⟨hx, fun t h1 h2 => ?_⟩
     cases hb : s.testBit t with
     | false => rfl
     | true =>
      have := h (t : Int) (bitsL_mem.2 ⟨t, rfl, by omega, hb⟩)
      simp only [Bool.and_eq_true, decide_eq_true_eq] at this
      omega
   rw [this]
   cases bare (bitsL s) ((i : Int), (nxt pages pages[i] (i + 1) : Int)) <;> simp <;> omega
  ·rw [if_neg hx]
   have : fresh pages[i].toNat (zipF s (pages.drop (i + 1)) (i + 1)) = false := by
    cases h : fresh pages[i].toNat (zipF s (pages.drop (i + 1)) (i + 1)) with
    | false => rfl
    | true => exact absurd (hf.1 h).1 hx
   rw [this]
   simp
theorem flags_zip : ∀ (l : List Int) (i : Nat), flags (zipF s l i) = ((List.range' i l.length).filter fun t => s.testBit t).length
 | [], i => rfl
 | p :: r, i => by
  simp only [zipF, flags, List.length_cons, List.range'_succ]
  rw [flags_zip r (i + 1)]
  cases h : s.testBit i with
  | true => rw [List.filter_cons_of_pos h, List.length_cons]; exact Nat.add_comm _ _
  | false => rw [List.filter_cons_of_neg (by simp [h])]; simp
theorem cnt_range {n : Nat} (hn : n ≤ 12) (hs : s < 2 ^ n) : ((List.range' 0 n).filter fun t => s.testBit t).length = cnt s := by
 unfold cnt
 rw [List.range_eq_range', show 12 = n + (12 - n) by omega, ← List.range'_append_1, List.filter_append]
 have : (List.range' (0 + n) (12 - n)).filter (fun t => s.testBit t) = [] := by
  rw [List.filter_eq_nil_iff]
  intro t ht
  rw [List.mem_range'_1] at ht
  have : 2 ^ n ≤ 2 ^ t := Nat.pow_le_pow_right (by decide) (by omega)
  rw [Nat.testBit_lt_two_pow (by omega)]
  decide
 rw [this, List.append_nil]
theorem bndT_eq {room : Int} (hpg : ∀ q ∈ pages, 0 ≤ q) (hn : pages.length ≤ 12) (hs : s < 2 ^ pages.length) : bndT room pages (bitsL s) = max 0 (boundF room (zipF s pages 0)) := by
 unfold bndT boundF
 have h1 := @unhit_zip pages s hpg hn pages.length 0 (by omega)
 rw [List.drop_zero] at h1
 rw [h1, zipF_len, flags_zip, cnt_range hn hs, bitsL_len]
theorem rem6_zero : rem6 pages 0 = pages.map Int.toNat := by unfold rem6; rw [List.drop_zero]
theorem zip_ok (hpg : ∀ q ∈ pages, 0 ≤ q ∧ q ≤ 5) {i : Nat} : ∀ x ∈ zipF s pages i, x.1 < 6 := by
 intro x hx
 have : x.1 ∈ (zipF s pages i).map (·.1) := List.mem_map_of_mem hx
 rw [zipF_fst] at this
 obtain ⟨p, hp, e⟩ := List.mem_map.1 this
 have := hpg p hp
 omega
theorem bndT_le {room : Int} (hr1 : 1 ≤ room) (hpg : ∀ q ∈ pages, 0 ≤ q ∧ q ≤ 5) (hn : pages.length ≤ 12) (hs : s < 2 ^ pages.length) : bndT room pages (bitsL s) ≤ need room (rem6 pages 0) 0 := by
 rw [bndT_eq (fun q hq => (hpg q hq).1) hn hs]
 have := @boundF_le room (zipF s pages 0) hr1 (zip_ok hpg)
 rw [zipF_fst] at this
 rw [rem6_zero]
 omega
theorem bits_of : ∀ (bs : List Bool), ∃ s, s < 2 ^ bs.length ∧ ∀ t, t < bs.length → s.testBit t = bs.getD t false
 | [] => ⟨0, by simp, fun t h => by simp at h⟩
 | b :: bs => by
  obtain ⟨s, h1, h2⟩ := bits_of bs
  refine ⟨2 * s + b.toNat, ?_, fun t ht => ?_⟩
  ·rw [List.length_cons, Nat.pow_succ]
   cases b <;> simp <;> omega
  ·cases t with
   | zero =>
    cases b <;> simp [Nat.testBit_zero] <;> omega
   | succ t =>
    rw [Nat.testBit_succ, show (2 * s + b.toNat) / 2 = s by cases b <;> simp <;> omega, h2 t (by simpa using ht)]
    simp
theorem zip_bits : ∀ (l : List Int) (bs : List Bool) (i : Nat), bs.length = l.length → (∀ t, t < bs.length → s.testBit (i + t) = bs.getD t false) → zipF s l i = (l.map Int.toNat).zip bs
 | [], [], i, _, _ => rfl
 | p :: r, b :: bs, i, h, hb => by
  simp only [zipF, List.map_cons, List.zip_cons_cons]
  have h0 := hb 0 (by simp)
  simp at h0
  rw [h0, zip_bits r bs (i + 1) (by simpa using h) (fun t ht => by
   have := hb (t + 1) (by simpa using ht)
   rw [show i + 1 + t = i + (t + 1) by omega, this]
   simp)]
end
end Go.Proofs.YtcdhajbhpnbdkaaDoor
