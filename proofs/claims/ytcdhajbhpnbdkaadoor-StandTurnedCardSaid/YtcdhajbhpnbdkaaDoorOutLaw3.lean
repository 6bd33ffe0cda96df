/-
  again, bound of the statements' own: the plain laws.
  Conditions: none; lemmas.
-/
import Derived.Test.YtcdhajbhpnbdkaaDoorOut2
import Derived.Test.YtcdhajbhpnbdkaaDoorOutLaw2
import Derived.Test.YtcdhajbhpnbdkaaDoorBoundsMax
set_option linter.unusedSimpArgs false
set_option linter.unusedVariables false
namespace Go.Proofs.YtcdhajbhpnbdkaaDoor
open Go.Abs Go.Pur
set_option maxRecDepth 100000
section
variable {pages : List Int} {room : Int} {F : Nat}
theorem l55b {p i : Int} {v : List (Int × Int)} {K : List (Int × Int) → Option (Ck × List (Int × Int))} (hn : pages.length ≤ 1000) (hv : v.length ≤ 1000) : ∀ (k j m : Nat), j + k = pages.length → k < m → f55_L1 F pages i p K m (v, (j : Int)) = if nxt pages p j < pages.length then K (v ++ [(i, (nxt pages p j : Int))]) else K v
 | k, j, 0, _, h => by omega
 | 0, j, m + 1, hk, _ => by
  rw [f55_L1]
  have h1 : decide ((j : Int) < (pages.length : Int)) = false := decide_eq_false (by omega)
  simp only [obind, h1]
  rw [nxt_end (by omega), if_neg (by omega)]
 | k + 1, j, m + 1, hk, hm => by
  rw [f55_L1]
  have h1 : decide ((j : Int) < (pages.length : Int)) = true := decide_eq_true (by omega)
  have hj : j < pages.length := by omega
  have w : IntKind.i64.wrap ((j : Int) + 1) = ((j + 1 : Nat) : Int) := wrap_nat (by omega)
  simp only [obind, h1, gI_at hj]
  rw [nxt_step hj]
  by_cases e : pages[j] = p
  ·simp only [decide_eq_true e, app1_at (l := v) (v := (i, (j : Int))) (by omega), obind]
   rw [if_pos e, if_pos hj]
  ·simp only [decide_eq_false e, w]
   rw [if_neg e]
   exact l55b hn hv k (j + 1) m (by omega) (by omega)
theorem l55 (hn : pages.length ≤ 1000) (hF : pages.length < F) : ∀ (k i m : Nat) (v : List (Int × Int)), i + k = pages.length → k < m → v.length ≤ i →
  f55_L0 F pages (pages.length : Int) (fun v17 => some (Ck.nz, v17)) m (v, (i : Int)) = some (Ck.nz, v ++ spG pages k i)
 | k, i, 0, v, _, h, _ => by omega
 | 0, i, m + 1, v, hk, _, _ => by
  rw [f55_L0]
  have h1 : decide ((i : Int) < (pages.length : Int)) = false := decide_eq_false (by omega)
  simp only [obind, h1, spG, List.append_nil]
 | k + 1, i, m + 1, v, hk, hm, hv => by
  rw [f55_L0]
  have h1 : decide ((i : Int) < (pages.length : Int)) = true := decide_eq_true (by omega)
  have hi : i < pages.length := by omega
  have w : IntKind.i64.wrap ((i : Int) + 1) = ((i + 1 : Nat) : Int) := wrap_nat (by omega)
  simp only [obind, h1, gI_at hi, w]
  rw [l55b hn (by omega) (pages.length - (i + 1)) (i + 1) F (by omega) (by omega)]
  simp only [spG, getD_at hi]
  split
  ·rw [l55 hn hF k (i + 1) m _ (by omega) (by omega) (by simp; omega), List.append_assoc]; rfl
  ·rw [l55 hn hF k (i + 1) m _ (by omega) (by omega) (by omega)]
theorem f55_eq (hn : pages.length ≤ 1000) (hF : pages.length < F) : f55S F room pages = some (.nz, spG pages pages.length 0) := by
 unfold f55S
 rw [obind]
 exact l55 hn hF pages.length 0 F [] (by omega) hF (by simp)
def cntTo (s i k : Nat) : Nat := ((List.range' i k).filter fun j => s.testBit j).length
theorem cntTo_all {s n : Nat} (hs : s < 2 ^ n) (hn : n ≤ 12) : cntTo s 0 n = cnt s := by
 unfold cntTo cnt
 rw [List.range_eq_range', show 12 = n + (12 - n) by omega, ← List.range'_append_1, List.filter_append]
 have : (List.range' (0 + n) (12 - n)).filter (fun j => s.testBit j) = [] := by
  rw [List.filter_eq_nil_iff]
  intro j hj
  rw [List.mem_range'_1] at hj
  have h2 : 2 ^ n ≤ 2 ^ j := Nat.pow_le_pow_right (by decide) (by omega)
  rw [Nat.testBit_lt_two_pow (by omega)]; simp
 rw [this, List.append_nil]
theorem cntTo_le {s i k : Nat} : cntTo s i k ≤ k := by
 unfold cntTo
 exact Nat.le_trans (List.length_filter_le _ _) (by simp)
theorem l53 {s : Nat} {K : Int → Option Int} (hs : s < 4096) (hr1 : 1 ≤ room) (hr2 : room ≤ 5) (hn : pages.length ≤ 12) : ∀ (k i m : Nat) (z : Int), i + k = pages.length → k < m → -1000 ≤ z - 4 * k → z ≤ 1000 →
  f53_L0 F room (s : Int) (pages.length : Int) K m (z, (i : Int)) = K (z - (room - 1) * (cntTo s i k : Nat))
 | k, i, 0, z, _, h, _, _ => by omega
 | 0, i, m + 1, z, hk, _, _, _ => by
  rw [f53_L0]
  have h1 : decide ((i : Int) < (pages.length : Int)) = false := decide_eq_false (by omega)
  simp only [obind, h1]
  rw [show cntTo s i 0 = 0 from rfl, show ((0 : Nat) : Int) = 0 from rfl, Int.mul_zero, Int.sub_zero]
 | k + 1, i, m + 1, z, hk, hm, hz1, hz2 => by
  rw [f53_L0]
  have h1 : decide ((i : Int) < (pages.length : Int)) = true := decide_eq_true (by omega)
  have w : IntKind.i64.wrap ((i : Int) + 1) = ((i + 1 : Nat) : Int) := wrap_nat (by omega)
  have w1 : IntKind.i64.wrap (room - 1) = room - 1 := wrapN (by omega) (by omega)
  simp only [obind, h1, w1]
  rw [bindS (shr_i64 (by omega)), bit1 hs]
  cases hb : s.testBit i with
  | true =>
   have w2 : mulI .i64 (room - 1) 1 = room - 1 := by show IntKind.i64.wrap ((room - 1) * 1) = _; rw [Int.mul_one]; exact w1
   have w3 : IntKind.i64.wrap (z - (room - 1)) = z - (room - 1) := wrapN (by omega) (by omega)
   have e : cntTo s i (k + 1) = cntTo s (i + 1) k + 1 := by
    unfold cntTo
    rw [List.range'_succ, List.filter_cons_of_pos (by simp [hb])]; rfl
   simp only [if_true, w2, w3, w]
   rw [l53 hs hr1 hr2 hn k (i + 1) m _ (by omega) (by omega) (by omega) (by omega), e]
   congr 1
   rw [Int.natCast_add, Int.mul_add]
   simp; omega
  | false =>
   have w2 : mulI .i64 (room - 1) 0 = 0 := by show IntKind.i64.wrap ((room - 1) * 0) = _; rw [Int.mul_zero]; rfl
   have w3 : IntKind.i64.wrap (z - 0) = z := by rw [Int.sub_zero]; exact wrapN (by omega) (by omega)
   have e : cntTo s i (k + 1) = cntTo s (i + 1) k := by
    unfold cntTo
    rw [List.range'_succ, List.filter_cons_of_neg (by simp [hb])]
   simp only [Bool.false_eq_true, if_false, w2, w3, w]
   rw [l53 hs hr1 hr2 hn k (i + 1) m _ (by omega) (by omega) (by omega) (by omega), e]
def hitTo (s i k : Nat) : Bool := (List.range' i k).any fun j => s.testBit j
theorem or_small (a b : Bool) : orI .i64 (if a then 1 else 0) (if b then 1 else 0) = if (a || b) then 1 else 0 := by cases a <;> cases b <;> rfl
theorem l53c {s : Nat} {y : Int × Int} {b : Nat} {K : Int → Option Int} (hs : s < 4096) (hy : y.2 = (b : Int)) (hb : b ≤ 12) : ∀ (k i m : Nat) (h : Bool), i + k = b → k < m →
  f53_L2 F (s : Int) y K m ((if h then 1 else 0), (i : Int)) = K (if (h || hitTo s i k) then 1 else 0)
 | k, i, 0, h, _, hm => by omega
 | 0, i, m + 1, h, hk, _ => by
  rw [f53_L2]
  have h1 : decide ((i : Int) < y.2) = false := decide_eq_false (by omega)
  simp only [obind, h1, hitTo, List.range'_zero, List.any_nil, Bool.or_false]
 | k + 1, i, m + 1, h, hk, hm => by
  rw [f53_L2]
  have h1 : decide ((i : Int) < y.2) = true := decide_eq_true (by omega)
  have w : IntKind.i64.wrap ((i : Int) + 1) = ((i + 1 : Nat) : Int) := wrap_nat (by omega)
  simp only [obind, h1]
  rw [bindS (shr_i64 (by omega)), bit1 hs, or_small]
  simp only [obind, w]
  rw [l53c hs hy hb k (i + 1) m _ (by omega) (by omega)]
  have e : hitTo s i (k + 1) = (s.testBit i || hitTo s (i + 1) k) := by unfold hitTo; rw [List.range'_succ, List.any_cons]
  rw [e, Bool.or_assoc]
theorem hit_bare {s a b : Nat} (hab : a < b) (hb : b ≤ 12) : bare (bitsL s) ((a : Int), (b : Int)) = !hitTo s (a + 1) (b - (a + 1)) := by
 unfold bare hitTo
 congr 1
 rw [Bool.eq_iff_iff, List.any_eq_true, List.any_eq_true]
 constructor
 ·rintro ⟨t, ht, h⟩
  obtain ⟨n, rfl, h1, h2⟩ := bitsL_mem.1 ht
  simp only [Bool.and_eq_true, decide_eq_true_eq] at h
  exact ⟨n, List.mem_range'_1.2 ⟨by omega, by omega⟩, h2⟩
 ·rintro ⟨n, hn, h2⟩
  rw [List.mem_range'_1] at hn
  refine ⟨n, bitsL_mem.2 ⟨n, rfl, by omega, h2⟩, ?_⟩
  simp only [Bool.and_eq_true, decide_eq_true_eq]
  omega
theorem l53b {s : Nat} {L : List (Int × Int)} {K : Int → Option Int} (hs : s < 4096) (hL : L.length ≤ 1000) (hLr : ∀ x ∈ L, 0 ≤ x.1 ∧ x.1 < x.2 ∧ x.2 < 12) (hF : 100 < F) : ∀ (k j m : Nat) (z : Int), j + k = L.length → k < m → -100000000 ≤ z - k → z ≤ 100000000 →
  f53_L1 F (s : Int) L (L.length : Int) K m (z, (j : Int)) = K (z - ((L.drop j).countP (bare (bitsL s)) : Nat))
 | k, j, 0, z, _, h, _, _ => by omega
 | 0, j, m + 1, z, hk, _, _, _ => by
  rw [f53_L1]
  have h1 : decide ((j : Int) < (L.length : Int)) = false := decide_eq_false (by omega)
  simp only [obind, h1, List.drop_of_length_le (show L.length ≤ j by omega), List.countP_nil]
  simp
 | k + 1, j, m + 1, z, hk, hm, hz1, hz2 => by
  rw [f53_L1]
  have h1 : decide ((j : Int) < (L.length : Int)) = true := decide_eq_true (by omega)
  have hj : j < L.length := by omega
  obtain ⟨r1, r2, r3⟩ := hLr _ (List.getElem_mem hj)
  have w : IntKind.i64.wrap ((j : Int) + 1) = ((j + 1 : Nat) : Int) := wrap_nat (by omega)
  simp only [obind, h1, gI_at hj]
  rw [List.drop_eq_getElem_cons hj, List.countP_cons]
  obtain ⟨⟨a, b⟩, hx⟩ : ∃ x, L[j] = x := ⟨_, rfl⟩
  rw [hx] at r1 r2 r3
  rw [hx]
  obtain ⟨a, rfl⟩ := Int.eq_ofNat_of_zero_le r1
  obtain ⟨b, rfl⟩ := Int.eq_ofNat_of_zero_le (show 0 ≤ b by simp only at r1 r2; omega)
  simp only at r1 r2 r3
  have w3 : IntKind.i64.wrap ((a : Int) + 1) = ((a + 1 : Nat) : Int) := wrap_nat (by omega)
  rw [w3, hit_bare (s := s) (show a < b by omega) (by omega)]
  have hc := fun K => @l53c F s ((a : Int), (b : Int)) b K hs rfl (by omega) (b - (a + 1)) (a + 1) F false (by omega) (by omega)
  simp only [Bool.false_eq_true, if_false, Bool.false_or] at hc
  rw [hc]
  cases hitTo s (a + 1) (b - (a + 1)) with
  | true =>
   have w4 : IntKind.i64.wrap (z - IntKind.i64.wrap (1 - 1)) = z := by rw [show IntKind.i64.wrap (1 - 1) = 0 from rfl, Int.sub_zero]; exact wrapN (by omega) (by omega)
   simp only [if_true, obind, w4, w]
   rw [l53b hs hL hLr hF k (j + 1) m z (by omega) (by omega) (by omega) (by omega)]
   simp
  | false =>
   have w4 : IntKind.i64.wrap (z - IntKind.i64.wrap (1 - 0)) = z - 1 := by rw [show IntKind.i64.wrap (1 - 0) = 1 from rfl]; exact wrapN (by omega) (by omega)
   simp only [Bool.false_eq_true, if_false, obind, w4, w]
   rw [l53b hs hL hLr hF k (j + 1) m (z - 1) (by omega) (by omega) (by omega) (by omega)]
   congr 1
   simp
   omega
theorem f53_eq {s : Nat} (hr1 : 1 ≤ room) (hr2 : room ≤ 5) (hn : pages.length ≤ 12) (hs : s < 2 ^ pages.length) (hF : 1000 < F) : f53S F room pages (s : Int) = some (bndT room pages (bitsL s)) := by
 have hM : 2 ^ pages.length ≤ 4096 := Nat.le_trans (Nat.pow_le_pow_right (by decide) hn) (by decide)
 have hs2 : s < 4096 := by omega
 unfold f53S
 have hc := @cntTo_le s 0 pages.length
 have hm := @mul_small (room - 1) (cntTo s 0 pages.length) (by omega) (by omega) (by omega) (by omega)
 have hsl := @spG_len pages pages.length 0
 rw [obind]
 have h0 := fun K => @l53 pages room F s K hs2 hr1 hr2 hn pages.length 0 F (pages.length : Int) (by omega) (by omega) (by omega) (by omega)
 rw [show ((0 : Nat) : Int) = 0 from rfl] at h0
 rw [h0, bindS (f55_eq (F := F) (room := room) (by omega) (by omega))]
 dsimp only
 rw [obind]
 have h1 := fun K z h1 h2 => @l53b F s (spG pages pages.length 0) K hs2 (by omega) (fun x hx => by
  have := spG_range (by omega) x hx
  omega) (by omega) _ 0 F z (Nat.zero_add _) (by omega) h1 h2
 rw [show ((0 : Nat) : Int) = 0 from rfl] at h1
 rw [h1 _ _ (by omega) (by omega), obind, cntTo_all hs hn]
 unfold bndT
 rw [bitsL_len]
 rfl
end
end Go.Proofs.YtcdhajbhpnbdkaaDoor
