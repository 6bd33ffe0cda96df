/-
  Bounds of sets of times, a bit each; the greatest bound is the fewest settings.
  Conditions: none; lemmas.
-/
import Derived.Test.YtcdhajbhpnbdkaaDoorBoundsLaw
set_option linter.unusedSimpArgs false
set_option linter.unusedVariables false
namespace Go.Proofs.YtcdhajbhpnbdkaaDoor
open Go.Abs Go.Pur
set_option maxRecDepth 100000
theorem andI_nat {s x : Nat} (hs : s < 4096) (hx : x < 4096) : andI .u64 (s : Int) (x : Int) = ((s &&& x : Nat) : Int) := by
  have e : (BitVec.ofInt 64 (s : Int) &&& BitVec.ofInt 64 (x : Int)).toNat = s &&& x := by
    rw [BitVec.toNat_and, BitVec.toNat_ofInt, BitVec.toNat_ofInt]
    congr 1
    · omega
    · omega
  show IntKind.u64.wrap ((BitVec.ofInt 64 (s : Int) &&& BitVec.ofInt 64 (x : Int)).toNat : Int) = _
  rw [e]
  have : s &&& x ≤ s := Nat.and_le_left
  exact wrapUC ⟨by omega, by omega⟩
theorem span_tab : (List.range 12).all (fun b => (List.range b).all fun a => decide (IntKind.u64.wrap (shlI .u64 1 b - shlI .u64 1 ((a : Int) + 1)) = ((2 ^ b - 2 ^ (a + 1) : Nat) : Int)) && decide (2 ^ b - 2 ^ (a + 1) < 4096) && (List.range 12).all fun t => (2 ^ b - 2 ^ (a + 1) : Nat).testBit t == (decide (a < t) && decide (t < b))) = true := by kernel_rfl
theorem span_at {a b : Nat} (h1 : a < b) (h2 : b < 12) : IntKind.u64.wrap (shlI .u64 1 b - shlI .u64 1 ((a : Int) + 1)) = ((2 ^ b - 2 ^ (a + 1) : Nat) : Int) ∧ 2 ^ b - 2 ^ (a + 1) < 4096 ∧ ∀ t, t < 12 → (2 ^ b - 2 ^ (a + 1) : Nat).testBit t = (decide (a < t) && decide (t < b)) := by
  have := span_tab
  rw [List.all_eq_true] at this
  have := this b (List.mem_range.2 h2)
  rw [List.all_eq_true] at this
  have := this a (List.mem_range.2 h1)
  simp only [Bool.and_eq_true, decide_eq_true_eq] at this
  obtain ⟨⟨a1, a2⟩, a3⟩ := this
  refine ⟨a1, a2, fun t ht => ?_⟩
  rw [List.all_eq_true] at a3
  simpa using a3 t (List.mem_range.2 ht)
theorem and_zero {s x : Nat} (hs : s < 4096) : s &&& x = 0 ↔ ∀ t, t < 12 → ¬ (s.testBit t = true ∧ x.testBit t = true) := by
  constructor
  · intro h t _ ⟨h1, h2⟩
    have := congrArg (fun n => Nat.testBit n t) h
    simp [Nat.testBit_and, h1, h2] at this
  · intro h
    refine Nat.eq_of_testBit_eq fun i => ?_
    rw [Nat.testBit_and, Nat.zero_testBit]
    rcases Nat.lt_or_ge i 12 with hi | hi
    · have := h i hi
      cases a : s.testBit i <;> cases b : x.testBit i <;> simp_all
    · have h2 : 2 ^ 12 ≤ 2 ^ i := Nat.pow_le_pow_right (by decide) hi
      rw [Nat.testBit_lt_two_pow (show s < 2 ^ i by omega)]
      rfl
theorem bitsL_mem {s : Nat} {t : Int} : t ∈ bitsL s ↔ ∃ n : Nat, t = (n : Int) ∧ n < 12 ∧ s.testBit n = true := by
  unfold bitsL bitsN
  rw [List.mem_map]
  constructor
  · rintro ⟨n, h, rfl⟩
    rw [List.mem_filter, List.mem_range] at h
    exact ⟨n, rfl, h.1, h.2⟩
  · rintro ⟨n, rfl, h1, h2⟩
    exact ⟨n, List.mem_filter.2 ⟨List.mem_range.2 h1, h2⟩, rfl⟩
theorem bare_bits {s a b : Nat} (hs : s < 4096) (h1 : a < b) (h2 : b < 12) : decide (andI .u64 (s : Int) (IntKind.u64.wrap (shlI .u64 1 b - shlI .u64 1 ((a : Int) + 1))) = 0) = bare (bitsL s) ((a : Int), (b : Int)) := by
  obtain ⟨e1, e2, e3⟩ := span_at h1 h2
  rw [e1, andI_nat hs e2]
  rw [Bool.eq_iff_iff, decide_eq_true_eq]
  unfold bare
  rw [Bool.not_eq_true', List.any_eq_false]
  constructor
  · intro h t ht
    have h := (and_zero (x := 2 ^ b - 2 ^ (a + 1)) hs).1 (by omega)
    obtain ⟨n, rfl, hn, hb⟩ := bitsL_mem.1 ht
    have := h n hn
    rw [e3 n hn] at this
    simp only [hb, true_and, Bool.and_eq_true, decide_eq_true_eq] at this ⊢
    omega
  · intro h
    have : s &&& (2 ^ b - 2 ^ (a + 1)) = 0 := (and_zero hs).2 fun t ht ⟨x1, x2⟩ => by
      rw [e3 t ht] at x2
      simp only [Bool.and_eq_true, decide_eq_true_eq] at x2
      have := h (t : Int) (bitsL_mem.2 ⟨t, rfl, ht, x1⟩)
      simp only [Bool.and_eq_true, decide_eq_true_eq] at this
      omega
    omega
section
variable {pages : List Int} {room : Int} {F : Nat}
theorem shlO_at {k : IntKind} {m : Int} {n : Nat} : shlO k m (n : Int) = some (shlI k m (n : Int)) := rfl
theorem l87 {s : Nat} {L : List (Int × Int)} {K : Int → Option Int} (hs : s < 4096) (hL : L.length ≤ 1000) (hLr : ∀ x ∈ L, 0 ≤ x.1 ∧ x.1 < x.2 ∧ x.2 < 12) : ∀ (k j m : Nat) (z : Int), j + k = L.length → k < m → -100000000 ≤ z - k → z ≤ 100000000 → f87_L0 F (s : Int) L (L.length : Int) K m (z, (j : Int)) = K (z - ((L.drop j).countP (bare (bitsL s)) : Nat))
  | k, j, 0, z, _, h, _, _ => by omega
  | 0, j, m + 1, z, hk, _, _, _ => by
    rw [f87_L0]
    have h1 : decide ((j : Int) < (L.length : Int)) = false := decide_eq_false (by omega)
    simp only [Option.bind_some, h1, List.drop_of_length_le (show L.length ≤ j by omega), List.countP_nil]
    simp
  | k + 1, j, m + 1, z, hk, hm, hz1, hz2 => by
    rw [f87_L0]
    have h1 : decide ((j : Int) < (L.length : Int)) = true := decide_eq_true (by omega)
    have hj : j < L.length := by omega
    obtain ⟨r1, r2, r3⟩ := hLr _ (List.getElem_mem hj)
    have w : IntKind.i64.wrap ((j : Int) + 1) = ((j + 1 : Nat) : Int) := wrap_nat (by omega)
    have w2 : IntKind.i64.wrap (z - 1) = z - 1 := wrapN (by omega) (by omega)
    simp only [Option.bind_some, h1, gI_at hj]
    rw [List.drop_eq_getElem_cons hj, List.countP_cons]
    obtain ⟨⟨a, b⟩, hx⟩ : ∃ x, L[j] = x := ⟨_, rfl⟩
    rw [hx] at r1 r2 r3
    rw [hx]
    obtain ⟨a, rfl⟩ := Int.eq_ofNat_of_zero_le r1
    obtain ⟨b, rfl⟩ := Int.eq_ofNat_of_zero_le (show 0 ≤ b by simp only at r1 r2; omega)
    simp only at r1 r2 r3
    have w3 : IntKind.i64.wrap ((a : Int) + 1) = ((a + 1 : Nat) : Int) := wrap_nat (by omega)
    have hb := @bare_bits s a b hs (by omega) (by omega)
    simp only [w3, shlO_at, Option.bind_some]
    rw [show ((a + 1 : Nat) : Int) = (a : Int) + 1 from rfl, hb]
    cases bare (bitsL s) ((a : Int), (b : Int)) with
    | true =>
      simp only [Option.bind_some, w, w2]
      rw [l87 hs hL hLr k (j + 1) m (z - 1) (by omega) (by omega) (by omega) (by omega)]
      congr 1
      simp
      omega
    | false =>
      simp only [Option.bind_some, w]
      rw [l87 hs hL hLr k (j + 1) m z (by omega) (by omega) (by omega) (by omega)]
      simp
theorem bitsL_len {s : Nat} : (bitsL s).length = cnt s := by simp [bitsL, bitsN_len]
theorem f87_eq {s : Nat} (hr1 : 1 ≤ room) (hr2 : room ≤ 5) (hn : pages.length ≤ 12) (hs : s < 4096) (hF : 1000 < F) : f87S F room pages (s : Int) = some (bndT room pages (bitsL s)) := by
  unfold f87S
  have hc : cnt s ≤ 12 := by rw [← bitsN_len]; exact bitsN_le
  have hm := @mul_small (room - 1) (cnt s) (by omega) (by omega) (by omega) (by omega)
  have w1 : IntKind.i64.wrap (room - 1) = room - 1 := wrapN (by omega) (by omega)
  have w2 : mulI .i64 (room - 1) (cnt s : Int) = (room - 1) * cnt s := wrapN (by omega) (by omega)
  have w3 : IntKind.i64.wrap ((pages.length : Int) - (room - 1) * cnt s) = (pages.length : Int) - (room - 1) * cnt s := wrapN (by omega) (by omega)
  have hsl := @spG_len pages pages.length 0
  simp only [Option.bind_some, w1, onB_at hs, w2, w3, f84_eq (room := room) (F := F) (pages := pages) (by omega) (by omega)]
  rw [show (0 : Int) = ((0 : Nat) : Int) from rfl, l87 hs (by omega) (fun x hx => by
    have := spG_range (by omega) x hx
    omega) _ 0 F _ (Nat.zero_add _) (by omega) (by omega) (by omega)]
  unfold bndT
  rw [bitsL_len]
  rfl
end
end Go.Proofs.YtcdhajbhpnbdkaaDoor
