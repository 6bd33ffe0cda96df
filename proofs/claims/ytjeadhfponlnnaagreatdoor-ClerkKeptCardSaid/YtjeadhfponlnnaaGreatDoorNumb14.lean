/-
  Numbers of at most four digits, as the library reads and writes them.
  Conditions: none; lemmas.
-/
import Derived.Test.YtjeadhfponlnnaaGreatDoorPlain14
import Derived.Lib.SlTrimSet
set_option linter.unusedSimpArgs false
set_option linter.unusedVariables false
namespace Go.Clerk
open Go.Lib
theorem dig_nat {k : Nat} (h : k ≤ 9) : (dig k).toNat = 48 + k := by
 unfold dig
 rw [UInt8.toNat_ofNat']
 omega
theorem dig_of {c : UInt8} {k : Nat} (h : c.toNat = 48 + k) : dig k = c := by
 unfold dig
 rw [← h]
 exact UInt8.ofNat_toNat
theorem isDig_iff {c : UInt8} : isDig c = true ↔ 48 ≤ c.toNat ∧ c.toNat ≤ 57 := by
 unfold isDig
 simp
theorem parse_digits : ∀ (l : Tx) (acc : Nat), l.all isDig = true → acc * 10 ^ l.length + 10 ^ l.length ≤ 1000000000000000000 → parseUint10 acc l = .ok (valN l acc)
 | [], acc, _, _ => rfl
 | c :: l, acc, h, hb => by
  simp only [List.all_cons, Bool.and_eq_true] at h
  obtain ⟨h1, h2⟩ := h
  have hd := isDig_iff.1 h1
  have hp : 0 < 10 ^ l.length := Nat.pos_of_ne_zero (by simp)
  rw [List.length_cons, Nat.pow_succ] at hb
  generalize hP : 10 ^ l.length = p at hb hp
  have hb2 : (acc * 10 + 10) * p ≤ 1000000000000000000 := by
   have : (acc * 10 + 10) * p = acc * (p * 10) + p * 10 := by rw [Nat.add_mul, Nat.mul_assoc, Nat.mul_comm 10 p]
   omega
  have hacc : acc * 10 + 10 ≤ 1000000000000000000 := Nat.le_trans (Nat.le_mul_of_pos_right _ hp) hb2
  unfold parseUint10
  rw [if_pos hd, if_neg (by omega), if_neg (by omega), parse_digits l _ h2 (by
   rw [hP]
   have : (acc * 10 + (c.toNat - 48)) * p + p = (acc * 10 + (c.toNat - 48) + 1) * p := by rw [Nat.add_mul (_ + _) 1 p, Nat.one_mul]
   rw [this]
   exact Nat.le_trans (Nat.mul_le_mul_right p (by omega)) hb2)]
  show _ = NumEnd.ok (valN l (10 * acc + (c.toNat - 48)))
  rw [Nat.mul_comm 10 acc]
theorem itoaN_digits {n : Nat} (h : n ≤ 9999) : (itoaN n).all isDig = true ∧ valN (itoaN n) 0 = n ∧ (itoaN n) ≠ [] ∧ (itoaN n).length ≤ 4 ∧ ((itoaN n).length = 1 ∨ (itoaN n).headD 0 ≠ 48) := by
 have hd : ∀ k, k ≤ 9 → isDig (dig k) = true := fun k hk => isDig_iff.2 (by rw [dig_nat hk]; omega)
 have h48 : ∀ k, 1 ≤ k → k ≤ 9 → dig k ≠ 48 := fun k h1 h2 e => by
  have := dig_nat h2
  rw [e] at this
  have h3 : (48 : UInt8).toNat = 48 := rfl
  omega
 unfold itoaN
 split
 ·rename_i h1
  refine ⟨by simp [hd n (by omega)], ?_, by simp, by simp, .inl rfl⟩
  simp only [valN, dig_nat (show n ≤ 9 by omega)]
  omega
 ·split
  ·refine ⟨by simp [hd (n / 10) (by omega), hd (n % 10) (by omega)], ?_, by simp, by simp, .inr (h48 _ (by omega) (by omega))⟩
   simp only [valN, dig_nat (show n / 10 ≤ 9 by omega), dig_nat (show n % 10 ≤ 9 by omega)]
   omega
  ·split
   ·refine ⟨by simp [hd (n / 100) (by omega), hd (n / 10 % 10) (by omega), hd (n % 10) (by omega)], ?_, by simp, by simp, .inr (h48 _ (by omega) (by omega))⟩
    simp only [valN, dig_nat (show n / 100 ≤ 9 by omega), dig_nat (show n / 10 % 10 ≤ 9 by omega), dig_nat (show n % 10 ≤ 9 by omega)]
    omega
   ·refine ⟨by simp [hd (n / 1000) (by omega), hd (n / 100 % 10) (by omega), hd (n / 10 % 10) (by omega), hd (n % 10) (by omega)], ?_, by simp, by simp, .inr (h48 _ (by omega) (by omega))⟩
    simp only [valN, dig_nat (show n / 1000 ≤ 9 by omega), dig_nat (show n / 100 % 10 ≤ 9 by omega), dig_nat (show n / 10 % 10 ≤ 9 by omega), dig_nat (show n % 10 ≤ 9 by omega)]
    omega
theorem numb_itoaN {n : Nat} (h : n ≤ 9999) : numb (itoaN n) = some n := by
 obtain ⟨h1, h2, h3, h4, h5⟩ := itoaN_digits h
 unfold numb
 have : (!(itoaN n).isEmpty && decide ((itoaN n).length ≤ 4) && (itoaN n).all isDig && (decide ((itoaN n).length = 1) || decide ((itoaN n).headD 0 ≠ 48))) = true := by
  rw [h1, decide_eq_true h4]
  have e : (itoaN n).isEmpty = false := by simpa using h3
  rw [e]
  rcases h5 with h | h
  ·rw [decide_eq_true h]; rfl
  ·rw [decide_eq_true h]; simp
 rw [this, h2]
theorem numb_some {w : Tx} {n : Nat} (h : numb w = some n) : n ≤ 9999 ∧ w = itoaN n := by
 unfold numb at h
 split at h
 ·rename_i hc
  cases h
  simp only [Bool.and_eq_true, Bool.or_eq_true, decide_eq_true_eq, Bool.not_eq_true', List.isEmpty_eq_false_iff] at hc
  obtain ⟨⟨⟨h1, h2⟩, h3⟩, h4⟩ := hc
  match w, h1, h2, h3, h4 with
  | [a], _, _, h3, _ =>
   simp only [List.all_cons, List.all_nil, Bool.and_true] at h3
   have ha := isDig_iff.1 h3
   simp only [valN]
   refine ⟨by omega, ?_⟩
   unfold itoaN
   rw [if_pos (by omega), dig_of (c := a) (by omega)]
  | [a, b], _, _, h3, h4 =>
   simp only [List.all_cons, List.all_nil, Bool.and_true, Bool.and_eq_true] at h3
   have ha := isDig_iff.1 h3.1
   have hb := isDig_iff.1 h3.2
   have h0 : a.toNat ≠ 48 := fun e => (h4.resolve_left (by simp)) (by show a = 48; exact UInt8.toNat_inj.1 e)
   simp only [valN]
   refine ⟨by omega, ?_⟩
   unfold itoaN
   rw [if_neg (by omega), if_pos (by omega), dig_of (c := a) (by omega), dig_of (c := b) (by omega)]
  | [a, b, c], _, _, h3, h4 =>
   simp only [List.all_cons, List.all_nil, Bool.and_true, Bool.and_eq_true] at h3
   have ha := isDig_iff.1 h3.1
   have hb := isDig_iff.1 h3.2.1
   have hc := isDig_iff.1 h3.2.2
   have h0 : a.toNat ≠ 48 := fun e => (h4.resolve_left (by simp)) (by show a = 48; exact UInt8.toNat_inj.1 e)
   simp only [valN]
   refine ⟨by omega, ?_⟩
   unfold itoaN
   rw [if_neg (by omega), if_neg (by omega), if_pos (by omega), dig_of (c := a) (by omega), dig_of (c := b) (by omega), dig_of (c := c) (by omega)]
  | [a, b, c, d], _, _, h3, h4 =>
   simp only [List.all_cons, List.all_nil, Bool.and_true, Bool.and_eq_true] at h3
   have ha := isDig_iff.1 h3.1
   have hb := isDig_iff.1 h3.2.1
   have hc := isDig_iff.1 h3.2.2.1
   have hd := isDig_iff.1 h3.2.2.2
   have h0 : a.toNat ≠ 48 := fun e => (h4.resolve_left (by simp)) (by show a = 48; exact UInt8.toNat_inj.1 e)
   simp only [valN]
   refine ⟨by omega, ?_⟩
   unfold itoaN
   rw [if_neg (by omega), if_neg (by omega), if_neg (by omega), dig_of (c := a) (by omega), dig_of (c := b) (by omega), dig_of (c := c) (by omega), dig_of (c := d) (by omega)]
  | _ :: _ :: _ :: _ :: _ :: _, _, h2, _, _ => simp at h2
 ·cases h
theorem itoa_eq {n : Nat} (h : n ≤ 9999) : itoa (n : Int) = itoaN n := by
 unfold itoa
 rw [if_neg (by omega), Int.toNat_natCast]
 have e : ∀ k, UInt8.ofNat (48 + k) = dig k := fun _ => rfl
 unfold itoaN
 by_cases h1 : n < 10
 ·rw [decDigits, dif_pos h1, if_pos h1, e]
 ·rw [decDigits, dif_neg h1, if_neg h1]
  by_cases h2 : n < 100
  ·rw [decDigits, dif_pos (by omega), if_pos h2, e, e]; rfl
  ·rw [decDigits, dif_neg (by omega), if_neg h2]
   by_cases h3 : n < 1000
   ·rw [decDigits, dif_pos (by omega), if_pos h3, e, e, e, show n / 10 / 10 = n / 100 by omega]; rfl
   ·rw [decDigits, dif_neg (by omega), if_neg h3, decDigits, dif_pos (by omega), e, e, e, e, show n / 10 / 10 / 10 = n / 1000 by omega, show n / 10 / 10 = n / 100 by omega]; rfl
theorem atoi_itoaN {n : Nat} (h : n ≤ 9999) : atoiAll (itoaN n) = .ok (n : Int) := by
 obtain ⟨h1, h2, h3, h4, _⟩ := itoaN_digits h
 obtain ⟨c, r, hcr⟩ := List.exists_cons_of_ne_nil h3
 have hp : parseMag (itoaN n) = .ok n := by
  unfold parseMag
  rw [if_neg h3, parse_digits _ 0 h1 (by
   have : 10 ^ (itoaN n).length ≤ 10 ^ 4 := Nat.pow_le_pow_right (by omega) h4
   omega), h2]
 rw [hcr] at hp h1
 simp only [List.all_cons, Bool.and_eq_true] at h1
 have hd := isDig_iff.1 h1.1
 rw [hcr]
 unfold atoiAll
 simp only [if_neg (show ¬ (c.toNat = 43 ∨ c.toNat = 45) by omega), hp]
 rw [if_neg (by omega), if_neg (by omega), if_neg (by omega)]
theorem numb_spec {w : Tx} : numb w = match atoiAll w with
  | .ok v => if 0 ≤ v ∧ v ≤ 9999 ∧ itoa v = w then some v.toNat else none
  | _ => none := by
 cases hn : numb w with
 | some n =>
  obtain ⟨h1, rfl⟩ := numb_some hn
  rw [atoi_itoaN h1]
  show some n = if _ then _ else _
  rw [if_pos ⟨by omega, by omega, itoa_eq h1⟩, Int.toNat_natCast]
 | none =>
  split
  ·rename_i v _
   split
   ·rename_i h
    obtain ⟨h1, h2, h3⟩ := h
    obtain ⟨n, rfl⟩ := Int.eq_ofNat_of_zero_le h1
    have h4 : n ≤ 9999 := by omega
    rw [itoa_eq h4] at h3
    rw [← h3, numb_itoaN h4] at hn
    cases hn
   ·rfl
  ·rfl
def alpha : Tx := [97, 98, 99, 100, 101, 102, 103, 104, 105, 106, 107, 108, 109, 110, 111, 112, 113, 114, 115, 116, 117, 118, 119, 120, 121, 122]
theorem alpha_mem {c : UInt8} : alpha.contains c = (decide (97 ≤ c.toNat) && decide (c.toNat ≤ 122)) := by
 have key : ∀ n : Fin 256, alpha.contains (UInt8.ofNat n.val) = (decide (97 ≤ (UInt8.ofNat n.val).toNat) && decide ((UInt8.ofNat n.val).toNat ≤ 122)) := by decide +kernel
 have := key ⟨c.toNat, c.toNat_lt⟩
 rw [show UInt8.ofNat (⟨c.toNat, c.toNat_lt⟩ : Fin 256).val = c from UInt8.ofNat_toNat] at this
 exact this
theorem dropWhile_nil {p : UInt8 → Bool} : ∀ {l : Tx}, l.dropWhile p = [] ↔ l.all p = true
 | [] => by simp
 | c :: l => by
  rw [List.dropWhile_cons, List.all_cons]
  cases hp : p c with
  | true => simp [dropWhile_nil]
  | false => simp
theorem trim_nil {l cs : Tx} : trimS l cs = [] ↔ l.all (cs.contains ·) = true := by
 unfold trimS trimLeftS trimRightS
 constructor
 ·intro h
  have h1 := dropWhile_nil.1 h
  by_cases he : l.reverse.dropWhile (cs.contains ·) = []
  ·have := dropWhile_nil.1 he
   simpa using this
  ·
   exfalso
   obtain ⟨a, t, ht⟩ := List.exists_cons_of_ne_nil he
   have ha : cs.contains a = false := by
    have key : ∀ {m : Tx} {a : UInt8} {t : Tx}, m.dropWhile (cs.contains ·) = a :: t → cs.contains a = false := by
     intro m
     induction m with
     | nil => intro a t h; cases h
     | cons c m ih =>
      intro a t h
      rw [List.dropWhile_cons] at h
      split at h
      ·exact ih h
      ·rename_i hc
       cases h
       simpa using hc
    exact key ht
   rw [ht] at h1
   simp only [List.reverse_cons, List.all_append, Bool.and_eq_true, List.all_cons] at h1
   rw [ha] at h1
   exact absurd h1.2.1 (by simp)
 ·intro h
  have : l.reverse.dropWhile (cs.contains ·) = [] := dropWhile_nil.2 (by simpa using h)
  rw [this]
  rfl
theorem named_trim {w : Tx} {m : Nat} : named w m = (!w.isEmpty && decide (w.length ≤ m) && decide (trimS w alpha = [])) := by
 unfold named
 congr 1
 rw [Bool.eq_iff_iff, decide_eq_true_eq, trim_nil]
 simp only [alpha_mem]
end Go.Clerk
