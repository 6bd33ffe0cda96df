/-
  Arches: what the functions compute.
  Conditions: none; lemmas.
-/
import Derived.Test.YtmnmfmghmenkkaaMath5
import Derived.Test.YtmnmfmghmenkkaaLaw5
import Derived.Test.YtmnmfmghmenkkaaLaw3e
set_option linter.unusedSimpArgs false
set_option linter.unusedVariables false
namespace Go.Proofs.Ytmnmfmghmenkkaa
open Go.Abs Go.Pur
set_option maxRecDepth 100000
def lettW (w : List UInt8) (k : Int) : Int := if checkW w = 0 then (if k < 1 ∨ 6 < k then 1 else if w.any (fun c => decide (97 + k ≤ (c.toNat : Int))) then 2 else 0) else checkW w
theorem checkW_all {w : List UInt8} (h : checkW w = 0) : w.length ≤ 10 ∧ ∀ c ∈ w, 97 ≤ c.toNat ∧ c.toNat < 103 := by
 unfold checkW at h
 split at h
 ·cases h
 ·split at h
  ·rename_i h1 h2
   refine ⟨by omega, fun c hc => ?_⟩
   have := List.all_eq_true.1 h2 c hc
   unfold letW at this
   simp only [Bool.and_eq_true, decide_eq_true_eq] at this
   exact this
  ·cases h
theorem gA_at {l : List UInt8} {k : Nat} (h : k < l.length) (ha : l[k].toNat < 103) : gA l k = some l[k].toNat := by
 unfold gA
 rw [List.getElem?_eq_getElem h]
 simp only []
 rw [show Nat.blt l[k].toNat 128 = true from Nat.ble_eq_true_of_le (by omega)]
theorem ble_lt {a b : Nat} (h : a < b) : Nat.ble (a + 1) b = true := Nat.ble_eq_true_of_le h
theorem ble_ge {a b : Nat} (h : b ≤ a) : Nat.ble (a + 1) b = false := Bool.eq_false_iff.2 fun e => absurd (Nat.le_of_ble_eq_true e) (by omega)
theorem wrap32 {z : Int} (h1 : 0 ≤ z) (h2 : z < 1000) : IntKind.i32.wrap z = z := by
 have e : IntKind.i32.wrap z = if z % 4294967296 ≥ 2147483648 then z % 4294967296 - 4294967296 else z % 4294967296 := by
  unfold IntKind.wrap
  by_cases h : z % 4294967296 ≥ 2147483648
  ·rw [if_pos h]
   simp [IntKind.bits, IntKind.signed]
   omega
  ·rw [if_neg h]
   simp [IntKind.bits, IntKind.signed]
   omega
 rw [e]
 split <;> omega
theorem f64_run {w : List UInt8} {k : Int} {F : Nat} (hw : w.length ≤ 10) (hl : ∀ c ∈ w, c.toNat < 103) (h1 : 1 ≤ k) (h6 : k ≤ 6) : ∀ (n i : Nat), w.length + 1 ≤ n + i → i ≤ w.length → f64_L0 F w k (fun _ => some 0) n i = some (if (w.drop i).any (fun c => decide (97 + k ≤ (c.toNat : Int))) then 2 else 0)
 | 0, i, h, hi => absurd h (by omega)
 | n + 1, i, h, hi => by
  unfold f64_L0
  simp only [Option.bind_some]
  by_cases hi' : i < w.length
  ·rw [ble_lt hi', gA_at hi' (hl _ (List.getElem_mem hi'))]
   simp only [Option.bind_some]
   rw [wrap32 (z := k) (by omega) (by omega), wrap32 (z := 97 + k) (by omega) (by omega), List.drop_eq_getElem_cons hi', List.any_cons]
   by_cases hc : 97 + k ≤ (w[i].toNat : Int)
   ·rw [decide_eq_true hc]; rfl
   ·rw [decide_eq_false hc, Bool.false_or]
    exact f64_run hw hl h1 h6 n (i + 1) (by omega) (by omega)
  ·rw [ble_ge (by omega), List.drop_eq_nil_of_le (by omega)]
   rfl
theorem f64_law {w : List UInt8} {k : Int} {F : Nat} (hF : 12 ≤ F) : f64S F w k = some (lettW w k) := by
 unfold f64S lettW
 simp only [Option.bind_some]
 by_cases hc : checkW w = 0
 ·rw [decide_eq_true hc, if_pos hc]
  obtain ⟨hw, hl⟩ := checkW_all hc
  by_cases h1 : k < 1
  ·simp only [decide_eq_true h1]
   rw [if_pos (.inl h1)]
  ·by_cases h6 : 6 < k
   ·simp only [decide_eq_false h1, decide_eq_true h6]
    rw [if_pos (.inr h6)]
   ·simp only [decide_eq_false h1, decide_eq_false h6]
    rw [if_neg (by omega)]
    exact f64_run hw (fun c h => (hl c h).2) (by omega) (by omega) F 0 (by omega) (by omega)
 ·rw [decide_eq_false hc, if_neg hc]
def archL (k : Nat) : List UInt8 → List UInt8 → Nat → List Nat
 | _, [], _ => []
 | m, c :: w, i => if (if c ∈ m then m else m ++ [c]).length = k then (i + 1) :: archL k [] w (i + 1) else archL k (if c ∈ m then m else m ++ [c]) w (i + 1)
theorem archL_len {k : Nat} : ∀ {w m : List UInt8} {i : Nat}, (archL k m w i).length ≤ w.length
 | [], m, i => Nat.zero_le _
 | c :: w, m, i => by
  rw [archL]
  generalize (if c ∈ m then m else m ++ [c]) = m'
  split
  ·have := archL_len (k := k) (w := w) (m := []) (i := i + 1)
   simp only [List.length_cons]; omega
  ·have := archL_len (k := k) (w := w) (m := m') (i := i + 1)
   simp only [List.length_cons]; omega
theorem mSet_keys {K V : Type} [DecidableEq K] {c : Nat} {k : K} {v : V} : ∀ {l : Mp K V}, (mSet c k v l).map (·.1) = if k ∈ l.map (·.1) then l.map (·.1) else l.map (·.1) ++ [k]
 | [] => rfl
 | e :: l => by
  unfold mSet
  by_cases h : e.1 = k
  ·rw [decide_eq_true h]
   simp [h]
  ·rw [decide_eq_false h]
   simp only [List.map_cons, mSet_keys (l := l), List.mem_cons]
   by_cases h2 : k ∈ l.map (·.1)
   ·rw [if_pos h2, if_pos (.inr h2)]
   ·rw [if_neg h2, if_neg (fun e' => e'.elim (fun e' => h e'.symm) h2)]; rfl
theorem mem_nat {c : UInt8} {m : List UInt8} : (c.toNat : Int) ∈ m.map (fun c => (c.toNat : Int)) ↔ c ∈ m := by
 rw [List.mem_map]
 constructor
 ·rintro ⟨d, hd, e⟩
  have : d = c := UInt8.toNat_inj.1 (by omega)
  rwa [← this]
 ·exact fun h => ⟨c, h, rfl⟩
theorem f65_run {w : List UInt8} {k F : Nat} (hw : w.length ≤ 10) (hl : ∀ c ∈ w, c.toNat < 103) {K : List Int → Option (Ck × List Int)} : ∀ (n i : Nat) (m : List UInt8) (v : List Int) (l : Mp Int Bool) (c : Nat), w.length + 1 ≤ n + i → i ≤ w.length → v.length ≤ i → l.map (·.1) = m.map (fun c => (c.toNat : Int)) →
  f65_L0 F w k K n (v, l, c, i) = K (v ++ (archL k m (w.drop i) i).map fun (x : Nat) => (x : Int))
 | 0, i, m, v, l, c, h, hi, hv, hm => absurd h (by omega)
 | n + 1, i, m, v, l, c, h, hi, hv, hm => by
  unfold f65_L0
  simp only [Option.bind_some]
  by_cases hi' : i < w.length
  ·rw [ble_lt hi', gA_at hi' (hl _ (List.getElem_mem hi')), List.drop_eq_getElem_cons hi']
   simp only [Option.bind_some]
   have hk : (mSet c (w[i].toNat : Int) true l).map (·.1) = (if w[i] ∈ m then m else m ++ [w[i]]).map (fun c => (c.toNat : Int)) := by
    rw [mSet_keys, hm]
    by_cases h1 : w[i] ∈ m
    ·rw [if_pos (mem_nat.2 h1), if_pos h1]
    ·rw [if_neg (fun e => h1 (mem_nat.1 e)), if_neg h1]; simp
   have hlen : (mSet c (w[i].toNat : Int) true l).length = (if w[i] ∈ m then m else m ++ [w[i]]).length := by
    have := congrArg List.length hk
    simpa using this
   rw [archL, hlen]
   by_cases h1 : (if w[i] ∈ m then m else m ++ [w[i]]).length = k
   ·rw [decide_eq_true (show (((if w[i] ∈ m then m else m ++ [w[i]]).length : Nat) : Int) = (k : Int) by omega), if_pos h1]
    simp only []
    rw [wrap_nat (by omega)]
    unfold app1
    rw [Nat.ble_eq_true_of_le (show v.length ≤ 1000000 by omega)]
    simp only [Option.bind_some]
    rw [f65_run hw hl n (i + 1) [] _ [] _ (by omega) (by omega) (by simp; omega) rfl]
    simp
   ·rw [decide_eq_false (show ¬ (((if w[i] ∈ m then m else m ++ [w[i]]).length : Nat) : Int) = (k : Int) by omega), if_neg h1]
    exact f65_run hw hl n (i + 1) _ v _ _ (by omega) (by omega) (by omega) hk
  ·rw [ble_ge (by omega), List.drop_eq_nil_of_le (by omega)]
   simp [archL]
def archI (k : Nat) (w : List UInt8) : List Int := (archL k [] w 0).map fun (x : Nat) => (x : Int)
theorem f65_law {w : List UInt8} {k F : Nat} (hF : 12 ≤ F) (hw : w.length ≤ 10) (hl : ∀ c ∈ w, c.toNat < 103) : f65S F w k = some (.nz, archI k w) := by
 unfold f65S
 exact f65_run hw hl F 0 [] [] [] 0 (by omega) (by omega) (by simp) rfl
theorem sub_one {w : List UInt8} {i : Nat} (h : i < w.length) : sub2 w (i : Int) ((i + 1 : Nat) : Int) = some [w[i]] := by
 show sub2 w (Int.ofNat i) (Int.ofNat (i + 1)) = _
 simp only [sub2]
 rw [Nat.ble_eq_true_of_le (show i ≤ i + 1 by omega), Nat.ble_eq_true_of_le (show i + 1 ≤ w.length by omega)]
 simp only [Bool.and_self]
 congr 1
 rw [List.take_succ_eq_append_getElem h, List.drop_append_of_le_length (by simp; omega)]
 simp [List.drop_eq_nil_of_le]
theorem lettW_ok {w : List UInt8} {k : Int} (h : lettW w k = 0) : ∃ n : Nat, k = n ∧ 1 ≤ n ∧ n ≤ 6 ∧ w.length ≤ 10 ∧ ∀ c ∈ w, c ∈ lets n := by
 unfold lettW at h
 split at h
 ·rename_i hc
  obtain ⟨hw, hl⟩ := checkW_all hc
  split at h
  ·cases h
  ·rename_i h16
   split at h
   ·cases h
   ·rename_i hany
    refine ⟨k.toNat, by omega, by omega, by omega, hw, fun c hc => ?_⟩
    rw [lets_mem (by omega)]
    refine ⟨(hl c hc).1, ?_⟩
    have : ¬ 97 + k ≤ (c.toNat : Int) := fun e => hany (List.any_eq_true.2 ⟨c, hc, decide_eq_true e⟩)
    omega
 ·rename_i hc; exact absurd h hc
end Go.Proofs.Ytmnmfmghmenkkaa
