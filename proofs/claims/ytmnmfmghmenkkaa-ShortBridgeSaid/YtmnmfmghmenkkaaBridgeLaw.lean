/-
  ShortBridge: arches, and what is missing: all words are tried.
  Conditions: none; lemmas.
-/
import Derived.Test.YtmnmfmghmenkkaaMostLaw
import Derived.Test.YtmnmfmghmenkkaaBridge14
set_option linter.unusedSimpArgs false
set_option linter.unusedVariables false
namespace Go.Proofs.Ytmnmfmghmenkkaa
open Go.Abs Go.Pur
set_option maxRecDepth 100000
def dif (x : List UInt8) : Nat := ((lets 6).filter fun c => decide (c ∈ x)).length
theorem ixB_ge {c : UInt8} : ∀ {l : List UInt8}, (0 ≤ ixB l c ↔ c ∈ l) ∧ -1 ≤ ixB l c
 | [] => by simp [ixB]
 | b :: l => by
  obtain ⟨h1, h2⟩ := ixB_ge (c := c) (l := l)
  rw [ixB]
  by_cases h : b = c
  ·subst h; simp
  ·have hb : (b == c) = false := by simp [h]
   rw [hb]
   have h3 : c ∈ b :: l ↔ c ∈ l := by simp [Ne.symm h]
   rw [h3, ← h1]
   simp only [Bool.false_eq_true, if_false]
   split
   ·rename_i h4
    have h5 : ixB l c = -1 := by simpa using h4
    rw [h5]; omega
   ·rename_i h4
    have h5 : ¬ ixB l c = -1 := by simpa using h4
    omega
theorem f56_at {l : List UInt8} {j : Nat} (hj : j < 6) : f56O l (97 + (j : Int)) = some (ixB l (UInt8.ofNat (97 + j))) := by
 rw [show (97 : Int) + (j : Int) = Int.ofNat (97 + j) by simp]
 rfl
theorem f54_run {x : List UInt8} {F : Nat} {K : Int → Option Int} : ∀ (n j : Nat), 7 ≤ n + j → j ≤ 6 → f54_L0 F x K n (((((lets 6).take j).filter fun c => decide (c ∈ x)).length : Int), 97 + (j : Int)) = K (dif x : Int)
 | 0, j, h, hj => absurd h (by omega)
 | n + 1, j, h, hj => by
  rw [f54_L0]
  simp only [Option.bind_some]
  by_cases hj' : j < 6
  ·rw [decide_eq_true (show (97 : Int) + (j : Int) ≤ 102 by omega)]
   simp only []
   rw [f56_at hj']
   simp only [Option.bind_some]
   have h1 := (ixB_ge (c := UInt8.ofNat (97 + j)) (l := x)).1
   have h2 : (lets 6).take (j + 1) = (lets 6).take j ++ [UInt8.ofNat (97 + j)] := by
    rw [List.take_add_one, List.getElem?_eq_getElem (by rw [lets_len]; exact hj'), lets_at hj']
    rfl
   have h3 : (((lets 6).take j).filter fun c => decide (c ∈ x)).length ≤ 6 := by
    refine Nat.le_trans (List.length_filter_le _ _) ?_
    simp
    omega
   have ih := f54_run (x := x) (F := F) (K := K) n (j + 1) (by omega) (by omega)
   rw [h2, List.filter_append, List.length_append] at ih
   rw [wrap8 (z := 97 + (j : Int) + 1) (by omega) (by omega)]
   by_cases hc : UInt8.ofNat (97 + j) ∈ x
   ·rw [decide_eq_true (h1.2 hc)]
    simp only []
    rw [wrap64 (by omega) (by omega)]
    rw [List.filter_cons, decide_eq_true hc] at ih
    simpa [Int.add_assoc] using ih
   ·rw [decide_eq_false (fun e => hc (h1.1 e))]
    simp only []
    rw [List.filter_cons, decide_eq_false hc] at ih
    simpa [Int.add_assoc] using ih
  ·obtain rfl : j = 6 := by omega
   rw [decide_eq_false (by omega)]
   rfl
theorem f54_law {x : List UInt8} {F : Nat} (hF : 7 ≤ F) : f54S F x = some (dif x : Int) := by
 unfold f54S
 exact f54_run (x := x) (K := fun v9 => some v9) F 0 (by omega) (by omega)
theorem dif_full {k : Nat} (hk : k ≤ 6) {x : List UInt8} (hx : ∀ c ∈ x, c ∈ lets k) : dif x = k ↔ fullM k x = true := by
 have hm : ∀ y, y ∈ ((lets 6).filter fun c => decide (c ∈ x)) ↔ y ∈ x := fun y => by
  rw [List.mem_filter]
  simp only [decide_eq_true_eq]
  exact ⟨fun h => h.2, fun h => ⟨lets_up hk (hx y h), h⟩⟩
 exact same_full hk ((lets_nodup (Nat.le_refl 6)).filter _) (fun y hy => hx y ((hm y).1 hy)) hm
theorem arch_split {k : Nat} (hk : k ≤ 6) : ∀ {w m s : List UInt8} {i : Nat}, (∀ x ∈ w, x ∈ lets k) → m.Nodup → (∀ x ∈ m, x ∈ lets k) → (∀ x, x ∈ m ↔ x ∈ s) → fullM k s = false →
  (archL k m w i = [] ∧ fullM k (s ++ w) = false) ∨ ∃ w1 c w2, w = w1 ++ c :: w2 ∧ archL k m w i = (i + w1.length + 1) :: archL k [] w2 (i + w1.length + 1) ∧ fullM k (s ++ w1) = false ∧ fullM k (s ++ (w1 ++ [c])) = true
 | [], m, s, i, _, _, _, _, h => .inl ⟨rfl, by simpa using h⟩
 | c :: w, m, s, i, hw, hn, hs, he, h => by
  have hc := hw c List.mem_cons_self
  have hw' : ∀ x ∈ w, x ∈ lets k := fun x hx => hw x (List.mem_cons_of_mem _ hx)
  have hn' : (if c ∈ m then m else m ++ [c]).Nodup := by
   by_cases h : c ∈ m
   ·rw [if_pos h]; exact hn
   ·rw [if_neg h, List.nodup_append]
    refine ⟨hn, by simp, fun a ha b hb e => h ?_⟩
    rw [List.mem_singleton.1 hb] at e
    rw [← e]; exact ha
  have he' : ∀ x, x ∈ (if c ∈ m then m else m ++ [c]) ↔ x ∈ s ++ [c] := fun x => by
   rw [List.mem_append, List.mem_singleton, ← he x]
   by_cases h : c ∈ m
   ·rw [if_pos h]
    exact ⟨.inl, fun e => e.elim id (fun e => by rw [e]; exact h)⟩
   ·rw [if_neg h, List.mem_append, List.mem_singleton]
  have hs' : ∀ x ∈ (if c ∈ m then m else m ++ [c]), x ∈ lets k := fun x hx => by
   rcases List.mem_append.1 ((he' x).1 hx) with h | h
   ·exact hs x ((he x).2 h)
   ·rw [List.mem_singleton.1 h]; exact hc
  have hf := same_full hk hn' hs' he'
  rw [archL]
  by_cases hq : (if c ∈ m then m else m ++ [c]).length = k
  ·rw [if_pos hq]
   exact .inr ⟨[], c, w, rfl, by simp, by simpa using h, by simpa using hf.1 hq⟩
  ·rw [if_neg hq]
   have hf2 : fullM k (s ++ [c]) = false := by
    cases hq2 : fullM k (s ++ [c]) with
    | false => rfl
    | true => exact absurd (hf.2 hq2) hq
   rcases arch_split hk (i := i + 1) hw' hn' hs' he' hf2 with ⟨h1, h2⟩ | ⟨w1, d, w2, h1, h2, h3, h4⟩
   ·exact .inl ⟨h1, by simpa using h2⟩
   ·refine .inr ⟨c :: w1, d, w2, by rw [h1]; rfl, ?_, by simpa using h3, by simpa using h4⟩
    rw [h2, List.length_cons, show i + 1 + w1.length = i + (w1.length + 1) by omega]
theorem sub2_at {w : List UInt8} {a b : Nat} (h1 : a ≤ b) (h2 : b ≤ w.length) : sub2 w (a : Int) (b : Int) = some ((w.take b).drop a) := by
 show sub2 w (Int.ofNat a) (Int.ofNat b) = _
 simp only [sub2]
 rw [Nat.ble_eq_true_of_le h1, Nat.ble_eq_true_of_le h2]
 rfl
theorem nfull {k : Nat} (hk0 : 0 < k) : fullM k [] = false := by
 obtain ⟨j, rfl⟩ : ∃ j, k = j + 1 := ⟨k - 1, by omega⟩
 obtain ⟨l, hl⟩ := lets_succ (k := j)
 unfold fullM
 rw [hl]
 rfl
theorem f14_ends {k : Nat} (hk0 : 0 < k) (hk : k ≤ 6) {w : List UInt8} (hw : w.length ≤ 10) (hl : ∀ c ∈ w, c ∈ lets k) {L : List Int} {F : Nat} (hF : 7 ≤ F) {K : Int × Int × Int × Int × Int × Int × Int × Int × Int × Int × Int × Int → Option Bool} {r : Bool} {R : Int × Int × Int × Int × Int × Int × Int × Int × Int × Int × Int}
  (hK : ∀ a : Nat, a ≤ w.length → fullM k (w.drop a) = false → K ((a : Int), R) = some r) : ∀ (n a : Nat) (pre : List Int), w.length + 1 ≤ n + a → a ≤ w.length → L = pre ++ (archL k [] (w.drop a) a).map (fun (x : Nat) => (x : Int)) → pre.length ≤ a →
  f14_L0 F (k : Int) w L (L.length : Int) K n ((a : Int), (pre.length : Int), R) = some r
 | 0, a, pre, h, ha, hL, hp => absurd h (by omega)
 | n + 1, a, pre, h, ha, hL, hp => by
  obtain ⟨r1, r2, r3, r4, r5, r6, r7, r8, r9, r10, r11⟩ := R
  rw [f14_L0]
  simp only [Option.bind_some]
  have hd : ∀ x ∈ w.drop a, x ∈ lets k := fun x hx => hl x (List.mem_of_mem_drop hx)
  rcases arch_split hk (w := w.drop a) (m := []) (s := []) (i := a) hd (by simp) (by simp) (by simp) (nfull hk0) with ⟨h1, h2⟩ | ⟨w1, c, w2, h1, h2, h3, h4⟩
  ·rw [h1] at hL
   have : L.length = pre.length := by rw [hL]; simp
   rw [decide_eq_false (by omega)]
   exact hK a ha (by simpa using h2)
  ·rw [h2, List.map_cons] at hL
   have hlen : L.length = pre.length + 1 + (archL k [] w2 (a + w1.length + 1)).length := by rw [hL]; simp; omega
   have hwl := congrArg List.length h1
   simp only [List.length_drop, List.length_append, List.length_cons] at hwl
   rw [decide_eq_true (show (pre.length : Int) < (L.length : Int) by omega)]
   simp only []
   have hg : gI L (pre.length : Int) = some (((a + w1.length + 1 : Nat)) : Int) := by
    rw [gI_at (show pre.length < L.length by omega)]
    simp [hL]
   rw [hg]
   simp only [Option.bind_some]
   rw [decide_eq_false (by omega)]
   simp only []
   rw [decide_eq_false (by omega)]
   simp only []
   have e1 : (w.take (a + w1.length + 1)).drop a = w1 ++ [c] := by
    rw [List.drop_take, h1, show a + w1.length + 1 - a = w1.length + 1 by omega]
    rw [List.take_append, List.take_of_length_le (by omega), show w1.length + 1 - w1.length = 1 by omega]
    rfl
   have e2 : (w.take (a + w1.length)).drop a = w1 := by
    rw [List.drop_take, h1, show a + w1.length - a = w1.length by omega]
    simp
   have hw1 : ∀ x ∈ w1 ++ [c], x ∈ lets k := fun x hx => hd x (by rw [h1]; simp at hx ⊢; rcases hx with hx | hx <;> simp [hx])
   have hw1' : ∀ x ∈ w1, x ∈ lets k := fun x hx => hw1 x (by simp [hx])
   rw [sub2_at (by omega) (by omega), e1]
   simp only [Option.bind_some]
   rw [f54_law hF]
   simp only [Option.bind_some]
   rw [decide_eq_true (show (dif (w1 ++ [c]) : Int) = (k : Int) from congrArg _ ((dif_full hk hw1).2 (by simpa using h4)))]
   simp only []
   rw [wrap64 (z := ((a + w1.length + 1 : Nat) : Int) - 1) (by omega) (by omega), show ((a + w1.length + 1 : Nat) : Int) - 1 = ((a + w1.length : Nat) : Int) by omega, sub2_at (by omega) (by omega), e2]
   simp only [Option.bind_some]
   rw [f54_law hF]
   simp only [Option.bind_some]
   have h5 : ¬ (dif w1 : Int) = (k : Int) := fun e => by
    have := (dif_full hk hw1').1 (by omega)
    have h6 : fullM k w1 = false := by simpa using h3
    rw [this] at h6
    cases h6
   rw [decide_eq_false h5]
   simp only []
   rw [wrap_nat (by omega)]
   have hpl : (pre ++ [((a + w1.length + 1 : Nat) : Int)]).length = pre.length + 1 := by simp
   have hdr : w.drop (a + w1.length + 1) = w2 := by
    rw [show a + w1.length + 1 = a + (w1.length + 1) by omega, ← List.drop_drop, h1]
    simp
   have ih := f14_ends hk0 hk hw hl (L := L) (F := F) hF (K := K) (r := r) hK n (a + w1.length + 1) (pre ++ [((a + w1.length + 1 : Nat) : Int)]) (by omega) (by omega) (by rw [hdr, hL]; simp) (by rw [hpl]; omega)
   rw [hpl] at ih
   exact ih
def dg (k : Nat) : Nat → Nat → List UInt8
 | 0, _ => []
 | n + 1, v => dg k n (v / k) ++ [cyL k v]
theorem dg_len {k : Nat} : ∀ {n v : Nat}, (dg k n v).length = n
 | 0, v => rfl
 | n + 1, v => by rw [dg, List.length_append, dg_len]; rfl
theorem dg_cons {k : Nat} : ∀ {n v : Nat}, dg k (n + 1) v = cyL k (v / k ^ n) :: dg k n v
 | 0, v => by simp [dg]
 | n + 1, v => by
  rw [dg, dg_cons, dg, Nat.div_div_eq_div_mul, Nat.pow_succ, Nat.mul_comm k]
  rfl
theorem dg_mod {k : Nat} : ∀ {n v : Nat}, dg k n (v % k ^ n) = dg k n v
 | 0, v => rfl
 | n + 1, v => by
  have h1 : v % k ^ (n + 1) / k = (v / k) % k ^ n := by
   rw [Nat.pow_succ, Nat.mul_comm, Nat.mod_mul_right_div_self]
  have h2 : cyL k (v % k ^ (n + 1)) = cyL k v := by
   unfold cyL
   rw [Nat.pow_succ, Nat.mul_comm, Nat.mod_mul_right_mod]
  rw [dg, dg, h1, h2, dg_mod]
theorem range_flat {α : Type} {N : Nat} {f : Nat → α} {g : Nat → List α} (h : ∀ j, g j = (List.range N).map fun t => f (j * N + t)) : ∀ k, (List.range k).flatMap g = (List.range (k * N)).map f
 | 0 => by simp
 | k + 1 => by
  rw [List.range_succ, List.flatMap_append, range_flat h k, Nat.succ_mul, List.range_add, List.map_append, List.map_map, List.flatMap_cons, List.flatMap_nil, List.append_nil, h k]
  rfl
theorem wrds_dg {k : Nat} (hk0 : 0 < k) : ∀ {n : Nat}, wrds k n = (List.range (k ^ n)).map (dg k n)
 | 0 => rfl
 | n + 1 => by
  have hp : 0 < k ^ n := Nat.pow_pos hk0
  rw [wrds, wrds_dg hk0]
  have h0 : lets k = (List.range k).map (cyL k) := by
   unfold lets
   refine List.map_congr_left fun j hj => ?_
   unfold cyL
   rw [Nat.mod_eq_of_lt (List.mem_range.1 hj)]
  rw [h0, List.flatMap_map, Nat.pow_succ, Nat.mul_comm (k ^ n)]
  have h1 : ∀ j ∈ List.range k, (((List.range (k ^ n)).map (dg k n)).map (cyL k j :: ·)) = ((List.range (k ^ n)).map fun t => dg k (n + 1) (j * k ^ n + t)) := by
   intro j hj
   rw [List.map_map]
   refine List.map_congr_left fun t ht => ?_
   have ht' := List.mem_range.1 ht
   show cyL k j :: dg k n t = _
   rw [dg_cons, ← dg_mod (v := j * k ^ n + t)]
   rw [show (j * k ^ n + t) / k ^ n = j by rw [Nat.mul_comm, Nat.mul_add_div hp, Nat.div_eq_of_lt ht', Nat.add_zero], show (j * k ^ n + t) % k ^ n = t by rw [Nat.mul_comm, Nat.mul_add_mod, Nat.mod_eq_of_lt ht']]
  rw [← range_flat (g := fun j => (List.range (k ^ n)).map fun t => dg k (n + 1) (j * k ^ n + t)) (fun j => rfl) k]
  rw [List.flatMap_def, List.flatMap_def, List.map_congr_left h1]
theorem f14_word {k : Nat} (hk0 : 0 < k) (hk : k ≤ 6) {F : Nat} {K : List UInt8 → Option Bool} : ∀ (n l v : Nat) (a : List UInt8), l + 1 ≤ n → v ≤ 10000 → a.length + l ≤ 100 → f14_L4 F (k : Int) K n (a, (v : Int), (l : Int)) = K (dg k l v ++ a)
 | 0, l, v, a, h, hv, ha => absurd h (by omega)
 | n + 1, 0, v, a, h, hv, ha => by
  rw [f14_L4]
  simp only [Option.bind_some]
  rw [decide_eq_false (by omega)]
  rfl
 | n + 1, l + 1, v, a, h, hv, ha => by
  rw [f14_L4]
  simp only [Option.bind_some]
  rw [decide_eq_true (show (0 : Int) < ((l + 1 : Nat) : Int) by omega)]
  simp only []
  unfold remO quoO
  rw [decide_eq_false (show ¬ (k : Int) = 0 by omega), tmod_nat]
  have h2 : v % k < 6 := Nat.lt_of_lt_of_le (Nat.mod_lt v hk0) hk
  simp only [Option.bind_some]
  rw [wrap_nat (by omega), sub_one (w := [97, 98, 99, 100, 101, 102]) (i := v % k) h2]
  simp only [Option.bind_some]
  have h3 : ([97, 98, 99, 100, 101, 102] : List UInt8)[v % k] = cyL k v := by
   have := cyL_get (i := v) hk0 hk
   rw [List.getElem?_eq_getElem h2] at this
   exact Option.some.inj this
  rw [h3, sadd_at (by simp; omega)]
  simp only [Option.bind_some]
  have h4 : Int.tdiv (v : Int) (k : Int) = ((v / k : Nat) : Int) := by rw [Int.tdiv_eq_ediv_of_nonneg (by omega)]; simp
  have h5 := Nat.div_le_self v k
  rw [h4]
  obtain ⟨V, hV⟩ : ∃ V, v / k = V := ⟨_, rfl⟩
  rw [hV] at h5
  rw [hV, wrap64 (z := (V : Int)) (by omega) (by omega), wrap64 (z := ((l + 1 : Nat) : Int) - 1) (by omega) (by omega), show ((l + 1 : Nat) : Int) - 1 = (l : Int) by omega]
  rw [f14_word hk0 hk n l V ([cyL k v] ++ a) (by omega) (by omega) (by simp; omega), dg, hV, List.append_assoc]
theorem f14_pow {k s : Nat} {F : Nat} {K : Int → Option Bool} (hs : s ≤ 100) (hp : ∀ t, t ≤ s → k ^ t ≤ 900) : ∀ (n t : Nat), s + 1 ≤ n + t → t ≤ s → f14_L2 F (k : Int) (s : Int) K n (((k ^ t : Nat) : Int), (t : Int)) = K ((k ^ s : Nat) : Int)
 | 0, t, h, ht => absurd h (by omega)
 | n + 1, t, h, ht => by
  rw [f14_L2]
  simp only [Option.bind_some]
  by_cases ht' : t < s
  ·rw [decide_eq_true (show (t : Int) < (s : Int) by omega)]
   simp only []
   have h1 := hp (t + 1) (by omega)
   have h2 : mulI .i64 ((k ^ t : Nat) : Int) (k : Int) = ((k ^ (t + 1) : Nat) : Int) := by
    unfold mulI
    have h3 : ((k ^ t : Nat) : Int) * (k : Int) = ((k ^ (t + 1) : Nat) : Int) := by rw [Nat.pow_succ]; simp
    rw [h3]
    generalize k ^ (t + 1) = N at h1
    rw [wrap64 (by omega) (by omega)]
   rw [h2, wrap64 (z := (t : Int) + 1) (by omega) (by omega)]
   exact f14_pow hs hp n (t + 1) (by omega) (by omega)
  ·obtain rfl : t = s := by omega
   rw [decide_eq_false (by omega)]
theorem f14_pass {k s : Nat} (hk0 : 0 < k) (hk : k ≤ 6) {F : Nat} (hF : 101 ≤ F) {w p : List UInt8} (hw : w.length ≤ 10) (hs : s ≤ 90) (hN : k ^ s ≤ 900) (hp : p.length ≠ s) (hall : ∀ v, v < k ^ s → leftW w (dg k s v) = true) {K : Int × Int × Int × Int × Int × Int × Int × Int × Int × Int × Int → Option Bool} {R : Int × Int × Int × Int × Int × Int × Int × Int × Int × Int × Int} :
  ∀ (n v : Nat), k ^ s + 1 ≤ n + v → v ≤ k ^ s → f14_L3 F (k : Int) w p (s : Int) ((k ^ s : Nat) : Int) K n ((v : Int), R) = K R
 | 0, v, h, hv => absurd h (by omega)
 | n + 1, v, h, hv => by
  obtain ⟨r1, r2, r3, r4, r5, r6, r7, r8, r9, r10, r11⟩ := R
  rw [f14_L3]
  simp only [Option.bind_some]
  by_cases hv' : v < k ^ s
  ·rw [decide_eq_true (show (v : Int) < ((k ^ s : Nat) : Int) by omega)]
   simp only []
   rw [f14_word hk0 hk F s v [] (by omega) (by omega) (by simp; omega), List.append_nil]
   skip
   rw [decide_eq_false (fun e => hp (by rw [← e, dg_len]))]
   simp only []
   rw [leftO_at (by omega), hall v hv']
   simp only [Option.bind_some]
   rw [wrap_nat (by omega)]
   exact f14_pass hk0 hk hF hw hs hN hp hall n (v + 1) (by omega) (by omega)
  ·obtain rfl : v = k ^ s := by omega
   rw [decide_eq_false (by omega)]
theorem f14_meet {k s i : Nat} (hk0 : 0 < k) (hk : k ≤ 6) {F : Nat} (hF : 101 ≤ F) {w p : List UInt8} (hw : w.length ≤ 10) (hs : s ≤ 90) (hN : k ^ s ≤ 900) (hi : i < k ^ s) (hpi : dg k s i = p) (hp : leftW w p = false) (hall : ∀ v, v < i → leftW w (dg k s v) = true) {K : Int × Int × Int × Int × Int × Int × Int × Int × Int × Int × Int → Option Bool} {R : Int × Int × Int × Int × Int × Int × Int × Int × Int × Int × Int} :
  ∀ (n v : Nat), i + 1 ≤ n + v → v ≤ i → f14_L3 F (k : Int) w p (s : Int) ((k ^ s : Nat) : Int) K n ((v : Int), R) = some true
 | 0, v, h, hv => absurd h (by omega)
 | n + 1, v, h, hv => by
  obtain ⟨r1, r2, r3, r4, r5, r6, r7, r8, r9, r10, r11⟩ := R
  rw [f14_L3]
  simp only [Option.bind_some]
  rw [decide_eq_true (show (v : Int) < ((k ^ s : Nat) : Int) by omega)]
  simp only []
  rw [f14_word hk0 hk F s v [] (by omega) (by omega) (by simp; omega), List.append_nil]
  skip
  by_cases hv' : v < i
  ·have h1 := hall v hv'
   have h2 : ¬ dg k s v = p := fun e => by rw [e, hp] at h1; cases h1
   rw [decide_eq_false h2]
   simp only []
   rw [leftO_at (by omega), h1]
   simp only [Option.bind_some]
   rw [wrap_nat (by omega)]
   exact f14_meet hk0 hk hF hw hs hN hi hpi hp hall n (v + 1) (by omega) (by omega)
  ·obtain rfl : v = i := by omega
   rw [hpi, decide_eq_true rfl]
   simp only []
   rw [leftO_at (by omega), hp]
   rfl
theorem f14_sizes {k U i : Nat} (hk : k + 1 ≤ 6) {F : Nat} (hF : 1000 ≤ F) {w p : List UInt8} (hw : w.length ≤ 10) (hU : U * (k + 1) ≤ 10) (hlen : p.length = U + 1) (hall : ∀ s, s ≤ U → ∀ v, v < (k + 1) ^ s → leftW w (dg (k + 1) s v) = true)
  (hi : i < (k + 1) ^ (U + 1)) (hpi : dg (k + 1) (U + 1) i = p) (hp : leftW w p = false) (hall2 : ∀ v, v < i → leftW w (dg (k + 1) (U + 1) v) = true) {K : Int × Int × Int × Int × Int × Int × Int × Int × Int × Int × Int → Option Bool} {R : Int × Int × Int × Int × Int × Int × Int × Int × Int × Int × Int} :
  ∀ (n s : Nat), U + 2 ≤ n + s → s ≤ U + 1 → f14_L1 F ((k + 1 : Nat) : Int) w p (U : Int) K n ((s : Int), R) = some true
 | 0, s, h, hs => absurd h (by omega)
 | n + 1, s, h, hs => by
  obtain ⟨r1, r2, r3, r4, r5, r6, r7, r8, r9, r10, r11⟩ := R
  have hU10 : U ≤ 10 := Nat.le_trans (Nat.le_mul_of_pos_right U (by omega)) hU
  have hpw := pow_le hk hU
  rw [f14_L1]
  simp only [Option.bind_some]
  rw [wrap_nat (by omega), decide_eq_true (show (s : Int) ≤ ((U + 1 : Nat) : Int) by omega)]
  simp only []
  rw [show ((1 : Int), (0 : Int)) = ((((k + 1) ^ 0 : Nat) : Int), ((0 : Nat) : Int)) from rfl, f14_pow (by omega) (fun t ht => hpw t (by omega)) F 0 (by omega) (by omega)]
  have hN := hpw s hs
  by_cases hs' : s ≤ U
  ·rw [show (0 : Int) = ((0 : Nat) : Int) from rfl, f14_pass (by omega) hk (by omega) hw (by omega) hN (by omega) (hall s hs') F 0 (by omega) (by omega)]
   simp only [Option.bind_some]
   rw [wrap_nat (by omega)]
   exact f14_sizes hk hF hw hU hlen hall hi hpi hp hall2 n (s + 1) (by omega) (by omega)
  ·obtain rfl : s = U + 1 := by omega
   rw [show (0 : Int) = ((0 : Nat) : Int) from rfl]
   exact f14_meet (by omega) hk (by omega) hw (by omega) hN hi hpi hp hall2 F 0 (by omega) (by omega)
theorem f14_law {l : List Int} (hl : l.length = 11) {a b c d e f g h i j k : Int} (he : l = [a, b, c, d, e, f, g, h, i, j, k]) (hb : ∀ z ∈ l, byteI z) {p : Int} (hp : byteI p) {F : Nat} (hF : 1000 ≤ F) : f14S F a b c d e f g h i j k p = some true := by
 obtain ⟨R, rfl⟩ : ∃ R : Nat, p = R := ⟨p.toNat, (Int.toNat_of_nonneg hp.1).symm⟩
 obtain ⟨q, hq, hq6⟩ : ∃ q : Nat, R % 4 = q ∧ q < 4 := ⟨_, rfl, Nat.mod_lt R (show 0 < 4 by omega)⟩
 unfold f14S
 rw [← he]
 simp only [Option.bind_some]
 rw [wrap64 (z := (R : Int)) (by omega) (by have := hp.2; omega), show (4 : Int) = ((4 : Nat) : Int) from rfl, tmod_nat, show IntKind.i64.wrap (1 + ((R % 4 : Nat) : Int)) = ((q + 1 : Nat) : Int) by rw [wrap64 (by omega) (by omega)]; omega]
 obtain ⟨w, hw, hwl, hwm⟩ := made_law hl hb (n := 10) (k := q + 1) (by omega) (by omega) (by omega)
 rw [show (10 : Int) = ((10 : Nat) : Int) from rfl, hw]
 simp only [Option.bind_some]
 have hk : q + 1 ≤ 6 := by omega
 obtain ⟨U, hU⟩ : ∃ U, arN (q + 1) [] w = U := ⟨_, rfl⟩
 obtain ⟨pp, hpp⟩ := fab_some hwm
 have h38 := (f38_law (w := w) (k := ((q + 1 : Nat) : Int)) (F := F) (by omega)).2 q pp (lettW_made hwl (by omega) hk hwm) rfl hpp
 have hAL := archI_len hk hwm
 rw [hU] at hAL
 have hU2 : U * (q + 1) ≤ 10 := by
  have := archL_mul (k := q + 1) (w := w) (m := []) (i := 0)
  have h2 : (archL (q + 1) [] w 0).length = U := by rw [← hAL]; unfold archI; rw [List.length_map]
  rw [h2, List.length_nil] at this
  omega
 have hU10 : U ≤ 10 := Nat.le_trans (Nat.le_mul_of_pos_right U (by omega)) hU2
 rw [hU, ← find_wrds] at hpp
 obtain ⟨hpf, as1, bs1, hab, hbef⟩ := List.find?_eq_some_iff_append.1 hpp
 have hpfalse : leftW w pp = false := by simpa using hpf
 have hplen : pp.length = U + 1 := wrds_each pp (by rw [hab]; simp)
 rw [f36_law (by omega) hwl (by omega) hk hwm, h38]
 simp only [Option.bind_some, decide_true]
 rw [decide_eq_false (by rw [hAL]; omega)]
 simp only []
 rw [hAL, wrap_nat (by omega), hplen, decide_eq_true rfl]
 simp only []
 have hdgs : ∀ s v, v < (q + 1) ^ s → (wrds (q + 1) s)[v]? = some (dg (q + 1) s v) := fun s v hv => by
  rw [wrds_dg (by omega), List.getElem?_map, List.getElem?_range hv]
  rfl
 have hi : as1.length < (q + 1) ^ (U + 1) := by
  rw [← wrds_len, hab, List.length_append, List.length_cons]
  omega
 have hpi : dg (q + 1) (U + 1) as1.length = pp := by
  have h1 := hdgs (U + 1) as1.length hi
  rw [hab] at h1
  simpa using h1.symm
 have hall2 : ∀ v, v < as1.length → leftW w (dg (q + 1) (U + 1) v) = true := fun v hv => by
  have h1 := hdgs (U + 1) v (by omega)
  rw [hab, List.getElem?_append_left hv, List.getElem?_eq_getElem hv] at h1
  have h2 := hbef as1[v] (List.getElem_mem hv)
  rw [Option.some.inj h1] at h2
  simpa using h2
 have hall : ∀ s, s ≤ U → ∀ v, v < (q + 1) ^ s → leftW w (dg (q + 1) s v) = true := fun s hs v hv => by
  have h1 := (fab_none (n := s) hwm).2 (by rw [hU]; exact hs)
  rw [← find_wrds, List.find?_eq_none] at h1
  have h2 := h1 (dg (q + 1) s v) (List.mem_of_getElem? (hdgs s v hv))
  simpa using h2
 have hLI : ((archI (q + 1) w).length : Int) = (U : Int) := by rw [hAL]
 rw [← hLI, show ((0 : Int), (0 : Int), a, b, c, d, e, f, g, h, i, j, k) = (((0 : Nat) : Int), ((([] : List Int).length : Nat) : Int), (a, b, c, d, e, f, g, h, i, j, k)) from rfl]
 refine f14_ends (by omega) hk hwl hwm (by omega) (fun z hz hnf => ?_) F 0 [] (by omega) (by omega) rfl (Nat.le_refl _)
 simp only []
 rw [subF_at hz]
 simp only [Option.bind_some]
 rw [f54_law (by omega)]
 simp only [Option.bind_some]
 have hne : ¬ (dif (w.drop z) : Int) = ((q + 1 : Nat) : Int) := fun e => by
  have := (dif_full hk (x := w.drop z) (fun x hx => hwm x (List.mem_of_mem_drop hx))).1 (by omega)
  rw [hnf] at this
  cases this
 rw [decide_eq_false hne]
 simp only []
 rw [hLI, show ((1 : Int), a, b, c, d, e, f, g, h, i, j, k) = (((1 : Nat) : Int), (a, b, c, d, e, f, g, h, i, j, k)) from rfl]
 exact f14_sizes hk hF hwl hU2 hplen hall hi hpi hpfalse hall2 F 1 (by omega) (by omega)
end Go.Proofs.Ytmnmfmghmenkkaa
