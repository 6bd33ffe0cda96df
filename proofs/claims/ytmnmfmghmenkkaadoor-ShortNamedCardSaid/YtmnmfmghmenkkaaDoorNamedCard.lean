/-
  What the functions compute.
  Other names of the letters: ways,counts and arches stay.
  ShortNamed in the model.
  ShortNamed: other names of letters
  Conditions: the row's own (the tables of unicode/utf8 are as the text lays them; they are not read).
-/
import Derived.Deep.DeepCutAuto
import Derived.Deep.DeepMust
import Derived.Deep.LoopGhost
import Derived.Deep.RegionHeld3
import Derived.Lib.SmallJoins
import Derived.Shelf.RegionOpenPlain
import Derived.Sort.AtCall
import Derived.Sort.OwnSorted
import Derived.Sort.WalkB12
import Derived.Test.YtmnmfmghmenkkaaDoorPart4
set_option linter.unusedSimpArgs false
set_option linter.unusedVariables false
namespace Go.Proofs.YtmnmfmghmenkkaaDoor
open Go.Abs Go.Pur
set_option maxRecDepth 100000
def lets (k : Nat) : List UInt8 := (List.range k).map fun j => UInt8.ofNat (97 + j)
def bhd : List UInt8 → UInt8 → Option (List UInt8)
 | [],_ => none
 | x :: w,c => if x = c then some w else bhd w c
def leftW : List UInt8 → List UInt8 → Bool
 | _,[] => true
 | [],_ :: _ => false
 | c :: w,d :: p => if c = d then leftW w p else leftW w (d :: p)
theorem left_nil {w : List UInt8} : leftW w [] = true := by cases w <;> rfl
theorem nodup_le {α : Type} [DecidableEq α] : ∀ {l m : List α},l.Nodup → (∀ x ∈ l,x ∈ m) → l.length ≤ m.length
 | [],m,_,_ => Nat.zero_le _
 | x :: l,m,hn,hs => by
  have h1 := List.nodup_cons.1 hn
  have hx := hs x List.mem_cons_self
  have h2 : ∀ y ∈ l,y ∈ m.erase x := fun y hy => (List.mem_erase_of_ne (fun e => h1.1 (by rw [← e]; exact hy))).2 (hs y (List.mem_cons_of_mem _ hy))
  have h3 := nodup_le h1.2 h2
  rw [List.length_erase_of_mem hx] at h3
  have h4 : 0 < m.length := List.length_pos_of_mem hx
  simp only [List.length_cons]
  omega
theorem lets_mem {k : Nat} (hk : k ≤ 6) {c : UInt8} : c ∈ lets k ↔ 97 ≤ c.toNat ∧ c.toNat < 97 + k := by
 unfold lets
 rw [List.mem_map]
 constructor
 ·rintro ⟨j,hj,rfl⟩
  have := List.mem_range.1 hj
  have e : (UInt8.ofNat (97 + j)).toNat = 97 + j := by
   rw [UInt8.toNat_ofNat']; omega
  omega
 ·rintro ⟨h1,h2⟩
  refine ⟨c.toNat - 97,List.mem_range.2 (by omega), ?_⟩
  apply UInt8.toNat_inj.1
  rw [UInt8.toNat_ofNat']
  omega
theorem bhd_left {c : UInt8} {p : List UInt8} : ∀ {w : List UInt8},leftW w (c :: p) = match bhd w c with
  | some w' => leftW w' p
  | none => false
 | [] => by rw [leftW,bhd]
 | x :: w => by
  rw [leftW,bhd]
  by_cases h : x = c
  ·rw [if_pos h,if_pos h]
  ·rw [if_neg h,if_neg h]; exact bhd_left
theorem gS_at {l : List UInt8} {k : Nat} (h : k < l.length) : gS l (k : Int) = some (l[k].toNat : Int) := by
 show gS l (Int.ofNat k) = _
 simp only [gS]
 rw [List.getElem?_eq_getElem h]
theorem gI_at {l : List Int} {k : Nat} (h : k < l.length) : gI l (k : Int) = some l[k] := by
 show gI l (Int.ofNat k) = _
 simp only [gI]
 rw [List.getElem?_eq_getElem h]
theorem sI_at {l : List Int} {k : Nat} {v : Int} (h : k < l.length) : sI l (k : Int) v = some (l.set k v) := by
 show sI l (Int.ofNat k) v = _
 simp only [sI]
 rw [show Nat.blt k l.length = true from Nat.ble_eq_true_of_le h]
def bothW (w p : List UInt8) : Int := if checkW w = 0 then checkW p else checkW w
theorem f57_run {w p : List UInt8} {F n : Nat} : f57_L0 F [w,p] 2 (fun _ => some 0) (n + 1 + 1 + 1) 0 = some (bothW w p) := by
 have w0 : IntKind.i64.wrap ((0 : Int) + 1) = 1 := by decide
 have w1 : IntKind.i64.wrap ((1 : Int) + 1) = 2 := by decide
 have g0 : gI [w,p] 0 = some w := rfl
 have g1 : gI [w,p] 1 = some p := rfl
 unfold f57_L0
 simp only [Option.bind_some,g0]
 rw [show decide ((0 : Int) < 2) = true from rfl]
 simp only []
 unfold bothW
 by_cases h : checkW w = 0
 ·rw [decide_eq_true h,if_pos h]
  simp only [w0]
  unfold f57_L0
  simp only [Option.bind_some,g1]
  rw [show decide ((1 : Int) < 2) = true from rfl]
  simp only []
  by_cases h2 : checkW p = 0
  ·rw [decide_eq_true h2,h2]
   simp only [w1]
   unfold f57_L0
   simp only [Option.bind_some]
   rw [show decide ((2 : Int) < 2) = false from rfl]
  ·rw [decide_eq_false h2]
 ·rw [decide_eq_false h,if_neg h]
def cnt : List UInt8 → List UInt8 → Nat
 | _,[] => 1
 | [],_ :: _ => 0
 | c :: w,d :: p => (if c = d then cnt w p else 0) + cnt w (d :: p)
theorem cnt_nil {w : List UInt8} : cnt w [] = 1 := by cases w <;> rfl
theorem cnt_le : ∀ (w p : List UInt8),cnt w p ≤ 2 ^ w.length
 | w,[] => by rw [cnt_nil]; exact Nat.one_le_two_pow
 | [],_ :: _ => by simp [cnt]
 | c :: w,d :: p => by
  have h1 := cnt_le w p
  have h2 := cnt_le w (d :: p)
  rw [cnt,List.length_cons,Nat.pow_succ]
  split <;> omega
theorem cnt_snoc {c d : UInt8} : ∀ (w p : List UInt8),cnt (w ++ [c]) (p ++ [d]) = cnt w (p ++ [d]) + if c = d then cnt w p else 0
 | [],[] => by simp [cnt]
 | [],e :: p => by
  have h : ∀ l : List UInt8,cnt [] (l ++ [d]) = 0 := fun l => by cases l <;> rfl
  simp [cnt,h]
 | a :: w,[] => by
  have := cnt_snoc (c := c) (d := d) w []
  simp only [List.nil_append,List.cons_append,cnt,cnt_nil] at this ⊢
  omega
 | a :: w,e :: p => by
  have h1 := cnt_snoc (c := c) (d := d) w p
  have h2 := cnt_snoc (c := c) (d := d) w (e :: p)
  simp only [List.cons_append,cnt] at h1 h2 ⊢
  rw [h2]
  by_cases ha : a = e
  ·simp only [if_pos ha,h1]
   split <;> omega
  ·simp only [if_neg ha]
   split <;> omega
theorem f24_run {l : List Int} {F : Nat} (hl : l.length ≤ 10) : ∀ (n k : Nat),l.length + 1 ≤ n + k → k ≤ l.length → f24_L0 F l l (fun _ => some true) n k = some true
 | 0,k,h,hk => absurd h (by omega)
 | n + 1,k,h,hk => by
  unfold f24_L0
  simp only [Option.bind_some]
  by_cases hk' : k < l.length
  ·rw [decide_eq_true (show (k : Int) < (l.length : Int) by omega)]
   have w1 : IntKind.i64.wrap ((k : Int) + 1) = ((k + 1 : Nat) : Int) := wrap_nat (by omega)
   simp only [gI_at hk',Option.bind_some,decide_true,w1]
   exact f24_run hl n (k + 1) (by omega) (by omega)
  ·rw [decide_eq_false (show ¬ (k : Int) < (l.length : Int) by omega)]
theorem f24_any {l : List Int} {F : Nat} (hF : 11 ≤ F) (hl : l.length ≤ 10) : f24S F l l = some true := by
 have := f24_run (F := F) hl F 0 (by omega) (by omega)
 simpa [f24S] using this
def tab (p a b : List UInt8) (t : Nat) : List Int := (List.range (p.length + 1)).map fun s => ((if s ≤ t then cnt a (p.take s) else cnt b (p.take s) : Nat) : Int)
theorem tab_len {p a b : List UInt8} {t : Nat} : (tab p a b t).length = p.length + 1 := by simp [tab]
theorem tab_at {p a b : List UInt8} {t s : Nat} (h : s < (tab p a b t).length) : (tab p a b t)[s] = ((if s ≤ t then cnt a (p.take s) else cnt b (p.take s) : Nat) : Int) := by simp [tab]
theorem take_one {p : List UInt8} {u : Nat} (h : u < p.length) : p.take (u + 1) = p.take u ++ [p[u]] := by
 rw [List.take_add_one,List.getElem?_eq_getElem h]
 rfl
theorem tab_same {p a : List UInt8} {c : UInt8} {u : Nat} (h : u < p.length) (hc : c ≠ p[u]) : tab p a (a ++ [c]) (u + 1) = tab p a (a ++ [c]) u := by
 apply List.ext_getElem
 ·rw [tab_len,tab_len]
 ·intro s h1 h2
  rw [tab_at h1,tab_at h2]
  by_cases hs : s ≤ u
  ·rw [if_pos hs,if_pos (by omega)]
  ·rw [if_neg hs]
   by_cases hs' : s ≤ u + 1
   ·obtain rfl : s = u + 1 := by omega
    rw [if_pos hs',take_one h,cnt_snoc,if_neg hc]
    rfl
   ·rw [if_neg hs']
theorem tab_set {p a : List UInt8} {c : UInt8} {u : Nat} (h : u < p.length) (hc : c = p[u]) : (tab p a (a ++ [c]) (u + 1)).set (u + 1) ((cnt a (p.take (u + 1)) : Int) + (cnt a (p.take u) : Int)) = tab p a (a ++ [c]) u := by
 apply List.ext_getElem
 ·rw [List.length_set,tab_len,tab_len]
 ·intro s h1 h2
  rw [List.getElem_set,tab_at h2]
  by_cases hs : u + 1 = s
  ·subst hs
   rw [if_pos rfl,if_neg (by omega),take_one h,cnt_snoc,if_pos hc]
   omega
  ·rw [if_neg hs,tab_at]
   by_cases hs' : s ≤ u
   ·rw [if_pos hs',if_pos (by omega)]
   ·rw [if_neg hs',if_neg (by omega)]
theorem f20_in {F : Nat} {p a : List UInt8} {c : UInt8} {K : List Int → Option (Int × Int)} (hp : p.length ≤ 10) (ha : a.length ≤ 10) :
  ∀ (n t : Nat),t + 1 ≤ n → t ≤ p.length → f20_L1 F p (c.toNat : Int) K n ((t : Int),tab p a (a ++ [c]) t) = K (tab p a (a ++ [c]) 0)
 | 0,t,h,ht => absurd h (by omega)
 | n + 1,0,h,ht => by
  unfold f20_L1
  simp only [Option.bind_some]
  rfl
 | n + 1,u + 1,h,ht => by
  unfold f20_L1
  simp only [Option.bind_some]
  rw [decide_eq_true (show (0 : Int) < ((u + 1 : Nat) : Int) by omega)]
  have w0 : IntKind.i64.wrap (((u + 1 : Nat) : Int) - 1) = (u : Int) := by
   rw [show ((u + 1 : Nat) : Int) - 1 = (u : Int) by omega]
   exact wrap64 (by omega) (by omega)
  have hu : u < p.length := by omega
  simp only [w0,gS_at hu,Option.bind_some]
  by_cases hc : c = p[u]
  ·rw [decide_eq_true (show ((p[u].toNat : Nat) : Int) = (c.toNat : Int) by rw [hc])]
   have g1 : gI (tab p a (a ++ [c]) (u + 1)) ((u + 1 : Nat) : Int) = some (cnt a (p.take (u + 1)) : Int) := by
    rw [gI_at (by rw [tab_len]; omega),tab_at,if_pos (by omega)]
   have g2 : gI (tab p a (a ++ [c]) (u + 1)) (u : Int) = some (cnt a (p.take u) : Int) := by
    rw [gI_at (by rw [tab_len]; omega),tab_at,if_pos (by omega)]
   have b1 := cnt_le a (p.take (u + 1))
   have b2 := cnt_le a (p.take u)
   have b3 : 2 ^ a.length ≤ 2 ^ 10 := Nat.pow_le_pow_right (by omega) ha
   have w1 : IntKind.i64.wrap ((cnt a (p.take (u + 1)) : Int) + (cnt a (p.take u) : Int)) = (cnt a (p.take (u + 1)) : Int) + (cnt a (p.take u) : Int) := wrap64 (by omega) (by omega)
   simp only [g1,g2,Option.bind_some,w1]
   rw [sI_at (by rw [tab_len]; omega),tab_set hu hc]
   exact f20_in hp ha n u (by omega) (by omega)
  ·have hn : ¬ ((p[u].toNat : Nat) : Int) = (c.toNat : Int) := fun h => hc (UInt8.toNat_inj.1 (by omega))
   rw [decide_eq_false hn,tab_same hu hc]
   exact f20_in hp ha n u (by omega) (by omega)
theorem tab_next {p a b c : List UInt8} : tab p a b 0 = tab p b c p.length := by
 apply List.ext_getElem
 ·rw [tab_len,tab_len]
 ·intro s h1 h2
  rw [tab_at h1,tab_at h2]
  have : s ≤ p.length := by rw [tab_len] at h1; omega
  rw [if_pos this]
  by_cases hs : s ≤ 0
  ·obtain rfl : s = 0 := by omega
   simp [cnt_nil]
  ·rw [if_neg hs]
theorem tab_first {p b : List UInt8} : (List.replicate (p.length + 1) (0 : Int)).set 0 1 = tab p [] b p.length := by
 apply List.ext_getElem
 ·rw [tab_len]; simp
 ·intro s h1 h2
  rw [tab_at h2]
  have : s ≤ p.length := by rw [tab_len] at h2; omega
  rw [if_pos this,List.getElem_set]
  cases s with
  | zero => simp [cnt_nil]
  | succ s =>
   rw [take_one (by omega),List.getElem_replicate]
   have : ∀ (l : List UInt8) (d : UInt8),cnt [] (l ++ [d]) = 0 := fun l d => by cases l <;> rfl
   rw [this]
   rfl
theorem f20_out {F : Nat} {w p : List UInt8} {x12 : List Int} {K : List Int → Option (Int × Int)} (hF : 12 ≤ F) (hw : w.length ≤ 10) (hp : p.length ≤ 10) (hx : x12 = w.map fun b => (b.toNat : Int)) :
  ∀ (n k : Nat),w.length + 1 ≤ n + k → k ≤ w.length → f20_L0 F p x12 w.length K n ((k : Int),tab p (w.take k) (w.take (k + 1)) p.length) = K (tab p w w p.length)
 | 0,k,h,hk => absurd h (by omega)
 | n + 1,k,h,hk => by
  unfold f20_L0
  simp only [Option.bind_some]
  by_cases hk' : k < w.length
  ·rw [decide_eq_true (show (k : Int) < (w.length : Int) by omega)]
   have hg : gI x12 (k : Int) = some (w[k].toNat : Int) := by
    rw [gI_at (by rw [hx,List.length_map]; exact hk')]
    simp [hx]
   have w1 : IntKind.i64.wrap ((k : Int) + 1) = ((k + 1 : Nat) : Int) := wrap_nat (by omega)
   simp only [hg,Option.bind_some]
   rw [take_one hk',f20_in hp (by rw [List.length_take]; omega) F p.length (by omega) (Nat.le_refl _)]
   simp only [w1]
   rw [tab_next (c := w.take (k + 1 + 1)),← take_one hk']
   exact f20_out hF hw hp hx n (k + 1) (by omega) (by omega)
  ·obtain rfl : k = w.length := by omega
   rw [decide_eq_false (show ¬ (w.length : Int) < (w.length : Int) by omega)]
   simp only []
   rw [List.take_of_length_le (Nat.le_refl _),List.take_of_length_le (by omega)]
theorem f20_law {F : Nat} {w p : List UInt8} (hF : 12 ≤ F) (hw : w.length ≤ 10) (hp : p.length ≤ 10) (h0 : f57S F [w,p] = some 0) : f20S F w p = some ((cnt w p : Int),0) := by
 unfold f20S
 rw [h0]
 have hb : bytO w = some (w.map fun b => (b.toNat : Int)) := by
  unfold bytO
  rw [show Nat.ble w.length 1000000 = true from Nat.ble_eq_true_of_le (by omega)]
 have w1 : IntKind.i64.wrap ((p.length : Int) + 1) = ((p.length + 1 : Nat) : Int) := wrap_nat (by omega)
 have hm : mkN ((p.length + 1 : Nat) : Int) = some (p.length + 1) := by
  show mkN (Int.ofNat (p.length + 1)) = _
  simp only [mkN]
  rw [show Nat.ble (p.length + 1) 1000000 = true from Nat.ble_eq_true_of_le (by omega)]
 have hn : gN (p.length + 1) = some () := by
  unfold gN
  rw [show Nat.ble (p.length + 1) 1000000 = true from Nat.ble_eq_true_of_le (by omega)]
 have h1 : gI (List.replicate (p.length + 1) (0 : Int)) 0 = some 0 := gI_at (k := 0) (by simp)
 have h2 : sI (List.replicate (p.length + 1) (0 : Int)) 0 1 = some (tab p (w.take 0) (w.take (0 + 1)) p.length) := by
  rw [List.take_zero,← tab_first (b := w.take (0 + 1))]
  exact sI_at (k := 0) (by simp)
 simp only [Option.bind_some,decide_true,w1,hm,hn,h1,h2,hb,List.length_map]
 refine Eq.trans (f20_out hF hw hp rfl F 0 (by omega) (by omega)) ?_
 rw [gI_at (by rw [tab_len]; omega),tab_at,if_pos (Nat.le_refl _),List.take_of_length_le (Nat.le_refl _)]
 rfl
theorem f57_any {w p : List UInt8} {F : Nat} (hF : 3 ≤ F) : f57S F [w,p] = some (bothW w p) := by
 obtain ⟨n,rfl⟩ : ∃ n,F = n + 1 + 1 + 1 := ⟨F - 3,by omega⟩
 exact f57_run
theorem f57_ok {w p : List UInt8} {F : Nat} (hF : 3 ≤ F) (hw : checkW w = 0) (hp : checkW p = 0) : f57S F [w,p] = some 0 := by
 rw [f57_any hF]
 unfold bothW
 rw [if_pos hw,hp]
def lettW (w : List UInt8) (k : Int) : Int := if checkW w = 0 then (if k < 1 ∨ 6 < k then 1 else if w.any (fun c => decide (97 + k ≤ (c.toNat : Int))) then 2 else 0) else checkW w
theorem checkW_all {w : List UInt8} (h : checkW w = 0) : w.length ≤ 10 ∧ ∀ c ∈ w,97 ≤ c.toNat ∧ c.toNat < 103 := by
 unfold checkW at h
 split at h
 ·cases h
 ·split at h
  ·rename_i h1 h2
   refine ⟨by omega,fun c hc => ?_⟩
   have := List.all_eq_true.1 h2 c hc
   unfold letW at this
   simp only [Bool.and_eq_true,decide_eq_true_eq] at this
   exact this
  ·cases h
theorem gA_at {l : List UInt8} {k : Nat} (h : k < l.length) (ha : l[k].toNat < 103) : gA l k = some l[k].toNat := by
 unfold gA
 rw [List.getElem?_eq_getElem h]
 simp only []
 rw [show Nat.blt l[k].toNat 128 = true from Nat.ble_eq_true_of_le (by omega)]
theorem ble_lt {a b : Nat} (h : a < b) : Nat.ble (a + 1) b = true := Nat.ble_eq_true_of_le h
theorem ble_ge {a b : Nat} (h : b ≤ a) : Nat.ble (a + 1) b = false := Bool.eq_false_iff.2 fun e => absurd (Nat.le_of_ble_eq_true e) (by omega)
theorem wrap32 {z : Int} (h1 : 0 ≤ z) (h2 : z < 1000) : IntKind.i32.wrap z = z := by
 have e : IntKind.i32.wrap z = if z % 4294967296 ≥ 2147483648 then z % 4294967296 - 4294967296 else z % 4294967296 := by
  unfold IntKind.wrap
  by_cases h : z % 4294967296 ≥ 2147483648
  ·rw [if_pos h]
   simp [IntKind.bits,IntKind.signed]
   omega
  ·rw [if_neg h]
   simp [IntKind.bits,IntKind.signed]
   omega
 rw [e]
 split <;> omega
theorem f64_run {w : List UInt8} {k : Int} {F : Nat} (hw : w.length ≤ 10) (hl : ∀ c ∈ w,c.toNat < 103) (h1 : 1 ≤ k) (h6 : k ≤ 6) : ∀ (n i : Nat),w.length + 1 ≤ n + i → i ≤ w.length → f64_L0 F w k (fun _ => some 0) n i = some (if (w.drop i).any (fun c => decide (97 + k ≤ (c.toNat : Int))) then 2 else 0)
 | 0,i,h,hi => absurd h (by omega)
 | n + 1,i,h,hi => by
  unfold f64_L0
  simp only [Option.bind_some]
  by_cases hi' : i < w.length
  ·rw [ble_lt hi',gA_at hi' (hl _ (List.getElem_mem hi'))]
   simp only [Option.bind_some]
   rw [wrap32 (z := k) (by omega) (by omega),wrap32 (z := 97 + k) (by omega) (by omega),List.drop_eq_getElem_cons hi',List.any_cons]
   by_cases hc : 97 + k ≤ (w[i].toNat : Int)
   ·rw [decide_eq_true hc]; rfl
   ·rw [decide_eq_false hc,Bool.false_or]
    exact f64_run hw hl h1 h6 n (i + 1) (by omega) (by omega)
  ·rw [ble_ge (by omega),List.drop_eq_nil_of_le (by omega)]
   rfl
theorem f64_law {w : List UInt8} {k : Int} {F : Nat} (hF : 12 ≤ F) : f64S F w k = some (lettW w k) := by
 unfold f64S lettW
 simp only [Option.bind_some]
 by_cases hc : checkW w = 0
 ·rw [decide_eq_true hc,if_pos hc]
  obtain ⟨hw,hl⟩ := checkW_all hc
  by_cases h1 : k < 1
  ·simp only [decide_eq_true h1]
   rw [if_pos (.inl h1)]
  ·by_cases h6 : 6 < k
   ·simp only [decide_eq_false h1,decide_eq_true h6]
    rw [if_pos (.inr h6)]
   ·simp only [decide_eq_false h1,decide_eq_false h6]
    rw [if_neg (by omega)]
    exact f64_run hw (fun c h => (hl c h).2) (by omega) (by omega) F 0 (by omega) (by omega)
 ·rw [decide_eq_false hc,if_neg hc]
def archL (k : Nat) : List UInt8 → List UInt8 → Nat → List Nat
 | _,[],_ => []
 | m,c :: w,i => if (if c ∈ m then m else m ++ [c]).length = k then (i + 1) :: archL k [] w (i + 1) else archL k (if c ∈ m then m else m ++ [c]) w (i + 1)
theorem mSet_keys {K V : Type} [DecidableEq K] {c : Nat} {k : K} {v : V} : ∀ {l : Mp K V},(mSet c k v l).map (·.1) = if k ∈ l.map (·.1) then l.map (·.1) else l.map (·.1) ++ [k]
 | [] => rfl
 | e :: l => by
  unfold mSet
  by_cases h : e.1 = k
  ·rw [decide_eq_true h]
   simp [h]
  ·rw [decide_eq_false h]
   simp only [List.map_cons,mSet_keys (l := l),List.mem_cons]
   by_cases h2 : k ∈ l.map (·.1)
   ·rw [if_pos h2,if_pos (.inr h2)]
   ·rw [if_neg h2,if_neg (fun e' => e'.elim (fun e' => h e'.symm) h2)]; rfl
theorem mem_nat {c : UInt8} {m : List UInt8} : (c.toNat : Int) ∈ m.map (fun c => (c.toNat : Int)) ↔ c ∈ m := by
 rw [List.mem_map]
 constructor
 ·rintro ⟨d,hd,e⟩
  have : d = c := UInt8.toNat_inj.1 (by omega)
  rwa [← this]
 ·exact fun h => ⟨c,h,rfl⟩
theorem f65_run {w : List UInt8} {k F : Nat} (hw : w.length ≤ 10) (hl : ∀ c ∈ w,c.toNat < 103) {K : List Int → Option (Ck × List Int)} : ∀ (n i : Nat) (m : List UInt8) (v : List Int) (l : Mp Int Bool) (c : Nat),w.length + 1 ≤ n + i → i ≤ w.length → v.length ≤ i → l.map (·.1) = m.map (fun c => (c.toNat : Int)) →
  f65_L0 F w k K n (v,l,c,i) = K (v ++ (archL k m (w.drop i) i).map fun (x : Nat) => (x : Int))
 | 0,i,m,v,l,c,h,hi,hv,hm => absurd h (by omega)
 | n + 1,i,m,v,l,c,h,hi,hv,hm => by
  unfold f65_L0
  simp only [Option.bind_some]
  by_cases hi' : i < w.length
  ·rw [ble_lt hi',gA_at hi' (hl _ (List.getElem_mem hi')),List.drop_eq_getElem_cons hi']
   simp only [Option.bind_some]
   have hk : (mSet c (w[i].toNat : Int) true l).map (·.1) = (if w[i] ∈ m then m else m ++ [w[i]]).map (fun c => (c.toNat : Int)) := by
    rw [mSet_keys,hm]
    by_cases h1 : w[i] ∈ m
    ·rw [if_pos (mem_nat.2 h1),if_pos h1]
    ·rw [if_neg (fun e => h1 (mem_nat.1 e)),if_neg h1]; simp
   have hlen : (mSet c (w[i].toNat : Int) true l).length = (if w[i] ∈ m then m else m ++ [w[i]]).length := by
    have := congrArg List.length hk
    simpa using this
   rw [archL,hlen]
   by_cases h1 : (if w[i] ∈ m then m else m ++ [w[i]]).length = k
   ·rw [decide_eq_true (show (((if w[i] ∈ m then m else m ++ [w[i]]).length : Nat) : Int) = (k : Int) by omega),if_pos h1]
    simp only []
    rw [wrap_nat (by omega)]
    unfold app1
    rw [Nat.ble_eq_true_of_le (show v.length ≤ 1000000 by omega)]
    simp only [Option.bind_some]
    rw [f65_run hw hl n (i + 1) [] _ [] _ (by omega) (by omega) (by simp; omega) rfl]
    simp
   ·rw [decide_eq_false (show ¬ (((if w[i] ∈ m then m else m ++ [w[i]]).length : Nat) : Int) = (k : Int) by omega),if_neg h1]
    exact f65_run hw hl n (i + 1) _ v _ _ (by omega) (by omega) (by omega) hk
  ·rw [ble_ge (by omega),List.drop_eq_nil_of_le (by omega)]
   simp [archL]
def archI (k : Nat) (w : List UInt8) : List Int := (archL k [] w 0).map fun (x : Nat) => (x : Int)
theorem f65_law {w : List UInt8} {k F : Nat} (hF : 12 ≤ F) (hw : w.length ≤ 10) (hl : ∀ c ∈ w,c.toNat < 103) : f65S F w k = some (.nz,archI k w) := by
 unfold f65S
 exact f65_run hw hl F 0 [] [] [] 0 (by omega) (by omega) (by simp) rfl
theorem leftW_sub : ∀ {w p : List UInt8},leftW w p = true ↔ p.Sublist w
 | w,[] => by simp [left_nil]
 | [],d :: p => by rw [leftW]; simp
 | c :: w,d :: p => by
  rw [leftW]
  by_cases h : c = d
  ·subst h
   rw [if_pos rfl,leftW_sub,List.cons_sublist_cons]
  ·rw [if_neg h,leftW_sub]
   constructor
   ·exact fun e => e.cons _
   ·intro e
    cases e with
    | cons _ e => exact e
    | cons_cons => exact absurd rfl h
def prt : List UInt8 → List (List UInt8)
 | [] => [[]]
 | c :: w => prt w ++ ((prt w).filter fun p => !leftW w (c :: p)).map (c :: ·)
theorem prt_mem : ∀ {w p : List UInt8},p ∈ prt w ↔ leftW w p = true
 | [],p => by
  cases p with
  | nil => simp [prt,leftW]
  | cons d p => simp [prt,leftW]
 | c :: w,p => by
  rw [prt,List.mem_append,List.mem_map,prt_mem]
  cases p with
  | nil => simp [left_nil]
  | cons d p =>
   rw [leftW]
   by_cases h : c = d
   ·subst h
    rw [if_pos rfl]
    constructor
    ·rintro (h | ⟨q,hq,e⟩)
     ·exact leftW_sub.2 ((List.sublist_cons_self _ _).trans (leftW_sub.1 h))
     ·cases e
      exact prt_mem.1 (List.mem_filter.1 hq).1
    ·intro h
     by_cases h2 : leftW w (c :: p) = true
     ·exact .inl h2
     ·exact .inr ⟨p,List.mem_filter.2 ⟨prt_mem.2 h,by simp [h2]⟩,rfl⟩
   ·rw [if_neg h]
    constructor
    ·rintro (h | ⟨q,hq,e⟩)
     ·exact h
     ·cases e; exact absurd rfl h
    ·exact .inl
theorem prt_nodup : ∀ {w : List UInt8},(prt w).Nodup
 | [] => by simp [prt]
 | c :: w => by
  rw [prt,List.nodup_append]
  refine ⟨prt_nodup, ?_, ?_⟩
  ·unfold List.Nodup
   rw [List.pairwise_map]
   exact (prt_nodup.filter _).imp fun h e => h (List.cons.inj e).2
  ·intro a ha b hb e
   subst e
   obtain ⟨q,hq,rfl⟩ := List.mem_map.1 hb
   have h1 := (List.mem_filter.1 hq).2
   rw [prt_mem.1 ha] at h1
   cases h1
theorem same_len {α : Type} [DecidableEq α] {l m : List α} (hl : l.Nodup) (hm : m.Nodup) (h : ∀ x,x ∈ l ↔ x ∈ m) : l.length = m.length :=
 Nat.le_antisymm (nodup_le hl fun x hx => (h x).1 hx) (nodup_le hm fun x hx => (h x).2 hx)
theorem len_parts {α : Type} (f : α → Bool) : ∀ l : List α,l.length = (l.filter f).length + (l.filter fun x => !f x).length
 | [] => rfl
 | a :: l => by
  have h := len_parts f l
  cases hf : f a <;> simp [hf] <;> omega
def dl (w : List UInt8) : Nat := (prt w).length
def dlb (w : List UInt8) (c : UInt8) : Nat := match bhd w c with
 | some w' => dl w'
 | none => 0
theorem bhd_sub {c : UInt8} : ∀ {w w' : List UInt8},bhd w c = some w' → w'.Sublist w
 | [],_,h => by cases h
 | x :: w,w',h => by
  unfold bhd at h
  split at h
  ·cases h; exact List.sublist_cons_self _ _
  ·exact (bhd_sub h).trans (List.sublist_cons_self _ _)
theorem dl_cons {c : UInt8} {w : List UInt8} : dl (c :: w) + dlb w c = 2 * dl w := by
 have h1 : dl (c :: w) = dl w + ((prt w).filter fun p => !leftW w (c :: p)).length := by
  unfold dl
  rw [prt,List.length_append,List.length_map]
 have h2 : dlb w c = ((prt w).filter fun p => leftW w (c :: p)).length := by
  unfold dlb
  cases hb : bhd w c with
  | none =>
   have : ((prt w).filter fun p => leftW w (c :: p)) = [] := by
    rw [List.filter_eq_nil_iff]
    intro p _
    rw [bhd_left,hb]
    simp
   rw [this]; rfl
  | some w' =>
   refine same_len prt_nodup (prt_nodup.filter _) fun p => ?_
   rw [List.mem_filter,prt_mem,prt_mem,bhd_left,hb]
   exact ⟨fun h => ⟨leftW_sub.2 ((leftW_sub.1 h).trans (bhd_sub hb)),h⟩,fun h => h.2⟩
 have h3 : dl w = ((prt w).filter fun p => leftW w (c :: p)).length + ((prt w).filter fun p => !leftW w (c :: p)).length := by
  unfold dl
  exact len_parts _ _
 omega
theorem dl_pos {w : List UInt8} : 1 ≤ dl w := List.length_pos_of_mem (prt_mem.2 left_nil)
theorem dl_pow : ∀ {w : List UInt8},dl w ≤ 2 ^ w.length
 | [] => Nat.le_refl _
 | c :: w => by
  have h1 := dl_cons (c := c) (w := w)
  have h2 := dl_pow (w := w)
  rw [List.length_cons,Nat.pow_succ]
  omega
theorem dl_rev {w : List UInt8} : dl w.reverse = dl w := by
 have h : (prt w.reverse).length = ((prt w).map List.reverse).length := by
  refine same_len prt_nodup ?_ fun p => ?_
  ·unfold List.Nodup
   rw [List.pairwise_map]
   exact prt_nodup.imp fun h e => h (List.reverse_inj.1 e)
  ·rw [prt_mem,leftW_sub,List.mem_map]
   constructor
   ·exact fun h => ⟨p.reverse,prt_mem.2 (leftW_sub.2 (by rw [← List.reverse_sublist,List.reverse_reverse]; exact h)),List.reverse_reverse p⟩
   ·rintro ⟨q,hq,rfl⟩
    exact (leftW_sub.1 (prt_mem.1 hq)).reverse
 rw [List.length_map] at h
 exact h
theorem mGet_set {K V : Type} [DecidableEq K] {c : Nat} {k k' : K} {v : V} : ∀ {l : Mp K V},mGet k (mSet c k' v l) = if k' = k then some v else mGet k l
 | [] => by
  simp only [mSet,mGet]
  by_cases h : k' = k
  ·rw [decide_eq_true h,if_pos h]
  ·rw [decide_eq_false h,if_neg h]
 | e :: l => by
  rw [mSet]
  by_cases h1 : e.1 = k'
  ·rw [decide_eq_true h1]
   simp only [mGet]
   by_cases h : k' = k
   ·rw [decide_eq_true h,if_pos h]
   ·rw [decide_eq_false h,if_neg h,decide_eq_false (show ¬ e.1 = k by rw [h1]; exact h)]
  ·rw [decide_eq_false h1]
   simp only [mGet,mGet_set (l := l)]
   by_cases h : k' = k
   ·subst h
    rw [decide_eq_false h1]
   ·rw [if_neg h,if_neg h]
theorem dlb_cons {w : List UInt8} {c x : UInt8} : dlb (c :: w) x = if c = x then dl w else dlb w x := by
 unfold dlb
 rw [bhd]
 by_cases h : c = x
 ·rw [if_pos h,if_pos h]
 ·rw [if_neg h,if_neg h]
theorem f29_run {w : List UInt8} {F : Nat} (hw : w.length ≤ 10) (hl : ∀ c ∈ w,c.toNat < 103) : ∀ (n i : Nat) (m : Mp Int Int) (c : Nat),w.length + 1 ≤ n + i → i ≤ w.length → (∀ x : UInt8,mGetD 0 (x.toNat : Int) m = (dlb (w.take i).reverse x : Int)) →
  f29_L0 F w (fun v => some (v,0)) n ((dl (w.take i).reverse : Int),m,c,i) = some ((dl w : Int),0)
 | 0,i,m,c,h,hi,hm => absurd h (by omega)
 | n + 1,i,m,c,h,hi,hm => by
  unfold f29_L0
  simp only [Option.bind_some]
  by_cases hi' : i < w.length
  ·rw [ble_lt hi',gA_at hi' (hl _ (List.getElem_mem hi'))]
   simp only [Option.bind_some]
   have ht : (w.take (i + 1)).reverse = w[i] :: (w.take i).reverse := by
    rw [List.take_add_one,List.getElem?_eq_getElem hi',Option.toList_some,List.reverse_append]
    rfl
   have h1 := dl_cons (c := w[i]) (w := (w.take i).reverse)
   have h2 := dl_pow (w := (w.take i).reverse)
   have h3 : 2 ^ (w.take i).reverse.length ≤ 2 ^ 10 := Nat.pow_le_pow_right (by omega) (by simp; omega)
   have h4 := dl_pos (w := w[i] :: (w.take i).reverse)
   have he : IntKind.i64.wrap (mulI .i64 2 (dl (w.take i).reverse : Int) - mGetD 0 ((w[i].toNat : Nat) : Int) m) = (dl (w.take (i + 1)).reverse : Int) := by
    rw [hm,ht]
    unfold mulI
    rw [wrap64 (z := 2 * _) (by omega) (by omega),wrap64 (by omega) (by omega)]
    omega
   rw [he]
   refine f29_run hw hl n (i + 1) _ _ (by omega) (by omega) fun x => ?_
   unfold mGetD
   rw [mGet_set,ht,dlb_cons]
   by_cases hx : w[i] = x
   ·rw [if_pos (by rw [hx]),if_pos hx]; rfl
   ·rw [if_neg (fun e => hx (UInt8.toNat_inj.1 (by omega))),if_neg hx]
    exact hm x
  ·rw [ble_ge (by omega),List.take_of_length_le (by omega),dl_rev]
theorem f29_law {w : List UInt8} {F : Nat} (h : checkW w = 0) (hF : 12 ≤ F) : f29S F w = some ((dl w : Int),0) := by
 obtain ⟨h1,h2⟩ := checkW_all h
 unfold f29S
 rw [h]
 simp only [Option.bind_some,decide_true]
 exact f29_run h1 (fun c hc => (h2 c hc).2) F 0 [] 0 (by omega) (by omega) fun x => rfl
theorem tmod_nat {a b : Nat} : Int.tmod (a : Int) (b : Int) = ((a % b : Nat) : Int) := by
 rw [Int.tmod_eq_emod_of_nonneg (by omega)]
 simp
theorem lt_mem {k : Nat} (h1 : 1 ≤ k) (h6 : k ≤ 6) {c : UInt8} : lt k c ∈ lets k := by
 rw [lets_mem h6]
 unfold lt
 rw [tmod_nat,Int.toNat_natCast]
 obtain ⟨j,hj,hjk⟩ : ∃ j,c.toNat % k = j ∧ j < k := ⟨_,rfl,Nat.mod_lt _ (by omega)⟩
 rw [hj]
 have hj6 : j < 6 := by omega
 match j,hj6 with
 | 0,_ | 1,_ | 2,_ | 3,_ | 4,_ | 5,_ => simp [abc]; try omega
theorem checkW_ok {w : List UInt8} (hw : w.length ≤ 10) (hl : ∀ c ∈ w,c ∈ lets 6) : checkW w = 0 := by
 unfold checkW
 rw [if_neg (by omega),if_pos]
 rw [List.all_eq_true]
 intro c hc
 have := (lets_mem (k := 6) (Nat.le_refl 6)).1 (hl c hc)
 unfold letW
 simp only [Bool.and_eq_true,decide_eq_true_eq]
 omega
theorem lets_up {k : Nat} (hk : k ≤ 6) {c : UInt8} (h : c ∈ lets k) : c ∈ lets 6 := by
 rw [lets_mem hk] at h
 rw [lets_mem (Nat.le_refl 6)]
 omega
theorem lettW_made {w : List UInt8} {k : Nat} (hw : w.length ≤ 10) (h1 : 1 ≤ k) (hk : k ≤ 6) (hl : ∀ c ∈ w,c ∈ lets k) : lettW w k = 0 := by
 unfold lettW
 rw [if_pos (checkW_ok hw fun c hc => lets_up hk (hl c hc)),if_neg (by omega),if_neg]
 rw [List.any_eq_true]
 rintro ⟨c,hc,h⟩
 have := (lets_mem hk).1 (hl c hc)
 simp only [decide_eq_true_eq] at h
 omega
end Go.Proofs.YtmnmfmghmenkkaaDoor
set_option linter.unusedSimpArgs false
set_option linter.unusedVariables false
namespace Go.Proofs.YtmnmfmghmenkkaaDoor
open Go.Abs Go.Pur
set_option maxRecDepth 100000
def Names (f : UInt8 → UInt8) : Prop := (∀ c ∈ lets 6,f c ∈ lets 6) ∧ ∀ c ∈ lets 6,∀ d ∈ lets 6,f c = f d → c = d
theorem Names.iff {f : UInt8 → UInt8} (h : Names f) {c d : UInt8} (hc : c ∈ lets 6) (hd : d ∈ lets 6) : f c = f d ↔ c = d := ⟨h.2 c hc d hd,fun e => by rw [e]⟩
theorem cnt_map {f : UInt8 → UInt8} (h : Names f) : ∀ {w p : List UInt8},(∀ c ∈ w,c ∈ lets 6) → (∀ c ∈ p,c ∈ lets 6) → cnt (w.map f) (p.map f) = cnt w p
 | w,[],_,_ => by rw [List.map_nil,cnt_nil,cnt_nil]
 | [],d :: p,_,_ => rfl
 | c :: w,d :: p,hw,hp => by
  have h1 := cnt_map h (w := w) (p := p) (fun x hx => hw x (List.mem_cons_of_mem _ hx)) (fun x hx => hp x (List.mem_cons_of_mem _ hx))
  have h2 := cnt_map h (w := w) (p := d :: p) (fun x hx => hw x (List.mem_cons_of_mem _ hx)) hp
  have h3 := h.iff (hw c List.mem_cons_self) (hp d List.mem_cons_self)
  rw [List.map_cons] at h2
  rw [List.map_cons,List.map_cons,cnt,cnt,h1,h2]
  by_cases e : c = d
  ·rw [if_pos e,if_pos (h3.2 e)]
  ·rw [if_neg e,if_neg (fun x => e (h3.1 x))]
theorem bhd_map {f : UInt8 → UInt8} (h : Names f) {c : UInt8} (hc : c ∈ lets 6) : ∀ {w : List UInt8},(∀ c ∈ w,c ∈ lets 6) → bhd (w.map f) (f c) = (bhd w c).map (List.map f)
 | [],_ => rfl
 | x :: w,hw => by
  have h1 := bhd_map h hc (w := w) (fun x hx => hw x (List.mem_cons_of_mem _ hx))
  have h3 := h.iff (hw x List.mem_cons_self) hc
  rw [List.map_cons,bhd,bhd,h1]
  by_cases e : x = c
  ·rw [if_pos e,if_pos (h3.2 e)]; rfl
  ·rw [if_neg e,if_neg (fun x => e (h3.1 x))]
theorem dl_map {f : UInt8 → UInt8} (h : Names f) : ∀ (n : Nat) {w : List UInt8},w.length ≤ n → (∀ c ∈ w,c ∈ lets 6) → dl (w.map f) = dl w
 | _,[],_,_ => rfl
 | 0,_ :: _,hn,_ => by simp at hn
 | n + 1,c :: w,hn,hw => by
  have hw' : ∀ c ∈ w,c ∈ lets 6 := fun x hx => hw x (List.mem_cons_of_mem _ hx)
  have hn' : w.length ≤ n := by simpa using hn
  have h1 := dl_map h n hn' hw'
  have h2 := dl_cons (c := f c) (w := w.map f)
  have h3 := dl_cons (c := c) (w := w)
  have h4 : dlb (w.map f) (f c) = dlb w c := by
   unfold dlb
   rw [bhd_map h (hw c List.mem_cons_self) hw']
   cases hb : bhd w c with
   | none => rfl
   | some w' =>
    have hs := bhd_sub hb
    exact dl_map h n (Nat.le_trans hs.length_le hn') (fun x hx => hw' x (hs.subset hx))
  rw [List.map_cons]
  omega
theorem arch_map {f : UInt8 → UInt8} (h : Names f) {k : Nat} : ∀ {w m : List UInt8} {i : Nat},(∀ c ∈ w,c ∈ lets 6) → (∀ c ∈ m,c ∈ lets 6) → archL k (m.map f) (w.map f) i = archL k m w i
 | [],_,_,_,_ => rfl
 | c :: w,m,i,hw,hm => by
  have hw' : ∀ c ∈ w,c ∈ lets 6 := fun x hx => hw x (List.mem_cons_of_mem _ hx)
  have hc := hw c List.mem_cons_self
  have e1 : (f c ∈ m.map f) ↔ c ∈ m := ⟨fun hx => by
   obtain ⟨d,hd,e⟩ := List.mem_map.1 hx
   rw [← (h.iff (hm d hd) hc).1 e]
   exact hd,fun hx => List.mem_map_of_mem hx⟩
  obtain ⟨m',hm'⟩ : ∃ m',(if c ∈ m then m else m ++ [c]) = m' := ⟨_,rfl⟩
  have e2 : (if f c ∈ m.map f then m.map f else m.map f ++ [f c]) = m'.map f := by
   rw [← hm']
   by_cases hx : c ∈ m
   ·rw [if_pos hx,if_pos (e1.2 hx)]
   ·rw [if_neg hx,if_neg (fun y => hx (e1.1 y)),List.map_append]; rfl
  have h2 : ∀ c ∈ m',c ∈ lets 6 := by
   rw [← hm']
   intro x hx
   split at hx
   ·exact hm x hx
   ·rcases List.mem_append.1 hx with hx | hx
    ·exact hm x hx
    ·rw [List.mem_singleton.1 hx]; exact hc
  rw [List.map_cons,archL,archL,e2,hm',List.length_map]
  have h3 := arch_map h (k := k) (w := w) (m := []) (i := i + 1) hw' (fun _ h => by cases h)
  have h4 := arch_map h (k := k) (w := w) (m := m') (i := i + 1) hw' h2
  rw [List.map_nil] at h3
  rw [h3,h4]
def ren (l : List UInt8) (c : UInt8) : UInt8 := l.getD (c.toNat - 97) 0
theorem abc_lets : abc = lets 6 := by decide
theorem ren_names {l : List UInt8} (h : l.Perm abc) : Names (ren l) := by
 have hl : l.length = 6 := h.length_eq
 have hn : l.Nodup := h.nodup_iff.2 (by decide)
 have key : ∀ c ∈ lets 6,c.toNat - 97 < l.length := fun c hc => by
  have := (lets_mem (Nat.le_refl 6)).1 hc
  omega
 have at_ : ∀ c (hc : c ∈ lets 6),ren l c = l[c.toNat - 97]'(key c hc) := fun c hc => by
  unfold ren
  rw [List.getD_eq_getElem?_getD,List.getElem?_eq_getElem (key c hc)]
  rfl
 refine ⟨fun c hc => ?_,fun c hc d hd e => ?_⟩
 ·rw [at_ c hc,← abc_lets]
  exact h.subset (List.getElem_mem _)
 ·rw [at_ c hc,at_ d hd] at e
  have e2 := (List.getElem_inj hn).1 e
  have h1 := (lets_mem (Nat.le_refl 6)).1 hc
  have h2 := (lets_mem (Nat.le_refl 6)).1 hd
  exact UInt8.toNat_inj.1 (by omega)
end Go.Proofs.YtmnmfmghmenkkaaDoor
set_option linter.unusedSimpArgs false
set_option linter.unusedVariables false
namespace Go.Proofs.YtmnmfmghmenkkaaDoor
open Go.RowKit Go.Abs Go.Pur Go.Lib Go.Sort
set_option maxRecDepth 1000000
set_option maxHeartbeats 8000000
abbrev encB : UInt8 → Value := fun c => .int .u8 c.toNat
theorem ren_fn (p g cap : Nat) (l : List UInt8) (x : UInt8) (W : World) (hx : x ∈ lets 6) (hl : l.length = 6) (c1 : W.cell? ⟨p,0,none⟩ = some (.slice (some ⟨g,0,none⟩) 6 cap)) (c2 : ∀ (i : Nat) c,l[i]? = some c → W.cell? ⟨g,i,none⟩ = some (encB c)) :
  Calls Tryd.prog 6 #[.int .i32 x.toNat,.pointer (some ⟨p,0,none⟩)] W fun e W' => e = .returned (.int .i32 (ren l x).toNat) ∧ W' = W := by
 obtain ⟨h1,h2⟩ := (lets_mem (Nat.le_refl 6)).1 hx
 obtain ⟨i,hi⟩ : ∃ i,x.toNat = 97 + i := ⟨x.toNat - 97,by omega⟩
 have hil : i < l.length := by omega
 have hr : ren l x = l[i] := by
  unfold ren
  rw [hi,show 97 + i - 97 = i by omega,List.getD_eq_getElem?_getD,List.getElem?_eq_getElem hil]
  rfl
 have hc := c2 i _ (List.getElem?_eq_getElem hil)
 rw [hr,hi]
 obtain ⟨y,hy⟩ : ∃ y,l[i] = y := ⟨_,rfl⟩
 rw [hy] at hc ⊢
 have hi6 : i < 6 := by omega
 have hsub : (97 + (i : Int)) - 97 = (i : Int) := by omega
 clear hr hy c2 hx hil
 go_enter Tryd.func6,Tryd.ntmps6
 go_wp2
 go_ret
 have hw : RowKit.wrap32 (y.toNat : Int) = (y.toNat : Int) := by
  have := y.toNat_lt
  unfold RowKit.wrap32
  omega
 refine ⟨?_,rfl⟩
 show Ending.returned (.int .i32 (RowKit.wrap32 (y.toNat : Int))) = _
 rw [hw]
def At (p g cap : Nat) (l : List UInt8) (W : World) : Prop := W.cell? ⟨p,0,none⟩ = some (.slice (some ⟨g,0,none⟩) 6 cap) ∧ ∀ (i : Nat) c,l[i]? = some c → W.cell? ⟨g,i,none⟩ = some (encB c)
theorem At.below {p g cap n : Nat} {l : List UInt8} {W W' : World} (h : At p g cap l W) (hb : Below n W W') (h1 : p < n) (h2 : g < n) : At p g cap l W' :=
 ⟨(hb.cell (p := ⟨p,0,none⟩) h1).trans h.1,fun i c hc => (hb.cell (p := ⟨g,i,none⟩) h2).trans (h.2 i c hc)⟩
theorem move_calls (p g cap : Nat) (l v : List UInt8) (W : World) (hl : l.Perm abc) (hv : v.length ≤ 10) (hx : ∀ x ∈ v,x ∈ lets 6) (hA : At p g cap l W) (h1 : p < W.heap.size) (h2 : g < W.heap.size) :
  Calls Tryd.prog 4 #[.string ⟨v.toArray⟩,.pointer (some ⟨p,0,none⟩)] W fun e W' => e = .returned (.string ⟨(v.map (ren l)).toArray⟩) ∧ Below W.heap.size W W' := by
 have hn := ren_names hl
 have h128 : ∀ c ∈ lets 6,c.toNat < 128 := fun c hc => by have := (lets_mem (Nat.le_refl 6)).1 hc; omega
 have key := mapText 6 #[.pointer (some ⟨p,0,none⟩)] (enters_of Tryd.func6 (by kernel_rfl) rfl) (ren l) ⟨v.toArray⟩ W (by show v.toArray.size ≤ 1000; simp; omega) (fun x h => ⟨h128 x (hx x (by simpa using h)),h128 _ (hn.1 x (hx x (by simpa using h)))⟩) (fun W2 x hm hB => by
  obtain ⟨a1,a2⟩ := hA.below hB h1 h2
  exact ren_fn p g cap l x W2 (hx x (by simpa using hm)) hl.length_eq a1 a2)
 have e : (ByteArray.mk v.toArray).data.toList.map (ren l) = v.map (ren l) := rfl
 rw [e] at key
 obtain ⟨u,hu⟩ : ∃ u,v.map (ren l) = u := ⟨_,rfl⟩
 rw [hu] at key ⊢
 have Key := hid key
 clear key hA hx hn h128 e hu
 go_enter Tryd.func4,Tryd.ntmps4
 go_wp2_with fail
 refine Key.out.mono ?_
 rintro e w3 ⟨rfl,h3⟩
 have H3 := hid h3
 clear h3 Key
 go_wp2
 go_ret
 exact ⟨rfl,H3.out⟩
theorem Tbs.below {W W' : World} {n : Nat} (h : Tbs W) (hn : 2 < n) (hb : Below n W W') : Tbs W' := fun i B L hB hL => by
 have hl : L.b < n := by
  match i,hL with
  | 0,hL => cases hL; exact Nat.lt_of_le_of_lt (Nat.zero_le 2) hn
  | 1,hL => cases hL; exact Nat.lt_of_le_of_lt (by decide : 1 ≤ 2) hn
  | 2,hL => cases hL; exact hn
  | i + 3,hL => simp [tabLocs] at hL
 exact Go.Pur.Lies.below (h i B L hB hL) hl hb
theorem pureN {W : World} (hT : Tbs W) {f : FuncId} {us : List PV} {vs : List Value} {rs : List Value} {hp' : List (Option (List PV))} {wl : Option Nat} (hrs : rs.all okP = true) (hA : ArgsIn W vs us) (hE : E Tryd.prog Y0 f us [] = some (pPack (rs.map .v),hp',wl)) :
  Calls Tryd.prog f vs.toArray W fun e W' => e = .returned (packed rs) ∧ Below W.heap.size W W' :=
 pure_calls mix (by kernel_rfl) (fun g hg => by cases Nat.eq_of_beq_eq_true (show Nat.beq g 12 = true from hg); exact ok12) (G := tabs) (GL := tabLocs) (by simp [tabs]) rfl tabs_wr hT (fun g hg => by
  rw [nglob] at hg
  match g,hg with
  | 0,_ => rfl
  | 1,_ => rfl
  | 2,_ => rfl) (fun l => by intro t g h; cases h) hrs hA hE
theorem argN {W : World} (w : List UInt8) : ArgIn W (.string ⟨w.toArray⟩) (.v (.string (bs w))) := .one _ _ (.plain _ rfl (fun _ _ e => by cases e))
theorem okN : progOK Tryd.prog = true := by kernel_rfl
theorem pureDN {W : World} (hT : Tbs W) {f : FuncId} {us : List PV} {vs : List Value} {r : PV} {a : KA} {hp' : List (Option (List PV))} {wl : Option Nat} (hra : paArg r = some a) (hA : ArgsIn W vs us) (hE : E Tryd.prog Y0 f us [] = some (r,hp',wl)) :
  Calls Tryd.prog f vs.toArray W fun e W' => ∃ v,e = .returned v ∧ LDen W' v a ∧ Below W.heap.size W W' :=
 pure_den mix okN (fun g hg => by cases Nat.eq_of_beq_eq_true (show Nat.beq g 12 = true from hg); exact ok12) (G := tabs) (GL := tabLocs) (by simp [tabs]) rfl tabs_wr hT (fun g hg => by
  rw [nglob] at hg
  match g,hg with
  | 0,_ => rfl
  | 1,_ => rfl
  | 2,_ => rfl) (fun l => by intro t g h; cases h) hra hA hE
abbrev encZ : Int → Value := .int .i64
theorem pplains_ints : ∀ zs : List Int,pplains (zs.map iv) = some (zs.map encZ)
 | [] => rfl
 | z :: zs => by
  rw [List.map_cons,List.map_cons]
  show (match pplains (zs.map iv) with
   | some r => some (encZ z :: r)
   | none => none) = _
  rw [pplains_ints zs]
theorem arches_calls (v : List UInt8) (W : World) (hT : Tbs W) (hv : v.length ≤ 10) (hl : ∀ c ∈ v,c ∈ lets 6) :
  Calls Tryd.prog 10 #[.string ⟨v.toArray⟩,.int .i64 6] W fun e W' => ∃ s,e = .returned (.tuple #[s,.int .i64 0]) ∧ LDen W' s (.l ((archI 6 v).map encZ)) ∧ Below W.heap.size W W' := by
 have h23 : Hid (Calls Tryd.prog 23 #[.string ⟨v.toArray⟩,.int .i64 6] W fun e W' => e = .returned (.int .i64 0) ∧ Below W.heap.size W W') := hid (pureN hT (f := 23) (vs := [.string ⟨v.toArray⟩,.int .i64 6]) (rs := [.int .i64 0]) rfl
  (.cons _ _ _ _ (argN v) (.cons _ _ _ _ (.one _ _ (.plain _ rfl (fun _ _ e => by cases e))) .nil)) (f64_is (F := 101) (r := 0) (hp := []) (by rw [f64_law (by omega)]; exact congrArg some (lettW_made (k := 6) hv (by omega) (by omega) hl))))
 have h24 : Hid (∀ W1,Below W.heap.size W W1 → Calls Tryd.prog 24 #[.string ⟨v.toArray⟩,.int .i64 6] W1 fun e W' => ∃ s,e = .returned s ∧ LDen W' s (.l ((archI 6 v).map encZ)) ∧ Below W1.heap.size W1 W') := hid fun W1 hb => by
  refine pureDN (hT.below hT.size hb) (f := 24) (vs := [.string ⟨v.toArray⟩,.int .i64 6]) (r := .l .own .nz (archI 6 v).length ((archI 6 v).map iv)) ?_
   (.cons _ _ _ _ (argN v) (.cons _ _ _ _ (.one _ _ (.plain _ rfl (fun _ _ e => by cases e))) .nil)) (f65_is (F := 101) (r := (.nz,archI 6 v)) (hp := []) (f65_law (k := 6) (by omega) hv (fun c hc => by have := (lets_mem (Nat.le_refl 6)).1 (hl c hc); omega)))
  simp only [paArg]
  rw [pplains_ints]
  simp
 go_enter Tryd.func10,Tryd.ntmps10
 go_wp2_with (first | (go_at_call 23; refine h23.out.mono ?_; rintro e wa ⟨rfl,ba⟩; have Ba := hid ba; clear ba) | (go_at_call 24; refine (h24.out _ Ba.out).mono ?_; rintro e wb ⟨s,rfl,hd,bb⟩; have Hd := hid hd; have Bb := hid bb; clear hd bb))
 go_ret2
 exact ⟨s,rfl,Hd.out,Ba.out.trans (Bb.out.mono Ba.out.size)⟩
theorem ints_arg {W : World} {v : Value} {zs : List Int} (h : LDen W v (.l (zs.map encZ))) (hl : zs.length ≤ 1000) : ArgIn W v (.l (ak false) .any zs.length (zs.map iv)) := by
 have e : (zs.map encZ).map PV.v = zs.map iv := by rw [List.map_map]; rfl
 have key : ∀ cs : List Value,cs = zs.map encZ → LDen W v (.l cs) → ArgIn W v (.l (ak false) .any zs.length (zs.map iv)) := by
  rintro cs hcs hd
  cases hd with
  | nil =>
   obtain rfl : zs = [] := by simpa using hcs.symm
   exact .one _ _ .nil
  | emp a c =>
   obtain rfl : zs = [] := by simpa using hcs.symm
   exact .one _ _ (.slice a 0 c [] (Nat.zero_le _) (by decide) (fun _ => rfl) (fun h => absurd rfl h) (fun k v hv => by simp at hv))
  | lst b o c _ hne hc hb hr =>
   subst hcs
   have h3 := CellIn.slice (W := W) ⟨b,o,none⟩ zs.length c (zs.map encZ) (by simpa using hc) (Nat.lt_of_le_of_lt hl (by decide)) (fun e => by simpa using e) (fun _ => hne) (fun k v hv => by
    have h4 := hr k v hv
    refine ⟨by rw [Addr.add_lit]; exact h4, ?_⟩
    rw [List.getElem?_map] at hv
    obtain ⟨z,_,rfl⟩ := Option.map_eq_some_iff.1 hv
    exact ⟨rfl,fun _ _ e => by cases e⟩)
   rw [e] at h3
   rw [List.length_map]
   exact .one _ _ h3
 exact key _ rfl h
theorem lden_below {W W' : World} {n : Nat} {v : Value} {cs : List Value} (h : LDen W v (.l cs)) (hb : Below n W W') (hn : W.heap.size ≤ n) : LDen W' v (.l cs) := by
 cases h with
 | nil => exact .nil
 | emp a c => exact .emp a c
 | lst b o c _ hne hc hlt hr => exact .lst b o c cs hne hc (Nat.lt_of_lt_of_le hlt hb.size) (fun j v hv => (hb.cell (p := ⟨b,o + j,none⟩) (Nat.lt_of_lt_of_le hlt hn)).trans (hr j v hv))
theorem arch_len {k : Nat} : ∀ {w m : List UInt8} {i : Nat},(archL k m w i).length ≤ w.length
 | [],_,_ => Nat.le_refl _
 | c :: w,m,i => by
  rw [archL]
  generalize (if c ∈ m then m else m ++ [c]) = m'
  split
  ·have := arch_len (k := k) (w := w) (m := []) (i := i + 1)
   rw [List.length_cons,List.length_cons]
   omega
  ·have := arch_len (k := k) (w := w) (m := m') (i := i + 1)
   rw [List.length_cons]
   omega
theorem same_calls {W : World} (hT : Tbs W) {v1 v2 : Value} {l : List Int} (h1 : LDen W v1 (.l (l.map encZ))) (h2 : LDen W v2 (.l (l.map encZ))) (hl : l.length ≤ 10) :
  Calls Tryd.prog 11 #[v1,v2] W fun e W' => e = .returned (.bool true) ∧ Below W.heap.size W W' :=
 pureN hT (f := 11) (vs := [v1,v2]) (rs := [.bool true]) rfl (.cons _ _ _ _ (ints_arg h1 (by omega)) (.cons _ _ _ _ (ints_arg h2 (by omega)) .nil)) (f24_is (hp := []) (f24_any (F := 100) (by omega) hl))
theorem ways_calls (v u : List UInt8) (W : World) (hT : Tbs W) (hv : v.length ≤ 10) (hl : ∀ c ∈ v,c ∈ lets 6) (hu : u.length ≤ 10) (hm : ∀ c ∈ u,c ∈ lets 6) :
  Calls Tryd.prog 8 #[.string ⟨v.toArray⟩,.string ⟨u.toArray⟩] W fun e W' => e = .returned (.tuple #[.int .i64 (cnt v u : Int),.int .i64 0]) ∧ Below W.heap.size W W' :=
 pureN hT (f := 8) (vs := [.string ⟨v.toArray⟩,.string ⟨u.toArray⟩]) (rs := [.int .i64 (cnt v u : Int),.int .i64 0]) rfl (.cons _ _ _ _ (argN v) (.cons _ _ _ _ (argN u) .nil)) (f20_is (F := 100) (r := ((cnt v u : Int),0)) (hp := []) (f20_law (by omega) hv hu (f57_ok (by omega) (checkW_ok hv hl) (checkW_ok hu hm))))
theorem count_calls (v : List UInt8) (W : World) (hT : Tbs W) (hv : v.length ≤ 10) (hl : ∀ c ∈ v,c ∈ lets 6) :
  Calls Tryd.prog 9 #[.string ⟨v.toArray⟩] W fun e W' => e = .returned (.tuple #[.int .i64 (dl v : Int),.int .i64 0]) ∧ Below W.heap.size W W' :=
 pureN hT (f := 9) (vs := [.string ⟨v.toArray⟩]) (rs := [.int .i64 (dl v : Int),.int .i64 0]) rfl (.cons _ _ _ _ (argN v) .nil) (f29_is (F := 100) (r := ((dl v : Int),0)) (hp := []) (f29_law (checkW_ok hv hl) (by omega)))
theorem works_calls (W : World) (hT : Tbs W) : Calls Tryd.prog 12 #[] W fun e W' => e = .returned (.bool true) ∧ Below W.heap.size W W' := pureN hT (f := 12) (vs := []) (rs := [.bool true]) rfl .nil (works_is (hp := []))
def swapN (l : List UInt8) (i j : Nat) : List UInt8 := (l.set i (l.getD j 0)).set j (l.getD i 0)
theorem swapN_perm {l : List UInt8} {i j : Nat} (hi : i < l.length) (hj : j < l.length) : (swapN l i j).Perm l := by
 have h := Array.swap_perm (xs := l.toArray) (i := i) (j := j) (by simpa using hi) (by simpa using hj)
 have e : (l.toArray.swap i j (by simpa using hi) (by simpa using hj)).toList = swapN l i j := by
  unfold swapN
  simp [List.getD_eq_getElem?_getD,List.getElem?_eq_getElem hi,List.getElem?_eq_getElem hj]
 have h2 := Array.perm_iff_toList_perm.1 h
 rw [e] at h2
 exact h2
theorem swp_listN {l : List UInt8} {i j : Nat} (hi : i < l.toArray.size) (hj : j < l.toArray.size) : swp l.toArray i j = (swapN l i j).toArray := by
 have hi' : i < l.length := by simpa using hi
 have hj' : j < l.length := by simpa using hj
 unfold swp swapN
 simp [getElem!_pos,hi',hj',List.getD_eq_getElem?_getD]
theorem heaps5 (w : World) (a b c d e : Obj) (N : Nat) (hN : N = w.heap.size) : (((((w.alloc a).alloc b).alloc c).alloc d).alloc e).heap[N]? = some a ∧ (((((w.alloc a).alloc b).alloc c).alloc d).alloc e).heap[N + 1]? = some b ∧ (((((w.alloc a).alloc b).alloc c).alloc d).alloc e).heap[N + 2]? = some c ∧
  (((((w.alloc a).alloc b).alloc c).alloc d).alloc e).heap[N + 3]? = some d ∧ (((((w.alloc a).alloc b).alloc c).alloc d).alloc e).heap[N + 4]? = some e := by
 subst hN
 have h : (((((w.alloc a).alloc b).alloc c).alloc d).alloc e).heap = ((((w.heap.push a).push b).push c).push d).push e := rfl
 rw [h]
 refine ⟨?_, ?_, ?_, ?_, ?_⟩
 all_goals simp only [Array.getElem?_push,Array.size_push]
 all_goals repeat first | rfl | rw [if_pos trivial] | rw [if_pos (by omega)] | rw [if_neg (by omega)]
theorem putRow_other {W : World} {b : Nat} {d : Array UInt8} {q j : Nat} (h : j ≠ b) : (putRow encB (Sort.ahead W q) b 0 d).heap[j]? = W.heap[j]? := by
 show (W.heap.modify b _)[j]? = W.heap[j]?
 rw [Array.getElem?_modify,if_neg (fun e => h e.symm)]
theorem putRow_below {W : World} {b n : Nat} {d : Array UInt8} {q : Nat} (hn : n ≤ W.heap.size) (h : n ≤ b) : Below n W (putRow encB (Sort.ahead W q) b 0 d) := by
 have hg : W.grownBy (putRow encB (Sort.ahead W q) b 0 d) (some b) := by
  refine ⟨rfl,rfl,rfl,by simp [putRow,mapBlock,Sort.ahead],fun j hj hne => ?_⟩
  exact putRow_other (fun e => hne (by rw [e]))
 exact (Below.refl n W).grown hg hn (fun k hk => by cases hk; exact h)
theorem list11 {l : List Value} (h : l.length = 11) : ∃ a0 a1 a2 a3 a4 a5 a6 a7 a8 a9 a10,l = [a0,a1,a2,a3,a4,a5,a6,a7,a8,a9,a10] := by
 match l,h with
 | [a0,a1,a2,a3,a4,a5,a6,a7,a8,a9,a10],_ => exact ⟨_,_,_,_,_,_,_,_,_,_,_,rfl⟩
theorem slips_keep {W W' : World} {N b1 : Nat} {a0 a1 a2 a3 a4 a5 a6 a7 a8 a9 a10 e0 e1 e2 e3 e4 e5 e6 e7 e8 e9 e10 : Value} (h : W.cell? ⟨N,0,none⟩ = some a0 ∧ W.cell? ⟨N,1,none⟩ = some a1 ∧ W.cell? ⟨N,2,none⟩ = some a2 ∧ W.cell? ⟨N,3,none⟩ = some a3 ∧ W.cell? ⟨N,4,none⟩ = some a4 ∧ W.cell? ⟨N,5,none⟩ = some a5 ∧ W.cell? ⟨N,6,none⟩ = some a6 ∧ W.cell? ⟨N,7,none⟩ = some a7 ∧ W.cell? ⟨N,8,none⟩ = some a8 ∧ W.cell? ⟨N,9,none⟩ = some a9 ∧ W.cell? ⟨N,10,none⟩ = some a10 ∧ W.cell? ⟨b1,0,none⟩ = some e0 ∧ W.cell? ⟨b1,1,none⟩ = some e1 ∧ W.cell? ⟨b1,2,none⟩ = some e2 ∧ W.cell? ⟨b1,3,none⟩ = some e3 ∧ W.cell? ⟨b1,4,none⟩ = some e4 ∧ W.cell? ⟨b1,5,none⟩ = some e5 ∧ W.cell? ⟨b1,6,none⟩ = some e6 ∧ W.cell? ⟨b1,7,none⟩ = some e7 ∧ W.cell? ⟨b1,8,none⟩ = some e8 ∧ W.cell? ⟨b1,9,none⟩ = some e9 ∧ W.cell? ⟨b1,10,none⟩ = some e10) (hb : Below W.heap.size W W') : W'.cell? ⟨N,0,none⟩ = some a0 ∧ W'.cell? ⟨N,1,none⟩ = some a1 ∧ W'.cell? ⟨N,2,none⟩ = some a2 ∧ W'.cell? ⟨N,3,none⟩ = some a3 ∧ W'.cell? ⟨N,4,none⟩ = some a4 ∧ W'.cell? ⟨N,5,none⟩ = some a5 ∧ W'.cell? ⟨N,6,none⟩ = some a6 ∧ W'.cell? ⟨N,7,none⟩ = some a7 ∧ W'.cell? ⟨N,8,none⟩ = some a8 ∧ W'.cell? ⟨N,9,none⟩ = some a9 ∧ W'.cell? ⟨N,10,none⟩ = some a10 ∧ W'.cell? ⟨b1,0,none⟩ = some e0 ∧ W'.cell? ⟨b1,1,none⟩ = some e1 ∧ W'.cell? ⟨b1,2,none⟩ = some e2 ∧ W'.cell? ⟨b1,3,none⟩ = some e3 ∧ W'.cell? ⟨b1,4,none⟩ = some e4 ∧ W'.cell? ⟨b1,5,none⟩ = some e5 ∧ W'.cell? ⟨b1,6,none⟩ = some e6 ∧ W'.cell? ⟨b1,7,none⟩ = some e7 ∧ W'.cell? ⟨b1,8,none⟩ = some e8 ∧ W'.cell? ⟨b1,9,none⟩ = some e9 ∧ W'.cell? ⟨b1,10,none⟩ = some e10 := by
 obtain ⟨h0,h1,h2,h3,h4,h5,h6,h7,h8,h9,h10,h11,h12,h13,h14,h15,h16,h17,h18,h19,h20,h21⟩ := h
 exact ⟨(hb.cell (World.block_lt_of_cell? W _ h0)).trans h0,(hb.cell (World.block_lt_of_cell? W _ h1)).trans h1,(hb.cell (World.block_lt_of_cell? W _ h2)).trans h2,(hb.cell (World.block_lt_of_cell? W _ h3)).trans h3,(hb.cell (World.block_lt_of_cell? W _ h4)).trans h4,(hb.cell (World.block_lt_of_cell? W _ h5)).trans h5,(hb.cell (World.block_lt_of_cell? W _ h6)).trans h6,(hb.cell (World.block_lt_of_cell? W _ h7)).trans h7,(hb.cell (World.block_lt_of_cell? W _ h8)).trans h8,(hb.cell (World.block_lt_of_cell? W _ h9)).trans h9,(hb.cell (World.block_lt_of_cell? W _ h10)).trans h10,(hb.cell (World.block_lt_of_cell? W _ h11)).trans h11,(hb.cell (World.block_lt_of_cell? W _ h12)).trans h12,(hb.cell (World.block_lt_of_cell? W _ h13)).trans h13,(hb.cell (World.block_lt_of_cell? W _ h14)).trans h14,(hb.cell (World.block_lt_of_cell? W _ h15)).trans h15,(hb.cell (World.block_lt_of_cell? W _ h16)).trans h16,(hb.cell (World.block_lt_of_cell? W _ h17)).trans h17,(hb.cell (World.block_lt_of_cell? W _ h18)).trans h18,(hb.cell (World.block_lt_of_cell? W _ h19)).trans h19,(hb.cell (World.block_lt_of_cell? W _ h20)).trans h20,(hb.cell (World.block_lt_of_cell? W _ h21)).trans h21⟩
theorem named_calls (xs ys : List UInt8) (hx : xs.length = 11) (hy : ys.length = 11) (bz : List UInt8) (hb : bz.length = 6) (w : World) (hT : Tbs w) :
  Calls Tryd.prog 3 #[.agg (Lib.byteCells xs).toArray,.agg (Lib.byteCells ys).toArray,.agg (Lib.byteCells bz).toArray] w fun e w' => e = .returned (.bool true) ∧ Below w.heap.size w w' := by
 have mixed : Tryd.prog.follows .mixedOrders = true := by kernel_rfl
 have kc := Go.Joins.run_convert_bytes_const_at (P := Tryd.prog) (((w.alloc (.cells (Lib.byteCells xs).toArray 24)).alloc (.cells (Lib.byteCells ys).toArray 24)).alloc (.cells (Lib.byteCells bz).toArray 25)) 26 5
  #[.int .u8 97,.int .u8 98,.int .u8 99,.int .u8 100,.int .u8 101,.int .u8 102] 6 6 (w.heap.size + 1 + 1 + 1) (by simp) Tryd.underlying26 Tryd.underlying5
 go_enter Tryd.func3,Tryd.ntmps3
 go_wp2_with fail
 obtain ⟨N,hN⟩ : ∃ N,N = w.heap.size := ⟨_,rfl⟩
 obtain ⟨w0,hw0⟩ : ∃ w0,w0 = (((((w.alloc (.cells (Lib.byteCells xs).toArray 24)).alloc (.cells (Lib.byteCells ys).toArray 24)).alloc (.cells (Lib.byteCells bz).toArray 25)).alloc (.cells #[.int .u8 97,.int .u8 98,.int .u8 99,.int .u8 100,.int .u8 101,.int .u8 102] 5 (6,7))).alloc
  (.cells #[.slice (some ⟨w.heap.size + 1 + 1 + 1,0,none⟩) 6 6] 26)) := ⟨_,rfl⟩
 have hsz : w0.heap.size = N + 5 := by rw [hw0,hN]; simp
 have hbel : Below N w w0 := by
  rw [hw0,hN]
  exact (((((Below.refl _ w).alloc (Nat.le_refl _) _).alloc (by simp) _).alloc (by simp; omega) _).alloc (by simp; omega) _).alloc (by simp; omega) _
 obtain ⟨c0,c1,c2,c3,c4⟩ : w0.heap[N]? = some (.cells (Lib.byteCells xs).toArray 24) ∧ w0.heap[N + 1]? = some (.cells (Lib.byteCells ys).toArray 24) ∧ w0.heap[N + 2]? = some (.cells (Lib.byteCells bz).toArray 25) ∧
   w0.heap[N + 3]? = some (.cells #[.int .u8 97,.int .u8 98,.int .u8 99,.int .u8 100,.int .u8 101,.int .u8 102] 5 (6,7)) ∧ w0.heap[N + 4]? = some (.cells #[.slice (some ⟨N + 3,0,none⟩) 6 6] 26) := by
  rw [hw0,hN]
  exact heaps5 w _ _ _ _ _ _ rfl
 rw [← hw0,← hN]
 obtain ⟨b1,hb1⟩ : ∃ b1,b1 = N + 1 := ⟨_,rfl⟩
 rw [← hb1]
 obtain ⟨b2,hb2⟩ : ∃ b2,b2 = b1 + 1 := ⟨_,rfl⟩
 rw [← hb2]
 obtain ⟨G,hG⟩ : ∃ G,G = b2 + 1 := ⟨_,rfl⟩
 rw [← hG]
 obtain ⟨p,hp⟩ : ∃ p,p = G + 1 := ⟨_,rfl⟩
 rw [← hp]
 have hS : N = w.heap.size ∧ b1 = N + 1 ∧ b2 = N + 2 ∧ G = N + 3 ∧ p = N + 4 := ⟨hN,by omega,by omega,by omega,by omega⟩
 rw [show N + 1 = b1 by omega] at c1
 rw [show N + 2 = b2 by omega] at c2
 rw [show N + 3 = G by omega] at c3 c4
 rw [show N + 4 = p by omega] at c4
 have HS := hid hS
 clear hS hb1 hb2 hG hp hN hw0 kc
 have hH : Holds encB w0 G 0 abc.toArray := fun j hj => by
  have hj' : j < 6 := hj
  rw [Nat.zero_add]
  have e : w0.frozen? ⟨G,j,none⟩ = false := by
   simp only [World.frozen?,c3]
   simp
   omega
  refine ⟨?_,e⟩
  simp only [World.cell?,c3]
  match j,hj' with
  | 0,_ => rfl
  | 1,_ => rfl
  | 2,_ => rfl
  | 3,_ => rfl
  | 4,_ => rfl
  | 5,_ => rfl
 go_loopg [29] 7 (fun gk s29 wx => ∃ (i q : Nat) (l : List UInt8),s29 = .int .i64 (i : Int) ∧ i ≤ 6 ∧ 6 < i + gk ∧ l.Perm abc ∧ wx = putRow encB (Sort.ahead w0 q) G 0 l.toArray)
 case atStart => exact ⟨0,0,abc,rfl,by omega,by omega,.refl _,(putRow_self encB w0 G 0 abc.toArray hH).symm⟩
 case round =>
  obtain ⟨i,q,l,rfl,hi,hg,hl,hwr⟩ := hrel
  have hll : l.length = 6 := hl.length_eq
  have hHr : Holds encB wr G 0 l.toArray := by rw [hwr]; exact holds_putRow encB _ G 0 abc.toArray l.toArray (holds_ahead encB w0 q G 0 abc.toArray hH) (by simp [hll]; rfl)
  have hsl : wr.cell? ⟨p,0,none⟩ = some (.slice (some ⟨G,0,none⟩) 6 6) := by
   have h : wr.heap[p]? = _ := (by rw [hwr]; exact putRow_other (by have := HS.out; omega) : wr.heap[p]? = w0.heap[p]?).trans c4
   simp only [World.cell?,h]
   rfl
  have Hwr := hid hwr
  by_cases hlt : i < 6
  ·obtain ⟨g',rfl⟩ : ∃ g',gk = g' + 1 := ⟨gk - 1,by omega⟩
   obtain ⟨c,hc⟩ : ∃ c,bz[i]? = some c := ⟨_,List.getElem?_eq_getElem (by omega)⟩
   have hcell : wr.cell? ⟨b2,i,none⟩ = some (.int .u8 c.toNat) := by
    have h : wr.heap[b2]? = _ := (by rw [hwr]; exact putRow_other (by have := HS.out; omega) : wr.heap[b2]? = w0.heap[b2]?).trans c2
    simp only [World.cell?,h]
    simp [Lib.byteCells,hc]
   have hi1 : (0 : Int) ≤ (i : Int) := by omega
   have hi6 : (i : Int) < 6 := by omega
   have HL := hid hl
   have HHr := hid hHr
   clear hwr hl hHr hc
   obtain ⟨k,hk,hk6⟩ : ∃ k : Nat,c.toNat % (i + 1) = k ∧ k < 6 := ⟨_,rfl,by have := Nat.mod_lt c.toNat (show 0 < i + 1 by omega); omega⟩
   have hkm : (RowKit.wrap64 (c.toNat : Int)).tmod ((i : Int) + 1) = (k : Int) := by
    rw [wrap_u8,Int.tmod_eq_emod_of_nonneg (by omega),← hk]
    simp
   have Hkm := hid hkm
   clear hkm hk
   go_upto_region 6 with fail
   rw [Hkm.out]
   have hx2 : i < l.toArray.size := by simpa [hll] using hlt
   have hz2 : k < l.toArray.size := by simpa [hll] using hk6
   obtain ⟨ci,fi⟩ := HHr.out i hx2
   obtain ⟨cj,fj⟩ := HHr.out k hz2
   rw [Nat.zero_add] at ci fi cj fj
   have hsw := swap_world (α := UInt8) encB hx2 hz2 Hwr.out rfl rfl
   rw [swp_listN hx2 hz2,Nat.zero_add,Nat.zero_add] at hsw
   have hpm : (swapN l i k).Perm abc := (swapN_perm (by omega) (by omega)).trans HL.out
   have Hsw := hid hsw
   have Hpm := hid hpm
   have hk1 : (0 : Int) ≤ (k : Int) := by omega
   have hk7 : (k : Int) < 6 := by omega
   clear hsw hpm HL
   have HJ := hid (show (i : Int) + 1 = ((i + 1 : Nat) : Int) by omega)
   have HC := hid c0
   have HC1 := hid c1
   have hpG : ¬ p = G := by have := HS.out; omega
   have hGp : ¬ G = p := by have := HS.out; omega
   clear HS hT hsz hbel c0 c1 c2 c3 c4 hH
   have e1 : l.toArray[k]! = l[k]'(by omega) := by simp [getElem!_pos,show k < l.length by omega]
   have e2 : l.toArray[i]! = l[i]'(by omega) := by simp [getElem!_pos,show i < l.length by omega]
   have h := Hsw.out
   rw [e1,e2] at h
   have Hw := hid h
   clear h Hsw
   by_cases hik : i = k
   ·subst hik
    go_region_o
    go_wp2_with fail
    go_roundg g'
    case measure => omega
    case rel => exact ⟨i + 1,q + 1,swapN l i i,by rw [← HJ.out],by omega,by omega,Hpm.out,Hw.out⟩
   ·go_region_o
    go_wp2_with fail
    go_roundg g'
    case measure => omega
    case rel => exact ⟨i + 1,q + 1,swapN l i k,by rw [← HJ.out],by omega,by omega,Hpm.out,Hw.out⟩
  ·obtain rfl : i = 6 := by omega
   have hNw : N ≤ w0.heap.size := by omega
   have hwrb : Below N w wr := by rw [hwr]; exact hbel.trans (putRow_below hNw (by have := HS.out; omega))
   have hAt : At p G 6 l wr := ⟨hsl,fun j c hc => by
    have hj : j < l.length := (List.getElem?_eq_some_iff.1 hc).1
    have h := (hHr j (by simpa using hj)).1
    rw [Nat.zero_add] at h
    rw [h]
    congr 2
    simp [getElem!_pos,hj,(List.getElem?_eq_some_iff.1 hc).2]⟩
   have d0 : wr.heap[N]? = some (.cells (Lib.byteCells xs).toArray 24) := (by rw [hwr]; exact putRow_other (by have := HS.out; omega) : wr.heap[N]? = w0.heap[N]?).trans c0
   have d1 : wr.heap[b1]? = some (.cells (Lib.byteCells ys).toArray 24) := (by rw [hwr]; exact putRow_other (by have := HS.out; omega) : wr.heap[b1]? = w0.heap[b1]?).trans c1
   have hTw : Tbs wr := hT.below (n := N) (by have := HS.out; have := hT.size; omega) hwrb
   have HHl := hid hl
   have HA := hid hAt
   have HTw := hid hTw
   have HWb := hid hwrb
   clear hl hAt hTw hwrb hwr Hwr hHr hH c0 c1 c2 c3 c4 hbel hT
   obtain ⟨x0,hx0⟩ : ∃ x0,xs[0]? = some x0 := ⟨_,List.getElem?_eq_getElem (by omega)⟩
   obtain ⟨y0,hy0⟩ : ∃ y0,ys[0]? = some y0 := ⟨_,List.getElem?_eq_getElem (by omega)⟩
   have HM1 : Hid (∀ W,Calls Tryd.prog 7 #[.agg (Lib.byteCells xs).toArray,.int .i64 10,.int .i64 6] W fun e W' => e = .returned (.string ⟨(((xs.drop 1).take (x0.toNat % 11)).map (lt 6)).toArray⟩) ∧ Below W.heap.size W W') := hid fun W => made_calls xs hx 10 6 W x0 hx0 (by omega) (by omega) (by omega)
   have HM2 : Hid (∀ W,Calls Tryd.prog 7 #[.agg (Lib.byteCells ys).toArray,.int .i64 4,.int .i64 6] W fun e W' => e = .returned (.string ⟨(((ys.drop 1).take (y0.toNat % 5)).map (lt 6)).toArray⟩) ∧ Below W.heap.size W W') := hid fun W => made_calls ys hy 4 6 W y0 hy0 (by omega) (by omega) (by omega)
   obtain ⟨v1,hv1⟩ : ∃ v1,((xs.drop 1).take (x0.toNat % 11)).map (lt 6) = v1 := ⟨_,rfl⟩
   obtain ⟨v2,hv2⟩ : ∃ v2,((ys.drop 1).take (y0.toNat % 5)).map (lt 6) = v2 := ⟨_,rfl⟩
   rw [hv1] at HM1
   rw [hv2] at HM2
   have g0 : wr.rangeAt N 0 (Lib.byteCells xs) := fun j v hv => by
    simp only [World.cell?,d0]
    simpa using hv
   have g1 : wr.rangeAt b1 0 (Lib.byteCells ys) := fun j v hv => by
    simp only [World.cell?,d1]
    simpa using hv
   have hlx : (Lib.byteCells xs).length = 11 := by rw [Lib.byteCells_length]; exact hx
   have hly : (Lib.byteCells ys).length = 11 := by rw [Lib.byteCells_length]; exact hy
   obtain ⟨X,hX⟩ : ∃ X,Lib.byteCells xs = X := ⟨_,rfl⟩
   obtain ⟨Y,hY⟩ : ∃ Y,Lib.byteCells ys = Y := ⟨_,rfl⟩
   rw [hX] at HM1 g0 hlx
   rw [hY] at HM2 g1 hly
   obtain ⟨a0,a1,a2,a3,a4,a5,a6,a7,a8,a9,a10,rfl⟩ := list11 hlx
   obtain ⟨e0,e1,e2,e3,e4,e5,e6,e7,e8,e9,e10,rfl⟩ := list11 hly
   have hs0 : wr.cell? ⟨N,0,none⟩ = some a0 ∧ wr.cell? ⟨N,1,none⟩ = some a1 ∧ wr.cell? ⟨N,2,none⟩ = some a2 ∧ wr.cell? ⟨N,3,none⟩ = some a3 ∧ wr.cell? ⟨N,4,none⟩ = some a4 ∧ wr.cell? ⟨N,5,none⟩ = some a5 ∧ wr.cell? ⟨N,6,none⟩ = some a6 ∧ wr.cell? ⟨N,7,none⟩ = some a7 ∧ wr.cell? ⟨N,8,none⟩ = some a8 ∧ wr.cell? ⟨N,9,none⟩ = some a9 ∧ wr.cell? ⟨N,10,none⟩ = some a10 ∧ wr.cell? ⟨b1,0,none⟩ = some e0 ∧ wr.cell? ⟨b1,1,none⟩ = some e1 ∧ wr.cell? ⟨b1,2,none⟩ = some e2 ∧ wr.cell? ⟨b1,3,none⟩ = some e3 ∧ wr.cell? ⟨b1,4,none⟩ = some e4 ∧ wr.cell? ⟨b1,5,none⟩ = some e5 ∧ wr.cell? ⟨b1,6,none⟩ = some e6 ∧ wr.cell? ⟨b1,7,none⟩ = some e7 ∧ wr.cell? ⟨b1,8,none⟩ = some e8 ∧ wr.cell? ⟨b1,9,none⟩ = some e9 ∧ wr.cell? ⟨b1,10,none⟩ = some e10 := ⟨g0 0 _ rfl,g0 1 _ rfl,g0 2 _ rfl,g0 3 _ rfl,g0 4 _ rfl,g0 5 _ rfl,g0 6 _ rfl,g0 7 _ rfl,g0 8 _ rfl,g0 9 _ rfl,g0 10 _ rfl,g1 0 _ rfl,g1 1 _ rfl,g1 2 _ rfl,g1 3 _ rfl,g1 4 _ rfl,g1 5 _ rfl,g1 6 _ rfl,g1 7 _ rfl,g1 8 _ rfl,g1 9 _ rfl,g1 10 _ rfl⟩
   have HM1' : Hid (∀ W,Calls Tryd.prog 7 #[.agg #[a0,a1,a2,a3,a4,a5,a6,a7,a8,a9,a10],.int .i64 10,.int .i64 6] W fun e W' => e = .returned (.string ⟨v1.toArray⟩) ∧ Below W.heap.size W W') := HM1
   have HM2' : Hid (∀ W,Calls Tryd.prog 7 #[.agg #[e0,e1,e2,e3,e4,e5,e6,e7,e8,e9,e10],.int .i64 4,.int .i64 6] W fun e W' => e = .returned (.string ⟨v2.toArray⟩) ∧ Below W.heap.size W W') := HM2
   clear d0 d1 hX hY hx0 hy0 HM1 HM2 g0 g1 hlx hly
   go_upto_region 9 with fail
   go_cut [11,12] (fun s11 s12 wx => s11 = .string ⟨v1.toArray⟩ ∧ s12 = .string ⟨v2.toArray⟩ ∧ Below wr.heap.size wr wx)
   case first =>
    clear HHl HA HTw HWb hll hsl hsz hNw
    have hs1 := hs0
    obtain ⟨k0,k1,k2,k3,k4,k5,k6,k7,k8,k9,k10,k11,k12,k13,k14,k15,k16,k17,k18,k19,k20,k21⟩ := hs1
    go_region_held3 (fun w' => w'.cell? ⟨N,0,none⟩ = some a0 ∧ w'.cell? ⟨N,1,none⟩ = some a1 ∧ w'.cell? ⟨N,2,none⟩ = some a2 ∧ w'.cell? ⟨N,3,none⟩ = some a3 ∧ w'.cell? ⟨N,4,none⟩ = some a4 ∧ w'.cell? ⟨N,5,none⟩ = some a5 ∧ w'.cell? ⟨N,6,none⟩ = some a6 ∧ w'.cell? ⟨N,7,none⟩ = some a7 ∧ w'.cell? ⟨N,8,none⟩ = some a8 ∧ w'.cell? ⟨N,9,none⟩ = some a9 ∧ w'.cell? ⟨N,10,none⟩ = some a10 ∧ w'.cell? ⟨b1,0,none⟩ = some e0 ∧ w'.cell? ⟨b1,1,none⟩ = some e1 ∧ w'.cell? ⟨b1,2,none⟩ = some e2 ∧ w'.cell? ⟨b1,3,none⟩ = some e3 ∧ w'.cell? ⟨b1,4,none⟩ = some e4 ∧ w'.cell? ⟨b1,5,none⟩ = some e5 ∧ w'.cell? ⟨b1,6,none⟩ = some e6 ∧ w'.cell? ⟨b1,7,none⟩ = some e7 ∧ w'.cell? ⟨b1,8,none⟩ = some e8 ∧ w'.cell? ⟨b1,9,none⟩ = some e9 ∧ w'.cell? ⟨b1,10,none⟩ = some e10) (first | exact slips_keep (by assumption) (by assumption) | go_keep) (first | (go_at_call_has 7 a0; refine (HM1'.out _).mono ?_; rintro e wa ⟨rfl,ba⟩) | (go_at_call_has 7 e0; refine (HM2'.out _).mono ?_; rintro e wb ⟨rfl,bb⟩))
    go_wp2_with fail
    go_meet
    exact ⟨rfl,rfl,((Below.refl _ wr).drew.trans ba).trans (bb.mono ba.size)⟩
   case rest =>
    obtain ⟨rfl,rfl,b9⟩ := hcut
    have q1 : v1.length ≤ 10 := by
     rw [← hv1,List.length_map,List.length_take,List.length_drop]
     omega
    have q2 : v2.length ≤ 10 := by
     rw [← hv2,List.length_map,List.length_take,List.length_drop]
     omega
    have m1 : ∀ c ∈ v1,c ∈ lets 6 := fun c hc => by
     rw [← hv1] at hc
     obtain ⟨d,_,rfl⟩ := List.mem_map.1 hc
     exact lt_mem (by omega) (by omega)
    have m2 : ∀ c ∈ v2,c ∈ lets 6 := fun c hc => by
     rw [← hv2] at hc
     obtain ⟨d,_,rfl⟩ := List.mem_map.1 hc
     exact lt_mem (by omega) (by omega)
    have nm := ren_names HHl.out
    obtain ⟨u1,hu1⟩ : ∃ u1,v1.map (ren l) = u1 := ⟨_,rfl⟩
    obtain ⟨u2,hu2⟩ : ∃ u2,v2.map (ren l) = u2 := ⟨_,rfl⟩
    have r1 : u1.length ≤ 10 := by rw [← hu1,List.length_map]; exact q1
    have r2 : u2.length ≤ 10 := by rw [← hu2,List.length_map]; exact q2
    have n1 : ∀ c ∈ u1,c ∈ lets 6 := fun c hc => by
     rw [← hu1] at hc
     obtain ⟨d,hd,rfl⟩ := List.mem_map.1 hc
     exact nm.1 d (m1 d hd)
    have n2 : ∀ c ∈ u2,c ∈ lets 6 := fun c hc => by
     rw [← hu2] at hc
     obtain ⟨d,hd,rfl⟩ := List.mem_map.1 hc
     exact nm.1 d (m2 d hd)
    have k8 : cnt u1 u2 = cnt v1 v2 := by rw [← hu1,← hu2]; exact cnt_map nm m1 m2
    have k9 : dl u1 = dl v1 := by rw [← hu1]; exact dl_map nm v1.length (Nat.le_refl _) m1
    have k10 : archI 6 u1 = archI 6 v1 := by
     rw [← hu1]
     unfold archI
     have h := arch_map nm (k := 6) (w := v1) (m := []) (i := 0) m1 (fun _ h => by cases h)
     rw [List.map_nil] at h
     rw [h]
    have hpl : p < wr.heap.size := World.block_lt_of_cell? wr _ hsl
    have hGl : G < wr.heap.size := by have := HS.out; omega
    have HT : Hid (∀ W,Below wr.heap.size wr W → Tbs W) := hid fun W hW => HTw.out.below (n := wr.heap.size) HTw.out.size hW
    have M1 : Hid (∀ W,Below wr.heap.size wr W → Calls Tryd.prog 4 #[.string ⟨v1.toArray⟩,.pointer (some ⟨p,0,none⟩)] W fun e W' => e = .returned (.string ⟨u1.toArray⟩) ∧ Below W.heap.size W W') := hid fun W hW => by
     rw [← hu1]
     exact move_calls p G 6 l v1 W HHl.out q1 m1 (HA.out.below hW hpl hGl) (Nat.lt_of_lt_of_le hpl hW.size) (Nat.lt_of_lt_of_le hGl hW.size)
    have M2 : Hid (∀ W,Below wr.heap.size wr W → Calls Tryd.prog 4 #[.string ⟨v2.toArray⟩,.pointer (some ⟨p,0,none⟩)] W fun e W' => e = .returned (.string ⟨u2.toArray⟩) ∧ Below W.heap.size W W') := hid fun W hW => by
     rw [← hu2]
     exact move_calls p G 6 l v2 W HHl.out q2 m2 (HA.out.below hW hpl hGl) (Nat.lt_of_lt_of_le hpl hW.size) (Nat.lt_of_lt_of_le hGl hW.size)
    have W8 : Hid (∀ W,Below wr.heap.size wr W → Calls Tryd.prog 8 #[.string ⟨v1.toArray⟩,.string ⟨v2.toArray⟩] W fun e W' => e = .returned (.tuple #[.int .i64 (cnt v1 v2 : Int),.int .i64 0]) ∧ Below W.heap.size W W') := hid fun W hW => ways_calls v1 v2 W (HT.out W hW) q1 m1 q2 m2
    have W8' : Hid (∀ W,Below wr.heap.size wr W → Calls Tryd.prog 8 #[.string ⟨u1.toArray⟩,.string ⟨u2.toArray⟩] W fun e W' => e = .returned (.tuple #[.int .i64 (cnt v1 v2 : Int),.int .i64 0]) ∧ Below W.heap.size W W') := hid fun W hW => by rw [← k8]; exact ways_calls u1 u2 W (HT.out W hW) r1 n1 r2 n2
    have W9 : Hid (∀ W,Below wr.heap.size wr W → Calls Tryd.prog 9 #[.string ⟨v1.toArray⟩] W fun e W' => e = .returned (.tuple #[.int .i64 (dl v1 : Int),.int .i64 0]) ∧ Below W.heap.size W W') := hid fun W hW => count_calls v1 W (HT.out W hW) q1 m1
    have W9' : Hid (∀ W,Below wr.heap.size wr W → Calls Tryd.prog 9 #[.string ⟨u1.toArray⟩] W fun e W' => e = .returned (.tuple #[.int .i64 (dl v1 : Int),.int .i64 0]) ∧ Below W.heap.size W W') := hid fun W hW => by rw [← k9]; exact count_calls u1 W (HT.out W hW) r1 n1
    obtain ⟨L,hL⟩ : ∃ L,archI 6 v1 = L := ⟨_,rfl⟩
    have hLl : L.length ≤ 10 := by
     rw [← hL]
     unfold archI
     rw [List.length_map]
     exact Nat.le_trans arch_len q1
    have W10 : Hid (∀ W,Below wr.heap.size wr W → Calls Tryd.prog 10 #[.string ⟨v1.toArray⟩,.int .i64 6] W fun e W' => ∃ s,e = .returned (.tuple #[s,.int .i64 0]) ∧ LDen W' s (.l (L.map encZ)) ∧ Below W.heap.size W W') := hid fun W hW => by rw [← hL]; exact arches_calls v1 W (HT.out W hW) q1 m1
    have W10' : Hid (∀ W,Below wr.heap.size wr W → Calls Tryd.prog 10 #[.string ⟨u1.toArray⟩,.int .i64 6] W fun e W' => ∃ s,e = .returned (.tuple #[s,.int .i64 0]) ∧ LDen W' s (.l (L.map encZ)) ∧ Below W.heap.size W W') := hid fun W hW => by rw [← hL,← k10]; exact arches_calls u1 W (HT.out W hW) r1 n1
    have B9 := hid b9
    clear b9 q1 q2 m1 m2 nm r1 r2 n1 n2 k8 k9 k10 hu1 hu2 hv1 hv2 hL hs0 HM1' HM2' hsl
    have W11 : Hid (∀ W x y,Below wr.heap.size wr W → LDen W x (.l (L.map encZ)) → LDen W y (.l (L.map encZ)) → Calls Tryd.prog 11 #[x,y] W fun e W' => e = .returned (.bool true) ∧ Below W.heap.size W W') := hid fun W x y hW h1 h2 => same_calls (HT.out W hW) h1 h2 hLl
    have W12 : Hid (∀ W,Below wr.heap.size wr W → Calls Tryd.prog 12 #[] W fun e W' => e = .returned (.bool true) ∧ Below W.heap.size W W') := hid fun W hW => works_calls W (HT.out W hW)
    go_upto_region 11 with (go_at_call 8; refine (W8.out _ B9.out).mono ?_; rintro e w10 ⟨rfl,b10⟩; have B10 := hid (B9.out.trans (b10.mono B9.out.size)); clear b10)
    go_upto_region 12 with (first | (go_at_call_has 4 v1; refine (M1.out _ B10.out).mono ?_; rintro e w11 ⟨rfl,b11⟩; have B11 := hid (B10.out.trans (b11.mono B10.out.size)); clear b11) | (go_at_call_has 4 v2; refine (M2.out _ B11.out).mono ?_; rintro e w12 ⟨rfl,b12⟩; have B12 := hid (B11.out.trans (b12.mono B11.out.size)); clear b12) | (go_at_call 8; refine (W8'.out _ B12.out).mono ?_; rintro e w13 ⟨rfl,b13⟩; have B13 := hid (B12.out.trans (b13.mono B12.out.size)); clear b13))
    go_upto_region 13 with (go_at_call 9; refine (W9.out _ B13.out).mono ?_; rintro e w14 ⟨rfl,b14⟩; have B14 := hid (B13.out.trans (b14.mono B13.out.size)); clear b14)
    go_upto_region 14 with (first | (go_at_call 4; refine (M1.out _ B14.out).mono ?_; rintro e w15 ⟨rfl,b15⟩; have B15 := hid (B14.out.trans (b15.mono B14.out.size)); clear b15) | (go_at_call 9; refine (W9'.out _ B15.out).mono ?_; rintro e w16 ⟨rfl,b16⟩; have B16 := hid (B15.out.trans (b16.mono B15.out.size)); clear b16))
    go_upto_region 15 with (go_at_call 10; refine (W10.out _ B16.out).mono ?_; rintro e w17 ⟨s1,rfl,d1,b17⟩; have B17 := hid (B16.out.trans (b17.mono B16.out.size)); have D1 := hid d1; clear b17 d1)
    go_upto_region 16 with (first | (go_at_call 4; refine (M1.out _ B17.out).mono ?_; rintro e w18 ⟨rfl,b18⟩; have B18 := hid (B17.out.trans (b18.mono B17.out.size)); have D2 := hid (lden_below D1.out b18 (Nat.le_refl _)); clear b18) | (go_at_call 10; refine (W10'.out _ B18.out).mono ?_; rintro e w19 ⟨s2,rfl,d2,b19⟩; have B19 := hid (B18.out.trans (b19.mono B18.out.size)); have D3 := hid (lden_below D2.out b19 (Nat.le_refl _)); have D4 := hid d2; clear b19 d2))
    go_wp2_with (first | (go_at_call 11; refine (W11.out _ _ _ B19.out D3.out D4.out).mono ?_; rintro e w20 ⟨rfl,b20⟩; have B20 := hid (B19.out.trans (b20.mono B19.out.size)); clear b20) | (go_at_call 12; refine (W12.out _ B20.out).mono ?_; rintro e w21 ⟨rfl,b21⟩; have B21 := hid (B20.out.trans (b21.mono B20.out.size)); clear b21))
    go_ret
    refine ⟨rfl, ?_⟩
    have e := HS.out.1
    rw [← e]
    exact HWb.out.trans (B21.out.mono (by rw [e]; exact HWb.out.size))
end Go.Proofs.YtmnmfmghmenkkaaDoor
set_option linter.unusedSimpArgs false
set_option linter.unusedVariables false
set_option linter.unusedSectionVars false
namespace Go.Proofs.YtmnmfmghmenkkaaDoor
open Go.Abs Go.Pur Go.ChangeShapes Go.WideShapes Go.ChangeAt Go.RowKit
namespace ShortNamedCard
set_option maxRecDepth 100000
theorem contract (H : Type) (enc : TypeId × Value → H) (W : World) (base : Nat) (args : Array Value) (ds gs : List (DataW H)) (before : List MemPlace)
  (hval0 : ∀ (j : Nat) t v,Tryd.f3.params[j]? = some t → args[j]? = some v → Value.okWide Tryd.prog W .any base t v)
  (hW : DataW.Whole enc Tryd.prog Tryd.f3.params.toList Rows.shortNamedSpec.vars false W args.toList ds gs before) (hL : laidMetH Tryd.prog Rows.shortNamedRow.laid W) (hS : W.ShapedOpen Tryd.prog) :
  Calls Tryd.prog 3 args W fun e W' => ∃ v,e = .returned v ∧ Rows.shortNamedSpec.post enc Tryd.prog Tryd.f3 false true false false W args v W' := by
 have hval := hval0
 have hW' := hW
 obtain ⟨p,q,hA0,hV,rfl,hfz,hnd⟩ := hW
 have hA : DataW.TrodAll enc Tryd.prog W 0 (fun _ => true) true Tryd.f3.params.toList args.toList ds p := hA0
 rw [Tryd.params3] at hA hval
 obtain ⟨v0,v1,v2,d0,d1,d2,p0,p1,p2,rfl,rfl,rfl,h0,h1,h2⟩ := trodAll_three hA
 obtain ⟨rfl,rfl⟩ := trodVars_none hV
 clear hA0 hval0
 simp only [List.append_nil] at hW'
 have hlt : ∀ x ∈ p0 ++ (p1 ++ p2),x.block < W.heap.size := fun x hx => by simpa using hW'.lt x (by simpa using hx)
 obtain ⟨xs0,hx0,rfl⟩ := val_slip (hval 0 24 v0 rfl rfl) h0
 obtain ⟨xs1,hx1,rfl⟩ := val_slip (hval 1 24 v1 rfl rfl) h1
 obtain ⟨xs2,hx2,rfl⟩ := val_six (hval 2 25 v2 rfl rfl) h2
 refine (named_calls xs0 xs1 hx0 hx1 xs2 hx2 W (Tbs.of hS)).mono fun e W' ⟨he,hb⟩ => ?_
 subst he
 have hok : Value.okWide Tryd.prog W' .any 0 4 (.bool true) := okWide_bool_mk Tryd.underlying4 true
 exact ⟨_,rfl,post_below (pa := p0 ++ (p1 ++ p2)) (pv := []) hW' (fun _ _ _ => trodAll_cons_mk (shut_bool Tryd.underlying4 _) trodAll_mk0) (fun sp hsp => trodAll_mk3
   (WideElems.Trod_stays laidOut (by kernel_rfl) (of_decide_eq_true (by kernel_rfl)) h0 (fun x hx => hb.same (hlt x (by simp [hx]))) (fun x hx => hsp x (by simp [hx])))
   (WideElems.Trod_stays laidOut (by kernel_rfl) (of_decide_eq_true (by kernel_rfl)) h1 (fun x hx => hb.same (hlt x (by simp [hx]))) (fun x hx => hsp x (by simp [hx])))
   (WideElems.Trod_stays laidOut (by kernel_rfl) (of_decide_eq_true (by kernel_rfl)) h2 (fun x hx => hb.same (hlt x (by simp [hx]))) (fun x hx => hsp x (by simp [hx])))) (fun _ _ => rfl) (by simp)
  hb (ok_one (by kernel_rfl) rfl hok)⟩
def wit : Array Value := #[.agg #[.int .u8 0,.int .u8 0,.int .u8 0,.int .u8 0,.int .u8 0,.int .u8 0,.int .u8 0,.int .u8 0,.int .u8 0,.int .u8 0,.int .u8 0],.agg #[.int .u8 0,.int .u8 0,.int .u8 0,.int .u8 0,.int .u8 0,.int .u8 0,.int .u8 0,.int .u8 0,.int .u8 0,.int .u8 0,.int .u8 0],.agg #[.int .u8 0,.int .u8 0,.int .u8 0,.int .u8 0,.int .u8 0,.int .u8 0]]
theorem laid_met (os : Os) : laidMet Tryd.prog Rows.shortNamedRow.laid ((laidWorld os).forCall (fun _ _ => 0) ⟨#[],wit,[]⟩).memory :=
 laidMet_of_run' 80 (by kernel_rfl) (by kernel_rfl)
theorem reads (os : Os) {H : Type} (enc : TypeId × Value → H) : ∃ places,DataW.whole enc Tryd.prog ((laidWorld os).forCall (fun _ _ => 0) ⟨#[],wit,[]⟩).memory Tryd.f3.params.toList Rows.shortNamedSpec.vars false wit.toList 80 = some ([.agg [.lit (.int .u8 0),.agg [.lit (.int .u8 0),.lit (.int .u8 0),.lit (.int .u8 0),.lit (.int .u8 0),.lit (.int .u8 0),.lit (.int .u8 0),.lit (.int .u8 0),.lit (.int .u8 0),.lit (.int .u8 0),.lit (.int .u8 0)]],.agg [.lit (.int .u8 0),.agg [.lit (.int .u8 0),.lit (.int .u8 0),.lit (.int .u8 0),.lit (.int .u8 0),.lit (.int .u8 0),.lit (.int .u8 0),.lit (.int .u8 0),.lit (.int .u8 0),.lit (.int .u8 0),.lit (.int .u8 0)]],.agg [.lit (.int .u8 0),.lit (.int .u8 0),.lit (.int .u8 0),.lit (.int .u8 0),.lit (.int .u8 0),.lit (.int .u8 0)]],[],places) :=
 ⟨[],by kernel_rfl⟩
theorem lifted (os : Os) (started : os.Started) (H : Type) (enc : TypeId × Value → H) (F : Stop.Interp) :
  ReturnsInHanded {} Tryd.checked os 3 .any ((OpenSpec.ofChange Rows.shortNamedSpec).preRow enc Tryd.prog Tryd.f3 Rows.shortNamedRow.domain false Rows.shortNamedRow.laid) (((OpenSpec.ofChange Rows.shortNamedSpec).at F).post enc Tryd.prog Tryd.f3 false true false false) := by
 obtain ⟨places,hx⟩ := reads os enc
 refine returnsInHanded_of_row (C := Tryd.checked) (s := OpenSpec.ofChange Rows.shortNamedSpec) own started (by kernel_rfl) Tryd.func3
  (witness_row_at (enc := enc) (C := Tryd.checked) false (laidWorld os) wit rfl (by kernel_rfl) (by kernel_rfl) (by kernel_rfl)
   (OpenSpec.preRow_of_cond 80 hx (by kernel_rfl) (fun k hk => by cases hk) (by kernel_rfl) (laid_met os))) ?_
 intro W base args ds gs before hval hW _ _ _ hL hS _
 exact contract H enc W base args ds gs before hval hW hL hS
theorem said : Rows.ShortNamedSaid :=
 OpenClaim.holds_of_cond 3 Tryd.f3 rfl rfl rfl rfl rfl rfl rfl ⟨rfl,rfl,rfl,rfl,rfl⟩ rfl rfl rfl rfl rfl (by kernel_rfl) Tryd.func3 (by kernel_rfl)
  (of_decide_eq_true (by kernel_rfl)) (by unfold Func.isWrapper; first | (rw [if_pos (by decide +kernel)]; kernel_rfl) | (rw [if_neg (by decide +kernel)]; exact ⟨rfl,rfl⟩))
  (fun os started H enc _ F => by rw [OpenClaim.pre_eq_preRow]; exact lifted os started H enc F)
theorem plainLooks (f : FuncId) (fn : Func) (hf : Tryd.pinned.checked.prog.funcNamed "headword/headwordlaw01.ShortNamed" = some f) (hfn : Tryd.pinned.checked.prog.funcs[f]? = some fn) :
  false = Tryd.pinned.checked.prog.looks [] ∧ ∀ (j : Nat) t,fn.params[j]? = some t → Tryd.pinned.checked.prog.wantsStandIn t = false := by
 obtain rfl : f = 3 := Option.some.inj ((show Tryd.prog.funcNamed "headword/headwordlaw01.ShortNamed" = some 3 by kernel_rfl).symm.trans hf) |>.symm
 obtain rfl : fn = Tryd.f3 := (Option.some.inj (Tryd.func3.symm.trans hfn)).symm
 refine ⟨by kernel_rfl,fun j t ht => ?_⟩
 rw [Tryd.params3] at ht
 match j,ht with
 | 0,ht => obtain rfl : 24 = t := Option.some.inj ht; exact (show Tryd.prog.wantsStandIn 24 = false by kernel_rfl)
 | 1,ht => obtain rfl : 24 = t := Option.some.inj ht; exact (show Tryd.prog.wantsStandIn 24 = false by kernel_rfl)
 | 2,ht => obtain rfl : 25 = t := Option.some.inj ht; exact (show Tryd.prog.wantsStandIn 25 = false by kernel_rfl)
end ShortNamedCard
theorem shortNamed_card : Rows.ShortNamedCardSaid :=
 Claim7.holds_tied_plain_at .later [] _ _ _ _ ShortNamedCard.said (fun _ h => by cases h) (by kernel_rfl) (fun _ h => by cases h) shortNamed_row_tie rfl ⟨rfl,rfl⟩ (by kernel_rfl) rfl ShortNamedCard.plainLooks (by kernel_rfl)
end Go.Proofs.YtmnmfmghmenkkaaDoor
