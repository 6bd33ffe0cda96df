/-
  Walks and lanes: the two ways of computing them answer alike.
  Conditions: none; lemmas.
-/
import Derived.Test.YtcjephdjemapbaaDoorWalk0
import Derived.Test.YtcjephdjemapbaaDoorLaws1
set_option linter.unusedSimpArgs false
set_option linter.unusedVariables false
namespace Go.Proofs.YtcjephdjemapbaaDoor
open Go.Abs Go.Pur
set_option maxRecDepth 100000
theorem gA_at {l : List UInt8} {j : Nat} (h : j < l.length) (ha : l[j].toNat < 128) : gA l j = some l[j].toNat := by
 unfold gA
 rw [List.getElem?_eq_getElem h]
 simp only []
 rw [show Nat.blt l[j].toNat 128 = true from blt_true ha]
def goW : List UInt8 → Int → Int → Int → Int → List (Int × Int)
 | [], _, _, _, _ => []
 | c :: r, x, y, u, v => if (c.toNat : Int) = 118 then (x - v, y + u) :: goW r (x - v) (y + u) (-v) u else (x + v, y - u) :: goW r (x + v) (y - u) v (-u)
theorem goW_len : ∀ {l : List UInt8} {x y u v : Int}, (goW l x y u v).length = l.length
 | [], _, _, _, _ => rfl
 | c :: r, x, y, u, v => by unfold goW; split <;> simp [goW_len]
theorem w58 {F : Nat} {l : List UInt8} {K : Ck × List (Int × Int) × Int × Int × Int × Int → Option ((Ck × List (Int × Int)))} (hK : ∀ c a x y u v, K (c, a, x, y, u, v) = some (c, a)) (hl : l.length ≤ 100) (ha : ∀ c ∈ l, c.toNat < 128) :
  ∀ (n j : Nat) (c : Ck) (acc : List (Int × Int)) (x y u v : Int), j ≤ l.length → l.length - j < n → acc.length = j + 2 → -(j : Int) - 1 ≤ x ∧ x ≤ j + 1 ∧ -(j : Int) - 1 ≤ y ∧ y ≤ j + 1 ∧ -1 ≤ u ∧ u ≤ 1 ∧ -1 ≤ v ∧ v ≤ 1 →
  ∃ c', f58_L0 F l K n (c, acc, j, x, y, u, v) = some (c', acc ++ goW (l.drop j) x y u v) := by
 intro n
 induction n with
 | zero => intro j c acc x y u v hj hn; omega
 | succ n ih =>
  intro j c acc x y u v hj hn hacc hb
  rw [f58_L0]
  by_cases h : j < l.length
  ·have h1 : Nat.ble (j + 1) l.length = true := ble_true h
   have h2 := gA_at h (ha _ (List.getElem_mem h))
   have h3 : l.drop j = l[j] :: l.drop (j + 1) := List.drop_eq_getElem_cons h
   rw [h3]
   generalize l[j] = b at h2
   by_cases e : ((b.toNat : Nat) : Int) = 118
   ·have p1 : penBy (b.toNat : Int) (u, v) = (-v, u) := by
     unfold penBy; rw [if_pos e]
     simp only []
     rw [wrap64 (by omega) (by omega), wrap64 (z := -u) (by omega) (by omega), wrap64 (by omega) (by omega), Int.neg_neg]
    have g1 : goW (b :: l.drop (j + 1)) x y u v = (x - v, y + u) :: goW (l.drop (j + 1)) (x - v) (y + u) (-v) u := by rw [goW, if_pos e]
    have w1 : IntKind.i64.wrap (x + -v) = x - v := by rw [wrap64 (by omega) (by omega)]; omega
    have w2 : IntKind.i64.wrap (y + u) = y + u := wrap64 (by omega) (by omega)
    obtain ⟨c', q⟩ := ih (j + 1) .nz (acc ++ [(x - v, y + u)]) (x - v) (y + u) (-v) u (by omega) (by omega) (by simp [hacc]) (by omega)
    refine ⟨c', ?_⟩
    simp only [h1, h2, Option.bind_some, p1, w1, w2, app1_at (show acc.length ≤ 1000000 by omega)]
    rw [q, g1, List.append_assoc]
    rfl
   ·have p1 : penBy (b.toNat : Int) (u, v) = (v, -u) := by
     unfold penBy; rw [if_neg e]
     simp only []
     rw [wrap64 (by omega) (by omega)]
    have g1 : goW (b :: l.drop (j + 1)) x y u v = (x + v, y - u) :: goW (l.drop (j + 1)) (x + v) (y - u) v (-u) := by rw [goW, if_neg e]
    have w1 : IntKind.i64.wrap (x + v) = x + v := wrap64 (by omega) (by omega)
    have w2 : IntKind.i64.wrap (y + -u) = y - u := by rw [wrap64 (by omega) (by omega)]; omega
    obtain ⟨c', q⟩ := ih (j + 1) .nz (acc ++ [(x + v, y - u)]) (x + v) (y - u) v (-u) (by omega) (by omega) (by simp [hacc]) (by omega)
    refine ⟨c', ?_⟩
    simp only [h1, h2, Option.bind_some, p1, w1, w2, app1_at (show acc.length ≤ 1000000 by omega)]
    rw [q, g1, List.append_assoc]
    rfl
  ·have h1 : Nat.ble (j + 1) l.length = false := bleF (by omega)
   refine ⟨c, ?_⟩
   simp only [h1, Option.bind_some, hK]
   rw [List.drop_of_length_le (by omega), goW, List.append_nil]
def walkL (l : List UInt8) : List (Int × Int) := (0, 0) :: (1, 0) :: goW l 1 0 1 0
theorem walkL_len {l : List UInt8} : (walkL l).length = l.length + 2 := by simp [walkL, goW_len]
theorem f58_eq {F : Nat} {l : List UInt8} (hl : l.length ≤ 100) (hF : l.length < F) (ha : ∀ c ∈ l, c.toNat < 128) : ∃ c, f58S F l = some (c, walkL l) := by
 unfold f58S
 exact w58 (fun _ _ _ _ _ _ => rfl) hl ha F 0 .full [(0, 0), (1, 0)] 1 0 1 0 (by omega) (by omega) rfl (by omega)
def clashB (W : List (Int × Int)) (i j : Nat) : Bool :=
 let a := W.getD i (0, 0); let b := W.getD (i + 1) (0, 0); let c := W.getD j (0, 0); let d := W.getD (j + 1) (0, 0)
 ((decide (a.1 = c.1) && decide (a.2 = c.2)) && (decide (b.1 = d.1) && decide (b.2 = d.2))) || ((decide (a.1 = d.1) && decide (a.2 = d.2)) && (decide (b.1 = c.1) && decide (b.2 = c.2)))
def scanJ (W : List (Int × Int)) (i : Nat) : Nat → Nat → Option Nat
 | 0, _ => none
 | k + 1, j => match clashB W i j with
  | true => some j
  | false => scanJ W i k (j + 1)
def scanI (W : List (Int × Int)) : Nat → Nat → Option (Nat × Nat)
 | 0, _ => none
 | k + 1, i => match scanJ W i k (i + 1) with
  | some j => some (i, j)
  | none => scanI W k (i + 1)
theorem gI_d {W : List (Int × Int)} {j : Nat} (h : j < W.length) : gI W (j : Int) = some (W.getD j (0, 0)) := by
 rw [gI_at h]; simp [List.getD_eq_getElem?_getD, h]
theorem l37 {F : Nat} {W : List (Int × Int)} {i : Nat} {K : Unit → Option (Int × Int × Int)} (hW : W.length ≤ 200) (hi : i + 1 < W.length) :
  ∀ (n k j : Nat), k + j + 1 = W.length → k < n → f37_L1 F W (i : Int) K n (j : Int) = match scanJ W i k j with
   | some j' => some ((i : Int), (j' : Int), 0)
   | none => K () := by
 intro n
 induction n with
 | zero => intro k j _ h; omega
 | succ n ih =>
  intro k j hk hn
  rw [f37_L1]
  have w1 : IntKind.i64.wrap ((W.length : Int) - 1) = (W.length : Int) - 1 := wrap64 (by omega) (by omega)
  cases k with
  | zero =>
   have h1 : decide ((j : Int) < (W.length : Int) - 1) = false := decide_eq_false (by omega)
   simp only [Option.bind_some, w1, h1, scanJ]
  | succ k =>
   have h1 : decide ((j : Int) < (W.length : Int) - 1) = true := decide_eq_true (by omega)
   have w2 := wrap_nat (show i < 1000000000000 by omega)
   have w3 := wrap_nat (show j < 1000000000000 by omega)
   have q := ih k (j + 1) (by omega) (by omega)
   simp only [Option.bind_some, w1, h1, w2, w3, gI_d (show i < W.length by omega), gI_d hi, gI_d (show j < W.length by omega), gI_d (show j + 1 < W.length by omega), q, scanJ, clashB]
   generalize (decide ((W.getD i (0, 0)).1 = (W.getD j (0, 0)).1) && decide ((W.getD i (0, 0)).2 = (W.getD j (0, 0)).2)) = b1
   generalize (decide ((W.getD (i + 1) (0, 0)).1 = (W.getD (j + 1) (0, 0)).1) && decide ((W.getD (i + 1) (0, 0)).2 = (W.getD (j + 1) (0, 0)).2)) = b2
   generalize (decide ((W.getD i (0, 0)).1 = (W.getD (j + 1) (0, 0)).1) && decide ((W.getD i (0, 0)).2 = (W.getD (j + 1) (0, 0)).2)) = b3
   generalize (decide ((W.getD (i + 1) (0, 0)).1 = (W.getD j (0, 0)).1) && decide ((W.getD (i + 1) (0, 0)).2 = (W.getD j (0, 0)).2)) = b4
   cases b1 <;> cases b2 <;> cases b3 <;> cases b4 <;> simp
theorem o37 {F : Nat} {W : List (Int × Int)} {K : Unit → Option (Int × Int × Int)} (hW : W.length ≤ 200) (hF : W.length < F) :
  ∀ (n k i : Nat), k + i + 1 = W.length → k < n → f37_L0 F W ((W.length : Int) - 1) K n (i : Int) = match scanI W k i with
   | some (i', j') => some ((i' : Int), (j' : Int), 0)
   | none => K () := by
 intro n
 induction n with
 | zero => intro k i _ h; omega
 | succ n ih =>
  intro k i hk hn
  rw [f37_L0]
  cases k with
  | zero =>
   have h1 : decide ((i : Int) < (W.length : Int) - 1) = false := decide_eq_false (by omega)
   simp only [Option.bind_some, h1, scanI]
  | succ k =>
   have h1 : decide ((i : Int) < (W.length : Int) - 1) = true := decide_eq_true (by omega)
   have w2 := wrap_nat (show i < 1000000000000 by omega)
   have q := ih k (i + 1) (by omega) (by omega)
   simp only [Option.bind_some, h1, w2, q, scanI]
   rw [l37 hW (by omega) F k (i + 1) (by omega) (by omega)]
   cases scanJ W i k (i + 1) <;> rfl
def laneL (l : List UInt8) : Int × Int × Int := match scanI (walkL l) (l.length + 1) 0 with
 | some (i, j) => ((i : Int), (j : Int), 0)
 | none => (0, 0, 13)
theorem f35_ok {F : Nat} {l : List UInt8} (h : lettersE l 63 118 104 = 0) (hF : 100 ≤ F) : ∃ c, f35S F l = some ((c, walkL l), 0) := by
 obtain ⟨h1, h2⟩ := letters_ascii h
 obtain ⟨c, q⟩ := @f58_eq F l (by omega) (by omega) h2
 exact ⟨c, by unfold f35S; simp [h, q]⟩
theorem f37_ok {F : Nat} {l : List UInt8} (h : lettersE l 63 118 104 = 0) (hF : 100 ≤ F) : f37S F l = some (laneL l) := by
 obtain ⟨h1, h2⟩ := letters_ascii h
 obtain ⟨c, q⟩ := f35_ok h hF
 have hw := @walkL_len l
 have w1 : IntKind.i64.wrap (((walkL l).length : Int) - 1) = ((walkL l).length : Int) - 1 := wrap64 (by omega) (by omega)
 have o := o37 (F := F) (W := walkL l) (K := fun _ => some (0, 0, 13)) (by omega) (by omega) F (l.length + 1) 0 (by omega) (by omega)
 rw [show ((0 : Nat) : Int) = 0 from rfl] at o
 unfold f37S laneL
 simp only [q, Option.bind_some, w1, decide_true, o]
 cases scanI (walkL l) (l.length + 1) 0 <;> rfl
theorem sameO_self {α : Type} [DecidableEq α] {a : List α} (h : a.length ≤ 1000000) : sameO a a = some true := by
 unfold sameO
 rw [show Nat.ble a.length 1000000 = true from ble_true h]
 simp
end Go.Proofs.YtcjephdjemapbaaDoor
