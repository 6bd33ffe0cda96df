/-
  QuireDragon: no walk by the creases of folds goes through a lane twice.
  Conditions: none; lemmas.
-/
import Derived.Test.YtcjephdjemapbaaDoorLanes8
import Derived.Test.YtcjephdjemapbaaDoorDragon7
import Derived.Test.YtcjephdjemapbaaDoorTriedB
set_option linter.unusedSimpArgs false
set_option linter.unusedVariables false
namespace Go.Proofs.YtcjephdjemapbaaDoor
open Go.Abs Go.Pur
set_option maxRecDepth 100000
def codeP (p : Int × Int) : Nat := (p.1 + 300).toNat * 1024 + (p.2 + 300).toNat
def laneN : List (Int × Int) → List Nat
 | [] => []
 | a :: r => match r with
  | [] => []
  | b :: _ => codeP (a.1 + b.1, a.2 + b.2) :: laneN r
def nodupB : List Nat → Bool
 | [] => true
 | x :: l => l.all (fun y => !(Nat.beq x y)) && nodupB l
theorem nodupB_ok : ∀ {l : List Nat}, nodupB l = true → l.Nodup
 | [], _ => List.nodup_nil
 | x :: l, h => by
  simp only [nodupB, Bool.and_eq_true] at h
  refine List.nodup_cons.2 ⟨fun hx => ?_, nodupB_ok h.2⟩
  have := List.all_eq_true.1 h.1 x hx
  rw [Nat.beq_refl] at this
  cases this
theorem laneN_at : ∀ {W : List (Int × Int)} {i : Nat}, i + 1 < W.length → (laneN W)[i]? = some (codeP (laneP W i))
 | [], i, h => by simp at h
 | [_], i, h => by simp at h
 | a :: b :: r, 0, _ => rfl
 | a :: b :: r, i + 1, h => by
  have := @laneN_at (b :: r) i (by simpa using h)
  rw [laneN]
  exact this
theorem nodup_lane {W : List (Int × Int)} (h : nodupB (laneN W) = true) {i j : Nat} (hij : i < j) (hj : j + 1 < W.length) : laneP W i ≠ laneP W j := fun e => by
 have h1 := laneN_at (W := W) (i := i) (by omega)
 have h2 := laneN_at (W := W) (i := j) hj
 have hl : j < (laneN W).length := (List.getElem?_eq_some_iff.1 h2).1
 rw [e] at h1
 have hn := nodupB_ok h
 have : j = i := (List.getElem?_inj hl hn).1 (by rw [h1, h2])
 omega
def okDragon (s : List UInt8) : Bool := match walkL (creasesL s) with
 | W => match W.getD (2 ^ s.length) (0, 0) with
  | (x, z) => decide (-64 ≤ x) && decide (x ≤ 64) && decide (-64 ≤ z) && decide (z ≤ 64) && decide (IntKind.i64.wrap (mulI .i64 x x + mulI .i64 z z) = ((2 ^ s.length : Nat) : Int)) && nodupB (laneN W)
theorem dr_0 : (strs 0).all okDragon = true := by kernel_rfl
theorem dr_1 : (strs 1).all okDragon = true := by kernel_rfl
theorem dr_2 : (strs 2).all okDragon = true := by kernel_rfl
theorem dr_3 : (strs 3).all okDragon = true := by kernel_rfl
theorem dr_4 : (strs 4).all okDragon = true := by kernel_rfl
theorem dr_5 : (((strs 5).drop 0).take 32).all okDragon = true := by kernel_rfl
theorem dr_6 : (((strs 6).drop 0).take 64).all okDragon = true := by kernel_rfl
theorem dragon_all {l : List UInt8} (h : checkE l = 0) : okDragon l = true := all_of dr_0 dr_1 dr_2 dr_3 dr_4 dr_5 dr_6 h
theorem check_fol {k y : Nat} (hk : k ≤ 6) : checkE (foldedL k y) = 0 := by
 unfold checkE lettersE
 rw [if_neg (by simp [foldedL]; omega), if_pos]
 rw [List.all_eq_true]
 intro c hc
 obtain ⟨i, _, rfl⟩ := List.mem_map.1 hc
 split <;> rfl
theorem creasesL_vh2 {l : List UInt8} : ∀ x ∈ creasesL l, x = 118 ∨ x = 104 := fun x hx => by
 obtain ⟨i, _, rfl⟩ := List.mem_map.1 hx
 unfold kindL
 split
 ·exact Or.inl rfl
 ·exact Or.inr rfl
theorem creasesL_ln {l : List UInt8} : (creasesL l).length = 2 ^ l.length - 1 := by simp [creasesL]
theorem scanJ_none {W : List (Int × Int)} {i : Nat} : ∀ (k j : Nat), (∀ t, j ≤ t → t < j + k → clashB W i t = false) → scanJ W i k j = none
 | 0, _, _ => rfl
 | k + 1, j, h => by
  rw [scanJ, h j (Nat.le_refl _) (by omega)]
  exact scanJ_none k (j + 1) fun t h1 h2 => h t (by omega) (by omega)
theorem scanI_none {W : List (Int × Int)} : ∀ (k i : Nat), (∀ s t, i ≤ s → s < t → t < i + k → clashB W s t = false) → scanI W k i = none
 | 0, _, _ => rfl
 | k + 1, i, h => by
  rw [scanI, scanJ_none k (i + 1) fun t h1 h2 => h i t (Nat.le_refl _) (by omega) (by omega)]
  exact scanI_none k (i + 1) fun s t h1 h2 h3 => h s t (by omega) h2 (by omega)
theorem f23_cr {F : Nat} {l : List UInt8} (h : checkE l = 0) : f23S F l = some (creasesL l, 0) := by
 have e : creasesO l = some (creasesL l) := by unfold creasesO; rw [if_pos (of_check h).1]
 unfold f23S
 rw [Option.bind_some, h, Option.bind_some, decide_eq_true rfl]
 dsimp only
 rw [e, Option.bind_some]
theorem quireDragon_is {m y : Nat} (hm : m < 256) (hy : y < 256) : E Tryd.prog Y0 7 [.v (.int .u8 m), .v (.int .u8 y)] [] = some (.v (.bool true), [], none) := by
 have hk : m % 7 < 7 := Nat.mod_lt _ (by decide)
 have e42 : ∀ hp, E Tryd.prog Y0 42 [kv .u8 m, kv .u8 y] hp = some (.v (.string (bs (foldedL (m % 7) y))), hp, none) := fun hp => f42_is (foldedO_at hm hy)
 have hch : checkE (foldedL (m % 7) y) = 0 := check_fol (by omega)
 revert e42 hch
 generalize foldedL (m % 7) y = s
 intro e42 hch
 have hd := dragon_all hch
 have hs6 := (of_check hch).1
 obtain ⟨N, hN⟩ : ∃ N, 2 ^ s.length = N := ⟨_, rfl⟩
 have hN1 : 1 ≤ N := hN ▸ Nat.one_le_two_pow
 have hN64 : N ≤ 64 := hN ▸ Nat.pow_le_pow_right (n := 2) (by decide) hs6
 have hcl := @creasesL_ln s
 rw [hN] at hcl
 have hlt := letters_vh (l := creasesL s) (by omega) creasesL_vh2
 have hf23 : ∀ hp, E Tryd.prog Y0 23 [.v (.string (bs s))] hp = some (.t [.v (.string (bs (creasesL s))), iv 0], hp, none) := fun hp => f23_is (F := fuel) (f23_cr hch)
 have hw := @walkL_len (creasesL s)
 obtain ⟨a, ha⟩ := letters_ascii hlt
 obtain ⟨c58, q58⟩ := @f58_eq fuel (creasesL s) (by omega) (by rw [fuel_eq]; omega) ha
 obtain ⟨c, q35⟩ := @f35_ok fuel (creasesL s) hlt (Nat.le_refl _)
 have q44 := @f44_eq fuel (creasesL s) (by omega) (by rw [fuel_eq]; omega)
 have q37 := f37_ok (F := fuel) hlt (Nat.le_refl _)
 have hsm := sameO_self (a := walkL (creasesL s)) (by omega)
 have hnear := fun i => @walkL_near (creasesL s) (by omega) i
 have hlc := fun i j => @lane_clash (creasesL s) i j
 unfold okDragon at hd
 rw [hN] at hd
 have q25 : f25S fuel s = some (((walkL (creasesL s)).getD N (0, 0)).1, ((walkL (creasesL s)).getD N (0, 0)).2, 0) := by
  unfold f25S
  have e : creasesO s = some (creasesL s) := by unfold creasesO; rw [if_pos hs6]
  rw [Option.bind_some, hch, Option.bind_some, decide_eq_true rfl]
  dsimp only
  rw [e, Option.bind_some, q58, Option.bind_some]
  dsimp only
  have w : IntKind.i64.wrap (((walkL (creasesL s)).length : Int) - 1) = (N : Int) := by rw [wrap64 (by omega) (by omega)]; omega
  rw [Option.bind_some, w, Option.bind_some, gI_d (by omega), Option.bind_some]
 have e25 : ∀ hp, E Tryd.prog Y0 25 [.v (.string (bs s))] hp = some (.t [iv ((walkL (creasesL s)).getD N (0, 0)).1, iv ((walkL (creasesL s)).getD N (0, 0)).2, iv 0], hp, none) := fun hp => f25_is q25
 have e35 : ∀ hp, E Tryd.prog Y0 35 [.v (.string (bs (creasesL s)))] hp = some (.t [.l .fz c (walkL (creasesL s)).length (rows (walkL (creasesL s))), iv 0], hp, none) := fun hp => f35_is q35
 have e37 : ∀ hp, E Tryd.prog Y0 37 [.v (.string (bs (creasesL s)))] hp = some (.t [iv (laneL (creasesL s)).1, iv (laneL (creasesL s)).2.1, iv (laneL (creasesL s)).2.2], hp, none) := fun hp => f37_is q37
 have e44 := fun hp => f44_is (hp := hp) q44
 have e43 : ∀ hp, E Tryd.prog Y0 43 [.v (.string (bs (creasesL s))), .v (.string ⟨#[118, 104]⟩)] hp = some (.v (.string ByteArray.empty), hp, none) := fun hp => by
  have h := @trim_is [118, 104] (creasesL s) hp (by omega) (by decide) rfl
  rw [trimB_nil.2 (fun c hc => by rcases creasesL_vh2 c hc with rfl | rfl <;> decide)] at h
  exact h
 have hlane : laneL (creasesL s) = (0, 0, 13) → (∀ hp, E Tryd.prog Y0 37 [.v (.string (bs (creasesL s)))] hp = some (.t [iv 0, iv 0, iv 13], hp, none)) := fun h => by rw [h] at e37; exact e37
 have hlL : laneL (creasesL s) = match scanI (walkL (creasesL s)) ((creasesL s).length + 1) 0 with
  | some (i, j) => ((i : Int), (j : Int), 0)
  | none => (0, 0, 13) := rfl
 rw [hcl, Nat.sub_add_cancel hN1] at hlL
 rw [hcl] at hlc hw
 generalize walkL (creasesL s) = W at *
 have hW : W.length = N + 1 := by omega
 have hend : W[N]? = some (W.getD N (0, 0)) := by rw [List.getD_eq_getElem?_getD, List.getElem?_eq_getElem (by omega)]; rfl
 dsimp only at hd
 generalize W.getD N (0, 0) = p at *
 obtain ⟨x, z⟩ := p
 simp only [Bool.and_eq_true, decide_eq_true_eq] at hd
 obtain ⟨⟨⟨⟨⟨d1, d2⟩, d3⟩, d4⟩, d5⟩, d6⟩ := hd
 have hnd : ∀ i j, i < j → j < N → ¬ ((W.getD i (0, 0)).1 + (W.getD (i + 1) (0, 0)).1 = (W.getD j (0, 0)).1 + (W.getD (j + 1) (0, 0)).1 ∧ (W.getD i (0, 0)).2 + (W.getD (i + 1) (0, 0)).2 = (W.getD j (0, 0)).2 + (W.getD (j + 1) (0, 0)).2) := fun i j hij hj h =>
  nodup_lane d6 hij (by omega) (by unfold laneP; rw [h.1, h.2])
 have hnone : laneL (creasesL s) = (0, 0, 13) := by
  rw [hlL, scanI_none N 0 fun i j h1 h2 h3 => ?_]
  rw [hlc i j (by omega) (by omega)]
  rw [← Bool.not_eq_true, Bool.and_eq_true, decide_eq_true_eq, decide_eq_true_eq]
  exact hnd i j h2 (by omega)
 have hshl : shlI .i64 1 (s.length : Int) = N := by
  have : ∀ k, k ≤ 6 → shlI .i64 1 (k : Nat) = ((2 ^ k : Nat) : Int) := by decide
  rw [this _ hs6, hN]
 exact f7_walk (W := W) (N := N) e42 hf23 e25 hshl hN1 hN64 hcl e43 ⟨d1, d2, d3, d4⟩ d5 e35 e44
  (fun hp => alike_is (a0 := false) (a1 := false) hsm) (fun hp => alike_is (a0 := false) (a1 := true) hsm) (hlane hnone) (fun hp => f17_is works_true) hW hend
  (fun a b c d hp => f45_is) hnear hnd
end Go.Proofs.YtcjephdjemapbaaDoor
