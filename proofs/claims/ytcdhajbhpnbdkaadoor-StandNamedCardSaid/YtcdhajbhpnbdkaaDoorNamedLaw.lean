/-
  StandNamed answers true: the plain law.
  Conditions: none; lemmas.
-/
import Derived.Test.YtcdhajbhpnbdkaaDoorLaw11
import Derived.Test.YtcdhajbhpnbdkaaDoorBelady
import Derived.Test.YtcdhajbhpnbdkaaDoorRename
import Derived.Test.YtcdhajbhpnbdkaaDoorCmpLaw
set_option linter.unusedSimpArgs false
set_option linter.unusedVariables false
namespace Go.Proofs.YtcdhajbhpnbdkaaDoor
open Go.Abs Go.Pur
set_option maxRecDepth 100000
def swapK (i : Nat) (m : List Int) (k : Nat) : List Int := ((m.set i (i : Int)).set i ((m.set i (i : Int)).getD k 0)).set k ((m.set i (i : Int)).getD i 0)
def permK (k0 k1 k2 k3 k4 k5 : Nat) : List Int := swapK 5 (swapK 4 (swapK 3 (swapK 2 (swapK 1 (swapK 0 [0, 0, 0, 0, 0, 0] k0) k1) k2) k3) k4) k5
def sgm (m : List Int) (p : Nat) : Nat := (m.getD p 0).toNat
def tau (m : List Int) (q : Nat) : Nat := m.findIdx fun y => decide (y = (q : Int))
def okPerm (m : List Int) : Bool := Nat.beq m.length 6 && (List.range 6).all fun p => decide (0 ≤ m.getD p 0) && decide (sgm m p < 6) && decide (tau m p < 6) && decide (tau m (sgm m p) = p) && decide (sgm m (tau m p) = p)
theorem perm_tab : (List.range 1).all (fun a => (List.range 2).all fun b => (List.range 3).all fun c => (List.range 4).all fun d => (List.range 5).all fun e => (List.range 6).all fun f => okPerm (permK a b c d e f)) = true := by kernel_rfl
theorem perm_at {a b c d e f : Nat} (h0 : a < 1) (h1 : b < 2) (h2 : c < 3) (h3 : d < 4) (h4 : e < 5) (h5 : f < 6) : okPerm (permK a b c d e f) = true := by
 have h := perm_tab
 rw [List.all_eq_true] at h
 have h := h a (List.mem_range.2 h0)
 rw [List.all_eq_true] at h
 have h := h b (List.mem_range.2 h1)
 rw [List.all_eq_true] at h
 have h := h c (List.mem_range.2 h2)
 rw [List.all_eq_true] at h
 have h := h d (List.mem_range.2 h3)
 rw [List.all_eq_true] at h
 have h := h e (List.mem_range.2 h4)
 rw [List.all_eq_true] at h
 exact h f (List.mem_range.2 h5)
theorem perm_ren {m : List Int} (h : okPerm m = true) : m.length = 6 ∧ Ren (sgm m) (tau m) ∧ ∀ p, p < 6 → m.getD p 0 = (sgm m p : Nat) := by
 unfold okPerm at h
 rw [Bool.and_eq_true] at h
 obtain ⟨h1, h2⟩ := h
 rw [List.all_eq_true] at h2
 have key : ∀ p, p < 6 → 0 ≤ m.getD p 0 ∧ sgm m p < 6 ∧ tau m p < 6 ∧ tau m (sgm m p) = p ∧ sgm m (tau m p) = p := fun p hp => by
  have := h2 p (List.mem_range.2 hp)
  simp only [Bool.and_eq_true, decide_eq_true_eq] at this
  exact ⟨this.1.1.1.1, this.1.1.1.2, this.1.1.2, this.1.2, this.2⟩
 refine ⟨Nat.eq_of_beq_eq_true h1, ⟨fun p hp => (key p hp).2.1, fun p hp => (key p hp).2.2.1, fun p hp => (key p hp).2.2.2.1, fun p hp => (key p hp).2.2.2.2⟩, fun p hp => ?_⟩
 have := (key p hp).1
 unfold sgm; omega
theorem gI_dn {l : List Int} {i : Nat} (h : i < l.length) : gI l (i : Int) = some (l.getD i 0) := by rw [gI_at h, getD_at h]
theorem sI_n {l : List Int} {p : Nat} {v : Int} (h : p < l.length) : sI l (p : Int) v = some (l.set p v) := by
 show (match Nat.blt p l.length with | true => some (l.set p v) | false => none) = _
 rw [blt_true h]
theorem swapK_len {i k : Nat} {m : List Int} : (swapK i m k).length = m.length := by unfold swapK; simp
theorem l11s {F M n i : Nat} {K : List Int × List Int → Option Bool} {bys m : List Int} (hb : bys.length = 6) (hm : m.length = 6) (hi : i < 6) (hy : ∀ b ∈ bys, byte b) (hM : M = n + 1) :
  ∃ k, k < i + 1 ∧ f11_L0 F K M ((i : Int), bys, m) = f11_L0 F K n (((i + 1 : Nat) : Int), bys, swapK i m k) := by
 subst hM
 have hbi : i < bys.length := by omega
 have hbv := hy _ (List.getElem_mem hbi)
 unfold byte at hbv
 have t := tmod_range (x := bys[i]) (m := ((i + 1 : Nat) : Int)) hbv.1 (by omega)
 obtain ⟨k, hk⟩ := Int.eq_ofNat_of_zero_le t.1
 refine ⟨k, by omega, ?_⟩
 rw [f11_L0.eq_def]
 dsimp only
 have h1 : decide ((i : Int) < 6) = true := decide_eq_true (by omega)
 have w1 : IntKind.i64.wrap ((i : Int) + 1) = ((i + 1 : Nat) : Int) := wrap_nat (by omega)
 have wb : IntKind.i64.wrap bys[i] = bys[i] := wrapN (by omega) (by omega)
 have r1 : remO bys[i] ((i + 1 : Nat) : Int) = some (k : Int) := by
  unfold remO
  rw [decide_eq_false (by omega), hk]
 simp only [obind, h1]
 have hk6 : k < 6 := by omega
 rw [bindS (gI_dn (l := m) (by omega)), bindS (sI_n (l := m) (by omega)), bindS (gI_at hbi)]
 simp only [obind, wb, w1]
 rw [bindS r1, bindS (gI_dn (l := m.set i (i : Int)) (by simp; omega)), bindS (gI_dn (l := m.set i (i : Int)) (by simp; omega)), bindS (sI_n (l := m.set i (i : Int)) (by simp; omega)), bindS (gI_dn (by simp; omega)), bindS (sI_n (by simp; omega))]
 rfl
theorem l11 {F : Nat} {K : List Int × List Int → Option Bool} {bys : List Int} (hb : bys.length = 6) (hy : ∀ b ∈ bys, byte b) (hF : F = fuel) : ∃ m, okPerm m = true ∧ f11_L0 F K fuel (0, bys, [0, 0, 0, 0, 0, 0]) = K (bys, m) := by
 subst hF
 obtain ⟨k0, h0, e0⟩ := @l11s fuel fuel 4999 0 K bys [0, 0, 0, 0, 0, 0] hb rfl (by decide) hy fuel_eq
 obtain ⟨k1, h1, e1⟩ := @l11s fuel 4999 4998 1 K bys (swapK 0 [0, 0, 0, 0, 0, 0] k0) hb (by rw [swapK_len]; rfl) (by decide) hy rfl
 obtain ⟨k2, h2, e2⟩ := @l11s fuel 4998 4997 2 K bys (swapK 1 (swapK 0 [0, 0, 0, 0, 0, 0] k0) k1) hb (by simp only [swapK_len]; rfl) (by decide) hy rfl
 obtain ⟨k3, h3, e3⟩ := @l11s fuel 4997 4996 3 K bys (swapK 2 (swapK 1 (swapK 0 [0, 0, 0, 0, 0, 0] k0) k1) k2) hb (by simp only [swapK_len]; rfl) (by decide) hy rfl
 obtain ⟨k4, h4, e4⟩ := @l11s fuel 4996 4995 4 K bys (swapK 3 (swapK 2 (swapK 1 (swapK 0 [0, 0, 0, 0, 0, 0] k0) k1) k2) k3) hb (by simp only [swapK_len]; rfl) (by decide) hy rfl
 obtain ⟨k5, h5, e5⟩ := @l11s fuel 4995 4994 5 K bys (swapK 4 (swapK 3 (swapK 2 (swapK 1 (swapK 0 [0, 0, 0, 0, 0, 0] k0) k1) k2) k3) k4) hb (by simp only [swapK_len]; rfl) (by decide) hy rfl
 refine ⟨permK k0 k1 k2 k3 k4 k5, perm_at h0 h1 h2 h3 h4 h5, ?_⟩
 rw [show (0 : Int) = ((0 : Nat) : Int) from rfl] at *
 rw [e0, e1, e2, e3, e4, e5]
 have last : ∀ (M n : Nat) (m : List Int), M = n + 1 → f11_L0 fuel K M (((6 : Nat) : Int), bys, m) = K (bys, m) := by
  intro M n m hM
  subst hM
  rw [f11_L0.eq_def]
  dsimp only
  simp only [obind, show decide (((6 : Nat) : Int) < 6) = false from rfl]
 exact last 4994 4993 _ rfl
section
variable {room : Int} {pages m : List Int} {F : Nat}
theorem l11b {K : List Int → Option Bool} {x0 : Int} (hm : okPerm m = true) (hpg : ∀ q ∈ pages, 0 ≤ q ∧ q ≤ 5) (hn : pages.length ≤ 12) : ∀ (k i M : Nat), i + k = pages.length → k < M → f11_L1 F (x0, pages) m (pages.length : Int) K M ((i : Int), (pages.take i).map (renI (sgm m))) = K (pages.map (renI (sgm m)))
 | k, i, 0, _, h => by omega
 | 0, i, M + 1, hk, _ => by
  rw [f11_L1.eq_def]; dsimp only
  have h1 : decide ((i : Int) < (pages.length : Int)) = false := decide_eq_false (by omega)
  simp only [obind, h1]
  rw [List.take_of_length_le (by omega)]
 | k + 1, i, M + 1, hk, hM => by
  rw [f11_L1.eq_def]; dsimp only
  have h1 : decide ((i : Int) < (pages.length : Int)) = true := decide_eq_true (by omega)
  have hi : i < pages.length := by omega
  obtain ⟨p, hp⟩ := Int.eq_ofNat_of_zero_le (hpg pages[i] (List.getElem_mem hi)).1
  have hp6 : p < 6 := by have := (hpg pages[i] (List.getElem_mem hi)).2; omega
  obtain ⟨p1, p2, p3⟩ := perm_ren hm
  have w : IntKind.i64.wrap ((i : Int) + 1) = ((i + 1 : Nat) : Int) := wrap_nat (by omega)
  have hg : gI m (p : Int) = some (renI (sgm m) (p : Int)) := by rw [gI_dn (by omega), p3 p hp6, renI_nat]
  simp only [obind, h1, gI_at hi, hp]
  rw [bindS hg, bindS (app1_at (by simp; omega))]
  simp only [obind, w]
  have e : (pages.take i).map (renI (sgm m)) ++ [renI (sgm m) (p : Int)] = (pages.take (i + 1)).map (renI (sgm m)) := by
   rw [List.take_add_one, List.getElem?_eq_getElem hi, hp, List.map_append]; rfl
  rw [e]
  exact l11b hm hpg hn k (i + 1) M (by omega) (by omega)
theorem plans_ren {σ τ : Nat → Nat} {recent : Bool} {pages' : List Int} (h : Ren σ τ) (hr1 : 1 ≤ room) : ∀ (rest : List Int) (t : Nat) (now : List Int), (∀ x ∈ rest, 0 ≤ x ∧ x ≤ 5) → (∀ x ∈ now, 0 ≤ x ∧ x ≤ 5) →
  plansR false recent room pages' (rest.map (renI σ)) t (now.map (renI σ)) = (plansR false recent room pages rest t now).map (renI σ) ∧ ∀ x ∈ plansR false recent room pages rest t now, x = -1 ∨ 0 ≤ x ∧ x ≤ 5
 | [], _, _, _, _ => ⟨rfl, by simp [plansR]⟩
 | p :: r, t, now, hx, hn => by
  have hp := hx p (by simp)
  have hn6 : ∀ q ∈ now, q < 6 := fun q hq => by have := hn q hq; omega
  have hm := mem_ren h (x := p) (by omega) hn6
  have hg : gonR false room pages' (now.map (renI σ)) (renI σ p) t = renI σ (gonR false room pages now p t) ∧ (gonR false room pages now p t = -1 ∨ 0 ≤ gonR false room pages now p t ∧ gonR false room pages now p t ≤ 5) := by
   unfold gonR
   rw [List.length_map]
   by_cases c : p ∉ now ∧ (now.length : Int) = room
   ·rw [if_pos c, if_pos ⟨fun hh => c.1 (hm.1 hh), c.2⟩, if_neg (by decide), if_neg (by decide)]
    obtain ⟨a, l, rfl⟩ := List.exists_cons_of_ne_nil (l := now) (fun e => by rw [e] at c; simp at c; omega)
    exact ⟨rfl, Or.inr (hn a (by simp))⟩
   ·rw [if_neg c, if_neg fun hh => c ⟨fun h2 => hh.1 (hm.2 h2), hh.2⟩]
    exact ⟨rfl, Or.inl rfl⟩
  obtain ⟨hg1, hg2⟩ := hg
  have hg6 : gonR false room pages now p t < 6 := by omega
  have hw : ∀ (l : List Int) (x : Int), (∀ q ∈ l, q < 6) → ∀ q ∈ wo l x, q < 6 := fun l x hl q hq => hl q (wo_mem.1 hq).1
  have hnow : nowR recent (now.map (renI σ)) (renI σ p) (renI σ (gonR false room pages now p t)) = (nowR recent now p (gonR false room pages now p t)).map (renI σ) := by
   unfold nowR
   rw [wo_ren h hg6 hn6, wo_ren h (by omega) (hw _ _ hn6)]
   have hm2 := mem_ren h (x := p) (by omega) (hw now (gonR false room pages now p t) hn6)
   by_cases c : recent = true ∨ p ∉ wo now (gonR false room pages now p t)
   ·rw [if_pos c, if_pos (c.imp id fun h1 h2 => h1 (hm2.1 h2)), List.map_append]; rfl
   ·rw [if_neg c, if_neg fun hh => c (hh.imp id fun h1 h2 => h1 (hm2.2 h2))]
  have hn' : ∀ x ∈ nowR recent now p (gonR false room pages now p t), 0 ≤ x ∧ x ≤ 5 := fun x hx => by
   unfold nowR at hx
   split at hx
   ·rcases List.mem_append.1 hx with hx | hx
    ·exact hn x (wo_mem.1 (wo_mem.1 hx).1).1
    ·simp at hx; subst hx; exact hp
   ·exact hn x (wo_mem.1 hx).1
  obtain ⟨i1, i2⟩ := plans_ren (pages' := pages') h hr1 r (t + 1) _ (fun y hy => hx y (by simp [hy])) hn'
  simp only [List.map_cons, plansR]
  rw [hg1, hnow, i1]
  refine ⟨rfl, fun x hx => ?_⟩
  rcases List.mem_cons.1 hx with rfl | hx
  ·exact hg2
  ·exact i2 x hx
theorem refPlan_ren {recent : Bool} (hm : okPerm m = true) (hc : chk room pages = 0) (hc' : chk room (pages.map (renI (sgm m))) = 0) :
  refPlan false recent room (pages.map (renI (sgm m))) = (refPlan false recent room pages).map (renI (sgm m)) ∧ (refPlan false recent room pages).length = pages.length ∧ ∀ x ∈ refPlan false recent room pages, x = -1 ∨ 0 ≤ x ∧ x ≤ 5 := by
 obtain ⟨hr1, hr2, hn, hpg⟩ := chk_ok hc
 obtain ⟨p1, p2, p3⟩ := perm_ren hm
 unfold refPlan
 rw [if_pos hc, if_pos hc', refG_eq, refG_eq, List.nil_append, List.nil_append]
 obtain ⟨i1, i2⟩ := plans_ren (recent := recent) (pages := pages) (pages' := pages.map (renI (sgm m))) p2 hr1 pages 0 [] hpg (by simp)
 exact ⟨i1, plansR_len _ _ _, i2⟩
theorem l11c {x53 x54 x55 x56 : List Int × Int} {K : Unit → Option Bool} (hm : okPerm m = true) (h4 : x54.1 = x53.1.map (renI (sgm m))) (h6 : x56.1 = x55.1.map (renI (sgm m))) (hl : x55.1.length = x53.1.length) (hn : x53.1.length ≤ 1000)
  (h3 : ∀ x ∈ x53.1, x = -1 ∨ 0 ≤ x ∧ x ≤ 5) (h5 : ∀ x ∈ x55.1, x = -1 ∨ 0 ≤ x ∧ x ≤ 5) : ∀ (k i M : Nat), i + k = x53.1.length → k < M → f11_L2 F m x53 x54 x55 x56 (x53.1.length : Int) K M (i : Int) = K ()
 | k, i, 0, _, h => by omega
 | 0, i, M + 1, hk, _ => by
  rw [f11_L2.eq_def]; dsimp only
  have h1 : decide ((i : Int) < (x53.1.length : Int)) = false := decide_eq_false (by omega)
  simp only [obind, h1]
 | k + 1, i, M + 1, hk, hM => by
  rw [f11_L2.eq_def]; dsimp only
  have h1 : decide ((i : Int) < (x53.1.length : Int)) = true := decide_eq_true (by omega)
  have hi : i < x53.1.length := by omega
  have hi5 : i < x55.1.length := by omega
  have w : IntKind.i64.wrap ((i : Int) + 1) = ((i + 1 : Nat) : Int) := wrap_nat (by omega)
  have ih := l11c (K := K) hm h4 h6 hl hn h3 h5 k (i + 1) M (by omega) (by omega)
  obtain ⟨p1, p2, p3⟩ := perm_ren hm
  obtain ⟨y, hy⟩ : ∃ y, x53.1[i] = y := ⟨_, rfl⟩
  obtain ⟨z, hz⟩ : ∃ z, x55.1[i] = z := ⟨_, rfl⟩
  have hyr := h3 _ (List.getElem_mem hi)
  have hzr := h5 _ (List.getElem_mem hi5)
  rw [hy] at hyr
  rw [hz] at hzr
  have g4 : gI x54.1 (i : Int) = some (renI (sgm m) y) := by rw [h4, gI_at (by simpa using hi)]; simp [hy]
  have g6 : gI x56.1 (i : Int) = some (renI (sgm m) z) := by rw [h6, gI_at (by simpa using hi5)]; simp [hz]
  have gm : ∀ y : Int, 0 ≤ y → y ≤ 5 → gI m y = some (renI (sgm m) y) := fun y a b => by
   obtain ⟨n, rfl⟩ := Int.eq_ofNat_of_zero_le a
   rw [gI_dn (by omega), p3 n (by omega), renI_nat]
  simp only [obind, h1, gI_at hi, hy, gI_at hi5, hz, decide_eq_false (show ¬ 5 < y by omega), decide_eq_false (show ¬ 5 < z by omega)]
  rcases hyr with rfl | ⟨hy0, hy5⟩
  ·simp only [show decide ((0 : Int) ≤ -1) = false from rfl]
   rcases hzr with rfl | ⟨hz0, hz5⟩
   ·simp only [show decide ((0 : Int) ≤ -1) = false from rfl, w, ih]
   ·simp only [decide_eq_true hz0, g6, gm z hz0 hz5, obind, decide_true, w, ih]
  ·simp only [decide_eq_true hy0, g4, gm y hy0 hy5, obind, decide_true]
   rcases hzr with rfl | ⟨hz0, hz5⟩
   ·simp only [show decide ((0 : Int) ≤ -1) = false from rfl, w, ih]
   ·simp only [decide_eq_true hz0, g6, gm z hz0 hz5, obind, decide_true, w, ih]
theorem l43_same {pages' : List Int} {fw : Int × Int} {M : Nat} {K : List Int → Option ((Ck × List Int) × Int)} (hM : M ≤ 4096) (h : ∀ s : Nat, s < 4096 → f87S F room pages' (s : Int) = f87S F room pages (s : Int)) : ∀ (m j : Nat) (v : List Int) (b : Bool), f43_L0 F room pages' fw (M : Int) K m (v, b, (j : Int)) = f43_L0 F room pages fw (M : Int) K m (v, b, (j : Int))
 | 0, j, v, b => by rw [f43_L0.eq_def, f43_L0.eq_def]
 | m + 1, j, v, b => by
  rw [f43_L0.eq_def, f43_L0.eq_def]; dsimp only
  by_cases hj : (j : Int) < (M : Int)
  ·have w : IntKind.u64.wrap ((j : Int) + 1) = ((j + 1 : Nat) : Int) := wrapUC ⟨by omega, by omega⟩
   have e := h j (by omega)
   have ih := fun v b => l43_same (fw := fw) (K := K) hM h m (j + 1) v b
   simp only [obind, decide_eq_true hj, w, e, ih]
  ·simp only [obind, decide_eq_false hj]
end
section
variable {room : Int} {pages m : List Int}
theorem f43_total (hc : chk room pages = 0) : ∃ v, f43S fuel room pages = some ((Ck.nz, v), 0) ∧ v.length ≤ 12 := by
 obtain ⟨hr1, hr2, hn, hpg⟩ := chk_ok hc
 have hF : 1000 < fuel := by rw [fuel_eq]; decide
 have hM : 2 ^ pages.length ≤ 4096 := Nat.le_trans (Nat.pow_le_pow_right (by decide) hn) (by decide)
 unfold f43S
 simp only [onS_at (l := pages) (show pages.length < 1000000000 by omega), obind, hc, decide_true]
 rw [bindS (shl_at hn)]
 obtain ⟨v, b, hB, e⟩ := @l43 pages room fuel (fewS room pages, 0) (2 ^ pages.length) (fun v32 => some ((Ck.nz, v32), 0)) hr1 hr2 hn hM hF (2 ^ pages.length) 0 fuel [] false (by omega) (by rw [fuel_eq]; omega) (Or.inl ⟨rfl, rfl, fun s hs => by omega⟩) (by simp)
 refine ⟨v, e, ?_⟩
 rcases hB with ⟨_, rfl, _⟩ | ⟨_, s0, _, rfl, _⟩
 ·simp
 ·rw [bitsL_len, ← bitsN_len]; exact bitsN_le
theorem f43_ren (hm : okPerm m = true) (hc : chk room pages = 0) (hc' : chk room (pages.map (renI (sgm m))) = 0) : f43S fuel room (pages.map (renI (sgm m))) = f43S fuel room pages := by
 obtain ⟨hr1, hr2, hn, hpg⟩ := chk_ok hc
 obtain ⟨p1, p2, p3⟩ := perm_ren hm
 have hF : 1000 < fuel := by rw [fuel_eq]; decide
 have hM : 2 ^ pages.length ≤ 4096 := Nat.le_trans (Nat.pow_le_pow_right (by decide) hn) (by decide)
 have hfw : fewS room (pages.map (renI (sgm m))) = fewS room pages := by
  unfold fewS
  rw [if_pos hc, if_pos hc', need_renP p2 hpg]
 unfold f43S
 simp only [onS_at (l := pages) (show pages.length < 1000000000 by omega), onS_at (l := pages.map (renI (sgm m))) (show (pages.map (renI (sgm m))).length < 1000000000 by simp; omega), obind, hc, hc', decide_true, List.length_map, hfw]
 rw [bindS (shl_at hn), bindS (shl_at hn)]
 exact l43_same hM (fun s hs => by rw [f87_eq hr1 hr2 hn hs hF, f87_eq hr1 hr2 (by simp; omega) hs hF, bndT_ren p2 hpg]) fuel 0 [] false
end
theorem standNamed_eq {a b c d e f g h i j k l m n ba bb bc bd be bf : Int} (ha : byte a) (hb : byte b) (hs : ∀ p ∈ [c, d, e, f, g, h, i, j, k, l, m, n], byte p) (hy : ∀ p ∈ [ba, bb, bc, bd, be, bf], byte p) :
  f11S fuel a b c d e f g h i j k l m n ba bb bc bd be bf = some true := by
 obtain ⟨room, pages, e1, h1, h2, h3, h4⟩ := made_ok (room := 5) (times := 12) (by decide) (by decide) (by decide) (by decide) ha hb hs
 have hn : pages.length ≤ 12 := by omega
 have hF : 100 < fuel := by rw [fuel_eq]; decide
 have hc : chk room pages = 0 := chk_intro h1 (by omega) hn h4
 unfold f11S
 rw [bindS e1]
 have hl0 := fun K => @l11 fuel K [ba, bb, bc, bd, be, bf] rfl hy rfl
 obtain ⟨q, hq, hk⟩ := hl0 _
 refine hk.trans ?_
 clear hk hl0
 obtain ⟨p1, p2, p3⟩ := perm_ren hq
 have h4' := ren_range p2 h4
 have hl' : (pages.map (renI (sgm q))).length = pages.length := by simp
 have hc' : chk room (pages.map (renI (sgm q))) = 0 := chk_intro h1 (by omega) (by omega) h4'
 simp only [obind]
 have hl1 := fun K => @l11b pages q fuel K room hq h4 hn pages.length 0 fuel (by omega) (by rw [fuel_eq]; omega)
 rw [List.take_zero, show ((0 : Nat) : Int) = 0 from rfl, show ([] : List Int).map (renI (sgm q)) = [] from rfl] at hl1
 refine (hl1 _).trans ?_
 clear hl1
 obtain ⟨v, ev, hv⟩ := f43_total hc
 have ev' := (f43_ren hq hc hc').trans ev
 obtain ⟨r1, r2, r3⟩ := refPlan_ren (recent := true) hq hc hc'
 obtain ⟨o1, o2, o3⟩ := refPlan_ren (recent := false) hq hc hc'
 have few' : fewS room (pages.map (renI (sgm q))) = fewS room pages := by
  unfold fewS
  rw [if_pos hc, if_pos hc', need_renP p2 h4]
 have cnt' : cntS room (pages.map (renI (sgm q))) = cntS room pages := by
  unfold cntS
  rw [if_pos hc, if_pos hc', ways_renP h1 p2 h4]
 obtain ⟨S, e50, _⟩ := @rule_run true false room pages hc
 obtain ⟨S', e50', _⟩ := @rule_run true false room (pages.map (renI (sgm q))) hc'
 have f1 : f50S fuel room pages (refPlan true false room pages) = some ((.nz, S.map Int.ofNat), ((need room (rem6 pages 0) 0 : Nat) : Int), true) := by
  rw [f50_eq hc hF, e50, later_all hc]; rfl
 have f2 : f50S fuel room (pages.map (renI (sgm q))) (refPlan true false room (pages.map (renI (sgm q)))) = some ((.nz, S'.map Int.ofNat), ((need room (rem6 pages 0) 0 : Nat) : Int), true) := by
  rw [f50_eq hc' hF, e50', later_all hc', need_renP p2 h4]; rfl
 have s1 : ∀ {α : Type} (x : α), onS pages x = some x := fun x => onS_at (by omega)
 have s2 : ∀ {α : Type} (x : α), onS (pages.map (renI (sgm q))) x = some x := fun x => onS_at (by omega)
 have s3 : ∀ {α : Type} (x : α), onS v x = some x := fun x => onS_at (by omega)
 simp only [s1, s2, obind, hc, hc', ev, ev', few', cnt', decide_true, s3]
 have dd : ∀ (l : List Int), decide ((l.length : Int) = (l.length : Int)) = true := fun l => decide_eq_true rfl
 have y1 : (refPlan false true room (pages.map (renI (sgm q)))).length = pages.length := by rw [r1, List.length_map, r2]
 have y2 : (refPlan false false room (pages.map (renI (sgm q)))).length = pages.length := by rw [o1, List.length_map, o2]
 simp only [r2, o2, y1, y2, decide_true]
 have hl2 := fun K => @l11c q fuel (refPlan false true room pages, 0) (refPlan false true room (pages.map (renI (sgm q))), 0) (refPlan false false room pages, 0) (refPlan false false room (pages.map (renI (sgm q))), 0) K hq r1 o1 (by rw [o2, r2]) (by simp only [r2]; omega) r3 o3 pages.length 0 fuel (by simp only [r2]; omega) (by rw [fuel_eq]; omega)
 simp only [r2] at hl2
 rw [show ((0 : Nat) : Int) = 0 from rfl] at hl2
 refine (hl2 _).trans ?_
 rw [bindS f1]
 dsimp only
 rw [bindS f2]
 simp only [decide_true, works_true, obind]
theorem standNamed_is {a b c d e f g h i j k l m n ba bb bc bd be bf : Int} (ha : byte a) (hb : byte b) (hs : ∀ p ∈ [c, d, e, f, g, h, i, j, k, l, m, n], byte p) (hy : ∀ p ∈ [ba, bb, bc, bd, be, bf], byte p) :
  E Tryd.prog Y0 11 [.a [kv .u8 a, kv .u8 b, kv .u8 c, kv .u8 d, kv .u8 e, kv .u8 f, kv .u8 g, kv .u8 h, kv .u8 i, kv .u8 j, kv .u8 k, kv .u8 l, kv .u8 m, kv .u8 n], .a [kv .u8 ba, kv .u8 bb, kv .u8 bc, kv .u8 bd, kv .u8 be, kv .u8 bf]] [] = some (.v (.bool true), [], none) := f11_is (standNamed_eq ha hb hs hy)
end Go.Proofs.YtcdhajbhpnbdkaaDoor
