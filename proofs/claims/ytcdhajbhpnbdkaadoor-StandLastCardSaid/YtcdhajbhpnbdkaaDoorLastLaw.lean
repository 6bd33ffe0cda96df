/-
  StandLast answers true: the plain law.
  Conditions: none; lemmas.
-/
import Derived.Test.YtcdhajbhpnbdkaaDoorLaw8
import Derived.Test.YtcdhajbhpnbdkaaDoorRunLaw
import Derived.Test.YtcdhajbhpnbdkaaDoorOutLaw2
set_option linter.unusedSimpArgs false
set_option linter.unusedVariables false
namespace Go.Proofs.YtcdhajbhpnbdkaaDoor
open Go.Abs Go.Pur
set_option maxRecDepth 100000
theorem pickN_first {num : Int → Int} {l : List Int} (h : ∀ p ∈ l, 0 ≤ p) (hs : l.Pairwise (· < ·)) : ∀ x ∈ l, num x = num (pickN num l) → pickN num l ≤ x := by
  have key : ∀ (l : List Int) (g : Int), (∀ p ∈ l, 0 ≤ p) → 0 ≤ g → (∀ p ∈ l, g < p) → l.Pairwise (· < ·) →
      (∀ x ∈ l, num x = num (l.foldl (fun g p => if g < 0 ∨ num g < num p then p else g) g) → l.foldl (fun g p => if g < 0 ∨ num g < num p then p else g) g ≤ x) ∧
      num g ≤ num (l.foldl (fun g p => if g < 0 ∨ num g < num p then p else g) g) ∧ (num g = num (l.foldl (fun g p => if g < 0 ∨ num g < num p then p else g) g) → l.foldl (fun g p => if g < 0 ∨ num g < num p then p else g) g = g) := by
    intro l
    induction l with
    | nil => intro g _ _ _ _; exact ⟨by simp, Int.le_refl _, fun _ => rfl⟩
    | cons y l ih =>
      intro g hl hg hlt hp
      rw [List.pairwise_cons] at hp
      simp only [List.foldl_cons]
      by_cases hc : num g < num y
      · rw [if_pos (Or.inr hc)]
        obtain ⟨a, b, c⟩ := ih y (fun p hp => hl p (by simp [hp])) (hl y (by simp)) hp.1 hp.2
        refine ⟨fun x hx e => ?_, by omega, fun e => by omega⟩
        rcases List.mem_cons.1 hx with rfl | hx
        · rw [c e]; exact Int.le_refl _
        · exact a x hx e
      · rw [if_neg (by omega)]
        obtain ⟨a, b, c⟩ := ih g (fun p hp => hl p (by simp [hp])) hg (fun p hp => hlt p (by simp [hp])) hp.2
        refine ⟨fun x hx e => ?_, b, c⟩
        rcases List.mem_cons.1 hx with rfl | hx
        · rw [c (by omega)]
          have := hlt x (by simp)
          omega
        · exact a x hx e
  cases l with
  | nil => simp
  | cons y l =>
    unfold pickN
    rw [List.pairwise_cons] at hs
    simp only [List.foldl_cons]
    rw [if_pos (Or.inl (by decide))]
    obtain ⟨a, b, c⟩ := key l y (fun p hp => h p (by simp [hp])) (h y (by simp)) hs.1 hs.2
    intro x hx e
    rcases List.mem_cons.1 hx with rfl | hx
    · rw [c e]; exact Int.le_refl _
    · exact a x hx e
theorem bitsL_pw {s : Nat} : (bitsL s).Pairwise (· < ·) := by
  unfold bitsL bitsN
  rw [List.pairwise_map]
  refine (List.Pairwise.filter _ List.pairwise_lt_range).imp fun {a b} h => ?_
  exact Int.ofNat_lt.2 h
def gonG (num : NumF) (room : Int) (p : Int) (t s : Nat) (sn ag : List Int) : Int := if fullB s p.toNat room then pickN (fun q => num sn ag q t) (bitsL s) else -1
def plansG (num : NumF) (room : Int) : List Int → Nat → Nat → List Int → List Int → List Int
  | [], _, _, _, _ => []
  | p :: r, t, s, sn, ag => gonG num room p t s sn ag :: plansG num room r (t + 1) (withB s p.toNat (gonG num room p t s sn ag)) (if s.testBit p.toNat then sn else sn.set p.toNat t) (ag.set p.toNat t)
def statesG (num : NumF) (room : Int) : List Int → Nat → Nat → List Int → List Int → List Nat
  | [], _, _, _, _ => []
  | p :: r, t, s, sn, ag => withB s p.toNat (gonG num room p t s sn ag) :: statesG num room r (t + 1) (withB s p.toNat (gonG num room p t s sn ag)) (if s.testBit p.toNat then sn else sn.set p.toNat t) (ag.set p.toNat t)
section
variable {num : NumF} {room : Int} {pages : List Int}
theorem ruledG_eq : ∀ (rest : List Int) (t s : Nat) (sn ag out : List Int), ruledG num room rest t s sn ag out = out ++ plansG num room rest t s sn ag
  | [], _, _, _, _, out => by simp [ruledG, plansG]
  | p :: r, t, s, sn, ag, out => by
    simp only [ruledG, plansG]
    rw [ruledG_eq r]
    unfold gonG
    simp
theorem plansG_len : ∀ (rest : List Int) (t s : Nat) (sn ag : List Int), (plansG num room rest t s sn ag).length = rest.length
  | [], _, _, _, _ => rfl
  | p :: r, t, s, sn, ag => by simp only [plansG, List.length_cons]; rw [plansG_len r]
theorem gonG_ok {p t s : Nat} {sn ag : List Int} (hr1 : 1 ≤ room) (hs : s < 64) (hp : p < 6) : errF room s p (gonG num room (p : Int) t s sn ag) = 0 ∧ (gonG num room (p : Int) t s sn ag = -1 ∨ 0 ≤ gonG num room (p : Int) t s sn ag ∧ gonG num room (p : Int) t s sn ag < 6 ∧ fullB s p room = true ∧ gonG num room (p : Int) t s sn ag = pickN (fun q => num sn ag q t) (bitsL s)) := by
  unfold gonG
  rw [Int.toNat_natCast]
  cases hf : fullB s p room with
  | false =>
    rw [if_neg (by decide)]
    exact ⟨errF_no hf, Or.inl rfl⟩
  | true =>
    rw [if_pos rfl]
    have hc : room ≤ cnt s := by unfold fullB at hf; simp at hf; exact hf.2
    have hne : bitsL s ≠ [] := fun e => by
      have := bitsL_len (s := s)
      rw [e] at this; simp at this; omega
    rcases pickN_mem (num := fun q => num sn ag q t) (bitsL_nonneg hs) with ⟨_, e⟩ | hm
    · exact absurd e hne
    · have hr := bitsL_range hs hm
      obtain ⟨n, e, h1, h2⟩ := bitsL_mem.1 hm
      refine ⟨?_, Or.inr ⟨hr.1, hr.2, rfl, rfl⟩⟩
      rw [e]
      exact errF_yes hf (by omega) h2
theorem ruled_flo (hr1 : 1 ≤ room) (hr2 : room ≤ 5) : ∀ (rest : List Int) (t s : Nat) (sn ag : List Int) (set : Int) (out : List Nat), (∀ x ∈ rest, 0 ≤ x ∧ x ≤ 5) → s < 64 → (cnt s : Int) ≤ room →
    ∃ n, flo room (rest.zip (plansG num room rest t s sn ag)) s set out = (out ++ statesG num room rest t s sn ag, n, 0)
  | [], t, s, sn, ag, set, out, _, _, _ => ⟨set, by simp [flo, statesG]⟩
  | x :: r, t, s, sn, ag, set, out, hx, hs, hc => by
    obtain ⟨hx0, hx5⟩ := hx x (by simp)
    obtain ⟨p, rfl⟩ := Int.eq_ofNat_of_zero_le hx0
    have hp : p < 6 := by omega
    obtain ⟨h1, h2⟩ := @gonG_ok num room p t s sn ag hr1 hs hp
    have h3 : gonG num room (p : Int) t s sn ag = -1 ∨ 0 ≤ gonG num room (p : Int) t s sn ag ∧ gonG num room (p : Int) t s sn ag < 6 := h2.imp id fun h => ⟨h.1, h.2.1⟩
    simp only [plansG, statesG, List.zip_cons_cons, flo, Int.toNat_natCast]
    rw [if_pos h1]
    obtain ⟨n, e⟩ := ruled_flo hr1 hr2 r (t + 1) (withB s p (gonG num room (p : Int) t s sn ag)) (if s.testBit p then sn else sn.set p t) (ag.set p t) (if withB s p (gonG num room (p : Int) t s sn ag) = s then set else set + 1) (out ++ [withB s p (gonG num room (p : Int) t s sn ag)]) (fun y hy => hx y (by simp [hy])) (withB_lt hs hp h3) (cnt_with hr1 hr2 hs hp h1 hc)
    exact ⟨n, by rw [e]; simp⟩
end
def chkR (v : Int) (pages : List Int) (t : Nat) (sn ag : List Int) (g q : Int) : Prop :=
  v = 0 ∧ ¬ (0 ≤ ixOf (fun y => decide (g = y)) (pages.drop t) ∧ (ixOf (fun y => decide (q = y)) (pages.drop t) < 0 ∨ ixOf (fun y => decide (g = y)) (pages.drop t) < ixOf (fun y => decide (q = y)) (pages.drop t)) ∨
    ixOf (fun y => decide (g = y)) (pages.drop t) < 0 ∧ ixOf (fun y => decide (q = y)) (pages.drop t) < 0 ∧ q < g) ∨
  v = 1 ∧ ¬ sn.getD q.toNat 0 < sn.getD g.toNat 0 ∨ v = 2 ∧ ¬ ag.getD q.toNat 0 < ag.getD g.toNat 0
theorem gI_d {l : List Int} {q : Int} (h0 : 0 ≤ q) (h : q.toNat < l.length) : gI l q = some (l.getD q.toNat 0) := by
  obtain ⟨n, rfl⟩ := Int.eq_ofNat_of_zero_le h0
  rw [gI_at (by simpa using h), getD_at (by simpa using h)]; simp
theorem dropO_at {α : Type} {l : List α} {t : Nat} (h : t ≤ l.length) : dropO l (t : Int) = some (l.drop t) := by
  show (match Nat.ble t l.length with | true => some (l.drop t) | false => none) = _
  rw [ble_true h]
section
variable {room : Int} {pages plan : List Int} {F : Nat}
theorem l8i {v e : Int} {t : Nat} {sn ag L : List Int} {g : Int} {K : Unit → Option Bool} (hn : pages.length ≤ 12) (ht : t ≤ pages.length) (hsn : sn.length = 6) (hag : ag.length = 6) (hF : 100 < F) (hL : L.length ≤ 12) (hg : 0 ≤ g ∧ g < 6) (hLr : ∀ q ∈ L, 0 ≤ q ∧ q < 6) (hc : ∀ q ∈ L, chkR v pages t sn ag g q) :
    ∀ (k j m : Nat), j + k = L.length → k < m → f8_L2 F (room, pages) v (t : Int) sn ag g L (L.length : Int) K m (j : Int) = K ()
  | k, j, 0, _, h => by omega
  | 0, j, m + 1, hk, _ => by
    rw [f8_L2.eq_def]; dsimp only
    have h1 : decide ((j : Int) < (L.length : Int)) = false := decide_eq_false (by omega)
    simp only [obind, h1]
  | k + 1, j, m + 1, hk, hm => by
    rw [f8_L2.eq_def]; dsimp only
    have h1 : decide ((j : Int) < (L.length : Int)) = true := decide_eq_true (by omega)
    have hj : j < L.length := by omega
    have w : IntKind.i64.wrap ((j : Int) + 1) = ((j + 1 : Nat) : Int) := wrap_nat (by omega)
    have hq := hLr _ (List.getElem_mem hj)
    have ih := l8i (K := K) (e := e) hn ht hsn hag hF hL hg hLr hc k (j + 1) m (by omega) (by omega)
    have hd : (pages.drop t).length ≤ 1000 := by simp; omega
    have hd2 : (pages.drop t).length < F := by simp; omega
    simp only [obind, h1, gI_at hj]
    rcases hc _ (List.getElem_mem hj) with ⟨rfl, h⟩ | ⟨rfl, h⟩ | ⟨rfl, h⟩
    · simp only [decide_true, dropO_at ht, f52_eq hd hd2, obind]
      generalize ixOf (fun y => decide (g = y)) (pages.drop t) = y at h
      generalize ixOf (fun y => decide (L[j] = y)) (pages.drop t) = x at h
      by_cases c1 : 0 ≤ y
      · have c2 : ¬ x < 0 := fun hh => h (Or.inl ⟨c1, Or.inl hh⟩)
        have c3 : ¬ y < x := fun hh => h (Or.inl ⟨c1, Or.inr hh⟩)
        have c4 : ¬ y < 0 := by omega
        simp only [decide_eq_true c1, decide_eq_false c2, decide_eq_false c3, decide_eq_false c4, w, ih]
      · have c4 : y < 0 := by omega
        simp only [decide_eq_false c1, decide_eq_true c4]
        by_cases c2 : x < 0
        · have c5 : ¬ L[j] < g := fun hh => h (Or.inr ⟨c4, c2, hh⟩)
          simp only [decide_eq_true c2, decide_eq_false c5, w, ih]
        · simp only [decide_eq_false c2, w, ih]
    · simp only [show decide ((1 : Int) = 0) = false from rfl, decide_true, gI_d (l := sn) hq.1 (by omega), gI_d (l := sn) hg.1 (by omega), obind, decide_eq_false h, w, ih]
    · simp only [show decide ((2 : Int) = 0) = false from rfl, show decide ((2 : Int) = 1) = false from rfl, decide_true, gI_d (l := ag) hq.1 (by omega), gI_d (l := ag) hg.1 (by omega), obind, decide_eq_false h, w, ih]
theorem sI_at {l : List Int} {p : Nat} {v : Int} (h : p < l.length) : sI l (p : Int) v = some (l.set p v) := by
  show (match Nat.blt p l.length with | true => some (l.set p v) | false => none) = _
  rw [blt_true h]
theorem l8 {num : NumF} {v e : Int} {stood : List Int} {K : List Int × List Int → Option Bool} (hr1 : 1 ≤ room) (hr2 : room ≤ 5) (hn : pages.length ≤ 12) (hpg : ∀ q ∈ pages, 0 ≤ q ∧ q ≤ 5) (hF : 100 < F)
    (hnum : ∀ (t s : Nat) (sn ag : List Int), t < pages.length → s < 64 → sn.length = 6 → ag.length = 6 → bitsL s ≠ [] → ∀ q ∈ bitsL s, chkR v pages t sn ag (pickN (fun q => num sn ag q t) (bitsL s)) q) :
    ∀ (k i m s : Nat) (sn ag : List Int), i + k = pages.length → k < m → plan.drop i = plansG num room (pages.drop i) i s sn ag → stood.drop i = (statesG num room (pages.drop i) i s sn ag).map Int.ofNat → s < 64 → (cnt s : Int) ≤ room → sn.length = 6 → ag.length = 6 →
    ∃ y, f8_L1 F (room, pages) v (plan, e) stood (pages.length : Int) K m ((s : Int), (i : Int), sn, ag) = K y
  | k, i, 0, s, sn, ag, _, h, _, _, _, _, _, _ => by omega
  | 0, i, m + 1, s, sn, ag, hk, _, _, _, _, _, _, _ => by
    rw [f8_L1.eq_def]; dsimp only
    have h1 : decide ((i : Int) < (pages.length : Int)) = false := decide_eq_false (by omega)
    simp only [obind, h1]
    exact ⟨_, rfl⟩
  | k + 1, i, m + 1, s, sn, ag, hk, hm, hp1, hp2, hs, hc, hsn, hag => by
    rw [f8_L1.eq_def]; dsimp only
    have h1 : decide ((i : Int) < (pages.length : Int)) = true := decide_eq_true (by omega)
    have hi : i < pages.length := by omega
    obtain ⟨p, hp⟩ := Int.eq_ofNat_of_zero_le (hpg pages[i] (List.getElem_mem hi)).1
    have hp6 : p < 6 := by have := (hpg pages[i] (List.getElem_mem hi)).2; omega
    have hd : pages.drop i = (p : Int) :: pages.drop (i + 1) := by rw [List.drop_eq_getElem_cons hi, hp]
    rw [hd] at hp1 hp2
    simp only [plansG, statesG, Int.toNat_natCast, List.map_cons] at hp1 hp2
    obtain ⟨g1, g2⟩ := @gonG_ok num room p i s sn ag hr1 hs hp6
    have g3 : gonG num room (p : Int) i s sn ag = -1 ∨ 0 ≤ gonG num room (p : Int) i s sn ag ∧ gonG num room (p : Int) i s sn ag < 6 := g2.imp id fun h => ⟨h.1, h.2.1⟩
    obtain ⟨g, hg⟩ : ∃ g, gonG num room (p : Int) i s sn ag = g := ⟨_, rfl⟩
    rw [hg] at hp1 hp2 g1 g2 g3
    have hil : i < plan.length := by
      rcases Nat.lt_or_ge i plan.length with h | h
      · exact h
      · rw [List.drop_of_length_le h] at hp1; cases hp1
    have hjl : i < stood.length := by
      rcases Nat.lt_or_ge i stood.length with h | h
      · exact h
      · rw [List.drop_of_length_le h] at hp2; cases hp2
    rw [List.drop_eq_getElem_cons hil, List.cons.injEq] at hp1
    rw [List.drop_eq_getElem_cons hjl, List.cons.injEq] at hp2
    have w : IntKind.i64.wrap ((i : Int) + 1) = ((i + 1 : Nat) : Int) := wrap_nat (by omega)
    have hs' := withB_lt hs hp6 g3
    have hc' := cnt_with hr1 hr2 hs hp6 g1 hc
    have hst : gI stood (i : Int) = some ((withB s p g : Nat) : Int) := by rw [gI_at hjl, hp2.1]; rfl
    have go := fun sn' ag' e1 e2 e3 e4 => l8 (v := v) (e := e) (K := K) (stood := stood) hr1 hr2 hn hpg hF hnum k (i + 1) m (withB s p g) sn' ag' (by omega) (by omega) e1 e2 hs' hc' e3 e4
    obtain ⟨x, y, b1, b2, _⟩ := bit_i64 hs hp6
    have ga := fun v => @sI_at ag p v (by omega)
    have gs := fun v => @sI_at sn p v (by omega)
    have ra : gI ag (p : Int) = some ag[p] := gI_at (by omega)
    have rs : gI sn (p : Int) = some sn[p] := gI_at (by omega)
    have tail : ∃ y, ((shrO .i64 (s : Int) (p : Int)).bind fun x61 =>
      (some (andI .i64 x61 1)).bind fun x62 =>
      (some (decide (x62 = 0))).bind fun x63 =>
      (match x63 with
      | true => ((gI sn (p : Int)).bind fun y64 =>
      (sI sn (p : Int) (i : Int)).bind fun m65 =>
      (gI ag (p : Int)).bind fun y66 =>
      (sI ag (p : Int) (i : Int)).bind fun m67 =>
      (gI stood (i : Int)).bind fun y68 =>
      (some (IntKind.i64.wrap ((i : Int) + 1))).bind fun x69 =>
      f8_L1 F (room, pages) v (plan, e) stood (pages.length : Int) K m (y68, x69, m65, m67))
      | false => ((gI ag (p : Int)).bind fun y70 =>
      (sI ag (p : Int) (i : Int)).bind fun m71 =>
      (gI stood (i : Int)).bind fun y72 =>
      (some (IntKind.i64.wrap ((i : Int) + 1))).bind fun x73 =>
      f8_L1 F (room, pages) v (plan, e) stood (pages.length : Int) K m (y72, x73, sn, m71)))) = K y := by
      rw [bindS b1]
      simp only [obind, b2]
      cases hb : s.testBit p with
      | true =>
        rw [hb, if_pos rfl] at hp1 hp2
        simp only [if_true, show decide ((1 : Int) = 0) = false from rfl]
        rw [bindS ra, bindS (ga _), bindS hst]
        simp only [obind, w]
        exact go sn (ag.set p (i : Int)) hp1.2 hp2.2 hsn (by simpa using hag)
      | false =>
        rw [hb, if_neg (by decide)] at hp1 hp2
        simp only [Bool.false_eq_true, if_false, decide_true]
        rw [bindS rs, bindS (gs _), bindS ra, bindS (ga _), bindS hst]
        simp only [obind, w]
        exact go (sn.set p (i : Int)) (ag.set p (i : Int)) hp1.2 hp2.2 (by simpa using hsn) (by simpa using hag)
    simp only [obind] at tail
    simp only [obind, h1, gI_at hi, hp, gI_at hil, hp1.1]
    rcases g2 with rfl | ⟨gh1, gh2, gh3, gh4⟩
    · simp only [show decide ((0 : Int) ≤ -1) = false from rfl]
      exact tail
    · simp only [decide_eq_true gh1]
      rw [bindS (f51_eq (F := F) (show s < 4096 by omega) (by omega))]
      dsimp only
      have hne : bitsL s ≠ [] := fun e => by
        have h2 : room ≤ cnt s := by unfold fullB at gh3; simp at gh3; exact gh3.2
        have := bitsL_len (s := s)
        rw [e] at this; simp at this; omega
      have hin := fun Kf => @l8i room pages F v e i sn ag (bitsL s) g Kf hn (by omega) hsn hag hF (by rw [bitsL_len, ← bitsN_len]; exact bitsN_le) ⟨gh1, gh2⟩ (fun q hq => bitsL_range hs hq) (fun q hq => by
        rw [gh4]
        exact hnum i s sn ag hi hs hsn hag hne q hq) (bitsL s).length 0 F (by omega) (by have : (bitsL s).length ≤ 12 := by { rw [bitsL_len, ← bitsN_len]; exact bitsN_le }
                                                                                         omega)
      rw [show ((0 : Nat) : Int) = 0 from rfl] at hin
      rw [hin]
      exact tail
end
theorem same42 : @f8_L4 = @f8_L2 := by kernel_rfl
theorem same62 : @f8_L6 = @f8_L2 := by kernel_rfl
theorem same31 : @f8_L3 = @f8_L1 := by kernel_rfl
theorem same51 : @f8_L5 = @f8_L1 := by kernel_rfl
section
variable {room : Int} {pages : List Int}
theorem chk_later {t s : Nat} {sn ag : List Int} (ht : t < pages.length) (hn : pages.length ≤ 12) (hs : s < 64) : ∀ q ∈ bitsL s, chkR 0 pages t sn ag (pickN (fun q => numL pages sn ag q t) (bitsL s)) q := fun q hq => by
  have hm := pickN_max (num := fun q => numL pages sn ag q t) (bitsL_nonneg hs) q hq
  have hf := pickN_first (num := fun q => numL pages sn ag q t) (bitsL_nonneg hs) bitsL_pw q hq
  generalize pickN (fun q => numL pages sn ag q t) (bitsL s) = g at hm hf
  refine Or.inl ⟨rfl, ?_⟩
  simp only [numL, aft] at hm hf
  have r1 := @ixOf_lt (fun y => decide (g = y)) (pages.drop t)
  have r2 := @ixOf_lt (fun y => decide (q = y)) (pages.drop t)
  generalize ixOf (fun y => decide (g = y)) (pages.drop t) = y at hm hf r1
  generalize ixOf (fun y => decide (q = y)) (pages.drop t) = x at hm hf r2
  have hl : (pages.drop t).length = pages.length - t := by simp
  rw [hl] at r1 r2
  intro h
  by_cases c1 : 0 ≤ y
  · by_cases c2 : 0 ≤ x
    · rw [if_pos c1, if_pos c2] at hm; omega
    · rw [if_pos c1, if_neg c2] at hm; omega
  · have c2 : x < 0 := by omega
    rw [if_neg c1, if_neg (by omega)] at hf
    have := hf rfl
    omega
theorem chk_oldest {t s : Nat} {sn ag : List Int} (hs : s < 64) : ∀ q ∈ bitsL s, chkR 1 pages t sn ag (pickN (fun q => numO sn ag q t) (bitsL s)) q := fun q hq => by
  have hm := pickN_max (num := fun q => numO sn ag q t) (bitsL_nonneg hs) q hq
  refine Or.inr (Or.inl ⟨rfl, ?_⟩)
  simp only [numO] at hm ⊢
  omega
theorem chk_recent {t s : Nat} {sn ag : List Int} (hs : s < 64) : ∀ q ∈ bitsL s, chkR 2 pages t sn ag (pickN (fun q => numR sn ag q t) (bitsL s)) q := fun q hq => by
  have hm := pickN_max (num := fun q => numR sn ag q t) (bitsL_nonneg hs) q hq
  refine Or.inr (Or.inr ⟨rfl, ?_⟩)
  simp only [numR] at hm ⊢
  omega
def z6 : List Int := [0, 0, 0, 0, 0, 0]
theorem rule_f50 {num : NumF} (hc : chk room pages = 0) : ∃ n, f50S fuel room pages (ruledOf num room pages) = some ((.nz, (statesG num room pages 0 0 z6 z6).map Int.ofNat), n, true) ∧ ruledOf num room pages = plansG num room pages 0 0 z6 z6 := by
  obtain ⟨hr1, hr2, hn, hpg⟩ := chk_ok hc
  have e : ruledOf num room pages = plansG num room pages 0 0 z6 z6 := by
    unfold ruledOf
    rw [if_pos hc, ruledG_eq]; rfl
  obtain ⟨n, e2⟩ := ruled_flo (num := num) hr1 hr2 pages 0 0 z6 z6 0 [] hpg (by decide) (by rw [cnt_zero]; omega)
  refine ⟨n, ?_, e⟩
  rw [f50_eq hc (by rw [fuel_eq]; decide), e]
  unfold floorsOf
  rw [if_pos hc, if_pos (plansG_len pages 0 0 z6 z6), e2]
  rfl
theorem rule_all {num : NumF} {v : Int} {K : List Int × List Int → Option Bool} (hc : chk room pages = 0)
    (hnum : ∀ (t s : Nat) (sn ag : List Int), t < pages.length → s < 64 → sn.length = 6 → ag.length = 6 → bitsL s ≠ [] → ∀ q ∈ bitsL s, chkR v pages t sn ag (pickN (fun q => num sn ag q t) (bitsL s)) q) :
    ∃ l n, f50S fuel room pages (ruledOf num room pages) = some ((.nz, l), n, true) ∧ ∃ y, f8_L1 fuel (room, pages) v (ruledOf num room pages, 0) l (pages.length : Int) K fuel (0, 0, [0, 0, 0, 0, 0, 0], [0, 0, 0, 0, 0, 0]) = K y := by
  obtain ⟨hr1, hr2, hn, hpg⟩ := chk_ok hc
  obtain ⟨n, e1, e2⟩ := @rule_f50 room pages num hc
  refine ⟨_, n, e1, ?_⟩
  rw [e2]
  exact l8 (e := 0) hr1 hr2 hn hpg (by rw [fuel_eq]; decide) hnum pages.length 0 fuel 0 z6 z6 (by omega) (by rw [fuel_eq]; omega) rfl rfl (by decide) (by rw [cnt_zero]; omega) rfl rfl
end
theorem standLast_eq {a b c d e f g h i j k l m n : Int} (ha : byte a) (hb : byte b) (hs : ∀ p ∈ [c, d, e, f, g, h, i, j, k, l, m, n], byte p) : f8S fuel a b c d e f g h i j k l m n = some true := by
  obtain ⟨room, pages, e1, h1, h2, h3, h4⟩ := made_ok (room := 5) (times := 12) (by decide) (by decide) (by decide) (by decide) ha hb hs
  have hn : pages.length ≤ 12 := by omega
  have hc : chk room pages = 0 := chk_intro h1 (by omega) hn h4
  unfold f8S
  rw [bindS e1]
  have q0 := fun K => @rule_all room pages (numL pages) 0 K hc (fun t s sn ag ht hs _ _ _ => chk_later ht hn hs)
  have q1 := fun K => @rule_all room pages numO 1 K hc (fun t s sn ag ht hs _ _ _ => chk_oldest hs)
  have q2 := fun K => @rule_all room pages numR 2 K hc (fun t s sn ag ht hs _ _ _ => chk_recent hs)
  rw [later_eq] at q0
  rw [oldest_eq] at q1
  rw [recent_eq] at q2
  have s5 : ∀ {α : Type} (x : α), onS pages x = some x := fun x => onS_at (by omega)
  have step : ∀ (M G : Nat) (v v' : Int), M = G + 1 → v' = v + 1 → v = 0 ∨ v = 1 ∨ v = 2 → f8_L0 fuel (room, pages) (fun _ => (f18S fuel).bind fun b259 => some b259) M v = f8_L0 fuel (room, pages) (fun _ => (f18S fuel).bind fun b259 => some b259) G v' := by
    intro M G v v' hM hv' hv
    subst hM hv'
    rw [f8_L0.eq_def]
    dsimp only
    rcases hv with rfl | rfl | rfl
    · simp only [obind, show decide ((0 : Int) < 3) = true from rfl, s5, show decide ((0 : Int) = 1) = false from rfl, show decide ((0 : Int) = 2) = false from rfl, hc]
      obtain ⟨l, n, x1, y, x2⟩ := q0 (fun (m256, m257) => (some (IntKind.i64.wrap (0 + 1))).bind fun x258 => f8_L0 fuel (room, pages) (fun _ => (f18S fuel).bind fun b259 => some b259) G x258)
      rw [bindS x1]
      simp only [decide_true, obind, same51]
      simp only [obind] at x2
      rw [x2, show IntKind.i64.wrap (0 + 1) = 0 + 1 from rfl]
    · simp only [obind, show decide ((1 : Int) < 3) = true from rfl, s5, decide_true, hc]
      obtain ⟨l, n, x1, y, x2⟩ := q1 (fun (m256, m257) => (some (IntKind.i64.wrap (1 + 1))).bind fun x258 => f8_L0 fuel (room, pages) (fun _ => (f18S fuel).bind fun b259 => some b259) G x258)
      rw [bindS x1]
      simp only [decide_true, obind]
      simp only [obind] at x2
      rw [x2, show IntKind.i64.wrap (1 + 1) = 1 + 1 from rfl]
    · simp only [obind, show decide ((2 : Int) < 3) = true from rfl, s5, show decide ((2 : Int) = 1) = false from rfl, decide_true, hc]
      obtain ⟨l, n, x1, y, x2⟩ := q2 (fun (m256, m257) => (some (IntKind.i64.wrap (2 + 1))).bind fun x258 => f8_L0 fuel (room, pages) (fun _ => (f18S fuel).bind fun b259 => some b259) G x258)
      rw [bindS x1]
      simp only [decide_true, obind, same31]
      simp only [obind] at x2
      rw [x2, show IntKind.i64.wrap (2 + 1) = 2 + 1 from rfl]
  have s0 := step fuel 4999 0 1 fuel_eq rfl (Or.inl rfl)
  have s1 := step 4999 4998 1 2 rfl rfl (Or.inr (Or.inl rfl))
  have s2 := step 4998 4997 2 3 rfl rfl (Or.inr (Or.inr rfl))
  have last : ∀ (M G : Nat), M = G + 1 → f8_L0 fuel (room, pages) (fun _ => (f18S fuel).bind fun b259 => some b259) M 3 = some true := by
    intro M G hM
    subst hM
    rw [f8_L0.eq_def]
    simp only [obind, show decide ((3 : Int) < 3) = false from rfl, works_true]
  rw [s0, s1, s2]
  exact last 4997 4996 rfl
theorem standLast_is {a b c d e f g h i j k l m n : Int} (ha : byte a) (hb : byte b) (hs : ∀ p ∈ [c, d, e, f, g, h, i, j, k, l, m, n], byte p) :
    E Tryd.prog Y0 8 [.a [kv .u8 a, kv .u8 b, kv .u8 c, kv .u8 d, kv .u8 e, kv .u8 f, kv .u8 g, kv .u8 h, kv .u8 i, kv .u8 j, kv .u8 k, kv .u8 l, kv .u8 m, kv .u8 n]] [] = some (.v (.bool true), [], none) := f8_is (standLast_eq ha hb hs)
end Go.Proofs.YtcdhajbhpnbdkaaDoor
