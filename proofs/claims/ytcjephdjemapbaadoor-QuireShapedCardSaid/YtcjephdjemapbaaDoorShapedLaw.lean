/-
  QuireShaped: what is no strip and no pile is refused.
  Conditions: none; lemmas.
-/
import Derived.Test.YtcjephdjemapbaaDoorLaw13
import Derived.Test.YtcjephdjemapbaaDoorTriedB
set_option linter.unusedSimpArgs false
set_option linter.unusedVariables false
namespace Go.Proofs.YtcjephdjemapbaaDoor
open Go.Abs Go.Pur
set_option maxRecDepth 100000
def idxT (t : Int) : List Int → Int → Int
  | [], _ => -1
  | y :: r, j => if t = y then j else idxT t r (j + 1)
theorem idxT_mem {t : Int} : ∀ {l : List Int} {j : Int}, 0 ≤ j → (0 ≤ idxT t l j ↔ t ∈ l)
  | [], j, h => by simp [idxT]
  | y :: r, j, h => by
    rw [idxT, List.mem_cons]
    by_cases e : t = y
    · rw [if_pos e]; exact ⟨fun _ => .inl e, fun _ => h⟩
    · rw [if_neg e, idxT_mem (by omega)]
      exact ⟨.inr, fun w => w.elim (fun w => absurd w e) id⟩
theorem f68_gen {F : Nat} {l : List Int} {t : Int} (hl : l.length < F) (hb : l.length < 1000000000) : f68S F l t = some (idxT t l 0) := by
  have key : ∀ (n j : Nat), j ≤ l.length → l.length - j < n → f68_L0 F l t (l.length : Int) (fun _ => some (-1)) n (j : Int) = some (idxT t (l.drop j) (j : Int)) := by
    intro n
    induction n with
    | zero => intro j _ h; omega
    | succ n ih =>
      intro j hj hn
      rw [f68_L0]
      by_cases h : j < l.length
      · have h1 : decide ((j : Int) < (l.length : Int)) = true := decide_eq_true (by omega)
        have w := wrap_nat (show j < 1000000000000 by omega)
        have q := ih (j + 1) (by omega) (by omega)
        rw [drop_at h, idxT]
        simp only [Option.bind_some, h1, gI_at h, w, q]
        by_cases e : t = l[j]
        · rw [if_pos e, decide_eq_true e]
        · rw [if_neg e, decide_eq_false e]
          rfl
      · have h1 : decide ((j : Int) < (l.length : Int)) = false := decide_eq_false (by omega)
        simp only [Option.bind_some, h1, List.drop_of_length_le (by omega : l.length ≤ j), idxT]
  have := key F 0 (by omega) (by omega)
  unfold f68S
  rw [Option.bind_some]
  exact this
theorem f50_eq {F : Nat} {l : List Int} {t : Int} (hl : l.length < F) (hb : l.length < 1000000000) : f50S F l t = some (decide (t ∈ l)) := by
  unfold f50S
  rw [f68_gen hl hb, Option.bind_some, Option.bind_some]
  exact congrArg some (decide_eq_decide.2 (idxT_mem (by omega)))
def shp (x : Int) : Int := x.tmod 20 - 1
theorem tmod_lt {x : Int} : -20 < x.tmod 20 ∧ x.tmod 20 < 20 := ⟨Int.lt_tmod_of_pos x (by decide), Int.tmod_lt_of_pos x (by decide)⟩
theorem s13_0 {F : Nat} {p2 : List Int} {K : Int × List Int → Option Bool} (h16 : p2.length ≤ 16) (hF : 70 ≤ F) (hx : ∀ x ∈ p2, -128 ≤ x ∧ x ≤ 127) : ∀ (n i : Nat) (v : Int), i ≤ p2.length → p2.length - i < n → f13_L0 F p2 (p2.length : Int) K n (v, (p2.map shp).take i, (i : Int)) = K (if v = 0 then chk p2.length ((p2.map shp).drop i) ((p2.map shp).take i) else v, p2.map shp) := by
  intro n
  have hP : (p2.map shp).length = p2.length := by simp
  induction n with
  | zero => intro i v _ h; omega
  | succ n ih =>
    intro i v hi hn
    rw [f13_L0]
    by_cases h : i < p2.length
    · have h1 : decide ((i : Int) < (p2.length : Int)) = true := decide_eq_true (by omega)
      have w := wrap_nat (show i < 1000000000000 by omega)
      have hx' := hx _ (List.getElem_mem h)
      have e0 : (p2.map shp)[i]'(by omega) = shp p2[i] := by simp
      have t2 : (p2.map shp).take (i + 1) = (p2.map shp).take i ++ [shp p2[i]] := by
        rw [List.take_add_one, List.getElem?_eq_getElem (by omega), e0]; rfl
      have t3 : (p2.map shp).drop i = shp p2[i] :: (p2.map shp).drop (i + 1) := by
        rw [List.drop_eq_getElem_cons (by omega), e0]
      have t4 := @tmod_lt p2[i]
      have w1 : IntKind.i64.wrap p2[i] = p2[i] := wrap64 (by omega) (by omega)
      have w2 : IntKind.i64.wrap (p2[i].tmod 20 - 1) = shp p2[i] := by rw [wrap64 (by omega) (by omega)]; rfl
      have ht : ((p2.map shp).take i).length ≤ 1000000 := by rw [List.length_take]; omega
      have q := fun v => ih (i + 1) v (by omega) (by omega)
      rw [t2] at q
      have m1 := f50_eq (F := F) (l := (p2.map shp).take i) (t := shp p2[i]) (by rw [List.length_take]; omega) (by omega)
      rw [t3, chk]
      simp only [Option.bind_some, h1, gI_at h, w1, w2, app1_at ht, w, m1, q]
      by_cases a : v = 0
      · rw [decide_eq_true a, if_pos a]
        by_cases b : shp p2[i] < 0
        · rw [decide_eq_true b, if_pos b]; simp only [if_neg (show ¬ (2 : Int) = 0 by decide), if_pos a]
        · rw [decide_eq_false b, if_neg b]
          by_cases c : (p2.length : Int) ≤ shp p2[i]
          · rw [decide_eq_true c, if_pos c]; simp only [if_neg (show ¬ (2 : Int) = 0 by decide), if_pos a]
          · rw [decide_eq_false c, if_neg c]
            by_cases d : shp p2[i] ∈ (p2.map shp).take i
            · rw [decide_eq_true d, if_pos d]; simp only [if_neg (show ¬ (6 : Int) = 0 by decide), if_pos a]
            · rw [decide_eq_false d, if_neg d]
              simp only [a, if_true]
      · rw [decide_eq_false a, if_neg a]
        simp only [a, if_false]
    · have h1 : decide ((i : Int) < (p2.length : Int)) = false := decide_eq_false (by omega)
      simp only [Option.bind_some, h1]
      rw [List.drop_of_length_le (by omega), chk, List.take_of_length_le (by omega)]
      by_cases a : v = 0
      · rw [if_pos a, a]
      · rw [if_neg a]
theorem s13_1 {F : Nat} {p2 : List Int} {K : Int × List Int → Option Bool} (h16 : p2.length ≤ 16) (hF : 70 ≤ F) (hx : ∀ x ∈ p2, -128 ≤ x ∧ x ≤ 127) : ∀ (n i : Nat) (v : Int), i ≤ p2.length → p2.length - i < n → f13_L1 F p2 (p2.length : Int) K n (v, (p2.map shp).take i, (i : Int)) = K (if v = 0 then chk p2.length ((p2.map shp).drop i) ((p2.map shp).take i) else v, p2.map shp) := by
  intro n
  have hP : (p2.map shp).length = p2.length := by simp
  induction n with
  | zero => intro i v _ h; omega
  | succ n ih =>
    intro i v hi hn
    rw [f13_L1]
    by_cases h : i < p2.length
    · have h1 : decide ((i : Int) < (p2.length : Int)) = true := decide_eq_true (by omega)
      have w := wrap_nat (show i < 1000000000000 by omega)
      have hx' := hx _ (List.getElem_mem h)
      have e0 : (p2.map shp)[i]'(by omega) = shp p2[i] := by simp
      have t2 : (p2.map shp).take (i + 1) = (p2.map shp).take i ++ [shp p2[i]] := by
        rw [List.take_add_one, List.getElem?_eq_getElem (by omega), e0]; rfl
      have t3 : (p2.map shp).drop i = shp p2[i] :: (p2.map shp).drop (i + 1) := by
        rw [List.drop_eq_getElem_cons (by omega), e0]
      have t4 := @tmod_lt p2[i]
      have w1 : IntKind.i64.wrap p2[i] = p2[i] := wrap64 (by omega) (by omega)
      have w2 : IntKind.i64.wrap (p2[i].tmod 20 - 1) = shp p2[i] := by rw [wrap64 (by omega) (by omega)]; rfl
      have ht : ((p2.map shp).take i).length ≤ 1000000 := by rw [List.length_take]; omega
      have q := fun v => ih (i + 1) v (by omega) (by omega)
      rw [t2] at q
      have m1 := f50_eq (F := F) (l := (p2.map shp).take i) (t := shp p2[i]) (by rw [List.length_take]; omega) (by omega)
      rw [t3, chk]
      simp only [Option.bind_some, h1, gI_at h, w1, w2, app1_at ht, w, m1, q]
      by_cases a : v = 0
      · rw [decide_eq_true a, if_pos a]
        by_cases b : shp p2[i] < 0
        · rw [decide_eq_true b, if_pos b]; simp only [if_neg (show ¬ (2 : Int) = 0 by decide), if_pos a]
        · rw [decide_eq_false b, if_neg b]
          by_cases c : (p2.length : Int) ≤ shp p2[i]
          · rw [decide_eq_true c, if_pos c]; simp only [if_neg (show ¬ (2 : Int) = 0 by decide), if_pos a]
          · rw [decide_eq_false c, if_neg c]
            by_cases d : shp p2[i] ∈ (p2.map shp).take i
            · rw [decide_eq_true d, if_pos d]; simp only [if_neg (show ¬ (6 : Int) = 0 by decide), if_pos a]
            · rw [decide_eq_false d, if_neg d]
              simp only [a, if_true]
      · rw [decide_eq_false a, if_neg a]
        simp only [a, if_false]
    · have h1 : decide ((i : Int) < (p2.length : Int)) = false := decide_eq_false (by omega)
      simp only [Option.bind_some, h1]
      rw [List.drop_of_length_le (by omega), chk, List.take_of_length_le (by omega)]
      by_cases a : v = 0
      · rw [if_pos a, a]
      · rw [if_neg a]
def pw (n : Nat) : Bool := (List.range 7).any fun k => Nat.beq n (2 ^ k)
theorem pw_iff {n : Nat} : pw n = true ↔ ∃ k, k ≤ 6 ∧ n = 2 ^ k := by
  unfold pw
  rw [List.any_eq_true]
  refine ⟨fun ⟨k, h1, h2⟩ => ⟨k, by have := List.mem_range.1 h1; omega, Nat.eq_of_beq_eq_true h2⟩, fun ⟨k, h1, h2⟩ => ⟨k, List.mem_range.2 (by omega), by subst h2; exact Nat.beq_refl _⟩⟩
def ok49 (n : Nat) : Bool := match f49S fuel (n : Int) with
  | some e => decide (e = (n : Int)) == (pw n || Nat.beq n 0)
  | none => false
theorem tab49 : (List.range 65).all ok49 = true := by kernel_rfl
theorem f49_ok {n : Nat} (h : n ≤ 64) : ∃ e, f49S fuel (n : Int) = some e ∧ decide (e = (n : Int)) = (pw n || Nat.beq n 0) := by
  have t := List.all_eq_true.1 tab49 n (List.mem_range.2 (by omega))
  unfold ok49 at t
  cases e : f49S fuel (n : Int) with
  | none => rw [e] at t; cases t
  | some a =>
    rw [e] at t
    exact ⟨a, rfl, eq_of_beq t⟩
theorem why_code {l : List UInt8} : (whyL l).2.2 = 0 ∨ (whyL l).2.2 = 13 := by
  unfold whyL
  cases scI (cl l) l.length 0 with
  | none => exact .inr rfl
  | some ab => exact .inl rfl
theorem folds_code {l : List UInt8} {k : Nat} : (foldsL l k).2 = 0 ∨ (foldsL l k).2 = 12 := by
  unfold foldsL
  split
  · exact .inl rfl
  · exact .inr rfl
theorem chk_code {n : Nat} : ∀ {l s : List Int}, chk n l s = 0 ∨ chk n l s = 2 ∨ chk n l s = 6
  | [], s => .inl rfl
  | y :: r, s => by
    rw [chk]
    split
    · exact .inr (.inl rfl)
    · split
      · exact .inr (.inl rfl)
      · split
        · exact .inr (.inr rfl)
        · exact chk_code
theorem read_code {k : Nat} {p : List Int} : (readL k p).2 = 0 ∨ (readL k p).2 = 12 := by
  unfold readL
  cases rd k p with
  | none => exact .inr rfl
  | some cs => simp only []; split
               · exact .inl rfl
               · exact .inr rfl
theorem f40_bad {p : List Int} (hp : p.length ≤ 64) (h : pw p.length = false) : f40S fuel p = some ([], 5) := by
  rcases size_ok hp with ⟨k, hk, hl, _, _⟩ | ⟨d, hd, h5, h4⟩
  · have := pw_iff.2 ⟨k, hk, hl⟩
    rw [this] at h; cases h
  · unfold f40S
    rw [Option.bind_some, Option.bind_some, decide_eq_false (show ¬ (64 : Int) < p.length by omega)]
    dsimp only
    by_cases z : (p.length : Int) = 0
    · rw [Option.bind_some, decide_eq_true z]
    · rw [Option.bind_some, decide_eq_false z]
      dsimp only
      rw [Option.bind_some, Option.bind_some, Option.bind_some, decide_eq_false (h4.resolve_left (by omega))]
theorem f40_good {p : List Int} (hp : p.length ≤ 64) (h : pw p.length = true) : ∃ k, f40S fuel p = some (pilesL p k) := by
  obtain ⟨k, hk, hl⟩ := pw_iff.1 h
  rcases size_ok hp with ⟨k', hk', hl', h5, h4⟩ | ⟨d, hd, h5, h4⟩
  · exact ⟨k', f40_ok (by rw [fuel_eq]; decide) hk' hl' h4⟩
  · have t := List.all_eq_true.1 tab65 p.length (List.mem_range.2 (by omega))
    exfalso
    unfold ok65 at t
    rw [h5] at t
    cases e : (List.range 7).find? (fun k => Nat.beq p.length (2 ^ k)) with
    | none =>
      have := List.find?_eq_none.1 e k (List.mem_range.2 (by omega))
      rw [hl] at this
      exact this (Nat.beq_refl _)
    | some k' =>
      rw [e] at t
      simp only [Bool.and_eq_true, decide_eq_true_eq] at t
      omega
theorem s13z_0 {F : Nat} {p2 : List Int} {K : Int × List Int → Option Bool} (h16 : p2.length ≤ 16) (hF : 70 ≤ F) (hx : ∀ x ∈ p2, -128 ≤ x ∧ x ≤ 127) : f13_L0 F p2 (p2.length : Int) K F (0, [], 0) = K (chk p2.length (p2.map shp) [], p2.map shp) := by
  have := s13_0 (K := K) h16 hF hx F 0 0 (by omega) (by omega)
  rw [if_pos rfl, List.drop_zero, List.take_zero] at this
  exact this
theorem s13z_1 {F : Nat} {p2 : List Int} {K : Int × List Int → Option Bool} (h16 : p2.length ≤ 16) (hF : 70 ≤ F) (hx : ∀ x ∈ p2, -128 ≤ x ∧ x ≤ 127) : f13_L1 F p2 (p2.length : Int) K F (0, [], 0) = K (chk p2.length (p2.map shp) [], p2.map shp) := by
  have := s13_1 (K := K) h16 hF hx F 0 0 (by omega) (by omega)
  rw [if_pos rfl, List.drop_zero, List.take_zero] at this
  exact this
theorem f33_len {l : List UInt8} {k : Int} (hs : f62S fuel l = some (k, 0)) : f33S fuel l (l.length : Int) 0 = some 2 := by
  unfold f33S
  rw [hs, Option.bind_some]
  dsimp only
  rw [Option.bind_some, decide_eq_true rfl]
  dsimp only
  rw [Option.bind_some, Option.bind_some, decide_eq_false (show ¬ min (l.length : Int) 0 < 0 by omega)]
  dsimp only
  rw [Option.bind_some, Option.bind_some, Option.bind_some, decide_eq_true (show (l.length : Int) ≤ max (l.length : Int) 0 by omega)]
theorem shaped_law {m y : Nat} {l : List Int} (hm : m < 256) (hx : ∀ x ∈ l, -128 ≤ x ∧ x ≤ 127) : f13S fuel (m : Int) (y : Int) l = some true := by
  unfold f13S
  rw [creasedO_at hm, Option.bind_some, Option.bind_some]
  have hv := creasedL_vh (k := m % 64) (y := y)
  have hl : (creasedL (m % 64) y).length ≤ 63 := by rw [creasedL_len]; omega
  generalize creasedL (m % 64) y = c at hv hl
  have hle := letters_vh hl hv
  rw [wrap_nat (show c.length < 1000000000000 by omega), Option.bind_some]
  obtain ⟨e, f1, f2⟩ := f49_ok (n := c.length + 1) (by omega)
  have f3 : Nat.beq (c.length + 1) 0 = false := rfl
  rw [f3, Bool.or_false] at f2
  rw [f1, Option.bind_some, Option.bind_some, f2]
  cases hp : pw (c.length + 1) with
  | true =>
    obtain ⟨k, hk, hk2⟩ := pw_iff.1 hp
    obtain ⟨g1, g2⟩ := f62_at hk hle hk2
    dsimp only
    rw [f29_ok g1 hk hk2, Option.bind_some]
    have h29 := folds_code (l := c) (k := k)
    generalize foldsL c k = r29 at h29
    obtain ⟨s7, x8⟩ := r29
    dsimp only at h29 ⊢
    rw [f31_ok g1 (by omega), Option.bind_some]
    have h31 := why_code (l := c)
    generalize whyL c = r31 at h31
    obtain ⟨x10, x11, x12⟩ := r31
    dsimp only at h31 ⊢
    rw [Option.bind_some, decide_eq_false (show ¬ x8 = 5 by omega), Option.bind_some, show (false != false) = false from rfl]
    dsimp only
    rw [Option.bind_some, decide_eq_false (show ¬ x12 = 5 by omega), Option.bind_some, show (false != false) = false from rfl]
    dsimp only
    rw [f33_len g1, Option.bind_some, Option.bind_some, decide_eq_true rfl]
    dsimp only
    rw [Option.bind_some, Option.bind_some]
    by_cases h16 : (16 : Int) < l.length
    · rw [decide_eq_true h16]
      dsimp only
      rw [works_true]
      rfl
    · rw [decide_eq_false h16]
      dsimp only
      rw [s13z_0 (by omega) (by rw [fuel_eq]; decide) hx]
      dsimp only
      have hP : (l.map shp).length = l.length := by simp
      rw [Option.bind_some, Option.bind_some]
      by_cases z : (l.length : Int) = 0
      · rw [decide_eq_true z]
        dsimp only
        have : pw (l.map shp).length = false := by rw [hP, show l.length = 0 by omega]; rfl
        rw [f40_bad (by omega) this, Option.bind_some]
        dsimp only
        rw [Option.bind_some, decide_eq_true rfl]
        dsimp only
        rw [works_true]
        rfl
      · rw [decide_eq_false z]
        dsimp only
        obtain ⟨e', g1, g2⟩ := f49_ok (n := l.length) (by omega)
        have z' : Nat.beq l.length 0 = false := beqF (by omega)
        rw [z', Bool.or_false] at g2
        rw [g1, Option.bind_some, Option.bind_some, g2]
        cases hw : pw l.length with
        | false =>
          dsimp only
          rw [f40_bad (p := l.map shp) (by omega) (by rw [hP]; exact hw), Option.bind_some]
          dsimp only
          rw [Option.bind_some, decide_eq_true rfl]
          dsimp only
          rw [works_true]
          rfl
        | true =>
          dsimp only
          obtain ⟨k, g3⟩ := f40_good (p := l.map shp) (by omega) (by rw [hP]; exact hw)
          rw [g3, Option.bind_some]
          unfold pilesL
          rw [hP]
          by_cases c0 : chk l.length (l.map shp) [] = 0
          · rw [if_pos c0, c0]
            have hr := read_code (k := k) (p := l.map shp)
            generalize readL k (l.map shp) = rr at hr
            obtain ⟨s, x⟩ := rr
            dsimp only at hr ⊢
            rw [Option.bind_some, decide_eq_true rfl]
            dsimp only
            rw [Option.bind_some]
            rcases hr with rfl | rfl
            · rw [decide_eq_true rfl]
              dsimp only
              rw [works_true]
              rfl
            · rw [show decide ((12 : Int) = 0) = false from rfl]
              dsimp only
              rw [Option.bind_some, decide_eq_true rfl]
              dsimp only
              rw [works_true]
              rfl
          · rw [if_neg c0]
            dsimp only
            rw [Option.bind_some, decide_eq_false c0]
            dsimp only
            rw [Option.bind_some, decide_eq_true rfl]
            dsimp only
            rw [works_true]
            rfl
  | false =>
    have g : f62S fuel c = some (0, 5) := by
      rcases shaped_ok hle (by omega) with ⟨k, _, _, _, _, h1, h2⟩ | ⟨h1, _⟩
      · have := pw_iff.2 ⟨k, h2, h1⟩
        rw [this] at hp; cases hp
      · exact h1
    have q29 : f29S fuel c = some ([], 5) := by
      unfold f29S
      rw [g, Option.bind_some]
      dsimp only
      rw [Option.bind_some, show decide ((5 : Int) = 0) = false from rfl]
    have q31 : f31S fuel c = some (0, 0, 5) := by
      unfold f31S
      rw [g, Option.bind_some]
      dsimp only
      rw [Option.bind_some, show decide ((5 : Int) = 0) = false from rfl]
    have q33 : f33S fuel c (c.length : Int) 0 = some 5 := by
      unfold f33S
      rw [g, Option.bind_some]
      dsimp only
      rw [Option.bind_some, show decide ((5 : Int) = 0) = false from rfl]
    dsimp only
    rw [q29, Option.bind_some]
    dsimp only
    rw [q31, Option.bind_some]
    dsimp only
    rw [Option.bind_some, decide_eq_true rfl, Option.bind_some, show (true != true) = false from rfl]
    dsimp only
    rw [Option.bind_some, Option.bind_some, show (true != true) = false from rfl]
    dsimp only
    rw [q33, Option.bind_some, Option.bind_some, decide_eq_true rfl]
    dsimp only
    rw [Option.bind_some, Option.bind_some]
    by_cases h16 : (16 : Int) < l.length
    · rw [decide_eq_true h16]
      dsimp only
      rw [works_true]
      rfl
    · rw [decide_eq_false h16]
      dsimp only
      rw [s13z_1 (by omega) (by rw [fuel_eq]; decide) hx]
      dsimp only
      have hP : (l.map shp).length = l.length := by simp
      rw [Option.bind_some, Option.bind_some]
      by_cases z : (l.length : Int) = 0
      · rw [decide_eq_true z]
        dsimp only
        have : pw (l.map shp).length = false := by rw [hP, show l.length = 0 by omega]; rfl
        rw [f40_bad (by omega) this, Option.bind_some]
        dsimp only
        rw [Option.bind_some, decide_eq_true rfl]
        dsimp only
        rw [works_true]
        rfl
      · rw [decide_eq_false z]
        dsimp only
        obtain ⟨e', g1, g2⟩ := f49_ok (n := l.length) (by omega)
        have z' : Nat.beq l.length 0 = false := beqF (by omega)
        rw [z', Bool.or_false] at g2
        rw [g1, Option.bind_some, Option.bind_some, g2]
        cases hw : pw l.length with
        | false =>
          dsimp only
          rw [f40_bad (p := l.map shp) (by omega) (by rw [hP]; exact hw), Option.bind_some]
          dsimp only
          rw [Option.bind_some, decide_eq_true rfl]
          dsimp only
          rw [works_true]
          rfl
        | true =>
          dsimp only
          obtain ⟨k, g3⟩ := f40_good (p := l.map shp) (by omega) (by rw [hP]; exact hw)
          rw [g3, Option.bind_some]
          unfold pilesL
          rw [hP]
          by_cases c0 : chk l.length (l.map shp) [] = 0
          · rw [if_pos c0, c0]
            have hr := read_code (k := k) (p := l.map shp)
            generalize readL k (l.map shp) = rr at hr
            obtain ⟨s, x⟩ := rr
            dsimp only at hr ⊢
            rw [Option.bind_some, decide_eq_true rfl]
            dsimp only
            rw [Option.bind_some]
            rcases hr with rfl | rfl
            · rw [decide_eq_true rfl]
              dsimp only
              rw [works_true]
              rfl
            · rw [show decide ((12 : Int) = 0) = false from rfl]
              dsimp only
              rw [Option.bind_some, decide_eq_true rfl]
              dsimp only
              rw [works_true]
              rfl
          · rw [if_neg c0]
            dsimp only
            rw [Option.bind_some, decide_eq_false c0]
            dsimp only
            rw [Option.bind_some, decide_eq_true rfl]
            dsimp only
            rw [works_true]
            rfl
theorem quireShaped_is {m y : Nat} {l : List Int} (hm : m < 256) (hx : ∀ x ∈ l, -128 ≤ x ∧ x ≤ 127) : E Tryd.prog Y0 13 [.v (.int .u8 m), .v (.int .u64 y), .l .fz .any l.length (l.map fun z => .v (.int .i8 z))] [] = some (.v (.bool true), [], none) := f13_is (a2 := false) (c2 := .any) (shaped_law hm hx)
end Go.Proofs.YtcjephdjemapbaaDoor
