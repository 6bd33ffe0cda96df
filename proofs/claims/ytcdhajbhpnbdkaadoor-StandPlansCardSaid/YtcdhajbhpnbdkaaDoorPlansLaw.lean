/-
  StandPlans answers true: the plain law.
  Conditions: none; lemmas.
-/
import Derived.Test.YtcdhajbhpnbdkaaDoorLaw5
import Derived.Test.YtcdhajbhpnbdkaaDoorWhyLaw
set_option linter.unusedSimpArgs false
set_option linter.unusedVariables false
namespace Go.Proofs.YtcdhajbhpnbdkaaDoor
open Go.Abs Go.Pur
set_option maxRecDepth 100000
theorem neL_at {α : Type} {l : List α} (h0 : l ≠ []) (h : l.length ≤ 1000000) : neL l = some () := by
  unfold neL
  have h1 : 0 < l.length := List.length_pos_iff.2 h0
  rw [beqF (show l.length ≠ 0 by omega), show Nat.ble l.length 1000000 = true from ble_true h]
theorem appL_at {α : Type} {l r : List α} (h0 : r ≠ []) (h : l.length + r.length ≤ 1000000) : appL l r = some (l ++ r) := by
  unfold appL
  have h1 : 0 < r.length := List.length_pos_iff.2 h0
  rw [beqF (show r.length ≠ 0 by omega), show Nat.ble (l.length + r.length) 1000000 = true from ble_true h]
theorem plans_cnt {K : Nat} (hK : 1 ≤ K) : ∀ (l : List Nat) (s : Nat) (left : Int), s < 64 → (∀ p ∈ l, p < 6) → cnt s ≤ K → (plansN K l s left).length ≤ K ^ (l.length - (K - cnt s))
  | [], s, left, _, _, _ => by
    simp only [plansN]
    split <;> simp
  | p :: r, s, left, hs, hl, hc => by
    have hp : p < 6 := hl p (by simp)
    have hr : ∀ q ∈ r, q < 6 := fun q hq => hl q (by simp [hq])
    simp only [plansN]
    split
    · simp
    · split
      · rw [List.length_map]
        refine Nat.le_trans (plans_cnt hK r s left hs hr hc) (Nat.pow_le_pow_right hK ?_)
        simp only [List.length_cons]; omega
      · rename_i hb
        have hb' : s.testBit p = false := by simpa using hb
        split
        · rename_i h2
          have e : cnt (setB s p) = cnt s + 1 := by rw [cnt_set hs hp, hb']; rfl
          rw [List.length_map]
          refine Nat.le_trans (plans_cnt hK r _ _ (set_lt hs hp) hr (by omega)) (Nat.pow_le_pow_right hK ?_)
          simp only [List.length_cons]; omega
        · rename_i h2
          have hc' : cnt s = K := by omega
          have : ∀ g ∈ bitsN s, ((plansN K r (setB (clrB s g) p) (left - 1)).map ((g : Int) :: ·)).length ≤ K ^ r.length := fun g hg => by
            obtain ⟨g6, gb⟩ := (bitsN_mem hs).1 hg
            rw [List.length_map]
            have e := cnt_swap hs hp g6 gb hb'
            have := plans_cnt hK r (setB (clrB s g) p) (left - 1) (set_lt (clr_lt hs g6) hp) hr (by omega)
            rwa [e, hc', Nat.sub_self, Nat.sub_zero] at this
          have sum : ∀ (L : List Nat) (f : Nat → List (List Int)) (M : Nat), (∀ g ∈ L, (f g).length ≤ M) → (L.flatMap f).length ≤ L.length * M := by
            intro L f M
            induction L with
            | nil => intro _; simp
            | cons a L ih =>
              intro h
              have h1 := h a (by simp)
              have h2 := ih fun g hg => h g (by simp [hg])
              rw [List.flatMap_cons, List.length_append, List.length_cons, Nat.add_mul]
              omega
          refine Nat.le_trans (sum _ _ _ this) ?_
          rw [bitsN_len, hc', Nat.sub_self, Nat.sub_zero, List.length_cons, Nat.pow_succ, Nat.mul_comm]
          exact Nat.le_refl _
theorem pow_le5 {K m : Nat} (h1 : 1 ≤ K) (h5 : K ≤ 5) (hm : m ≤ 12 - K) : K ^ m ≤ 100000 := by
  refine Nat.le_trans (Nat.pow_le_pow_right h1 hm) ?_
  have : K = 1 ∨ K = 2 ∨ K = 3 ∨ K = 4 ∨ K = 5 := by omega
  rcases this with rfl | rfl | rfl | rfl | rfl <;> decide
theorem plans_le {room : Int} {l : List Nat} {s : Nat} {left : Int} (hr1 : 1 ≤ room) (hr2 : room ≤ 5) (hs : s < 64) (hl : ∀ p ∈ l, p < 6) (hc : (cnt s : Int) ≤ room) (hn : l.length + cnt s ≤ 12) : (plansN room l s left).length ≤ 100000 := by
  obtain ⟨K, rfl⟩ := Int.eq_ofNat_of_zero_le (show 0 ≤ room by omega)
  refine Nat.le_trans (plans_cnt (by omega) l s left hs hl (by omega)) (pow_le5 (by omega) (by omega) (by omega))
def bitsFrom (s i k : Nat) : List Nat := (List.range' i k).filter fun j => s.testBit j
theorem bitsFrom_all {s : Nat} (h : s < 64) : bitsFrom s 0 6 = bitsN s := by
  unfold bitsFrom bitsN
  rw [List.range_eq_range', show (12 : Nat) = 6 + 6 from rfl, ← List.range'_append_1, List.filter_append]
  have : (List.range' (0 + 6) 6).filter (fun j => s.testBit j) = [] := by
    rw [List.filter_eq_nil_iff]
    intro j hj
    rw [List.mem_range'_1] at hj
    have h2 : 2 ^ 6 ≤ 2 ^ j := Nat.pow_le_pow_right (by decide) (by omega)
    rw [Nat.testBit_lt_two_pow (by omega)]; simp
  rw [this, List.append_nil]
def nzL (p : List Int) : Ck × List Int := (.nz, p)
theorem six_bits {s p : Nat} {now : List Int} (h : Same now s) (hp : p < 6) : decide ((p : Int) ∈ now) = s.testBit p := by
  have := h.mem p
  rw [Bool.eq_iff_iff, decide_eq_true_eq]
  rw [this]
  constructor
  · rintro ⟨_, _, h⟩; simpa using h
  · intro h; exact ⟨by omega, by omega, by simpa using h⟩
section
variable {room : Int} {pages : List Int} {F : Nat}
theorem l83 {R : Int → List Int → Ck → List Int → List Int → Int → Option ((Ck × List (Ck × List Int)))} {begun now : List Int} {left : Int} {p s : Nat} {K : List (Ck × List Int) → Option ((Ck × List (Ck × List Int)))} {G : Nat → List (Ck × List Int)}
    (hS : Same now s) (hp : p < 6) (hb0 : begun ≠ []) (hbl : begun.length ≤ 1000) (hl1 : -1 ≤ left) (hl2 : left ≤ 100)
    (hR : ∀ g : Nat, g < 6 → s.testBit g = true → ∃ c, R room pages .nz (begun ++ [(g : Int)]) (wo (wo now g) p ++ [(p : Int)]) (left - 1) = some (c, G g)) :
    ∀ (k i m : Nat) (v : List (Ck × List Int)), i + k = 6 → k < m → v.length + ((bitsFrom s i k).flatMap G).length ≤ 1000000 →
    f83_L0 F R room pages begun now left (p : Int) K m (v, (i : Int)) = K (v ++ (bitsFrom s i k).flatMap G)
  | k, i, 0, v, _, h, _ => by omega
  | 0, i, m + 1, v, hk, _, _ => by
    rw [f83_L0]
    have h1 : decide ((i : Int) < 6) = false := decide_eq_false (by omega)
    simp only [Option.bind_some, h1, bitsFrom, List.range'_zero, List.filter_nil, List.flatMap_nil, List.append_nil]
  | k + 1, i, m + 1, v, hk, hm, hv => by
    rw [f83_L0]
    have h1 : decide ((i : Int) < 6) = true := decide_eq_true (by omega)
    have hn6 : now.length ≤ 12 := by rw [hS.length]; rw [← bitsN_len]; exact bitsN_le
    have w : IntKind.i64.wrap ((i : Int) + 1) = ((i + 1 : Nat) : Int) := wrap_nat (by omega)
    simp only [Option.bind_some, h1, onS_at (l := now) (by omega), six_bits hS (show i < 6 by omega)]
    cases hb : s.testBit i with
    | false =>
      have e : bitsFrom s i (k + 1) = bitsFrom s (i + 1) k := by
        unfold bitsFrom
        rw [List.range'_succ, List.filter_cons_of_neg (by simp [hb])]
      rw [e] at hv ⊢
      simp only [w, Option.bind_some]
      exact l83 hS hp hb0 hbl hl1 hl2 hR k (i + 1) m v (by omega) (by omega) hv
    | true =>
      have e : bitsFrom s i (k + 1) = i :: bitsFrom s (i + 1) k := by
        unfold bitsFrom
        rw [List.range'_succ, List.filter_cons_of_pos (by simp [hb])]
      rw [e, List.flatMap_cons, List.length_append] at hv
      obtain ⟨c, hc⟩ := hR i (by omega) hb
      have hw : (wo now (i : Int)).length ≤ 12 := Nat.le_trans wo_length hn6
      have wl : IntKind.i64.wrap (left - 1) = left - 1 := wrapN (by omega) (by omega)
      simp only [neL_at hb0 (by omega), app1_at (l := begun) (by omega), onS_at (l := wo now (i : Int)) (by omega), Option.bind_some, wl, hc]
      rw [e, List.flatMap_cons]
      cases hG : (G i) with
      | nil =>
        simp only [List.isEmpty_nil, w, Option.bind_some, List.nil_append]
        exact l83 hS hp hb0 hbl hl1 hl2 hR k (i + 1) m v (by omega) (by omega) (by omega)
      | cons a l =>
        have hG0 : G i ≠ [] := by rw [hG]; simp
        simp only [List.isEmpty_cons]
        rw [← hG, appL_at hG0 (by omega)]
        simp only [w, Option.bind_some]
        rw [l83 hS hp hb0 hbl hl1 hl2 hR k (i + 1) m (v ++ G i) (by omega) (by omega) (by rw [List.length_append]; omega), List.append_assoc]
theorem f83_eq (hr1 : 1 ≤ room) (hr2 : room ≤ 5) (hpg : ∀ q ∈ pages, 0 ≤ q ∧ q ≤ 5) (hn : pages.length ≤ 12) (hF : 10 < F) : ∀ (k D t : Nat) (begun now : List Int) (s : Nat) (left : Int), t + k = pages.length → k < D → begun.length = t → (begun = [] → s = 0) → Same now s → (cnt s : Int) ≤ room → cnt s ≤ t → -1 ≤ left → left ≤ 100 →
    ∃ c, f83S F D room pages .nz begun now left = some (c, (plansN room (rem6 pages t) s left).map fun p => nzL (begun ++ p))
  | k, 0, t, begun, now, s, left, _, h, _, _, _, _, _, _, _ => by omega
  | k, D + 1, t, begun, now, s, left, hk, hD, hb, hb0, hS, hc, hct, hl1, hl2 => by
    have h6 : ∀ j, ∀ q ∈ rem6 pages j, q < 6 := fun j q hq => by
      unfold rem6 at hq
      obtain ⟨x, hx, rfl⟩ := List.mem_map.1 (List.mem_of_mem_drop hq)
      have := hpg x hx; omega
    have hn6 : now.length ≤ 12 := by rw [hS.length]; rw [← bitsN_len]; exact bitsN_le
    rw [f83S]
    by_cases hleft : left < 0
    · have h1 : decide (left < 0) = true := decide_eq_true hleft
      simp only [Option.bind_some, h1]
      refine ⟨.nz, ?_⟩
      cases e : rem6 pages t <;> simp [plansN, hleft]
    · have h1 : decide (left < 0) = false := decide_eq_false hleft
      simp only [Option.bind_some, h1]
      cases k with
      | zero =>
        have h2 : decide ((begun.length : Int) = (pages.length : Int)) = true := decide_eq_true (by omega)
        simp only [h2]
        refine ⟨.full, ?_⟩
        have e : rem6 pages t = [] := by unfold rem6; rw [List.drop_of_length_le (by simp; omega)]
        rw [e]
        simp [plansN, hleft, nzL]
      | succ k =>
        have ht : t < pages.length := by omega
        have h2 : decide ((t : Int) = (pages.length : Int)) = false := decide_eq_false (by omega)
        obtain ⟨p, hp⟩ := Int.eq_ofNat_of_zero_le (hpg pages[t] (List.getElem_mem ht)).1
        have hp6 : p < 6 := by have := (hpg pages[t] (List.getElem_mem ht)).2; omega
        have hrem := rem6_cons ht hp
        have hrl : (rem6 pages (t + 1)).length = k := by unfold rem6; simp; omega
        simp only [h2, hb, gI_at ht, hp, Option.bind_some, onS_at (l := now) (show now.length < 1000000000 by omega), six_bits hS hp6]
        rw [hrem]
        cases hbit : s.testBit p with
        | true =>
          have hbn : begun ≠ [] := fun e => by rw [hb0 e] at hbit; simp at hbit
          simp only [neL_at hbn (by omega), app1_at (l := begun) (by omega), Option.bind_some]
          obtain ⟨c, e⟩ := f83_eq hr1 hr2 hpg hn hF k D (t + 1) (begun ++ [-1]) now s left (by omega) (by omega) (by simp [hb]) (by simp) hS hc (by omega) hl1 hl2
          refine ⟨c, ?_⟩
          rw [e]
          simp [plansN, hleft, hbit, Function.comp]
        | false =>
          simp only [hS.length]
          have wl : IntKind.i64.wrap (left - 1) = left - 1 := wrapN (by omega) (by omega)
          by_cases hroom : (cnt s : Int) < room
          · have hS2 : Same (wo now p ++ [(p : Int)]) (setB s p) := by
              have := hS.withR (recent := true) (p := p) (g := -1) hp6 (Or.inl rfl)
              unfold nowR at this
              rw [if_pos (Or.inl rfl), wo_id (l := now) (x := -1) (fun h => by have := (hS.mem _).1 h; omega), withB_no] at this
              exact this
            have hcs : cnt (setB s p) = cnt s + 1 := by rw [cnt_set hS.lt hp6, hbit]; rfl
            simp only [decide_eq_true hroom]
            cases hbn : begun with
            | nil =>
              simp only [List.isEmpty_nil, Option.bind_some, wl]
              obtain ⟨c, e⟩ := f83_eq hr1 hr2 hpg hn hF k D (t + 1) [-1] (wo now p ++ [(p : Int)]) (setB s p) (left - 1) (by omega) (by omega) (by rw [hbn] at hb; simp at hb; simp; omega) (by simp) hS2 (by omega) (by omega) (by omega) (by omega)
              refine ⟨c, ?_⟩
              rw [e]
              simp [plansN, hleft, hbit, hroom, Function.comp]
            | cons a l =>
              rw [← hbn]
              have hbe : begun.isEmpty = false := by rw [hbn]; rfl
              simp only [hbe, Option.bind_some, wl, neL_at (show begun ≠ [] by rw [hbn]; simp) (by omega), app1_at (l := begun) (by omega)]
              obtain ⟨c, e⟩ := f83_eq hr1 hr2 hpg hn hF k D (t + 1) (begun ++ [-1]) (wo now p ++ [(p : Int)]) (setB s p) (left - 1) (by omega) (by omega) (by simp [hb]) (by simp) hS2 (by omega) (by omega) (by omega) (by omega)
              refine ⟨c, ?_⟩
              rw [e]
              simp [plansN, hleft, hbit, hroom, Function.comp]
          · simp only [decide_eq_false hroom]
            have hbn : begun ≠ [] := fun e => by
              have := hb0 e
              subst this
              rw [cnt_zero] at hroom; omega
            have hlen : (plansN room (p :: rem6 pages (t + 1)) s left).length ≤ 100000 := plans_le hr1 hr2 hS.lt (fun q hq => h6 t q (by rw [hrem]; exact hq)) hc (by simp [hrl]; omega)
            have hpl : plansN room (p :: rem6 pages (t + 1)) s left = (bitsN s).flatMap fun g => (plansN room (rem6 pages (t + 1)) (setB (clrB s g) p) (left - 1)).map ((g : Int) :: ·) := by
              simp [plansN, hleft, hbit, hroom]
            rw [hpl] at hlen ⊢
            have key := l83 (F := F) (K := fun v44 => some (Ck.nz, v44)) (R := f83S F D) (room := room) (pages := pages) (G := fun g => (plansN room (rem6 pages (t + 1)) (setB (clrB s g) p) (left - 1)).map fun q => nzL (begun ++ [(g : Int)] ++ q)) hS hp6 hbn (by omega) hl1 hl2 (fun g hg hgb => by
              have hS2 := hS.withR (recent := true) (p := p) (g := g) hp6 (Or.inr ⟨by omega, by omega⟩)
              unfold nowR at hS2
              rw [if_pos (Or.inl rfl), withB_yes] at hS2
              have hcs := cnt_swap hS.lt hp6 hg hgb hbit
              exact f83_eq hr1 hr2 hpg hn hF k D (t + 1) (begun ++ [(g : Int)]) _ _ (left - 1) (by omega) (by omega) (by simp [hb]) (by simp) hS2 (by omega) (by omega) (by omega) (by omega)) 6 0 F [] rfl (by omega) (by
                rw [bitsFrom_all hS.lt]
                rw [List.length_flatMap] at hlen ⊢
                simp only [List.length_map] at hlen ⊢
                simp; omega)
            refine ⟨.nz, ?_⟩
            rw [show ((0 : Nat) : Int) = 0 from rfl] at key
            rw [key, bitsFrom_all hS.lt, List.nil_append, List.map_flatMap]
            simp only [List.map_map]
            congr 2
            simp [nzL, Function.comp_def]
theorem f83_all (hr1 : 1 ≤ room) (hr2 : room ≤ 5) (hpg : ∀ q ∈ pages, 0 ≤ q ∧ q ≤ 5) (hn : pages.length ≤ 12) {left : Int} (hl1 : -1 ≤ left) (hl2 : left ≤ 100) : ∃ c, f83S fuel fuel room pages .nz [] [] left = some (c, (plansN room (rem6 pages 0) 0 left).map nzL) := by
  obtain ⟨c, e⟩ := @f83_eq room pages fuel hr1 hr2 hpg hn (by rw [fuel_eq]; decide) pages.length fuel 0 [] [] 0 left (by omega) (by rw [fuel_eq]; omega) rfl (fun _ => rfl) Same.nil (by rw [cnt_zero]; omega) (by rw [cnt_zero]; exact Nat.le_refl _) hl1 hl2
  exact ⟨c, by rw [e]; rfl⟩
theorem need_le (hn : pages.length ≤ 12) : need room (rem6 pages 0) 0 ≤ 12 ∨ room < 1 := by
  rcases Int.lt_or_le room 1 with h | h
  · exact Or.inr h
  · left
    rw [← bst_need h]
    have := (bst_le (room := room) (rem6 pages 0) 0).1
    have e : (rem6 pages 0).length = pages.length := by unfold rem6; simp
    omega
end
theorem firstN_le {room : Int} : ∀ (l : List Nat) (s : Nat), (firstN room l s).length ≤ l.length
  | [], s => by simp [firstN]
  | p :: r, s => by
    simp only [firstN]
    split
    · simp; exact firstN_le r s
    · split
      · simp; exact firstN_le r _
      · split
        · simp; exact firstN_le r _
        · simp
theorem standPlans_eq {room : Int} {pages : List Int} : f5S fuel room pages = some true := by
  unfold f5S
  by_cases hl : 40 < pages.length ∨ 40 < ([] : List Int).length
  · simp only [decide_eq_true hl, Option.bind_some, works_true]
  · have hlen : pages.length ≤ 40 := by omega
    simp only [decide_eq_false hl, Option.bind_some]
    have hs : ∀ {α : Type} (x : α), onS pages x = some x := fun x => onS_at (by omega)
    by_cases hc : chk room pages = 0
    · obtain ⟨hr1, hr2, hn, hpg⟩ := chk_ok hc
      have e80 := (f80_eq hr1 hr2 hpg hn).2
      have e34 : f34S fuel room pages = some (((need room (rem6 pages 0) 0 : Nat) : Int), 0) := by
        unfold f34S
        simp only [hs, hc, Option.bind_some, decide_true, e80]
      have hnd := (need_le (room := room) hn).resolve_right (by omega)
      obtain ⟨c, e83⟩ := @f83_all room pages hr1 hr2 hpg hn (need room (rem6 pages 0) 0 : Nat) (by omega) (by omega)
      have hhead := plans_head hr1 (rem6 pages 0) 0
      have hln := plans_len hr1 (rem6 pages 0) 0
      obtain ⟨tl, hcons⟩ : ∃ tl, plansN room (rem6 pages 0) 0 (need room (rem6 pages 0) 0 : Nat) = firstN room (rem6 pages 0) 0 :: tl := by
        cases h : plansN room (rem6 pages 0) 0 (need room (rem6 pages 0) 0 : Nat) with
        | nil => rw [h] at hhead; cases hhead
        | cons a b => rw [h] at hhead; cases hhead; exact ⟨b, rfl⟩
      have e36 : f36S fuel room pages = some ((Ck.nz, firstN room (rem6 pages 0) 0), 0) := by
        unfold f36S
        simp only [e34, Option.bind_some, decide_true, e83, hcons, List.map_cons]
        rfl
      have e38 : f38S fuel room pages = some (((ways room (rem6 pages 0) 0 : Nat) : Int), 0) := by
        unfold f38S
        simp only [e34, Option.bind_some, decide_true, e83, List.length_map, hln]
      have hfl : (firstN room (rem6 pages 0) 0).length < 1000000000 := by
        have := firstN_le (room := room) (rem6 pages 0) 0
        have e : (rem6 pages 0).length = pages.length := by unfold rem6; simp
        omega
      simp only [hs, e34, e36, e38, Option.bind_some, fewS, firS, cntS, hc, if_true, decide_true, onS_at hfl, works_true]
    · have e34 : f34S fuel room pages = some (0, chk room pages) := by
        unfold f34S
        simp only [hs, decide_eq_false hc, Option.bind_some]
      have e36 : f36S fuel room pages = some ((Ck.nz, []), chk room pages) := by
        unfold f36S
        simp only [e34, decide_eq_false hc, Option.bind_some]
      have e38 : f38S fuel room pages = some (0, chk room pages) := by
        unfold f38S
        simp only [e34, decide_eq_false hc, Option.bind_some]
      simp only [hs, e34, e36, e38, Option.bind_some, fewS, firS, cntS, if_neg hc, decide_true, onS_at (l := ([] : List Int)) (by simp), works_true]
theorem standPlans_is {p0a : Int} {c0b : Ck} {p0b : List Int} : E Tryd.prog Y0 5 [.a [iv p0a, .l .fz c0b p0b.length (p0b.map iv)]] [] = some (.v (.bool true), [], none) := f5_is standPlans_eq
end Go.Proofs.YtcdhajbhpnbdkaaDoor
