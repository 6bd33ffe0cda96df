/-
  StandPlayed answers true: the plain law.
  Conditions: none; lemmas.
-/
import Derived.Test.YtcdhajbhpnbdkaaDoorLaw14
import Derived.Test.YtcdhajbhpnbdkaaDoorRunLaw
import Derived.Test.YtcdhajbhpnbdkaaDoorOutLaw2
set_option linter.unusedSimpArgs false
set_option linter.unusedVariables false
namespace Go.Proofs.YtcdhajbhpnbdkaaDoor
open Go.Abs Go.Pur
set_option maxRecDepth 100000
section
variable {room : Int} {pages : List Int} {F : Nat}
structure Played (room : Int) (pages : List Int) (i : Nat) (l : List Int) (s : Nat) (w : Int) : Prop where
 len : l.length = i
 lt : s < 64
 le : w = 0 → (cnt s : Int) ≤ room
 flo : ∃ set out, ∀ Q : List Int, Go.Proofs.YtcdhajbhpnbdkaaDoor.flo room (pages.zip (l ++ Q)) 0 0 [] = if w = 0 then Go.Proofs.YtcdhajbhpnbdkaaDoor.flo room ((pages.drop i).zip Q) s set out else ([], 0, w)
def nxt14 (room : Int) (s p : Nat) (x w : Int) : Nat × Int := if w = 0 then (if errF room s p x = 0 then (withB s p x, 0) else (setB s p, errF room s p x)) else (s, w)
theorem errF_cases {s p : Nat} {x : Int} : errF room s p x = 0 ∨ errF room s p x = 2 ∨ errF room s p x = 15 := by
 unfold errF
 split
 ·split <;> simp
 ·split <;> simp
theorem Played.step {i p s : Nat} {l : List Int} {w x : Int} (h : Played room pages i l s w) (hr1 : 1 ≤ room) (hr2 : room ≤ 5) (hi : i < pages.length) (hp : pages[i] = (p : Int)) (hp6 : p < 6) :
  Played room pages (i + 1) (l ++ [x]) (nxt14 room s p x w).1 (nxt14 room s p x w).2 := by
 obtain ⟨set, out, hf⟩ := h.flo
 have hz : ∀ Q : List Int, (pages.drop i).zip (x :: Q) = ((p : Int), x) :: (pages.drop (i + 1)).zip Q := fun Q => by
  rw [List.drop_eq_getElem_cons hi, hp, List.zip_cons_cons]
 by_cases hw : w = 0
 ·subst hw
  have hc := h.le rfl
  by_cases he : errF room s p x = 0
  ·have e : nxt14 room s p x 0 = (withB s p x, 0) := by unfold nxt14; rw [if_pos rfl, if_pos he]
   rw [e]
   refine ⟨by simp [h.len], withB_lt h.lt hp6 (errF_range he), fun _ => cnt_with hr1 hr2 h.lt hp6 he hc, if withB s p x = s then set else set + 1, out ++ [withB s p x], fun Q => ?_⟩
   have := hf (x :: Q)
   rw [List.append_assoc]
   simp only [List.singleton_append]
   rw [this, if_pos rfl, hz]
   simp only [Go.Proofs.YtcdhajbhpnbdkaaDoor.flo, Int.toNat_natCast, if_true]
   rw [if_pos he]
  ·have e : nxt14 room s p x 0 = (setB s p, errF room s p x) := by unfold nxt14; rw [if_pos rfl, if_neg he]
   rw [e]
   refine ⟨by simp [h.len], set_lt h.lt hp6, fun h0 => absurd h0 he, set, out, fun Q => ?_⟩
   have := hf (x :: Q)
   rw [List.append_assoc]
   simp only [List.singleton_append]
   rw [this, if_pos rfl, hz]
   simp only [Go.Proofs.YtcdhajbhpnbdkaaDoor.flo, Int.toNat_natCast]
   rw [if_neg he, if_neg he]
 ·have e : nxt14 room s p x w = (s, w) := by unfold nxt14; rw [if_neg hw]
  rw [e]
  refine ⟨by simp [h.len], h.lt, fun h0 => absurd h0 hw, set, out, fun Q => ?_⟩
  have := hf (x :: Q)
  rw [List.append_assoc]
  simp only [List.singleton_append]
  rw [this, if_neg hw]
  simp only [if_neg hw]
theorem Played.start (hr : 0 ≤ room) : Played room pages 0 [] 0 0 := ⟨rfl, by decide, fun _ => by rw [cnt_zero]; omega, 0, [], fun Q => by simp⟩
theorem full_at {s p : Nat} (hb : s.testBit p = false) (hc : (cnt s : Int) = room) : fullB s p room = true := by unfold fullB; rw [hb]; simp; omega
theorem full_no {s p : Nat} (hc : (cnt s : Int) < room) : fullB s p room = false := by unfold fullB; simp; intro _; omega
theorem full_in {s p : Nat} (hb : s.testBit p = true) : fullB s p room = false := by unfold fullB; rw [hb]; rfl
theorem l14 {K : List Int × Int × List Int → Option Bool} {bys : List Int} {e : Int} (hr1 : 1 ≤ room) (hr2 : room ≤ 5) (hpg : ∀ q ∈ pages, 0 ≤ q ∧ q ≤ 5) (hn : pages.length ≤ 12) (hby : bys.length = 12) (hbb : ∀ b ∈ bys, byte b) (hF : 100 < F) :
  ∀ (k i m s : Nat) (l : List Int) (w : Int), i + k = pages.length → k < m → Played room pages i l s w → w = 0 ∨ w = 2 ∨ w = 15 →
  ∃ plan s' w', Played room pages pages.length plan s' w' ∧ (w' = 0 ∨ w' = 2 ∨ w' = 15) ∧ f14_L0 F (room, pages) (pages.length : Int) K m (l, (s : Int), (cnt s : Int), w, (i : Int), bys) = K (plan, w', bys)
 | k, i, 0, s, l, w, _, h, _, _ => by omega
 | 0, i, m + 1, s, l, w, hk, _, hP, hw => by
  rw [f14_L0.eq_def]; dsimp only
  have h1 : decide ((i : Int) < (pages.length : Int)) = false := decide_eq_false (by omega)
  simp only [obind, h1]
  have : i = pages.length := by omega
  subst this
  exact ⟨l, s, w, hP, hw, rfl⟩
 | k + 1, i, m + 1, s, l, w, hk, hm, hP, hw => by
  rw [f14_L0.eq_def]; dsimp only
  have h1 : decide ((i : Int) < (pages.length : Int)) = true := decide_eq_true (by omega)
  have hi : i < pages.length := by omega
  have hib : i < bys.length := by omega
  obtain ⟨p, hp⟩ := Int.eq_ofNat_of_zero_le (hpg pages[i] (List.getElem_mem hi)).1
  have hp6 : p < 6 := by have := (hpg pages[i] (List.getElem_mem hi)).2; omega
  have hs := hP.lt
  have hc12 : cnt s ≤ 12 := by rw [← bitsN_len]; exact bitsN_le
  have hbv := hbb _ (List.getElem_mem hib)
  obtain ⟨b, hb⟩ : ∃ b, bys[i] = b := ⟨_, rfl⟩
  rw [hb] at hbv
  unfold byte at hbv
  have wb : IntKind.i64.wrap b = b := wrapN (by omega) (by omega)
  have w1 : IntKind.i64.wrap ((i : Int) + 1) = ((i + 1 : Nat) : Int) := wrap_nat (by omega)
  have w2 : IntKind.i64.wrap ((cnt s : Int) + 1) = ((cnt s + 1 : Nat) : Int) := wrap_nat (by omega)
  have t9 := tmod_range (x := b) (m := 9) hbv.1 (by decide)
  have w9 : IntKind.i64.wrap (Int.tmod b 9 - 1) = Int.tmod b 9 - 1 := wrapN (by omega) (by omega)
  obtain ⟨X, Y, b1, b2, b3, b4, b5⟩ := bit_i64 hs hp6
  have hl : l.length ≤ 1000000 := by rw [hP.len]; omega
  have ap : ∀ x, app1 l x = some (l ++ [x]) := fun x => app1_at hl
  have go := fun (x : Int) (s' : Nat) (w' : Int) (c' : Int) (e : nxt14 room s p x w = (s', w')) (hc : c' = (cnt s' : Int)) => by
   have st := hP.step (x := x) hr1 hr2 hi hp hp6
   rw [e] at st
   have hw' : w' = 0 ∨ w' = 2 ∨ w' = 15 := by
    unfold nxt14 at e
    split at e
    ·split at e
     ·cases e; exact Or.inl rfl
     ·cases e; exact errF_cases
    ·cases e; exact hw
   have := l14 (K := K) (e := 0) hr1 hr2 hpg hn hby hbb hF k (i + 1) m s' (l ++ [x]) w' (by omega) (by omega) st hw'
   rw [← hc] at this
   exact this
  have nz : ∀ x, w ≠ 0 → nxt14 room s p x w = (s, w) := fun x h => by unfold nxt14; rw [if_neg h]
  have ok : ∀ x, w = 0 → errF room s p x = 0 → nxt14 room s p x w = (withB s p x, w) := fun x h h2 => by unfold nxt14; rw [if_pos h, if_pos h2, h]
  have bad : ∀ x e, w = 0 → errF room s p x = e → e ≠ 0 → nxt14 room s p x w = (setB s p, e) := fun x e h h2 h3 => by unfold nxt14; rw [if_pos h, if_neg (by rw [h2]; exact h3), h2]
  simp only [obind, h1, gI_at hi, hp, gI_at hib, hb, wb, w9]
  by_cases hlt : b < 240
  ·simp only [decide_eq_true hlt]
   rw [bindS b1]
   simp only [obind, b2]
   cases hbit : s.testBit p with
   | false =>
    have hcs : cnt (setB s p) = cnt s + 1 := by rw [cnt_set hs hp6, hbit]; rfl
    simp only [Bool.false_eq_true, if_false, decide_true]
    by_cases hroom : (cnt s : Int) = room
    ·have hf := full_at hbit hroom
     simp only [decide_eq_true hroom]
     rw [bindS (f51_eq (F := F) (show s < 4096 by omega) (by omega))]
     dsimp only
     have hlen : (bitsL s).length = cnt s := bitsL_len
     have e1 : remO b ((bitsL s).length : Int) = some (Int.tmod b (cnt s : Int)) := by
      rw [hlen]
      unfold remO
      rw [decide_eq_false (show ¬ (cnt s : Int) = 0 by omega)]
     have t2 := tmod_range (x := b) (m := (cnt s : Int)) hbv.1 (by omega)
     obtain ⟨j, hj⟩ := Int.eq_ofNat_of_zero_le t2.1
     have hjl : j < (bitsL s).length := by omega
     have hqm := List.getElem_mem hjl
     obtain ⟨q, hq⟩ : ∃ q, (bitsL s)[j] = q := ⟨_, rfl⟩
     rw [hq] at hqm
     obtain ⟨q, rfl, hq12, hqb⟩ := bitsL_mem.1 hqm
     have hq6 : q < 6 := by have := bitsL_range hs hqm; omega
     have e2 : gI (bitsL s) (Int.tmod b (cnt s : Int)) = some (q : Int) := by rw [hj, gI_at hjl, hq]
     rw [bindS e1, bindS e2, bindS (ap _)]
     by_cases hw0 : w = 0
     ·obtain ⟨X2, Y2, c1, c2, c3, c4, c5⟩ := bit_i64 hs hq6
      have hcl := clr_lt hs hq6
      obtain ⟨X3, Y3, d1, d2, d3, d4, d5⟩ := bit_i64 hcl hp6
      rw [b3] at d3
      obtain rfl := Option.some.inj d3
      have hpq : p ≠ q := fun e => by rw [e, hqb] at hbit; cases hbit
      have hbc : (clrB s q).testBit p = false := by rw [clr_bit hs hq6 hp6, hbit]; rfl
      have hsw := cnt_swap hs hp6 hq6 hqb hbit
      have w3 : IntKind.i64.wrap (IntKind.i64.wrap ((cnt s : Int) - 1) + 1) = (cnt s : Int) := by rw [wrapN (z := (cnt s : Int) - 1) (by omega) (by omega), wrapN (by omega) (by omega)]; omega
      simp only [obind, decide_eq_true hw0, decide_eq_false (show ¬ ((q : Int) < 0) by omega), decide_eq_false (show ¬ (5 < (q : Int)) by omega)]
      rw [bindS c1]
      simp only [obind, c2, hqb, if_true, show decide ((1 : Int) = 0) = false from rfl]
      rw [bindS c3]
      simp only [obind, c5]
      rw [bindS d1]
      simp only [obind, d2, hbc, Bool.false_eq_true, if_false, decide_true]
      rw [bindS b3]
      simp only [obind, d4, w1, w3]
      exact go (q : Int) (setB (clrB s q) p) w _ (by rw [ok _ hw0 (errF_yes hf hq6 hqb), withB_yes]) (by rw [hsw])
     ·simp only [obind, decide_eq_false hw0, w1]
      exact go _ s w _ (nz _ hw0) rfl
    ·simp only [decide_eq_false hroom]
     rw [bindS (ap _)]
     by_cases hw0 : w = 0
     ·have hle := hP.le hw0
      simp only [obind, decide_eq_true hw0]
      rw [bindS b3]
      simp only [obind, b4, w1, w2]
      exact go (-1) (setB s p) w _ (by rw [ok _ hw0 (errF_no (full_no (by omega))), withB_no]) (by rw [hcs])
     ·simp only [obind, decide_eq_false hw0, w1]
      exact go _ s w _ (nz _ hw0) rfl
   | true =>
    simp only [if_true, show decide ((1 : Int) = 0) = false from rfl]
    rw [bindS (ap _)]
    by_cases hw0 : w = 0
    ·simp only [obind, decide_eq_true hw0, w1]
     exact go (-1) s w _ (by rw [ok _ hw0 (errF_no (full_in hbit)), withB_no, setB_in hbit]) rfl
    ·simp only [obind, decide_eq_false hw0, w1]
     exact go _ s w _ (nz _ hw0) rfl
  ·simp only [decide_eq_false hlt]
   rw [bindS (ap _)]
   generalize hx : Int.tmod b 9 - 1 = x at *
   by_cases hw0 : w = 0
   ·have hle := hP.le hw0
    simp only [obind, decide_eq_true hw0]
    rw [bindS b1]
    simp only [obind, b2]
    cases hbit : s.testBit p with
    | false =>
     have hcs : cnt (setB s p) = cnt s + 1 := by rw [cnt_set hs hp6, hbit]; rfl
     simp only [Bool.false_eq_true, if_false, decide_true]
     by_cases hroom : (cnt s : Int) = room
     ·have hf := full_at hbit hroom
      simp only [decide_eq_true hroom]
      have err2 : ¬ (0 ≤ x ∧ x < 6 ∧ s.testBit x.toNat = true) → errF room s p x = 2 := fun h => by unfold errF; rw [if_pos hf, if_neg h]
      by_cases hx0 : x < 0
      ·simp only [decide_eq_true hx0]
       rw [bindS b3]
       simp only [obind, b4, w1, w2]
       exact go x (setB s p) 2 _ (bad _ _ hw0 (err2 (by omega)) (by decide)) (by rw [hcs])
      ·by_cases hx5 : 5 < x
       ·simp only [decide_eq_false hx0, decide_eq_true hx5]
        rw [bindS b3]
        simp only [obind, b4, w1, w2]
        exact go x (setB s p) 2 _ (bad _ _ hw0 (err2 (by omega)) (by decide)) (by rw [hcs])
       ·obtain ⟨q, rfl⟩ := Int.eq_ofNat_of_zero_le (show 0 ≤ x by omega)
        have hq6 : q < 6 := by omega
        obtain ⟨X2, Y2, c1, c2, c3, c4, c5⟩ := bit_i64 hs hq6
        simp only [decide_eq_false hx0, decide_eq_false hx5]
        rw [bindS c1]
        simp only [obind, c2]
        cases hqb : s.testBit q with
        | false =>
         simp only [Bool.false_eq_true, if_false, decide_true]
         rw [bindS b3]
         simp only [obind, b4, w1, w2]
         exact go (q : Int) (setB s p) 2 _ (bad _ _ hw0 (err2 (by simp [hqb])) (by decide)) (by rw [hcs])
        | true =>
         have hcl := clr_lt hs hq6
         obtain ⟨X3, Y3, d1, d2, d3, d4, d5⟩ := bit_i64 hcl hp6
         rw [b3] at d3
         obtain rfl := Option.some.inj d3
         have hbc : (clrB s q).testBit p = false := by rw [clr_bit hs hq6 hp6, hbit]; rfl
         have hsw := cnt_swap hs hp6 hq6 hqb hbit
         have w3 : IntKind.i64.wrap (IntKind.i64.wrap ((cnt s : Int) - 1) + 1) = (cnt s : Int) := by rw [wrapN (z := (cnt s : Int) - 1) (by omega) (by omega), wrapN (by omega) (by omega)]; omega
         simp only [if_true, show decide ((1 : Int) = 0) = false from rfl]
         rw [bindS c3]
         simp only [obind, c5]
         rw [bindS d1]
         simp only [obind, d2, hbc, Bool.false_eq_true, if_false, decide_true]
         rw [bindS b3]
         simp only [obind, d4, w1, w3]
         exact go (q : Int) (setB (clrB s q) p) w _ (by rw [ok _ hw0 (errF_yes hf hq6 hqb), withB_yes]) (by rw [hsw])
     ·simp only [decide_eq_false hroom]
      have hnf := full_no (p := p) (show (cnt s : Int) < room by omega)
      by_cases hx1 : x = -1
      ·simp only [decide_eq_true hx1]
       rw [bindS b3]
       simp only [obind, b4, w1, w2]
       exact go x (setB s p) w _ (by rw [hx1, ok _ hw0 (errF_no hnf), withB_no]) (by rw [hcs])
      ·simp only [decide_eq_false hx1]
       rw [bindS b3]
       simp only [obind, b4, w1, w2]
       exact go x (setB s p) 15 _ (bad _ _ hw0 (by unfold errF; rw [hnf]; simp [hx1]) (by decide)) (by rw [hcs])
    | true =>
     simp only [if_true, show decide ((1 : Int) = 0) = false from rfl]
     have hnf := full_in (room := room) hbit
     by_cases hx1 : x = -1
     ·simp only [decide_eq_true hx1, obind, w1]
      exact go x s w _ (by rw [hx1, ok _ hw0 (errF_no hnf), withB_no, setB_in hbit]) rfl
     ·simp only [decide_eq_false hx1, obind, w1]
      exact go x s 15 _ (by rw [bad x 15 hw0 (by unfold errF; rw [hnf]; simp [hx1]) (by decide), setB_in hbit]) rfl
   ·simp only [obind, decide_eq_false hw0, w1]
    exact go _ s w _ (nz _ hw0) rfl
theorem lz_at {S : List Nat} {i : Nat} (h : i < S.length) : gI (standL S) (i : Int) = some (Ck.nz, bitsL S[i]) := by
 rw [gI_at (by unfold standL; simpa using h)]
 unfold standL
 simp
theorem bitsL_12 {s : Nat} : (bitsL s).length ≤ 12 := by rw [bitsL_len, ← bitsN_len]; exact bitsN_le
theorem l14b {S : List Nat} {e : Int} {K : Unit → Option Bool} (hS : ∀ s ∈ S, s < 64) (hl : S.length ≤ 1000) (hF : 100 < F) : ∀ (k i m : Nat), i + k = S.length → k < m → f14_L1 F (standL S, e) (S.map Int.ofNat) (S.length : Int) K m (i : Int) = K ()
 | k, i, 0, _, h => by omega
 | 0, i, m + 1, hk, _ => by
  rw [f14_L1.eq_def]; dsimp only
  have h1 : decide ((i : Int) < (S.length : Int)) = false := decide_eq_false (by omega)
  simp only [obind, h1]
 | k + 1, i, m + 1, hk, hm => by
  rw [f14_L1.eq_def]; dsimp only
  have h1 : decide ((i : Int) < (S.length : Int)) = true := decide_eq_true (by omega)
  have hi : i < S.length := by omega
  have w : IntKind.i64.wrap ((i : Int) + 1) = ((i + 1 : Nat) : Int) := wrap_nat (by omega)
  have g1 : gI (S.map Int.ofNat) (i : Int) = some ((S[i] : Nat) : Int) := by rw [gI_at (by simpa using hi)]; simp
  have hs := hS _ (List.getElem_mem hi)
  have hb := @bitsL_12 S[i]
  have hb : (bitsL S[i]).length < 1000000000 := by omega
  simp only [obind, h1, g1, lz_at hi, f51_eq (F := F) (show S[i] < 4096 by omega) (by omega), onS_at hb, decide_true, w]
  exact l14b hS hl hF k (i + 1) m (by omega) (by omega)
end
theorem onS2 {α : Type} {l m : List Int} {x : α} (h1 : l.length < 1000000000) (h2 : m.length < 1000000000) : (onS l (onS m x)).bind id = some x := by
 rw [onS_at h1, onS_at h2]; rfl
theorem standPlayed_eq {a b c d e f g h i j k l m n ba bb bc bd be bf bg bh bi bj bk bl : Int} (ha : byte a) (hb : byte b) (hs : ∀ p ∈ [c, d, e, f, g, h, i, j, k, l, m, n], byte p) (hy : ∀ p ∈ [ba, bb, bc, bd, be, bf, bg, bh, bi, bj, bk, bl], byte p) :
  f14S fuel a b c d e f g h i j k l m n ba bb bc bd be bf bg bh bi bj bk bl = some true := by
 obtain ⟨room, pages, e1, h1, h2, h3, h4⟩ := made_ok (room := 3) (times := 12) (by decide) (by decide) (by decide) (by decide) ha hb hs
 have hn : pages.length ≤ 12 := by omega
 have hF : 100 < fuel := by rw [fuel_eq]; decide
 have hc : chk room pages = 0 := chk_intro h1 (by omega) hn h4
 unfold f14S
 rw [bindS e1]
 simp only [obind]
 have hl0 := fun K => @l14 room pages fuel K [ba, bb, bc, bd, be, bf, bg, bh, bi, bj, bk, bl] 0 h1 (by omega) h4 hn rfl hy hF pages.length 0 fuel 0 [] 0 (by omega) (by rw [fuel_eq]; omega) (Played.start (by omega)) (Or.inl rfl)
 rw [cnt_zero] at hl0
 obtain ⟨plan, s', w', hP, hw, hk⟩ := hl0 _
 refine hk.trans ?_
 clear hk hl0
 have hpl : plan.length = pages.length := hP.len
 obtain ⟨set, out, hf⟩ := hP.flo
 have hfl : floorsOf room pages plan = if w' = 0 then (out, set, 0) else ([], 0, w') := by
  unfold floorsOf
  rw [if_pos hc, if_pos hpl]
  have := hf []
  rw [List.append_nil, List.drop_of_length_le (Nat.le_refl _)] at this
  rw [this]
  simp only [List.zip_nil_left, flo]
 have hfl2 : floorsOf room pages (plan ++ [-1]) = ([], 0, 5) := by
  unfold floorsOf
  rw [if_pos hc, if_neg (by simp; omega)]
 have hsm := @floorsOf_small room pages plan
 obtain ⟨ck, e61⟩ := @f61_eq fuel plan (by omega)
 have e2 : (floorsOf room pages plan).2.2 = w' := by rw [hfl]; split <;> simp_all
 simp only [onS2 (l := pages) (m := plan) (show pages.length < 1000000000 by omega) (by omega), obind, e61, app1_at (l := plan) (v := -1) (by omega), onS2 (l := pages) (m := plan ++ [-1]) (show pages.length < 1000000000 by omega) (by simp; omega), hfl2, e2, decide_true]
 rcases Int.decEq w' 0 with hw0 | hw0
 ·rw [hfl, if_neg hw0]
  simp only [decide_eq_false hw0, decide_true, obind, standL, List.map_nil, List.length_nil, works_true]
  rfl
 ·subst hw0
  have e50 := f50_eq (plan := plan) hc hF
  rw [hfl, if_pos rfl] at e50 hsm
  rw [hfl, if_pos rfl]
  simp only [decide_true, e50, obind, runR, if_true, List.length_map]
  have hlen : (standL out).length = out.length := by unfold standL; simp
  rw [hlen]
  simp only [decide_true]
  have hb := @l14b fuel out 0 (fun _ => (f18S fuel).bind fun b148 => some b148) hsm.2 (by
   have := hf []
   have hz : out.length ≤ 1000 := by
    have hq := hf []
    rw [List.append_nil, List.drop_of_length_le (Nat.le_refl _), if_pos rfl] at hq
    simp only [List.zip_nil_left, flo] at hq
    have := (@flo_small room (pages.zip plan) 0 0 [] (fun x hx => h4 _ (List.of_mem_zip (show (x.1, x.2) ∈ pages.zip plan from hx)).1) (by decide) (by simp)).1
    rw [hq] at this
    simp at this
    omega
   exact hz) hF out.length 0 fuel (by omega) (by
    have hq := hf []
    rw [List.append_nil, List.drop_of_length_le (Nat.le_refl _), if_pos rfl] at hq
    simp only [List.zip_nil_left, flo] at hq
    have := (@flo_small room (pages.zip plan) 0 0 [] (fun x hx => h4 _ (List.of_mem_zip (show (x.1, x.2) ∈ pages.zip plan from hx)).1) (by decide) (by simp)).1
    rw [hq] at this
    simp at this
    rw [fuel_eq]; omega)
  refine hb.trans ?_
  simp only [works_true, obind]
theorem standPlayed_is {a b c d e f g h i j k l m n ba bb bc bd be bf bg bh bi bj bk bl : Int} (ha : byte a) (hb : byte b) (hs : ∀ p ∈ [c, d, e, f, g, h, i, j, k, l, m, n], byte p) (hy : ∀ p ∈ [ba, bb, bc, bd, be, bf, bg, bh, bi, bj, bk, bl], byte p) :
  E Tryd.prog Y0 14 [.a [kv .u8 a, kv .u8 b, kv .u8 c, kv .u8 d, kv .u8 e, kv .u8 f, kv .u8 g, kv .u8 h, kv .u8 i, kv .u8 j, kv .u8 k, kv .u8 l, kv .u8 m, kv .u8 n], .a [kv .u8 ba, kv .u8 bb, kv .u8 bc, kv .u8 bd, kv .u8 be, kv .u8 bf, kv .u8 bg, kv .u8 bh, kv .u8 bi, kv .u8 bj, kv .u8 bk, kv .u8 bl]] [] = some (.v (.bool true), [], none) := f14_is (standPlayed_eq ha hb hs hy)
end Go.Proofs.YtcdhajbhpnbdkaaDoor
