/-
  The reference's played, by the pure evaluator.
  The reference's Run and Standing, by the pure evaluator.
  Conditions: none; definitions and lemmas.
-/
import Derived.Test.YtcdhajbhpnbdkaaDoorCheck
set_option linter.unusedSimpArgs false
set_option linter.unusedVariables false
namespace Go.Proofs.YtcdhajbhpnbdkaaDoor
open Go.Abs Go.Pur
set_option maxRecDepth 100000
attribute [local simp] EK_region EK_seq EK_cond EK_block EK_blk EK_loop EK_exit EK.ex EK_ret EK_skip EK_nil EO_cons EO_nil EO1_true EO1_false EO2_some EO3_some EB_true EB_false pwanted poper pq pev Go.Pur.look pputT isAssign drOf pinit Tr.get_set lget pvOf_int pvOf_bool pvOf_str pvOf_nil rdv_ak notOwn_ak prt_ak loose_ak rdv_own rdv_fz rdv_bor rdv_rf rdv_pt rdv_v rdv_a rdv_t rdv_r rdv_p rdv_s rdv_f pbin plen pload ppart idxAddr pcond Nat.blt goInt_eq prun_not prun_neg mayLoad ER_ret ER_normal presL presOne moved stor okDrop settle_v settle_l settle_a settle_p settle_f noref_v noref_fz noref_a norefs_nil norefs_cons pclose given lowOf dropB Y0_keep pevParts stors pvCells pvCells.go vcells pfill reps zipParts ownFz pcells cellOK one psrcLen srcFits psrc takeP pgrow take getPl setPl mapL plEq elder isList lowP pevs frzs addP partAt ble_lim24 killV_v killV_a killV_t killV_f killV_i killV_p killV_s killV_un killV_dead killV_lfz killV_lbor killV_lown killV_rfz killV_rbor killV_lak killV_rak frzV_v frzV_a frzV_t frzV_f frzV_i frzV_p frzV_s frzV_un frzV_dead frzV_lfz frzV_lbor frzV_lown frzV_rfz frzV_rbor frzV_lak frzV_rak killCell_v killCell_a killCell_t killCell_f killCell_i killCell_p killCell_s killCell_un killCell_dead killCell_lfz killCell_lbor killCell_lown killCell_rfz killCell_rbor killCell_lak killCell_rak killV_lrf killV_lpt killV_rpt frzV_lrf frzV_lpt frzV_rpt killCell_lrft killCell_lptt killCell_rptt killCell_lrfc killCell_lptc killCell_rptc argv_lak argv_rak argv_v argv_a argv_p argv_f argv_fz argv_bor argv_rf argv_pt argv_rc argv_own mayTurn_none argvs pcallOp firm lowB refsTo_v refsTo_l refsTo_p refsTo_s refsTo_a refsTo_dead refsTo_nil refsTo_cons isOwn_lak ownFz_lak evSafe pskip plain pnewBlk fldAddr isOwn pput spliceP notOwn_fz notOwn_bor notOwn_own notOwn_rf notOwn_pt prt_fz prt_bor prt_own prt_rf prt_pt Go.Pur.freeze presM settles abin_and abin_or abin_andNot abin_mul abin_shr abin_shl abin_add abin_sub abin_eql abin_neq abin_lss abin_leq abin_gtr abin_geq
abbrev lc (l : List Int) : PV := .l .fz .nz l.length (l.map iv)
def nowOf (now : List Int) (p g : Int) : List Int := if p ∈ wo now g then wo now g else wo (wo now g) p ++ [p]
def errOf (room : Int) (now : List Int) (p g : Int) : Int :=
 if p ∉ now ∧ (now.length : Int) = room then (if g ∈ now then 0 else 2) else (if g = -1 then 0 else 15)
def play (room : Int) : List (Int × Int) → Int → List Int → Int → List (List Int) → List (List Int) × Int × Int
 | [], e, _, set, out => (out, set, e)
 | (p, g) :: r, e, now, set, out => if e = 0 then play room r (errOf room now p g) (nowOf now p g) (if p ∈ wo now g then set else set + 1) (out ++ [nowOf now p g]) else (out, set, e)
def played0 (room : Int) (pages plan : List Int) : List (List Int) × Int × Int :=
 if chk room pages = 0 then (if plan.length = pages.length then play room (pages.zip plan) 0 [] 0 [] else ([], 0, 5)) else ([], 0, chk room pages)
def playedOf (room : Int) (pages plan : List Int) : List (List Int) × Int × Int :=
 if (played0 room pages plan).2.2 = 0 then played0 room pages plan else ([], 0, (played0 room pages plan).2.2)
def playedV (r : List (List Int) × Int × Int) : PV := .t [.l .fz .nz r.1.length (r.1.map lc), iv r.2.1, iv r.2.2]
theorem nowOf_length {now : List Int} {p g : Int} : (nowOf now p g).length ≤ now.length + 1 := by
 unfold nowOf
 have h1 := @wo_length now g
 have h2 := @wo_length (wo now g) p
 split
 ·omega
 ·simp; omega
theorem chk_ok {room : Int} {pages : List Int} (h : chk room pages = 0) : 1 ≤ room ∧ room ≤ 5 ∧ pages.length ≤ 12 ∧ ∀ p ∈ pages, 0 ≤ p ∧ p ≤ 5 := by
 unfold chk at h
 split at h
 ·split at h
  ·split at h
   ·exact ⟨by omega, by omega, by assumption, by assumption⟩
   ·omega
  ·omega
 ·omega
theorem play_stop {room e set : Int} {now : List Int} {out : List (List Int)} (h : e ≠ 0) : ∀ {l : List (Int × Int)}, play room l e now set out = (out, set, e)
 | [] => rfl
 | (p, g) :: r => by simp [play, h]
theorem played_is {room : Int} {pages plan : List Int} {b : Bool} {c d : Ck} {hp : List (Option (List PV))} (hl : pages.length < 1000000000) (hl2 : plan.length < 1000000000) :
  E Tryd.prog Y0 67 [.a [iv room, .l .fz c pages.length (pages.map iv)], .l (ak b) d plan.length (plan.map iv)] hp = some (playedV (playedOf room pages plan), hp, none) := by
 rw [E_bodyN 2 body67 rfl (by decide) rfl]
 simp only [Tryd.f67, Option.get_some]
 by_cases h1 : chk room pages = 0
 ·obtain ⟨hr1, hr2, hn, hpg⟩ := chk_ok h1
  by_cases h2 : (plan.length : Int) = pages.length
  ·have h2' : plan.length = pages.length := by omega
   simp [keep67, field27_1, row27, row22, sz27, shape22, refCheck_is hl, h1, h2]
   have hz : (pages.zip plan).length = plan.length := by simp [h2']
   generalize hR : playedV (playedOf room pages plan) = R
   have hR' : ∀ r, play room (pages.zip plan) 0 [] 0 [] = r → playedV (if r.2.2 = 0 then r else ([], 0, r.2.2)) = R := by
    intro r e
    rw [← hR, playedOf, played0, if_pos h1, if_pos h2', e]
   generalize hQ : play room (pages.zip plan) 0 [] 0 [] = Q at hR'
   have hR := hR' Q rfl
   clear hR'
   refine loop_ind (fun m σ => ∃ j e now set out ts k, m + j = plan.length ∧ play room ((pages.zip plan).drop j) e now set out = Q ∧ now.length ≤ j ∧ out.length = j ∧ set ≤ j ∧ 0 ≤ set ∧ (k = .own ∨ k = .fz) ∧ σ = ⟨[], ts, hp ++ [some [iv room, .l .fz c pages.length (pages.map iv)]], none⟩ ∧ ts.get 1 = some (.l (ak b) d plan.length (plan.map iv)) ∧ ts.get 2 = some (.p hp.length 0) ∧ ts.get 7 = some (iv e) ∧ ts.get 8 = some (.l .own .nz out.length (out.map lc)) ∧ ts.get 9 = some (.l k .nz now.length (now.map iv)) ∧ ts.get 10 = some (iv set) ∧ ts.get 11 = some (iv j)) (n0 := plan.length) ?_ ?_
   ·exact ⟨0, 0, [], 0, [], _, .own, rfl, hQ, by simp, by simp, by simp, by simp, Or.inl rfl, rfl, by simp, by simp, by simp, by simp, by simp, by simp, by simp⟩
   ·rintro m σ ⟨j, e, now, set, out, ts, k, hm, hpl, hnow, hout, hset, hset0, hk, rfl, g1, g2, g7, g8, g9, g10, g11⟩ ih
    by_cases hj : j < plan.length ∧ e = 0
    ·obtain ⟨hj, rfl⟩ := hj
     have hj2 : j < pages.length := by omega
     have q1 : Nat.ble (j + 1) plan.length = true := ble_true hj
     have q2 : plan[j]? = some plan[j] := List.getElem?_eq_getElem hj
     have q3 : Nat.ble (j + 1) pages.length = true := ble_true hj2
     have q4 : pages[j]? = some pages[j] := List.getElem?_eq_getElem hj2
     have q5 : (pages.zip plan).drop j = (pages[j], plan[j]) :: (pages.zip plan).drop (j + 1) := by rw [List.drop_eq_getElem_cons (by rw [hz]; exact hj)]; simp
     rw [q5] at hpl
     simp only [play, if_pos rfl] at hpl
     obtain ⟨p, ep⟩ : ∃ p, pages[j] = p := ⟨_, rfl⟩
     obtain ⟨g, eg⟩ : ∃ g, plan[j] = g := ⟨_, rfl⟩
     rw [ep, eg] at hpl
     have q6 : Nat.ble ((out.length + 1) * 26) limit = true := ble_true (by unfold limit; omega)
     have w1 : now.length < 1000000000 := by omega
     have w2 : (wo now g).length < 1000000000 := Nat.lt_of_le_of_lt wo_length w1
     have w3 := wrap_nat (show j < 1000000000000 by omega)
     have w4 : IntKind.i64.wrap (set + 1) = set + 1 := wrap64 (by omega) (by omega)
     have fin := fun (ts' : Tr PV) (e' : Int) (now' : List Int) (set' : Int) (k' : Vl) (a1 : k' = .own ∨ k' = .fz) (a2 : play room ((pages.zip plan).drop (j + 1)) e' now' set' (out ++ [now']) = Q) (a3 : now'.length ≤ now.length + 1) (a4 : set' ≤ set + 1) (a5 : 0 ≤ set') (a6 : ts'.get 1 = some (.l (ak b) d plan.length (plan.map iv))) (a7 : ts'.get 2 = some (.p hp.length 0)) (a8 : ts'.get 7 = some (iv e')) (a9 : ts'.get 8 = some (.l .own .nz (out.length + 1) (out.map lc ++ [lc now']))) (a10 : ts'.get 9 = some (.l k' .nz now'.length (now'.map iv))) (a11 : ts'.get 10 = some (iv set')) (a12 : ts'.get 11 = some (iv ((j : Int) + 1))) => ih (m - 1) ⟨[], ts', hp ++ [some [iv room, .l .fz c pages.length (pages.map iv)]], none⟩ (by omega) ⟨j + 1, e', now', set', out ++ [now'], ts', k', by omega, a2, by omega, by simp [hout], by omega, a5, a1, rfl, a6, a7, a8, by simpa using a9, a10, a11, by simpa using a12⟩
     clear ih
     by_cases c1 : p ∈ now
     ·by_cases c2 : g = -1
      ·subst c2
       by_cases c3 : p ∈ wo now (-1)
       ·rcases hk with rfl | rfl
        ·simp [keep67, g1, g2, g7, g8, g9, g10, g11, field27_0, field27_1, row27, row22, row3, row32, by22, sz27, shape22, shape32, zero22, ep, eg, intIn_nat hj, intIn_nat hj2, hj, hj2, q1, q2, q3, q4, q6, w1, w2, w3, w4, has_bor w1, wo_bor w1, has_bor w2, put_bor w2, has_fz w1, wo_fz w1, c1, c3]
         exact fin _ 0 (wo now (-1)) (set) .fz (Or.inr rfl) (by simpa [errOf, nowOf, c1, c3] using hpl) (Nat.le_trans wo_length (by omega)) (by omega) (by omega) (by simp [g1]) (by simp [g2]) (by simp [g7]) (by simp) (by simp) (by simp [g10]) (by simp)
        ·simp [keep67, g1, g2, g7, g8, g9, g10, g11, field27_0, field27_1, row27, row22, row3, row32, by22, sz27, shape22, shape32, zero22, ep, eg, intIn_nat hj, intIn_nat hj2, hj, hj2, q1, q2, q3, q4, q6, w1, w2, w3, w4, has_bor w1, wo_bor w1, has_bor w2, put_bor w2, has_fz w1, wo_fz w1, c1, c3]
         exact fin _ 0 (wo now (-1)) (set) .fz (Or.inr rfl) (by simpa [errOf, nowOf, c1, c3] using hpl) (Nat.le_trans wo_length (by omega)) (by omega) (by omega) (by simp [g1]) (by simp [g2]) (by simp [g7]) (by simp) (by simp) (by simp [g10]) (by simp)
       ·rcases hk with rfl | rfl
        ·simp [keep67, g1, g2, g7, g8, g9, g10, g11, field27_0, field27_1, row27, row22, row3, row32, by22, sz27, shape22, shape32, zero22, ep, eg, intIn_nat hj, intIn_nat hj2, hj, hj2, q1, q2, q3, q4, q6, w1, w2, w3, w4, has_bor w1, wo_bor w1, has_bor w2, put_bor w2, has_fz w1, wo_fz w1, c1, c3]
         exact fin _ 0 (wo (wo now (-1)) p ++ [p]) (set + 1) .fz (Or.inr rfl) (by simpa [errOf, nowOf, c1, c3] using hpl) (by have := @wo_length now (-1); have := @wo_length (wo now (-1)) p; simp; omega) (by omega) (by omega) (by simp [g1]) (by simp [g2]) (by simp [g7]) (by simp) (by simp) (by simp [g10]) (by simp)
        ·simp [keep67, g1, g2, g7, g8, g9, g10, g11, field27_0, field27_1, row27, row22, row3, row32, by22, sz27, shape22, shape32, zero22, ep, eg, intIn_nat hj, intIn_nat hj2, hj, hj2, q1, q2, q3, q4, q6, w1, w2, w3, w4, has_bor w1, wo_bor w1, has_bor w2, put_bor w2, has_fz w1, wo_fz w1, c1, c3]
         exact fin _ 0 (wo (wo now (-1)) p ++ [p]) (set + 1) .fz (Or.inr rfl) (by simpa [errOf, nowOf, c1, c3] using hpl) (by have := @wo_length now (-1); have := @wo_length (wo now (-1)) p; simp; omega) (by omega) (by omega) (by simp [g1]) (by simp [g2]) (by simp [g7]) (by simp) (by simp) (by simp [g10]) (by simp)
      ·by_cases c3 : p ∈ wo now g
       ·rcases hk with rfl | rfl
        ·simp [keep67, g1, g2, g7, g8, g9, g10, g11, field27_0, field27_1, row27, row22, row3, row32, by22, sz27, shape22, shape32, zero22, ep, eg, intIn_nat hj, intIn_nat hj2, hj, hj2, q1, q2, q3, q4, q6, w1, w2, w3, w4, has_bor w1, wo_bor w1, has_bor w2, put_bor w2, has_fz w1, wo_fz w1, c1, c2, c3]
         exact fin _ 15 (wo now g) (set) .fz (Or.inr rfl) (by simpa [errOf, nowOf, c1, c2, c3] using hpl) (Nat.le_trans wo_length (by omega)) (by omega) (by omega) (by simp [g1]) (by simp [g2]) (by simp [g7]) (by simp) (by simp) (by simp [g10]) (by simp)
        ·simp [keep67, g1, g2, g7, g8, g9, g10, g11, field27_0, field27_1, row27, row22, row3, row32, by22, sz27, shape22, shape32, zero22, ep, eg, intIn_nat hj, intIn_nat hj2, hj, hj2, q1, q2, q3, q4, q6, w1, w2, w3, w4, has_bor w1, wo_bor w1, has_bor w2, put_bor w2, has_fz w1, wo_fz w1, c1, c2, c3]
         exact fin _ 15 (wo now g) (set) .fz (Or.inr rfl) (by simpa [errOf, nowOf, c1, c2, c3] using hpl) (Nat.le_trans wo_length (by omega)) (by omega) (by omega) (by simp [g1]) (by simp [g2]) (by simp [g7]) (by simp) (by simp) (by simp [g10]) (by simp)
       ·rcases hk with rfl | rfl
        ·simp [keep67, g1, g2, g7, g8, g9, g10, g11, field27_0, field27_1, row27, row22, row3, row32, by22, sz27, shape22, shape32, zero22, ep, eg, intIn_nat hj, intIn_nat hj2, hj, hj2, q1, q2, q3, q4, q6, w1, w2, w3, w4, has_bor w1, wo_bor w1, has_bor w2, put_bor w2, has_fz w1, wo_fz w1, c1, c2, c3]
         exact fin _ 15 (wo (wo now g) p ++ [p]) (set + 1) .fz (Or.inr rfl) (by simpa [errOf, nowOf, c1, c2, c3] using hpl) (by have := @wo_length now g; have := @wo_length (wo now g) p; simp; omega) (by omega) (by omega) (by simp [g1]) (by simp [g2]) (by simp [g7]) (by simp) (by simp) (by simp [g10]) (by simp)
        ·simp [keep67, g1, g2, g7, g8, g9, g10, g11, field27_0, field27_1, row27, row22, row3, row32, by22, sz27, shape22, shape32, zero22, ep, eg, intIn_nat hj, intIn_nat hj2, hj, hj2, q1, q2, q3, q4, q6, w1, w2, w3, w4, has_bor w1, wo_bor w1, has_bor w2, put_bor w2, has_fz w1, wo_fz w1, c1, c2, c3]
         exact fin _ 15 (wo (wo now g) p ++ [p]) (set + 1) .fz (Or.inr rfl) (by simpa [errOf, nowOf, c1, c2, c3] using hpl) (by have := @wo_length now g; have := @wo_length (wo now g) p; simp; omega) (by omega) (by omega) (by simp [g1]) (by simp [g2]) (by simp [g7]) (by simp) (by simp) (by simp [g10]) (by simp)
     ·by_cases c4 : (now.length : Int) = room
      ·by_cases c5 : g ∈ now
       ·by_cases c3 : p ∈ wo now g
        ·rcases hk with rfl | rfl
         ·simp [keep67, g1, g2, g7, g8, g9, g10, g11, field27_0, field27_1, row27, row22, row3, row32, by22, sz27, shape22, shape32, zero22, ep, eg, intIn_nat hj, intIn_nat hj2, hj, hj2, q1, q2, q3, q4, q6, w1, w2, w3, w4, has_bor w1, wo_bor w1, has_bor w2, put_bor w2, has_fz w1, wo_fz w1, c1, c4, c5, c3]
          exact fin _ 0 (wo now g) (set) .fz (Or.inr rfl) (by simpa [errOf, nowOf, c1, c4, c5, c3] using hpl) (Nat.le_trans wo_length (by omega)) (by omega) (by omega) (by simp [g1]) (by simp [g2]) (by simp [g7]) (by simp) (by simp) (by simp [g10]) (by simp)
         ·simp [keep67, g1, g2, g7, g8, g9, g10, g11, field27_0, field27_1, row27, row22, row3, row32, by22, sz27, shape22, shape32, zero22, ep, eg, intIn_nat hj, intIn_nat hj2, hj, hj2, q1, q2, q3, q4, q6, w1, w2, w3, w4, has_bor w1, wo_bor w1, has_bor w2, put_bor w2, has_fz w1, wo_fz w1, c1, c4, c5, c3]
          exact fin _ 0 (wo now g) (set) .fz (Or.inr rfl) (by simpa [errOf, nowOf, c1, c4, c5, c3] using hpl) (Nat.le_trans wo_length (by omega)) (by omega) (by omega) (by simp [g1]) (by simp [g2]) (by simp [g7]) (by simp) (by simp) (by simp [g10]) (by simp)
        ·rcases hk with rfl | rfl
         ·simp [keep67, g1, g2, g7, g8, g9, g10, g11, field27_0, field27_1, row27, row22, row3, row32, by22, sz27, shape22, shape32, zero22, ep, eg, intIn_nat hj, intIn_nat hj2, hj, hj2, q1, q2, q3, q4, q6, w1, w2, w3, w4, has_bor w1, wo_bor w1, has_bor w2, put_bor w2, has_fz w1, wo_fz w1, c1, c4, c5, c3]
          exact fin _ 0 (wo (wo now g) p ++ [p]) (set + 1) .fz (Or.inr rfl) (by simpa [errOf, nowOf, c1, c4, c5, c3] using hpl) (by have := @wo_length now g; have := @wo_length (wo now g) p; simp; omega) (by omega) (by omega) (by simp [g1]) (by simp [g2]) (by simp [g7]) (by simp) (by simp) (by simp [g10]) (by simp)
         ·simp [keep67, g1, g2, g7, g8, g9, g10, g11, field27_0, field27_1, row27, row22, row3, row32, by22, sz27, shape22, shape32, zero22, ep, eg, intIn_nat hj, intIn_nat hj2, hj, hj2, q1, q2, q3, q4, q6, w1, w2, w3, w4, has_bor w1, wo_bor w1, has_bor w2, put_bor w2, has_fz w1, wo_fz w1, c1, c4, c5, c3]
          exact fin _ 0 (wo (wo now g) p ++ [p]) (set + 1) .fz (Or.inr rfl) (by simpa [errOf, nowOf, c1, c4, c5, c3] using hpl) (by have := @wo_length now g; have := @wo_length (wo now g) p; simp; omega) (by omega) (by omega) (by simp [g1]) (by simp [g2]) (by simp [g7]) (by simp) (by simp) (by simp [g10]) (by simp)
       ·by_cases c3 : p ∈ wo now g
        ·rcases hk with rfl | rfl
         ·simp [keep67, g1, g2, g7, g8, g9, g10, g11, field27_0, field27_1, row27, row22, row3, row32, by22, sz27, shape22, shape32, zero22, ep, eg, intIn_nat hj, intIn_nat hj2, hj, hj2, q1, q2, q3, q4, q6, w1, w2, w3, w4, has_bor w1, wo_bor w1, has_bor w2, put_bor w2, has_fz w1, wo_fz w1, c1, c4, c5, c3]
          exact fin _ 2 (wo now g) (set) .fz (Or.inr rfl) (by simpa [errOf, nowOf, c1, c4, c5, c3] using hpl) (Nat.le_trans wo_length (by omega)) (by omega) (by omega) (by simp [g1]) (by simp [g2]) (by simp [g7]) (by simp) (by simp) (by simp [g10]) (by simp)
         ·simp [keep67, g1, g2, g7, g8, g9, g10, g11, field27_0, field27_1, row27, row22, row3, row32, by22, sz27, shape22, shape32, zero22, ep, eg, intIn_nat hj, intIn_nat hj2, hj, hj2, q1, q2, q3, q4, q6, w1, w2, w3, w4, has_bor w1, wo_bor w1, has_bor w2, put_bor w2, has_fz w1, wo_fz w1, c1, c4, c5, c3]
          exact fin _ 2 (wo now g) (set) .fz (Or.inr rfl) (by simpa [errOf, nowOf, c1, c4, c5, c3] using hpl) (Nat.le_trans wo_length (by omega)) (by omega) (by omega) (by simp [g1]) (by simp [g2]) (by simp [g7]) (by simp) (by simp) (by simp [g10]) (by simp)
        ·rcases hk with rfl | rfl
         ·simp [keep67, g1, g2, g7, g8, g9, g10, g11, field27_0, field27_1, row27, row22, row3, row32, by22, sz27, shape22, shape32, zero22, ep, eg, intIn_nat hj, intIn_nat hj2, hj, hj2, q1, q2, q3, q4, q6, w1, w2, w3, w4, has_bor w1, wo_bor w1, has_bor w2, put_bor w2, has_fz w1, wo_fz w1, c1, c4, c5, c3]
          exact fin _ 2 (wo (wo now g) p ++ [p]) (set + 1) .fz (Or.inr rfl) (by simpa [errOf, nowOf, c1, c4, c5, c3] using hpl) (by have := @wo_length now g; have := @wo_length (wo now g) p; simp; omega) (by omega) (by omega) (by simp [g1]) (by simp [g2]) (by simp [g7]) (by simp) (by simp) (by simp [g10]) (by simp)
         ·simp [keep67, g1, g2, g7, g8, g9, g10, g11, field27_0, field27_1, row27, row22, row3, row32, by22, sz27, shape22, shape32, zero22, ep, eg, intIn_nat hj, intIn_nat hj2, hj, hj2, q1, q2, q3, q4, q6, w1, w2, w3, w4, has_bor w1, wo_bor w1, has_bor w2, put_bor w2, has_fz w1, wo_fz w1, c1, c4, c5, c3]
          exact fin _ 2 (wo (wo now g) p ++ [p]) (set + 1) .fz (Or.inr rfl) (by simpa [errOf, nowOf, c1, c4, c5, c3] using hpl) (by have := @wo_length now g; have := @wo_length (wo now g) p; simp; omega) (by omega) (by omega) (by simp [g1]) (by simp [g2]) (by simp [g7]) (by simp) (by simp) (by simp [g10]) (by simp)
      ·by_cases c2 : g = -1
       ·subst c2
        by_cases c3 : p ∈ wo now (-1)
        ·rcases hk with rfl | rfl
         ·simp [keep67, g1, g2, g7, g8, g9, g10, g11, field27_0, field27_1, row27, row22, row3, row32, by22, sz27, shape22, shape32, zero22, ep, eg, intIn_nat hj, intIn_nat hj2, hj, hj2, q1, q2, q3, q4, q6, w1, w2, w3, w4, has_bor w1, wo_bor w1, has_bor w2, put_bor w2, has_fz w1, wo_fz w1, c1, c4, c3]
          exact fin _ 0 (wo now (-1)) (set) .fz (Or.inr rfl) (by simpa [errOf, nowOf, c1, c4, c3] using hpl) (Nat.le_trans wo_length (by omega)) (by omega) (by omega) (by simp [g1]) (by simp [g2]) (by simp [g7]) (by simp) (by simp) (by simp [g10]) (by simp)
         ·simp [keep67, g1, g2, g7, g8, g9, g10, g11, field27_0, field27_1, row27, row22, row3, row32, by22, sz27, shape22, shape32, zero22, ep, eg, intIn_nat hj, intIn_nat hj2, hj, hj2, q1, q2, q3, q4, q6, w1, w2, w3, w4, has_bor w1, wo_bor w1, has_bor w2, put_bor w2, has_fz w1, wo_fz w1, c1, c4, c3]
          exact fin _ 0 (wo now (-1)) (set) .fz (Or.inr rfl) (by simpa [errOf, nowOf, c1, c4, c3] using hpl) (Nat.le_trans wo_length (by omega)) (by omega) (by omega) (by simp [g1]) (by simp [g2]) (by simp [g7]) (by simp) (by simp) (by simp [g10]) (by simp)
        ·rcases hk with rfl | rfl
         ·simp [keep67, g1, g2, g7, g8, g9, g10, g11, field27_0, field27_1, row27, row22, row3, row32, by22, sz27, shape22, shape32, zero22, ep, eg, intIn_nat hj, intIn_nat hj2, hj, hj2, q1, q2, q3, q4, q6, w1, w2, w3, w4, has_bor w1, wo_bor w1, has_bor w2, put_bor w2, has_fz w1, wo_fz w1, c1, c4, c3]
          exact fin _ 0 (wo (wo now (-1)) p ++ [p]) (set + 1) .fz (Or.inr rfl) (by simpa [errOf, nowOf, c1, c4, c3] using hpl) (by have := @wo_length now (-1); have := @wo_length (wo now (-1)) p; simp; omega) (by omega) (by omega) (by simp [g1]) (by simp [g2]) (by simp [g7]) (by simp) (by simp) (by simp [g10]) (by simp)
         ·simp [keep67, g1, g2, g7, g8, g9, g10, g11, field27_0, field27_1, row27, row22, row3, row32, by22, sz27, shape22, shape32, zero22, ep, eg, intIn_nat hj, intIn_nat hj2, hj, hj2, q1, q2, q3, q4, q6, w1, w2, w3, w4, has_bor w1, wo_bor w1, has_bor w2, put_bor w2, has_fz w1, wo_fz w1, c1, c4, c3]
          exact fin _ 0 (wo (wo now (-1)) p ++ [p]) (set + 1) .fz (Or.inr rfl) (by simpa [errOf, nowOf, c1, c4, c3] using hpl) (by have := @wo_length now (-1); have := @wo_length (wo now (-1)) p; simp; omega) (by omega) (by omega) (by simp [g1]) (by simp [g2]) (by simp [g7]) (by simp) (by simp) (by simp [g10]) (by simp)
       ·by_cases c3 : p ∈ wo now g
        ·rcases hk with rfl | rfl
         ·simp [keep67, g1, g2, g7, g8, g9, g10, g11, field27_0, field27_1, row27, row22, row3, row32, by22, sz27, shape22, shape32, zero22, ep, eg, intIn_nat hj, intIn_nat hj2, hj, hj2, q1, q2, q3, q4, q6, w1, w2, w3, w4, has_bor w1, wo_bor w1, has_bor w2, put_bor w2, has_fz w1, wo_fz w1, c1, c4, c2, c3]
          exact fin _ 15 (wo now g) (set) .fz (Or.inr rfl) (by simpa [errOf, nowOf, c1, c4, c2, c3] using hpl) (Nat.le_trans wo_length (by omega)) (by omega) (by omega) (by simp [g1]) (by simp [g2]) (by simp [g7]) (by simp) (by simp) (by simp [g10]) (by simp)
         ·simp [keep67, g1, g2, g7, g8, g9, g10, g11, field27_0, field27_1, row27, row22, row3, row32, by22, sz27, shape22, shape32, zero22, ep, eg, intIn_nat hj, intIn_nat hj2, hj, hj2, q1, q2, q3, q4, q6, w1, w2, w3, w4, has_bor w1, wo_bor w1, has_bor w2, put_bor w2, has_fz w1, wo_fz w1, c1, c4, c2, c3]
          exact fin _ 15 (wo now g) (set) .fz (Or.inr rfl) (by simpa [errOf, nowOf, c1, c4, c2, c3] using hpl) (Nat.le_trans wo_length (by omega)) (by omega) (by omega) (by simp [g1]) (by simp [g2]) (by simp [g7]) (by simp) (by simp) (by simp [g10]) (by simp)
        ·rcases hk with rfl | rfl
         ·simp [keep67, g1, g2, g7, g8, g9, g10, g11, field27_0, field27_1, row27, row22, row3, row32, by22, sz27, shape22, shape32, zero22, ep, eg, intIn_nat hj, intIn_nat hj2, hj, hj2, q1, q2, q3, q4, q6, w1, w2, w3, w4, has_bor w1, wo_bor w1, has_bor w2, put_bor w2, has_fz w1, wo_fz w1, c1, c4, c2, c3]
          exact fin _ 15 (wo (wo now g) p ++ [p]) (set + 1) .fz (Or.inr rfl) (by simpa [errOf, nowOf, c1, c4, c2, c3] using hpl) (by have := @wo_length now g; have := @wo_length (wo now g) p; simp; omega) (by omega) (by omega) (by simp [g1]) (by simp [g2]) (by simp [g7]) (by simp) (by simp) (by simp [g10]) (by simp)
         ·simp [keep67, g1, g2, g7, g8, g9, g10, g11, field27_0, field27_1, row27, row22, row3, row32, by22, sz27, shape22, shape32, zero22, ep, eg, intIn_nat hj, intIn_nat hj2, hj, hj2, q1, q2, q3, q4, q6, w1, w2, w3, w4, has_bor w1, wo_bor w1, has_bor w2, put_bor w2, has_fz w1, wo_fz w1, c1, c4, c2, c3]
          exact fin _ 15 (wo (wo now g) p ++ [p]) (set + 1) .fz (Or.inr rfl) (by simpa [errOf, nowOf, c1, c4, c2, c3] using hpl) (by have := @wo_length now g; have := @wo_length (wo now g) p; simp; omega) (by omega) (by omega) (by simp [g1]) (by simp [g2]) (by simp [g7]) (by simp) (by simp) (by simp [g10]) (by simp)
    ·have hq : Q = (out, set, e) := by
      by_cases he : e = 0
      ·have : plan.length ≤ j := by omega
       rw [← hpl, List.drop_of_length_le (by omega)]
       rfl
      ·rw [← hpl, play_stop he]
     subst hq
     simp only [playedV] at hR
     rw [← hR]
     by_cases hj1 : j < plan.length
     ·have he : e ≠ 0 := fun h => hj ⟨hj1, h⟩
      simp [keep67, g1, g2, g7, g8, g9, g10, g11, field27_1, row27, row22, sz27, shape22, hj1, he]
     ·by_cases he : e = 0
      ·rcases hk with rfl | rfl <;> simp [keep67, g1, g2, g7, g8, g9, g10, g11, field27_1, row27, row22, sz27, shape22, hj1, he]
      ·rcases hk with rfl | rfl <;> simp [keep67, g1, g2, g7, g8, g9, g10, g11, field27_1, row27, row22, sz27, shape22, hj1, he]
  ·have h2' : ¬ plan.length = pages.length := by omega
   simp only [playedOf, played0, if_pos h1, if_neg h2', playedV]
   simp [keep67, field27_1, row27, row22, sz27, shape22, refCheck_is hl, h1, h2]
   rw [EK_lp]
   rcases Nat.eq_zero_or_pos plan.length with h0 | h0 <;> simp [keep67, field27_1, row27, row22, sz27, shape22, refCheck_is hl, h1, h2, presM, settles, h0]
 ·simp only [playedOf, played0, if_neg h1, playedV]
  simp [keep67, field27_1, row27, row22, sz27, shape22, refCheck_is hl, h1]
  rw [EK_lp]
  rcases Nat.eq_zero_or_pos plan.length with h0 | h0 <;> simp [keep67, field27_1, row27, row22, sz27, shape22, refCheck_is hl, h1, presM, settles, h0]
end Go.Proofs.YtcdhajbhpnbdkaaDoor
set_option linter.unusedSimpArgs false
set_option linter.unusedVariables false
namespace Go.Proofs.YtcdhajbhpnbdkaaDoor
open Go.Abs Go.Pur
set_option maxRecDepth 100000
attribute [local simp] EK_region EK_seq EK_cond EK_block EK_blk EK_loop EK_exit EK.ex EK_ret EK_skip EK_nil EO_cons EO_nil EO1_true EO1_false EO2_some EO3_some EB_true EB_false pwanted poper pq pev Go.Pur.look pputT isAssign drOf pinit Tr.get_set lget pvOf_int pvOf_bool pvOf_str pvOf_nil rdv_ak notOwn_ak prt_ak loose_ak rdv_own rdv_fz rdv_bor rdv_rf rdv_pt rdv_v rdv_a rdv_t rdv_r rdv_p rdv_s rdv_f pbin plen pload ppart idxAddr pcond Nat.blt goInt_eq prun_not prun_neg mayLoad ER_ret ER_normal presL presOne moved stor okDrop settle_v settle_l settle_a settle_p settle_f noref_v noref_fz noref_a norefs_nil norefs_cons pclose given lowOf dropB Y0_keep pevParts stors pvCells pvCells.go vcells pfill reps zipParts ownFz pcells cellOK one psrcLen srcFits psrc takeP pgrow take getPl setPl mapL plEq elder isList lowP pevs frzs addP partAt ble_lim24 killV_v killV_a killV_t killV_f killV_i killV_p killV_s killV_un killV_dead killV_lfz killV_lbor killV_lown killV_rfz killV_rbor killV_lak killV_rak frzV_v frzV_a frzV_t frzV_f frzV_i frzV_p frzV_s frzV_un frzV_dead frzV_lfz frzV_lbor frzV_lown frzV_rfz frzV_rbor frzV_lak frzV_rak killCell_v killCell_a killCell_t killCell_f killCell_i killCell_p killCell_s killCell_un killCell_dead killCell_lfz killCell_lbor killCell_lown killCell_rfz killCell_rbor killCell_lak killCell_rak killV_lrf killV_lpt killV_rpt frzV_lrf frzV_lpt frzV_rpt killCell_lrft killCell_lptt killCell_rptt killCell_lrfc killCell_lptc killCell_rptc argv_lak argv_rak argv_v argv_a argv_p argv_f argv_fz argv_bor argv_rf argv_pt argv_rc argv_own mayTurn_none argvs pcallOp firm lowB refsTo_v refsTo_l refsTo_p refsTo_s refsTo_a refsTo_dead refsTo_nil refsTo_cons isOwn_lak ownFz_lak evSafe pskip plain pnewBlk fldAddr isOwn pput spliceP notOwn_fz notOwn_bor notOwn_own notOwn_rf notOwn_pt prt_fz prt_bor prt_own prt_rf prt_pt Go.Pur.freeze presM settles abin_and abin_or abin_andNot abin_mul abin_shr abin_shl abin_add abin_sub abin_eql abin_neq abin_lss abin_leq abin_gtr abin_geq
theorem refRun_is {room : Int} {pages plan : List Int} {b : Bool} {c d : Ck} {hp : List (Option (List PV))} (hl : pages.length < 1000000000) (hl2 : plan.length < 1000000000) :
  E Tryd.prog Y0 20 [.a [iv room, .l .fz c pages.length (pages.map iv)], .l (ak b) d plan.length (plan.map iv)] hp = some (.t [iv (playedOf room pages plan).2.1, iv (playedOf room pages plan).2.2], hp, none) := by
 rw [E_bodyN 2 body20 rfl (by decide) rfl]
 simp only [Tryd.f20, Option.get_some]
 simp [keep20, row27, sz27, played_is (b := b) hl hl2, playedV]
def six : List Int := [0, 1, 2, 3, 4, 5]
def orderOf (l : List Int) : List Int := six.filter (· ∈ l)
def ordI (x : List Int) (i : Nat) : List Int := (six.take i).filter (· ∈ x)
theorem ordI_six {x : List Int} : ordI x 6 = orderOf x := rfl
theorem ordI_succ {x : List Int} {i : Nat} (h : i < 6) : ordI x (i + 1) = if (i : Int) ∈ x then ordI x i ++ [(i : Int)] else ordI x i := by
 unfold ordI
 have : six[i]? = some (i : Int) := by
  have : i = 0 ∨ i = 1 ∨ i = 2 ∨ i = 3 ∨ i = 4 ∨ i = 5 := by omega
  rcases this with rfl | rfl | rfl | rfl | rfl | rfl <;> rfl
 rw [List.take_add_one, this, List.filter_append]
 by_cases hx : (i : Int) ∈ x
 ·rw [if_pos hx]; simp [hx]
 ·rw [if_neg hx]; simp [hx]
theorem ordI_length {x : List Int} {i : Nat} : (ordI x i).length ≤ i := Nat.le_trans (List.length_filter_le _ _) (List.length_take_le _ _)
theorem play_in {room : Int} : ∀ {l : List (Int × Int)} {e set : Int} {now : List Int} {out : List (List Int)}, now.length ≤ out.length → (∀ x ∈ out, x.length ≤ out.length) → ∀ x ∈ (play room l e now set out).1, x.length ≤ out.length + l.length
 | [], e, set, now, out, h1, h2 => fun x hx => h2 x hx
 | (p, g) :: r, e, set, now, out, h1, h2 => fun x hx => by
  simp only [play] at hx
  split at hx
  ·have h3 := @nowOf_length now p g
   have := play_in (l := r) (now := nowOf now p g) (out := out ++ [nowOf now p g]) (by simp; omega) (fun y hy => by
    simp at hy
    rcases hy with hy | rfl
    ·have := h2 y hy; simp; omega
    ·simp; omega) x hx
   simp at this ⊢
   omega
  ·have := h2 x hx
   omega
theorem play_len {room : Int} : ∀ {l : List (Int × Int)} {e set : Int} {now : List Int} {out : List (List Int)}, (play room l e now set out).1.length ≤ out.length + l.length
 | [], e, set, now, out => by simp [play]
 | (p, g) :: r, e, set, now, out => by
  simp only [play]
  split
  ·have := play_len (room := room) (l := r) (e := errOf room now p g) (set := if p ∈ wo now g then set else set + 1) (now := nowOf now p g) (out := out ++ [nowOf now p g])
   simp at this ⊢
   omega
  ·simp
theorem playedOf_small {room : Int} {pages plan : List Int} : (playedOf room pages plan).1.length ≤ 12 ∧ ∀ x ∈ (playedOf room pages plan).1, x.length ≤ 12 := by
 unfold playedOf
 split
 ·unfold played0
  split
  ·rename_i h1
   obtain ⟨_, _, h, _⟩ := chk_ok h1
   split
   ·have h1 := @play_len room (pages.zip plan) 0 0 [] []
    have h2 := @play_in room (pages.zip plan) 0 0 [] [] (by simp) (by simp)
    simp at h1 h2
    exact ⟨by omega, fun x hx => by have := h2 x hx; omega⟩
   ·simp
  ·simp
 ·simp
theorem refStanding_is {room : Int} {pages plan : List Int} {b : Bool} {c d : Ck} {hp : List (Option (List PV))} (hl : pages.length < 1000000000) (hl2 : plan.length < 1000000000) :
  E Tryd.prog Y0 22 [.a [iv room, .l .fz c pages.length (pages.map iv)], .l (ak b) d plan.length (plan.map iv)] hp = some (.t [.l .fz .nz (playedOf room pages plan).1.length (((playedOf room pages plan).1.map orderOf).map lc), iv (playedOf room pages plan).2.2], hp, none) := by
 rw [E_bodyN 2 body22 rfl (by decide) rfl]
 simp only [Tryd.f22, Option.get_some]
 obtain ⟨hs1, hs2⟩ := @playedOf_small room pages plan
 generalize hQ : playedOf room pages plan = Q at *
 have hpl := @played_is room pages plan b c d (hp ++ [some [iv room, .l .fz c pages.length (pages.map iv)]]) hl hl2
 rw [hQ] at hpl
 simp [keep22, row27, sz27, hpl, playedV]
 obtain ⟨L, set, e⟩ := Q
 simp only at hs1 hs2 ⊢
 refine loop_ind (fun m σ => ∃ j ts, m + j = L.length ∧ σ = ⟨[], ts, hp ++ [some [iv room, .l .fz c pages.length (pages.map iv)]], none⟩ ∧ ts.get 6 = some (.l .fz .nz L.length (L.map lc)) ∧ ts.get 8 = some (iv e) ∧ ts.get 9 = some (.l .own .nz j (((L.take j).map orderOf).map lc)) ∧ ts.get 10 = some (iv j)) (n0 := L.length) ?_ ?_
 ·exact ⟨0, _, rfl, rfl, by simp, by simp, by simp, by simp⟩
 ·rintro m σ ⟨j, ts, hm, rfl, g6, g8, g9, g10⟩ ih
  rcases Nat.lt_or_ge j L.length with hj | hj
  ·have h2 : Nat.ble (j + 1) L.length = true := ble_true hj
   have h3 : L[j]? = some L[j] := List.getElem?_eq_getElem hj
   obtain ⟨x, ex⟩ : ∃ x, L[j] = x := ⟨_, rfl⟩
   have hx : x.length < 1000000000 := by have := hs2 x (ex ▸ List.getElem_mem hj); omega
   simp [keep22, g6, g8, g9, g10, shape32, row22, hj, intIn_nat hj, h2, h3, ex]
   refine loop_ind (fun m σ => ∃ i ts', m + i = 6 ∧ σ = ⟨[], ts', hp ++ [some [iv room, .l .fz c pages.length (pages.map iv)]], none⟩ ∧ ts'.get 6 = some (.l .fz .nz L.length (L.map lc)) ∧ ts'.get 8 = some (iv e) ∧ ts'.get 9 = some (.l .own .nz j (((L.take j).map orderOf).map lc)) ∧ ts'.get 10 = some (iv j) ∧ ts'.get 11 = some (.l .own .nz (ordI x i).length ((ordI x i).map iv)) ∧ ts'.get 12 = some (iv i)) (n0 := 6) ?_ ?_
   ·exact ⟨0, _, rfl, rfl, by simp [g6], by simp [g8], by simp [g9], by simp [g10], by simp [ordI], by simp⟩
   ·rintro m' σ ⟨i, ts', hm', rfl, a6, a8, a9, a10, a11, a12⟩ ih2
    have k1 := @ordI_length x i
    rcases Nat.lt_or_ge i 6 with hi | hi
    ·have k2 := @ordI_succ x i hi
     have k3 := wrap_nat (show i < 1000000000000 by omega)
     have k4 : Nat.ble (((ordI x i).length + 1) * 10) limit = true := ble_true (by unfold limit; omega)
     have k5 : (i : Int) < 6 := by omega
     by_cases k6 : (i : Int) ∈ x
     ·rw [if_pos k6] at k2
      simp [keep22, a6, a8, a9, a10, a11, a12, shape32, shape22, row22, hj, intIn_nat hj, h2, h3, ex, has_fz hx, k3, k4, k5, k6, zero3, by3]
      exact ih2 (m' - 1) _ (by omega) ⟨i + 1, _, by omega, rfl, by simp [a6], by simp [a8], by simp [a9], by simp [a10], by simp [k2], by simp⟩
     ·rw [if_neg k6] at k2
      simp [keep22, a6, a8, a9, a10, a11, a12, shape32, shape22, row22, hj, intIn_nat hj, h2, h3, ex, has_fz hx, k3, k4, k5, k6, zero3, by3]
      exact ih2 (m' - 1) _ (by omega) ⟨i + 1, _, by omega, rfl, by simp [a6], by simp [a8], by simp [a9], by simp [a10], by simp [k2, a11], by simp⟩
    ·obtain rfl : i = 6 := by omega
     have k3 := wrap_nat (show j < 1000000000000 by omega)
     have k4 : Nat.ble ((j + 1) * 26) limit = true := ble_true (by unfold limit; omega)
     rw [ordI_six] at a11
     simp [keep22, a6, a8, a9, a10, a11, a12, shape32, shape22, row22, zero22, by22, k3, k4, show min j L.length = j by omega]
     refine ih (m - 1) _ (by omega) ⟨j + 1, _, by omega, rfl, by simp [a6], by simp [a8], ?_, by simp⟩
     rw [List.take_add_one, h3, ex]
     simp
  ·obtain rfl : j = L.length := by omega
   rw [List.take_of_length_le hj] at g9
   simp [keep22, g6, g8, g9, g10, shape32]
end Go.Proofs.YtcdhajbhpnbdkaaDoor
