/-
  The rules of the reference, by the pure evaluator.
  Conditions: none; lemmas.
-/
import Derived.Test.YtcdhajbhpnbdkaaDoorRunsLaw
set_option linter.unusedSimpArgs false
set_option linter.unusedVariables false
namespace Go.Proofs.YtcdhajbhpnbdkaaDoor
open Go.Abs Go.Pur
set_option maxRecDepth 100000
attribute [local simp] EK_region EK_seq EK_cond EK_block EK_blk EK_loop EK_exit EK.ex EK_ret EK_skip EK_nil EO_cons EO_nil EO1_true EO1_false EO2_some EO3_some EB_true EB_false pwanted poper pq pev Go.Pur.look pputT isAssign drOf pinit Tr.get_set lget pvOf_int pvOf_bool pvOf_str pvOf_nil rdv_ak notOwn_ak prt_ak loose_ak rdv_own rdv_fz rdv_bor rdv_rf rdv_pt rdv_v rdv_a rdv_t rdv_r rdv_p rdv_s rdv_f pbin plen pload ppart idxAddr pcond Nat.blt goInt_eq prun_not prun_neg mayLoad ER_ret ER_normal presL presOne moved stor okDrop settle_v settle_l settle_a settle_p settle_f noref_v noref_fz noref_a norefs_nil norefs_cons pclose given lowOf dropB Y0_keep pevParts stors pvCells pvCells.go vcells pfill reps zipParts ownFz pcells cellOK one psrcLen srcFits psrc takeP pgrow take getPl setPl mapL plEq elder isList lowP pevs frzs addP partAt ble_lim24 killV_v killV_a killV_t killV_f killV_i killV_p killV_s killV_un killV_dead killV_lfz killV_lbor killV_lown killV_rfz killV_rbor killV_lak killV_rak frzV_v frzV_a frzV_t frzV_f frzV_i frzV_p frzV_s frzV_un frzV_dead frzV_lfz frzV_lbor frzV_lown frzV_rfz frzV_rbor frzV_lak frzV_rak killCell_v killCell_a killCell_t killCell_f killCell_i killCell_p killCell_s killCell_un killCell_dead killCell_lfz killCell_lbor killCell_lown killCell_rfz killCell_rbor killCell_lak killCell_rak killV_lrf killV_lpt killV_rpt frzV_lrf frzV_lpt frzV_rpt killCell_lrft killCell_lptt killCell_rptt killCell_lrfc killCell_lptc killCell_rptc argv_lak argv_rak argv_v argv_a argv_p argv_f argv_fz argv_bor argv_rf argv_pt argv_rc argv_own mayTurn_none argvs pcallOp firm lowB refsTo_v refsTo_l refsTo_p refsTo_s refsTo_a refsTo_dead refsTo_nil refsTo_cons isOwn_lak ownFz_lak evSafe pskip plain pnewBlk fldAddr isOwn pput spliceP notOwn_fz notOwn_bor notOwn_own notOwn_rf notOwn_pt prt_fz prt_bor prt_own prt_rf prt_pt Go.Pur.freeze presM settles abin_and abin_or abin_andNot abin_mul abin_shr abin_shl abin_add abin_sub abin_eql abin_neq abin_lss abin_leq abin_gtr abin_geq
def nxt (pages : List Int) (p : Int) (t : Nat) : Nat := t + ((pages.drop t).findIdx fun y => decide (y = p))
theorem nxt_step {pages : List Int} {p : Int} {t : Nat} (h : t < pages.length) : nxt pages p t = if pages[t] = p then t else nxt pages p (t + 1) := by
  unfold nxt
  rw [List.drop_eq_getElem_cons h, List.findIdx_cons]
  by_cases e : pages[t] = p
  · simp [e]
  · simp [e]; omega
theorem nxt_end {pages : List Int} {p : Int} {t : Nat} (h : pages.length ≤ t) : nxt pages p t = t := by
  unfold nxt
  rw [List.drop_of_length_le h]; rfl
theorem nxt_le {pages : List Int} {p : Int} {t : Nat} (h : t ≤ pages.length) : nxt pages p t ≤ pages.length := by
  unfold nxt
  have := @List.findIdx_le_length _ (fun y => decide (y = p)) (pages.drop t)
  simp at this; omega
theorem next_is {room p : Int} {pages : List Int} {t : Nat} {c : Ck} {hp : List (Option (List PV))} (hl : pages.length < 1000000000) (ht : t ≤ pages.length) :
    E Tryd.prog Y0 102 [.a [iv room, .l .fz c pages.length (pages.map iv)], iv p, iv t] hp = some (iv (nxt pages p t), hp, none) := by
  rw [E_bodyN 3 body102 rfl (by decide) rfl]
  simp only [Tryd.f102, Option.get_some]
  simp [keep102, row27, sz27]
  refine loop_ind (fun m σ => ∃ (j : Nat) (ts : Tr PV), m + j = pages.length ∧ nxt pages p j = nxt pages p t ∧ σ = ⟨[], ts, hp ++ [some [iv room, .l .fz c pages.length (pages.map iv)]], none⟩ ∧ ts.get 1 = some (iv p) ∧ ts.get 2 = some (iv j) ∧ ts.get 3 = some (.p hp.length 0)) (n0 := pages.length - t) ?_ ?_
  · exact ⟨t, _, by omega, rfl, rfl, by simp, by simp, by simp⟩
  · rintro m σ ⟨j, ts, hm, he, rfl, g1, g2, g3⟩ ih
    rcases Nat.lt_or_ge j pages.length with hj | hj
    · have h2 : Nat.ble (j + 1) pages.length = true := ble_true hj
      have h3 : pages[j]? = some pages[j] := List.getElem?_eq_getElem hj
      have hjj : (j : Int) < pages.length := by omega
      rw [nxt_step hj] at he
      by_cases hx : pages[j] = p
      · rw [if_pos hx] at he
        simp [keep102, g1, g2, g3, field27_1, shape22, row22, row3, hjj, intIn_nat hj, h2, h3, hx, ← he]
      · rw [if_neg hx] at he
        simp [keep102, g1, g2, g3, field27_1, shape22, row22, row3, hjj, intIn_nat hj, h2, h3, hx, wrap_nat (show j < 1000000000000 by omega)]
        exact ih (m - 1) _ (by omega) ⟨j + 1, _, by omega, he, rfl, by simp [g1], by simp, by simp [g3]⟩
    · rw [nxt_end hj] at he
      simp [keep102, g1, g2, g3, field27_1, shape22, row22, row3, show ¬ (j : Int) < pages.length by omega, ← he]
def latG (pages : List Int) (now : List Int) (t : Nat) (g p : Int) : Int := if p ∈ now ∧ (g < 0 ∨ nxt pages g t < nxt pages p t) then p else g
def latOf (pages : List Int) (now : List Int) (t : Nat) : Int := six.foldl (latG pages now t) (-1)
theorem latest_is {room : Int} {pages now : List Int} {t : Nat} {b : Bool} {c d : Ck} {hp : List (Option (List PV))} (hl : pages.length < 1000000000) (hl2 : now.length < 1000000000) (ht : t ≤ pages.length) :
    E Tryd.prog Y0 111 [.a [iv room, .l .fz c pages.length (pages.map iv)], .l (ak b) d now.length (now.map iv), iv t] hp = some (iv (latOf pages now t), hp, none) := by
  rw [E_bodyN 3 body111 rfl (by decide) rfl]
  simp only [Tryd.f111, Option.get_some]
  simp [keep111, row27, sz27]
  refine loop_ind (fun m σ => ∃ (j : Nat) (g : Int) (ts : Tr PV), m + j = 6 ∧ g = (six.take j).foldl (latG pages now t) (-1) ∧ (g = -1 ∨ 0 ≤ g) ∧ σ = ⟨[], ts, hp ++ [some [iv room, .l .fz c pages.length (pages.map iv)]], none⟩ ∧ ts.get 1 = some (.l (ak b) d now.length (now.map iv)) ∧ ts.get 2 = some (iv t) ∧ ts.get 3 = some (.p hp.length 0) ∧ ts.get 7 = some (iv g) ∧ ts.get 8 = some (iv j)) (n0 := 6) ?_ ?_
  · exact ⟨0, -1, _, rfl, rfl, Or.inl rfl, rfl, by simp, by simp, by simp, by simp, by simp⟩
  · rintro m σ ⟨j, g, ts, hm, hg, hg0, rfl, g1, g2, g3, g7, g8⟩ ih
    have hh := fun hp => @has_is now j b d hp hl2
    have hn := fun hp (p : Int) => @next_is room p pages t c hp hl ht
    rcases Nat.lt_or_ge j 6 with hj | hj
    · have hjj : (j : Int) < 6 := by omega
      have w3 := wrap_nat (show j < 1000000000000 by omega)
      have hs : six.take (j + 1) = six.take j ++ [(j : Int)] := by
        have : j = 0 ∨ j = 1 ∨ j = 2 ∨ j = 3 ∨ j = 4 ∨ j = 5 := by omega
        rcases this with rfl | rfl | rfl | rfl | rfl | rfl <;> rfl
      have hf : (six.take (j + 1)).foldl (latG pages now t) (-1) = latG pages now t g j := by rw [hs, List.foldl_append, ← hg]; rfl
      unfold latG at hf
      by_cases h1 : (j : Int) ∈ now
      · rcases hg0 with rfl | hg0
        · rw [if_pos ⟨h1, Or.inl (by decide)⟩] at hf
          simp [keep111, row27, sz27, g1, g2, g3, g7, g8, hh, hn, h1, hjj, w3, noMaker_eq, kindOf, nble]
          exact ih (m - 1) _ (by omega) ⟨j + 1, j, _, by omega, hf.symm, Or.inr (by omega), rfl, by simp [g1], by simp [g2], by simp [g3], by simp, by simp⟩
        · by_cases h2 : nxt pages g t < nxt pages j t
          · rw [if_pos ⟨h1, Or.inr h2⟩] at hf
            simp [keep111, row27, sz27, g1, g2, g3, g7, g8, hh, hn, h1, h2, hjj, w3, noMaker_eq, kindOf, nble, show ¬ g < 0 by omega]
            exact ih (m - 1) _ (by omega) ⟨j + 1, j, _, by omega, hf.symm, Or.inr (by omega), rfl, by simp [g1], by simp [g2], by simp [g3], by simp, by simp⟩
          · rw [if_neg (by omega)] at hf
            simp [keep111, row27, sz27, g1, g2, g3, g7, g8, hh, hn, h1, h2, hjj, w3, noMaker_eq, kindOf, nble, show ¬ g < 0 by omega]
            exact ih (m - 1) _ (by omega) ⟨j + 1, g, _, by omega, hf.symm, Or.inr hg0, rfl, by simp [g1], by simp [g2], by simp [g3], by simp [g7], by simp⟩
      · rw [if_neg (fun h => h1 h.1)] at hf
        simp [keep111, row27, sz27, g1, g2, g3, g7, g8, hh, hn, h1, hjj, w3, noMaker_eq, kindOf, nble]
        exact ih (m - 1) _ (by omega) ⟨j + 1, g, _, by omega, hf.symm, hg0, rfl, by simp [g1], by simp [g2], by simp [g3], by simp [g7], by simp⟩
    · obtain rfl : j = 6 := by omega
      have : latOf pages now t = g := by rw [hg]; rfl
      simp [keep111, g1, g2, g3, g7, g8, this]
def gonR (last : Bool) (room : Int) (pages now : List Int) (p : Int) (t : Nat) : Int := if p ∉ now ∧ (now.length : Int) = room then (if last = true then latOf pages now t else now.headD 0) else -1
def nowR (recent : Bool) (now : List Int) (p g : Int) : List Int := if recent = true ∨ p ∉ wo now g then wo (wo now g) p ++ [p] else wo now g
def refG (last recent : Bool) (room : Int) (pages : List Int) : List Int → Nat → List Int → List Int → List Int
  | [], _, _, out => out
  | p :: r, t, now, out => refG last recent room pages r (t + 1) (nowR recent now p (gonR last room pages now p t)) (out ++ [gonR last room pages now p t])
theorem refRuled_is {room : Int} {pages : List Int} {last recent : Bool} {c : Ck} {hp : List (Option (List PV))} (hl : pages.length ≤ 12) (hr : 1 ≤ room) :
    E Tryd.prog Y0 100 [.a [iv room, .l .fz c pages.length (pages.map iv)], .v (.bool last), .v (.bool recent)] hp = some (.l .own .nz (refG last recent room pages pages 0 [] []).length ((refG last recent room pages pages 0 [] []).map iv), hp, none) := by
  have hl0 : pages.length < 1000000000 := by omega
  rw [E_bodyN 3 body100 rfl (by decide) rfl]
  simp only [Tryd.f100, Option.get_some]
  simp [keep100, row27, sz27]
  generalize hQ : refG last recent room pages pages 0 [] [] = Q
  refine loop_ind (fun m σ => ∃ (j : Nat) (now out : List Int) (ts : Tr PV), m + j = pages.length ∧ refG last recent room pages (pages.drop j) j now out = Q ∧ now.length ≤ j ∧ out.length = j ∧ σ = ⟨[], ts, hp ++ [some [iv room, .l .fz c pages.length (pages.map iv)]], none⟩ ∧ ts.get 1 = some (.v (.bool last)) ∧ ts.get 2 = some (.v (.bool recent)) ∧ ts.get 3 = some (.p hp.length 0) ∧ ts.get 7 = some (.l .own .nz out.length (out.map iv)) ∧ ts.get 8 = some (.l .own .nz now.length (now.map iv)) ∧ ts.get 9 = some (iv j)) (n0 := pages.length) ?_ ?_
  · exact ⟨0, [], [], _, rfl, hQ, by simp, rfl, rfl, by simp, by simp, by simp, by simp, by simp, by simp⟩
  · rintro m σ ⟨j, now, out, ts, hm, hpl, hnow, hout, rfl, g1, g2, g3, g7, g8, g9⟩ ih
    rcases Nat.lt_or_ge j pages.length with hj | hj
    · have q1 : Nat.ble (j + 1) pages.length = true := ble_true hj
      have q2 : pages[j]? = some pages[j] := List.getElem?_eq_getElem hj
      have q3 : pages.drop j = pages[j] :: pages.drop (j + 1) := List.drop_eq_getElem_cons hj
      rw [q3] at hpl
      obtain ⟨p, ep⟩ : ∃ p, pages[j] = p := ⟨_, rfl⟩
      rw [ep] at hpl q2
      simp only [refG] at hpl
      have hjj : (j : Int) < pages.length := by omega
      have q6 : Nat.ble ((out.length + 1) * 10) limit = true := ble_true (by unfold limit; omega)
      have w1 : now.length < 1000000000 := by omega
      have w2 : ∀ g, (wo now g).length < 1000000000 := fun g => Nat.lt_of_le_of_lt wo_length w1
      have w3 := wrap_nat (show j < 1000000000000 by omega)
      have fin := fun (ts' : Tr PV) (now' : List Int) (a2 : refG last recent room pages (pages.drop (j + 1)) (j + 1) now' (out ++ [gonR last room pages now p j]) = Q) (a3 : now'.length ≤ now.length + 1) (a4 : ts'.get 1 = some (.v (.bool last))) (a5 : ts'.get 2 = some (.v (.bool recent))) (a6 : ts'.get 3 = some (.p hp.length 0)) (a7 : ts'.get 7 = some (.l .own .nz (out.length + 1) (out.map iv ++ [iv (gonR last room pages now p j)]))) (a8 : ts'.get 8 = some (.l .own .nz now'.length (now'.map iv))) (a9 : ts'.get 9 = some (iv ((j : Int) + 1))) => ih (m - 1) ⟨[], ts', hp ++ [some [iv room, .l .fz c pages.length (pages.map iv)]], none⟩ (by omega) ⟨j + 1, now', out ++ [gonR last room pages now p j], ts', by omega, a2, by omega, by simp [hout], rfl, a4, a5, a6, by simpa using a7, a8, by simpa using a9⟩
      clear ih
      have hlat := fun hp => @latest_is room pages now j true c .nz hp hl0 w1 (by omega)
      simp only [ak] at hlat
      by_cases c1 : p ∈ now
      · have hgo : gonR last room pages now p j = -1 := by simp [gonR, c1]
        rw [hgo] at hpl fin
        cases recent with
        | true =>
          simp [keep100, g1, g2, g3, g7, g8, g9, field27_0, field27_1, row27, row22, row3, sz27, shape22, zero3, by3, hjj, intIn_nat hj, q1, q2, q6, w1, w3, has_bor w1, wo_bor w1, has_bor (w2 _), put_bor (w2 _), hlat, c1]
          exact fin _ _ (by simpa [nowR] using hpl) (by have := @wo_length now (-1); have := @wo_length (wo now (-1)) p; simp; omega) (by simp [g1]) (by simp [g2]) (by simp [g3]) (by simp) (by simp) (by simp)
        | false =>
          by_cases c3 : p ∈ wo now (-1)
          · simp [keep100, g1, g2, g3, g7, g8, g9, field27_0, field27_1, row27, row22, row3, sz27, shape22, zero3, by3, hjj, intIn_nat hj, q1, q2, q6, w1, w3, has_bor w1, wo_bor w1, has_bor (w2 _), put_bor (w2 _), hlat, c1, c3]
            exact fin _ _ (by simpa [nowR, c3] using hpl) (Nat.le_trans wo_length (by omega)) (by simp [g1]) (by simp [g2]) (by simp [g3]) (by simp) (by simp) (by simp)
          · simp [keep100, g1, g2, g3, g7, g8, g9, field27_0, field27_1, row27, row22, row3, sz27, shape22, zero3, by3, hjj, intIn_nat hj, q1, q2, q6, w1, w3, has_bor w1, wo_bor w1, has_bor (w2 _), put_bor (w2 _), hlat, c1, c3]
            exact fin _ _ (by simpa [nowR, c3] using hpl) (by have := @wo_length now (-1); have := @wo_length (wo now (-1)) p; simp; omega) (by simp [g1]) (by simp [g2]) (by simp [g3]) (by simp) (by simp) (by simp)
      · by_cases c4 : (now.length : Int) = room
        · obtain ⟨x, r, hxr⟩ := List.exists_cons_of_ne_nil (show now ≠ [] from fun e => by rw [e] at c4; simp at c4; omega)
          have hh0 : now.headD 0 = x := by rw [hxr]; rfl
          have hh1 : now[0]? = some x := by rw [hxr]; rfl
          have hh2 : Nat.ble 1 now.length = true := ble_true (by rw [hxr]; simp)
          have hh3 : intIn now.length (.int .i64 0) = some 0 := intIn_nat (i := 0) (by rw [hxr]; simp)
          cases last with
          | true =>
            have hgo : gonR true room pages now p j = latOf pages now j := by simp [gonR, c1, c4]
            rw [hgo] at hpl fin
            cases recent with
            | true =>
              simp [keep100, g1, g2, g3, g7, g8, g9, field27_0, field27_1, row27, row22, row3, sz27, shape22, zero3, by3, hjj, intIn_nat hj, q1, q2, q6, w1, w3, has_bor w1, wo_bor w1, has_bor (w2 _), put_bor (w2 _), hlat, c1, c4, hh1, hh2, hh3]
              exact fin _ _ (by simpa [nowR] using hpl) (by have := @wo_length now (latOf pages now j); have := @wo_length (wo now (latOf pages now j)) p; simp; omega) (by simp [g1]) (by simp [g2]) (by simp [g3]) (by simp) (by simp) (by simp)
            | false =>
              by_cases c3 : p ∈ wo now (latOf pages now j)
              · simp [keep100, g1, g2, g3, g7, g8, g9, field27_0, field27_1, row27, row22, row3, sz27, shape22, zero3, by3, hjj, intIn_nat hj, q1, q2, q6, w1, w3, has_bor w1, wo_bor w1, has_bor (w2 _), put_bor (w2 _), hlat, c1, c4, hh1, hh2, hh3, c3]
                exact fin _ _ (by simpa [nowR, c3] using hpl) (Nat.le_trans wo_length (by omega)) (by simp [g1]) (by simp [g2]) (by simp [g3]) (by simp) (by simp) (by simp)
              · simp [keep100, g1, g2, g3, g7, g8, g9, field27_0, field27_1, row27, row22, row3, sz27, shape22, zero3, by3, hjj, intIn_nat hj, q1, q2, q6, w1, w3, has_bor w1, wo_bor w1, has_bor (w2 _), put_bor (w2 _), hlat, c1, c4, hh1, hh2, hh3, c3]
                exact fin _ _ (by simpa [nowR, c3] using hpl) (by have := @wo_length now (latOf pages now j); have := @wo_length (wo now (latOf pages now j)) p; simp; omega) (by simp [g1]) (by simp [g2]) (by simp [g3]) (by simp) (by simp) (by simp)
          | false =>
            have hgo : gonR false room pages now p j = x := by unfold gonR; rw [if_pos ⟨c1, c4⟩, if_neg (by decide), hh0]
            rw [hgo] at hpl fin
            cases recent with
            | true =>
              simp [keep100, g1, g2, g3, g7, g8, g9, field27_0, field27_1, row27, row22, row3, sz27, shape22, zero3, by3, hjj, intIn_nat hj, q1, q2, q6, w1, w3, has_bor w1, wo_bor w1, has_bor (w2 _), put_bor (w2 _), hlat, c1, c4, hh1, hh2, hh3]
              exact fin _ _ (by simpa [nowR] using hpl) (by have := @wo_length now x; have := @wo_length (wo now x) p; simp; omega) (by simp [g1]) (by simp [g2]) (by simp [g3]) (by simp) (by simp) (by simp)
            | false =>
              by_cases c3 : p ∈ wo now x
              · simp [keep100, g1, g2, g3, g7, g8, g9, field27_0, field27_1, row27, row22, row3, sz27, shape22, zero3, by3, hjj, intIn_nat hj, q1, q2, q6, w1, w3, has_bor w1, wo_bor w1, has_bor (w2 _), put_bor (w2 _), hlat, c1, c4, hh1, hh2, hh3, c3]
                exact fin _ _ (by simpa [nowR, c3] using hpl) (Nat.le_trans wo_length (by omega)) (by simp [g1]) (by simp [g2]) (by simp [g3]) (by simp) (by simp) (by simp)
              · simp [keep100, g1, g2, g3, g7, g8, g9, field27_0, field27_1, row27, row22, row3, sz27, shape22, zero3, by3, hjj, intIn_nat hj, q1, q2, q6, w1, w3, has_bor w1, wo_bor w1, has_bor (w2 _), put_bor (w2 _), hlat, c1, c4, hh1, hh2, hh3, c3]
                exact fin _ _ (by simpa [nowR, c3] using hpl) (by have := @wo_length now x; have := @wo_length (wo now x) p; simp; omega) (by simp [g1]) (by simp [g2]) (by simp [g3]) (by simp) (by simp) (by simp)
        · have hgo : gonR last room pages now p j = -1 := by simp [gonR, c4]
          rw [hgo] at hpl fin
          cases recent with
          | true =>
            simp [keep100, g1, g2, g3, g7, g8, g9, field27_0, field27_1, row27, row22, row3, sz27, shape22, zero3, by3, hjj, intIn_nat hj, q1, q2, q6, w1, w3, has_bor w1, wo_bor w1, has_bor (w2 _), put_bor (w2 _), hlat, c1, c4]
            exact fin _ _ (by simpa [nowR] using hpl) (by have := @wo_length now (-1); have := @wo_length (wo now (-1)) p; simp; omega) (by simp [g1]) (by simp [g2]) (by simp [g3]) (by simp) (by simp) (by simp)
          | false =>
            by_cases c3 : p ∈ wo now (-1)
            · simp [keep100, g1, g2, g3, g7, g8, g9, field27_0, field27_1, row27, row22, row3, sz27, shape22, zero3, by3, hjj, intIn_nat hj, q1, q2, q6, w1, w3, has_bor w1, wo_bor w1, has_bor (w2 _), put_bor (w2 _), hlat, c1, c4, c3]
              exact fin _ _ (by simpa [nowR, c3] using hpl) (Nat.le_trans wo_length (by omega)) (by simp [g1]) (by simp [g2]) (by simp [g3]) (by simp) (by simp) (by simp)
            · simp [keep100, g1, g2, g3, g7, g8, g9, field27_0, field27_1, row27, row22, row3, sz27, shape22, zero3, by3, hjj, intIn_nat hj, q1, q2, q6, w1, w3, has_bor w1, wo_bor w1, has_bor (w2 _), put_bor (w2 _), hlat, c1, c4, c3]
              exact fin _ _ (by simpa [nowR, c3] using hpl) (by have := @wo_length now (-1); have := @wo_length (wo now (-1)) p; simp; omega) (by simp [g1]) (by simp [g2]) (by simp [g3]) (by simp) (by simp) (by simp)
    · rw [List.drop_of_length_le hj] at hpl
      simp only [refG] at hpl
      subst hpl
      simp [keep100, g1, g2, g3, g7, g8, g9, field27_1, row27, row22, sz27, shape22, show ¬ (j : Int) < pages.length by omega]
def refPlan (last recent : Bool) (room : Int) (pages : List Int) : List Int := if chk room pages = 0 then refG last recent room pages pages 0 [] [] else []
theorem by_is {room : Int} {pages : List Int} {last recent : Bool} {c : Ck} {hp : List (Option (List PV))} (hl : pages.length < 1000000000) :
    E Tryd.prog Y0 76 [.a [iv room, .l .fz c pages.length (pages.map iv)], .v (.bool last), .v (.bool recent)] hp = some (.t [.l .fz .nz (refPlan last recent room pages).length ((refPlan last recent room pages).map iv), iv (chk room pages)], hp, none) := by
  rw [E_bodyN 3 body76 rfl (by decide) rfl]
  simp only [Tryd.f76, Option.get_some]
  by_cases h1 : chk room pages = 0
  · obtain ⟨hr1, hr2, hn, hpg⟩ := chk_ok h1
    simp only [refPlan, if_pos h1]
    simp [keep76, row27, sz27, shape22, refCheck_is hl, h1, refRuled_is hn hr1]
  · simp only [refPlan, if_neg h1]
    simp [keep76, row27, sz27, shape22, refCheck_is hl, h1]
theorem refLater_is {room : Int} {pages : List Int} {c : Ck} {hp : List (Option (List PV))} (hl : pages.length < 1000000000) :
    E Tryd.prog Y0 27 [.a [iv room, .l .fz c pages.length (pages.map iv)]] hp = some (.t [.l .fz .nz (refPlan true false room pages).length ((refPlan true false room pages).map iv), iv (chk room pages)], hp, none) := by
  rw [E_bodyN 1 body27 rfl (by decide) rfl]
  simp only [Tryd.f27, Option.get_some]
  simp [keep27, row27, sz27, by_is hl]
theorem refOldest_is {room : Int} {pages : List Int} {c : Ck} {hp : List (Option (List PV))} (hl : pages.length < 1000000000) :
    E Tryd.prog Y0 29 [.a [iv room, .l .fz c pages.length (pages.map iv)]] hp = some (.t [.l .fz .nz (refPlan false false room pages).length ((refPlan false false room pages).map iv), iv (chk room pages)], hp, none) := by
  rw [E_bodyN 1 body29 rfl (by decide) rfl]
  simp only [Tryd.f29, Option.get_some]
  simp [keep29, row27, sz27, by_is hl]
theorem refRecent_is {room : Int} {pages : List Int} {c : Ck} {hp : List (Option (List PV))} (hl : pages.length < 1000000000) :
    E Tryd.prog Y0 31 [.a [iv room, .l .fz c pages.length (pages.map iv)]] hp = some (.t [.l .fz .nz (refPlan false true room pages).length ((refPlan false true room pages).map iv), iv (chk room pages)], hp, none) := by
  rw [E_bodyN 1 body31 rfl (by decide) rfl]
  simp only [Tryd.f31, Option.get_some]
  simp [keep31, row27, sz27, by_is hl]
end Go.Proofs.YtcdhajbhpnbdkaaDoor
