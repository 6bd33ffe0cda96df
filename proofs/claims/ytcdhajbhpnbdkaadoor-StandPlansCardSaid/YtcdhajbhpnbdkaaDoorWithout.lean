/-
  What small list functions of the chapter answer, by the pure evaluator.
  Conditions: none; lemmas.
-/
import Derived.Test.YtcdhajbhpnbdkaaDoorHas
set_option linter.unusedSimpArgs false
set_option linter.unusedVariables false
namespace Go.Proofs.YtcdhajbhpnbdkaaDoor
open Go.Abs Go.Pur
set_option maxRecDepth 100000
attribute [local simp] EK_region EK_seq EK_cond EK_block EK_blk EK_loop EK_exit EK.ex EK_ret EK_skip EK_nil EO_cons EO_nil EO1_true EO1_false EO2_some EO3_some EB_true EB_false pwanted poper pq pev Go.Pur.look pputT isAssign drOf pinit Tr.get_set lget pvOf_int pvOf_bool pvOf_str pvOf_nil rdv_ak notOwn_ak prt_ak loose_ak rdv_own rdv_fz rdv_bor rdv_rf rdv_pt rdv_v rdv_a rdv_t rdv_r rdv_p rdv_s rdv_f pbin plen pload ppart idxAddr pcond Nat.blt goInt_eq prun_not prun_neg mayLoad ER_ret ER_normal presL presOne moved stor okDrop settle_v settle_l settle_a settle_p settle_f noref_v noref_fz noref_a norefs_nil norefs_cons pclose given lowOf dropB Y0_keep pevParts stors pvCells pvCells.go vcells pfill reps zipParts ownFz pcells cellOK one psrcLen srcFits psrc takeP pgrow take getPl setPl mapL plEq elder isList lowP pevs frzs addP partAt ble_lim24 killV_v killV_a killV_t killV_f killV_i killV_p killV_s killV_un killV_dead killV_lfz killV_lbor killV_lown killV_rfz killV_rbor killV_lak killV_rak frzV_v frzV_a frzV_t frzV_f frzV_i frzV_p frzV_s frzV_un frzV_dead frzV_lfz frzV_lbor frzV_lown frzV_rfz frzV_rbor frzV_lak frzV_rak killCell_v killCell_a killCell_t killCell_f killCell_i killCell_p killCell_s killCell_un killCell_dead killCell_lfz killCell_lbor killCell_lown killCell_rfz killCell_rbor killCell_lak killCell_rak killV_lrf killV_lpt killV_rpt frzV_lrf frzV_lpt frzV_rpt killCell_lrft killCell_lptt killCell_rptt killCell_lrfc killCell_lptc killCell_rptc argv_lak argv_rak argv_v argv_a argv_p argv_f argv_fz argv_bor argv_rf argv_pt argv_rc argv_own mayTurn_none argvs pcallOp firm lowB refsTo_v refsTo_l refsTo_p refsTo_s refsTo_a refsTo_dead refsTo_nil refsTo_cons isOwn_lak ownFz_lak evSafe pskip plain pnewBlk fldAddr isOwn pput spliceP notOwn_fz notOwn_bor notOwn_own notOwn_rf notOwn_pt prt_fz prt_bor prt_own prt_rf prt_pt Go.Pur.freeze presM settles abin_and abin_or abin_andNot abin_mul abin_shr abin_shl abin_add abin_sub abin_eql abin_neq abin_lss abin_leq abin_gtr abin_geq
def wo (l : List Int) (x : Int) : List Int := l.filter (· ≠ x)
theorem wo_length {l : List Int} {x : Int} : (wo l x).length ≤ l.length := List.length_filter_le _ _
theorem wo_take {l : List Int} {x : Int} {j : Nat} (hj : j < l.length) : wo (l.take (j + 1)) x = if l[j] = x then wo (l.take j) x else wo (l.take j) x ++ [l[j]] := by
  unfold wo
  rw [List.take_add_one, List.getElem?_eq_getElem hj, List.filter_append]
  by_cases h : l[j] = x
  · rw [if_pos h]; simp [h]
  · rw [if_neg h]; simp [h]
theorem without_is {l : List Int} {x : Int} {b : Bool} {c : Ck} {hp : List (Option (List PV))} (hl : l.length < 1000000000) : E Tryd.prog Y0 96 [.l (ak b) c l.length (l.map iv), iv x] hp = some (.l .own .nz (wo l x).length ((wo l x).map iv), hp, none) := by
  rw [E_bodyN 2 body96 rfl (by decide) rfl]
  simp only [Tryd.f96, Option.get_some]
  simp [keep96]
  refine loop_ind (fun m σ => ∃ j o ts, m + j = l.length ∧ o = wo (l.take j) x ∧ σ = ⟨[], ts, hp, none⟩ ∧ ts.get 0 = some (.l (ak b) c l.length (l.map iv)) ∧ ts.get 1 = some (iv x) ∧ ts.get 6 = some (iv j) ∧ ts.get 5 = some (.l .own .nz o.length (o.map iv))) (n0 := l.length) ?_ ?_
  · exact ⟨0, [], _, rfl, by simp [wo], rfl, by simp, by simp, by simp [iv], by simp⟩
  · rintro m σ ⟨j, o, ts, hm, ho, rfl, g0, g1, g6, g5⟩ ih
    rcases Nat.lt_or_ge j l.length with hj | hj
    · have h2 : Nat.ble (j + 1) l.length = true := ble_true hj
      have h3 : l[j]? = some l[j] := List.getElem?_eq_getElem hj
      have h4 := wo_take (x := x) hj
      have h5 : o.length ≤ j := by rw [ho]; exact Nat.le_trans wo_length (List.length_take_le _ _)
      by_cases hx : l[j] = x
      · rw [if_pos hx, ← ho] at h4
        simp [keep96, g0, g1, g5, g6, shape22, row3, iv, hj, intIn_nat hj, h2, h3, hx, wrap_nat (show j < 1000000000000 by omega)]
        exact ih (m - 1) _ (by omega) ⟨j + 1, o, _, by omega, h4.symm, rfl, by simp [g0], by simp [g1], by simp [iv], by simp [g5]⟩
      · rw [if_neg hx, ← ho] at h4
        have h6 : Nat.ble ((o.length + 1) * 10) limit = true := ble_true (by unfold limit; omega)
        simp [keep96, g0, g1, g5, g6, shape22, row3, zero3, by3, iv, hj, intIn_nat hj, h2, h3, hx, h6, wrap_nat (show j < 1000000000000 by omega)]
        exact ih (m - 1) _ (by omega) ⟨j + 1, o ++ [l[j]], _, by omega, h4.symm, rfl, by simp [g0], by simp [g1], by simp [iv], by simp [iv]⟩
    · rw [List.take_of_length_le hj] at ho
      simp [keep96, g0, g1, g5, g6, shape22, row3, iv, hj, Int.not_lt.2 (Int.ofNat_le.2 hj), ← ho]
end Go.Proofs.YtcdhajbhpnbdkaaDoor
