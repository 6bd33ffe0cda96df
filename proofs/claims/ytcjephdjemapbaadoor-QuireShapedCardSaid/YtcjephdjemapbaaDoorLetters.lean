/-
  The reference's check of letters, by the pure evaluator.
  Conditions: none; lemmas.
-/
import Derived.Test.YtcjephdjemapbaaDoorPurBase
import Derived.Test.YtcjephdjemapbaaDoorFolded
set_option linter.unusedSimpArgs false
set_option linter.unusedVariables false
namespace Go.Proofs.YtcjephdjemapbaaDoor
open Go.Abs Go.Pur
set_option maxRecDepth 100000
attribute [local simp] EK_region EK_seq EK_cond EK_block EK_blk EK_loop EK_exit EK.ex EK_ret EK_skip EK_nil EO_cons EO_nil EO1_true EO1_false EO2_some EO3_some EB_true EB_false pwanted poper pq pev Go.Pur.look pputT isAssign drOf pinit Tr.get_set lget pvOf_int pvOf_bool pvOf_str pvOf_nil rdv_ak notOwn_ak prt_ak loose_ak rdv_own rdv_fz rdv_bor rdv_rf rdv_pt rdv_v rdv_a rdv_t rdv_r rdv_p rdv_s rdv_f pbin plen pload ppart idxAddr pcond Nat.blt goInt_eq prun_not prun_neg mayLoad ER_ret ER_normal presL presOne moved stor okDrop settle_v settle_l settle_a settle_p settle_f noref_v noref_fz noref_a norefs_nil norefs_cons pclose given lowOf dropB Y0_keep pevParts stors pvCells pvCells.go vcells pfill reps zipParts ownFz pcells cellOK one psrcLen srcFits psrc takeP pgrow take getPl setPl mapL plEq elder isList lowP pevs frzs addP partAt ble_lim24 killV_v killV_a killV_t killV_f killV_i killV_p killV_s killV_un killV_dead killV_lfz killV_lbor killV_lown killV_rfz killV_rbor killV_lak killV_rak frzV_v frzV_a frzV_t frzV_f frzV_i frzV_p frzV_s frzV_un frzV_dead frzV_lfz frzV_lbor frzV_lown frzV_rfz frzV_rbor frzV_lak frzV_rak killCell_v killCell_a killCell_t killCell_f killCell_i killCell_p killCell_s killCell_un killCell_dead killCell_lfz killCell_lbor killCell_lown killCell_rfz killCell_rbor killCell_lak killCell_rak killV_lrf killV_lpt killV_rpt frzV_lrf frzV_lpt frzV_rpt killCell_lrft killCell_lptt killCell_rptt killCell_lrfc killCell_lptc killCell_rptc argv_lak argv_rak argv_v argv_a argv_p argv_f argv_fz argv_bor argv_rf argv_pt argv_rc argv_own mayTurn_none argvs pcallOp firm lowB refsTo_v refsTo_l refsTo_p refsTo_s refsTo_a refsTo_dead refsTo_nil refsTo_cons isOwn_lak ownFz_lak evSafe pskip plain pnewBlk fldAddr isOwn pput spliceP notOwn_fz notOwn_bor notOwn_own notOwn_rf notOwn_pt prt_fz prt_bor prt_own prt_rf prt_pt Go.Pur.freeze presM settles abin_and abin_or abin_andNot abin_mul abin_shr abin_shl abin_add abin_sub abin_eql abin_neq abin_lss abin_leq abin_gtr abin_geq
def lettersE (l : List UInt8) (most : Int) (a b : UInt8) : Int := if most < l.length then 19 else if l.all (fun c => c == a || c == b) then 0 else 10
theorem letters_is {l : List UInt8} {most : Nat} {a b : UInt8} {hp : List (Option (List PV))} (hm : most < 1000) : E Tryd.prog Y0 61 [sv (bs l), .v (.int .i64 most), uv a.toNat, uv b.toNat] hp = some (.v (.int .i64 (lettersE l most a b)), hp, none) := by
  rw [E_bodyN 4 body61 rfl (by decide) rfl]
  simp only [Tryd.f61, Option.get_some]
  by_cases h : (most : Int) < l.length
  · have : lettersE l most a b = 19 := by unfold lettersE; rw [if_pos h]
    rw [this]
    simp [keep61, shape9, bs_size, h]
  · simp [keep61, shape9, bs_size, h]
    have hle : lettersE l most a b = if l.all (fun c => c == a || c == b) then 0 else 10 := by unfold lettersE; rw [if_neg h]
    generalize lettersE l most a b = R at hle
    refine loop_ind (fun m σ => ∃ (j : Nat) (ts : Tr PV), m + j = l.length ∧ σ = ⟨[], ts, hp, none⟩ ∧ ts.get 0 = some (sv (bs l)) ∧ ts.get 2 = some (uv a.toNat) ∧ ts.get 3 = some (uv b.toNat) ∧ ts.get 9 = some (.v (.int .i64 j)) ∧ (l.take j).all (fun c => c == a || c == b) = true) (n0 := l.length) ?_ ?_
    · exact ⟨0, _, rfl, rfl, by simp, by simp, by simp, by simp, by simp⟩
    · rintro m σ ⟨j, ts, hm, rfl, g0, g2, g3, g9, hall⟩ ih
      rcases Nat.lt_or_ge j l.length with hj | hj
      · have hjj : (j : Int) < l.length := by omega
        have w3 := wrap_nat (show j < 1000000000000 by omega)
        have q1 : pqIndex Tryd.prog 9 (sv (bs l)) (.int .i64 j) = some (uv (l[j]).toNat) := by
          have := str_index (P := Tryd.prog) (t := 9) Tryd.underlying9 (s := bs l) (k := .i64) (i := j) (by rw [bs_size]; exact hj)
          simp only [pqIndex, shape9, this]
          rfl
        have q2 : l.take (j + 1) = l.take j ++ [l[j]] := by rw [List.take_add_one, List.getElem?_eq_getElem hj]; rfl
        obtain ⟨c, ec⟩ : ∃ c, l[j] = c := ⟨_, rfl⟩
        rw [ec] at q1 q2
        have n1 : ((c.toNat : Int) = a.toNat) ↔ c = a := by rw [Int.ofNat_inj]; exact UInt8.toNat_inj
        have n2 : ((c.toNat : Int) = b.toNat) ↔ c = b := by rw [Int.ofNat_inj]; exact UInt8.toNat_inj
        by_cases e1 : c = a
        · simp [keep61, shape9, bs_size, g0, g2, g3, g9, hjj, q1, n1, n2, e1, w3]
          exact ih (m - 1) _ (by omega) ⟨j + 1, _, by omega, rfl, by simp [g0], by simp [g2], by simp [g3], by simp, by rw [q2, List.all_append, hall]; simp [e1]⟩
        · by_cases e2 : c = b
          · subst e2
            simp [keep61, shape9, bs_size, g0, g2, g3, g9, hjj, q1, n1, e1, w3]
            exact ih (m - 1) _ (by omega) ⟨j + 1, _, by omega, rfl, by simp [g0], by simp [g2], by simp [g3], by simp, by rw [q2, List.all_append, hall]; simp⟩
          · have : l.all (fun c => c == a || c == b) = false := by
              rw [List.all_eq_false]
              exact ⟨c, ec ▸ List.getElem_mem hj, by simp [e1, e2]⟩
            rw [this] at hle
            subst hle
            simp [keep61, shape9, bs_size, g0, g2, g3, g9, hjj, q1, n1, n2, e1, e2, w3]
      · rw [List.take_of_length_le hj] at hall
        rw [hall] at hle
        subst hle
        simp [keep61, shape9, bs_size, g0, g2, g3, g9, show ¬ (j : Int) < l.length by omega]
end Go.Proofs.YtcjephdjemapbaaDoor
