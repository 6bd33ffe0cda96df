/-
  StandRules answers true, by the pure evaluator.
  Conditions: none; a lemma.
-/
import Derived.Test.YtcdhajbhpnbdkaaDoorRulesLaw
import Derived.Test.YtcdhajbhpnbdkaaDoorWorks
import Derived.Test.YtcdhajbhpnbdkaaDoorWorks2
set_option linter.unusedSimpArgs false
set_option linter.unusedVariables false
namespace Go.Proofs.YtcdhajbhpnbdkaaDoor
open Go.Abs Go.Pur
set_option maxRecDepth 100000
attribute [local simp] EK_region EK_seq EK_cond EK_block EK_blk EK_loop EK_exit EK.ex EK_ret EK_skip EK_nil EO_cons EO_nil EO1_true EO1_false EO2_some EO3_some EB_true EB_false pwanted poper pq pev Go.Pur.look pputT isAssign drOf pinit Tr.get_set lget pvOf_int pvOf_bool pvOf_str pvOf_nil rdv_ak notOwn_ak prt_ak loose_ak rdv_own rdv_fz rdv_bor rdv_rf rdv_pt rdv_v rdv_a rdv_t rdv_r rdv_p rdv_s rdv_f pbin plen pload ppart idxAddr pcond Nat.blt goInt_eq prun_not prun_neg mayLoad ER_ret ER_normal presL presOne moved stor okDrop settle_v settle_l settle_a settle_p settle_f noref_v noref_fz noref_a norefs_nil norefs_cons pclose given lowOf dropB Y0_keep pevParts stors pvCells pvCells.go vcells pfill reps zipParts ownFz pcells cellOK one psrcLen srcFits psrc takeP pgrow take getPl setPl mapL plEq elder isList lowP pevs frzs addP partAt ble_lim24 killV_v killV_a killV_t killV_f killV_i killV_p killV_s killV_un killV_dead killV_lfz killV_lbor killV_lown killV_rfz killV_rbor killV_lak killV_rak frzV_v frzV_a frzV_t frzV_f frzV_i frzV_p frzV_s frzV_un frzV_dead frzV_lfz frzV_lbor frzV_lown frzV_rfz frzV_rbor frzV_lak frzV_rak killCell_v killCell_a killCell_t killCell_f killCell_i killCell_p killCell_s killCell_un killCell_dead killCell_lfz killCell_lbor killCell_lown killCell_rfz killCell_rbor killCell_lak killCell_rak killV_lrf killV_lpt killV_rpt frzV_lrf frzV_lpt frzV_rpt killCell_lrft killCell_lptt killCell_rptt killCell_lrfc killCell_lptc killCell_rptc argv_lak argv_rak argv_v argv_a argv_p argv_f argv_fz argv_bor argv_rf argv_pt argv_rc argv_own mayTurn_none argvs pcallOp firm lowB refsTo_v refsTo_l refsTo_p refsTo_s refsTo_a refsTo_dead refsTo_nil refsTo_cons isOwn_lak ownFz_lak evSafe pskip plain pnewBlk fldAddr isOwn pput spliceP notOwn_fz notOwn_bor notOwn_own notOwn_rf notOwn_pt prt_fz prt_bor prt_own prt_rf prt_pt Go.Pur.freeze presM settles abin_and abin_or abin_andNot abin_mul abin_shr abin_shl abin_add abin_sub abin_eql abin_neq abin_lss abin_leq abin_gtr abin_geq
theorem ruledG_len {num : NumF} {room : Int} : ∀ {l : List Int} {t s : Nat} {sn ag out : List Int}, (ruledG num room l t s sn ag out).length = out.length + l.length
  | [], t, s, sn, ag, out => by simp [ruledG]
  | x :: l, t, s, sn, ag, out => by simp only [ruledG]; rw [ruledG_len]; simp; omega
theorem ruledOf_len {num : NumF} {room : Int} {pages : List Int} : (ruledOf num room pages).length ≤ 12 := by
  unfold ruledOf
  split
  · rename_i h
    obtain ⟨_, _, h, _⟩ := chk_ok h
    rw [ruledG_len]; simpa using h
  · simp
theorem standRules_is {room : Int} {pages : List Int} {c : Ck} : E Tryd.prog Y0 4 [.a [iv room, .l .fz c pages.length (pages.map iv)]] [] = some (.v (.bool true), [], none) := by
  rw [E_bodyN 1 body4 rfl (by decide) rfl]
  simp only [Tryd.f4, Option.get_some]
  have hL := fun hp => @large_is room pages [] false c .nz hp
  simp [ak] at hL
  by_cases h : 40 < pages.length
  · simp [keep4, row24, sz24, hL, h, works1]
  · have hl : pages.length < 1000000000 := by omega
    have q1 := fun hp => @later_is room pages c hp hl
    have q2 := fun hp => @oldest_is room pages c hp hl
    have q3 := fun hp => @recent_is room pages c hp hl
    have q4 := fun hp => @refLater_is room pages c hp hl
    have q5 := fun hp => @refOldest_is room pages c hp hl
    have q6 := fun hp => @refRecent_is room pages c hp hl
    simp only [planV, later_eq, oldest_eq, recent_eq] at q1 q2 q3
    have s1 : ∀ last recent, (∃ num, ruledOf num room pages = refPlan last recent room pages) → ∀ hp, E Tryd.prog Y0 32 [.l .fz .nz (refPlan last recent room pages).length ((refPlan last recent room pages).map iv), .l .fz .nz (refPlan last recent room pages).length ((refPlan last recent room pages).map iv)] hp = some (.v (.bool true), hp, none) := fun last recent hx hp => by
      obtain ⟨num, e⟩ := hx
      have := @same_is (refPlan last recent room pages) (refPlan last recent room pages) false false .nz .nz hp (by rw [← e]; have := @ruledOf_len num room pages; omega)
      simpa [ak] using this
    have s2 := s1 true false ⟨_, later_eq⟩
    have s3 := s1 false false ⟨_, oldest_eq⟩
    have s4 := s1 false true ⟨_, recent_eq⟩
    simp [keep4, row24, sz24, row27, sz27, zero27, shape22, hL, h, works2, q1, q2, q3, q4, q5, q6, s2, s3, s4, noMaker_eq, kindOf]
end Go.Proofs.YtcdhajbhpnbdkaaDoor
