/-
  QuireMirror by the pure evaluator: behind the first step it depends on the folds alone, which are one of 63 strings.
  Conditions: none; lemmas.
-/
import Derived.Test.YtcjephdjemapbaaDoorMirrorA
import Derived.Test.YtcjephdjemapbaaDoorMirrorB
import Derived.Test.YtcjephdjemapbaaDoorMirrorC
import Derived.Test.YtcjephdjemapbaaDoorMirrorD
set_option linter.unusedSimpArgs false
set_option linter.unusedVariables false
namespace Go.Proofs.YtcjephdjemapbaaDoor
open Go.Abs Go.Pur
set_option maxRecDepth 1000000
attribute [local simp] EK_region EK_seq EK_cond EK_block EK_blk EK_loop EK_exit EK.ex EK_ret EK_skip EK_nil EO_cons EO_nil EO1_true EO1_false EO2_some EO3_some EB_true EB_false pwanted poper pq pev Go.Pur.look pputT isAssign drOf pinit Tr.get_set lget pvOf_int pvOf_bool pvOf_str pvOf_nil rdv_ak notOwn_ak prt_ak loose_ak rdv_own rdv_fz rdv_bor rdv_rf rdv_pt rdv_v rdv_a rdv_t rdv_r rdv_p rdv_s rdv_f pbin plen pload ppart idxAddr pcond Nat.blt goInt_eq prun_not prun_neg mayLoad ER_ret ER_normal presL presOne moved stor okDrop settle_v settle_l settle_a settle_p settle_f noref_v noref_fz noref_a norefs_nil norefs_cons pclose given lowOf dropB Y0_keep pevParts stors pvCells pvCells.go vcells pfill reps zipParts ownFz pcells cellOK one psrcLen srcFits psrc takeP pgrow take getPl setPl mapL plEq elder isList lowP pevs frzs addP partAt ble_lim24 killV_v killV_a killV_t killV_f killV_i killV_p killV_s killV_un killV_dead killV_lfz killV_lbor killV_lown killV_rfz killV_rbor killV_lak killV_rak frzV_v frzV_a frzV_t frzV_f frzV_i frzV_p frzV_s frzV_un frzV_dead frzV_lfz frzV_lbor frzV_lown frzV_rfz frzV_rbor frzV_lak frzV_rak killCell_v killCell_a killCell_t killCell_f killCell_i killCell_p killCell_s killCell_un killCell_dead killCell_lfz killCell_lbor killCell_lown killCell_rfz killCell_rbor killCell_lak killCell_rak killV_lrf killV_lpt killV_rpt frzV_lrf frzV_lpt frzV_rpt killCell_lrft killCell_lptt killCell_rptt killCell_lrfc killCell_lptc killCell_rptc argv_lak argv_rak argv_v argv_a argv_p argv_f argv_fz argv_bor argv_rf argv_pt argv_rc argv_own mayTurn_none argvs pcallOp firm lowB refsTo_v refsTo_l refsTo_p refsTo_s refsTo_a refsTo_dead refsTo_nil refsTo_cons isOwn_lak ownFz_lak evSafe pskip plain pnewBlk fldAddr isOwn pput spliceP notOwn_fz notOwn_bor notOwn_own notOwn_rf notOwn_pt prt_fz prt_bor prt_own prt_rf prt_pt Go.Pur.freeze presM settles abin_and abin_or abin_andNot abin_mul abin_shr abin_shl abin_add abin_sub abin_eql abin_neq abin_lss abin_leq abin_gtr abin_geq
theorem mirror_all (m y : Nat) : ∀ kb ∈ pairs 6, ER Tryd.prog Y0 10 [.tmp 4] [4] 0 (EK Tryd.prog Y0 10 109 [.c T10] (st10 m y kb)) = some (.v (.bool true), [], none) := by
  refine ER_all worksO_le 100000 (List.all_eq_true.2 fun kb hkb => ?_)
  obtain ⟨k, hk, hb⟩ := List.mem_flatMap.1 hkb
  obtain ⟨b, hb1, rfl⟩ := List.mem_map.1 hb
  have hk6 := List.mem_range.1 hk
  have hb2 := List.mem_range.1 hb1
  have fin : ∀ {k b a n : Nat}, (((List.range n).map fun i => (k, a + i)).all (good10 m y)) = true → a ≤ b → b < a + n → good10 m y (k, b) = true := fun {k b a n} h h1 h2 =>
    List.all_eq_true.1 h (k, b) (List.mem_map.2 ⟨b - a, List.mem_range.2 (by omega), by simp; omega⟩)
  by_cases h3 : k < 3
  · exact List.all_eq_true.1 (mirror2 m y) (k, b) (List.mem_flatMap.2 ⟨k, List.mem_range.2 h3, List.mem_map.2 ⟨b, hb1, rfl⟩⟩)
  · by_cases h4 : k = 3
    · subst h4
      by_cases e0 : b < 4
      · exact fin (mirror3_0 m y) (by omega) (by omega)
      exact fin (mirror3_1 m y) (by omega) (by omega)
    · by_cases h5 : k = 4
      · subst h5
        by_cases e0 : b < 4
        · exact fin (mirror4_0 m y) (by omega) (by omega)
        by_cases e1 : b < 8
        · exact fin (mirror4_1 m y) (by omega) (by omega)
        by_cases e2 : b < 12
        · exact fin (mirror4_2 m y) (by omega) (by omega)
        exact fin (mirror4_3 m y) (by omega) (by omega)
      · obtain rfl : k = 5 := by omega
        by_cases e0 : b < 2
        · exact fin (mirror5_0 m y) (by omega) (by omega)
        by_cases e1 : b < 4
        · exact fin (mirror5_1 m y) (by omega) (by omega)
        by_cases e2 : b < 6
        · exact fin (mirror5_2 m y) (by omega) (by omega)
        by_cases e3 : b < 8
        · exact fin (mirror5_3 m y) (by omega) (by omega)
        by_cases e4 : b < 10
        · exact fin (mirror5_4 m y) (by omega) (by omega)
        by_cases e5 : b < 12
        · exact fin (mirror5_5 m y) (by omega) (by omega)
        by_cases e6 : b < 14
        · exact fin (mirror5_6 m y) (by omega) (by omega)
        by_cases e7 : b < 16
        · exact fin (mirror5_7 m y) (by omega) (by omega)
        by_cases e8 : b < 18
        · exact fin (mirror5_8 m y) (by omega) (by omega)
        by_cases e9 : b < 20
        · exact fin (mirror5_9 m y) (by omega) (by omega)
        by_cases e10 : b < 22
        · exact fin (mirror5_10 m y) (by omega) (by omega)
        by_cases e11 : b < 24
        · exact fin (mirror5_11 m y) (by omega) (by omega)
        by_cases e12 : b < 26
        · exact fin (mirror5_12 m y) (by omega) (by omega)
        by_cases e13 : b < 28
        · exact fin (mirror5_13 m y) (by omega) (by omega)
        by_cases e14 : b < 30
        · exact fin (mirror5_14 m y) (by omega) (by omega)
        exact fin (mirror5_15 m y) (by omega) (by omega)
theorem quireMirror_is {m y : Nat} (hm : m < 256) (hy : y < 256) : E Tryd.prog Y0 10 [uv m, uv y] [] = some (.v (.bool true), [], none) := by
  rw [E_bodyN 2 body10 rfl (by decide) rfl]
  show ER _ _ _ _ _ _ (EK _ _ _ _ [.c bd10] _) = _
  rw [bd10_split]
  obtain ⟨T, hT⟩ : ∃ T, T10 = T := ⟨_, rfl⟩
  rw [show tlC (tlC bd10) = T from hT]
  have hM : m % 6 < 6 := Nat.mod_lt _ (by decide)
  have w2 : (m : Int).tmod 6 = ((m % 6 : Nat) : Int) := rfl
  generalize m % 6 = M at hM w2
  have hf := fun hp => @folded_is M y hp (by omega) hy
  rw [show M % 7 = M from Nat.mod_eq_of_lt (by omega)] at hf
  simp only [bd10, Tryd.f10, Option.get_some, hdC, tlC]
  simp [keep10, abin_rem, w2, hf]
  subst hT
  rw [lettersB_mod]
  exact mirror_all m y (M, y % 2 ^ M) (pairs_mem hM)
end Go.Proofs.YtcjephdjemapbaaDoor
