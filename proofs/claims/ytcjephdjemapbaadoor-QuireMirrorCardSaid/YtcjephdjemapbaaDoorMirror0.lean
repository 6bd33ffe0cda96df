/-
  What is left of QuireMirror behind its first step, for the strings that folds are.
  Conditions: none; lemmas.
-/
import Derived.Test.YtcjephdjemapbaaDoorFolded
import Derived.Test.YtcjephdjemapbaaDoorWorks
set_option linter.unusedSimpArgs false
set_option linter.unusedVariables false
namespace Go.Proofs.YtcjephdjemapbaaDoor
open Go.Abs Go.Pur
set_option maxRecDepth 1000000
attribute [local simp] EK_region EK_seq EK_cond EK_block EK_blk EK_loop EK_exit EK.ex EK_ret EK_skip EK_nil EO_cons EO_nil EO1_true EO1_false EO2_some EO3_some EB_true EB_false pwanted poper pq pev Go.Pur.look pputT isAssign drOf pinit Tr.get_set lget pvOf_int pvOf_bool pvOf_str pvOf_nil rdv_ak notOwn_ak prt_ak loose_ak rdv_own rdv_fz rdv_bor rdv_rf rdv_pt rdv_v rdv_a rdv_t rdv_r rdv_p rdv_s rdv_f pbin plen pload ppart idxAddr pcond Nat.blt goInt_eq prun_not prun_neg mayLoad ER_ret ER_normal presL presOne moved stor okDrop settle_v settle_l settle_a settle_p settle_f noref_v noref_fz noref_a norefs_nil norefs_cons pclose given lowOf dropB Y0_keep pevParts stors pvCells pvCells.go vcells pfill reps zipParts ownFz pcells cellOK one psrcLen srcFits psrc takeP pgrow take getPl setPl mapL plEq elder isList lowP pevs frzs addP partAt ble_lim24 killV_v killV_a killV_t killV_f killV_i killV_p killV_s killV_un killV_dead killV_lfz killV_lbor killV_lown killV_rfz killV_rbor killV_lak killV_rak frzV_v frzV_a frzV_t frzV_f frzV_i frzV_p frzV_s frzV_un frzV_dead frzV_lfz frzV_lbor frzV_lown frzV_rfz frzV_rbor frzV_lak frzV_rak killCell_v killCell_a killCell_t killCell_f killCell_i killCell_p killCell_s killCell_un killCell_dead killCell_lfz killCell_lbor killCell_lown killCell_rfz killCell_rbor killCell_lak killCell_rak killV_lrf killV_lpt killV_rpt frzV_lrf frzV_lpt frzV_rpt killCell_lrft killCell_lptt killCell_rptt killCell_lrfc killCell_lptc killCell_rptc argv_lak argv_rak argv_v argv_a argv_p argv_f argv_fz argv_bor argv_rf argv_pt argv_rc argv_own mayTurn_none argvs pcallOp firm lowB refsTo_v refsTo_l refsTo_p refsTo_s refsTo_a refsTo_dead refsTo_nil refsTo_cons isOwn_lak ownFz_lak evSafe pskip plain pnewBlk fldAddr isOwn pput spliceP notOwn_fz notOwn_bor notOwn_own notOwn_rf notOwn_pt prt_fz prt_bor prt_own prt_rf prt_pt Go.Pur.freeze presM settles abin_and abin_or abin_andNot abin_mul abin_shr abin_shl abin_add abin_sub abin_eql abin_neq abin_lss abin_leq abin_gtr abin_geq
/-- Numbers that stand for all strings of less than n letters. -/
def pairs (n : Nat) : List (Nat × Nat) := (List.range n).flatMap fun k => (List.range (2 ^ k)).map fun b => (k, b)
theorem lettersB_mod {a b : UInt8} {k y : Nat} : lettersB a b k y = lettersB a b k (y % 2 ^ k) := by
  unfold lettersB
  congr 2
  refine List.map_congr_left fun i hi => ?_
  have := List.mem_range.1 hi
  simp [Nat.testBit_mod_two_pow, this]
theorem pairs_mem {n k y : Nat} (h : k < n) : (k, y % 2 ^ k) ∈ pairs n :=
  List.mem_flatMap.2 ⟨k, List.mem_range.2 h, List.mem_map.2 ⟨_, List.mem_range.2 (Nat.mod_lt _ (Nat.two_pow_pos k)), rfl⟩⟩
def hdC : Code → Code
  | .seq a _ => a
  | c => c
def tlC : Code → Code
  | .seq _ b => b
  | c => c
noncomputable abbrev bd10 : Code := (Tryd.f10.body).get rfl
theorem bd10_split : bd10 = .seq (hdC bd10) (.seq (hdC (tlC bd10)) (tlC (tlC bd10))) := rfl
noncomputable abbrev T10 : Code := tlC (tlC bd10)
abbrev st10 (m y : Nat) (kb : Nat × Nat) : St := ⟨[], (((Tr.nil.set 0 (uv m)).set 1 (uv y)).set 4 (.v (.bool false))).set 5 (.v (.string (lettersB 111 117 kb.1 kb.2))), [], none⟩
noncomputable abbrev good10 (m y : Nat) (kb : Nat × Nat) : Bool := isTrueR (ER Tryd.prog Y0 10 [.tmp 4] [4] 0 (kO (codeO Tryd.prog Y0 worksO 100000 10 109) [.c T10] (st10 m y kb)))
end Go.Proofs.YtcjephdjemapbaaDoor
