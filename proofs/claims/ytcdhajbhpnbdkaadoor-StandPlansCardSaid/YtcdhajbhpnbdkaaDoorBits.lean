/-
  OnesCount, TrailingZeros of small sets, by the pure evaluator.
  Conditions: none; lemmas.
-/
import Derived.Test.YtcdhajbhpnbdkaaDoorPurBase
set_option linter.unusedSimpArgs false
set_option linter.unusedVariables false
namespace Go.Proofs.YtcdhajbhpnbdkaaDoor
open Go.Abs Go.Pur
set_option maxRecDepth 100000
attribute [local simp] EK_region EK_seq EK_cond EK_block EK_blk EK_loop EK_exit EK.ex EK_ret EK_skip EK_nil EO_cons EO_nil EO1_true EO1_false EO2_some EO3_some EB_true EB_false pwanted poper pq pev Go.Pur.look pputT isAssign drOf pinit Tr.get_set lget pvOf_int pvOf_bool pvOf_str pvOf_nil rdv_ak notOwn_ak prt_ak loose_ak rdv_own rdv_fz rdv_bor rdv_rf rdv_pt rdv_v rdv_a rdv_t rdv_r rdv_p rdv_s rdv_f pbin plen pload ppart idxAddr pcond Nat.blt goInt_eq prun_not prun_neg mayLoad ER_ret ER_normal presL presOne moved stor okDrop settle_v settle_l settle_a settle_p settle_f noref_v noref_fz noref_a norefs_nil norefs_cons pclose given lowOf dropB Y0_keep pevParts stors pvCells pvCells.go vcells pfill reps zipParts ownFz pcells cellOK one psrcLen srcFits psrc takeP pgrow take getPl setPl mapL plEq elder isList lowP pevs frzs addP partAt ble_lim24 killV_v killV_a killV_t killV_f killV_i killV_p killV_s killV_un killV_dead killV_lfz killV_lbor killV_lown killV_rfz killV_rbor killV_lak killV_rak frzV_v frzV_a frzV_t frzV_f frzV_i frzV_p frzV_s frzV_un frzV_dead frzV_lfz frzV_lbor frzV_lown frzV_rfz frzV_rbor frzV_lak frzV_rak killCell_v killCell_a killCell_t killCell_f killCell_i killCell_p killCell_s killCell_un killCell_dead killCell_lfz killCell_lbor killCell_lown killCell_rfz killCell_rbor killCell_lak killCell_rak killV_lrf killV_lpt killV_rpt frzV_lrf frzV_lpt frzV_rpt killCell_lrft killCell_lptt killCell_rptt killCell_lrfc killCell_lptc killCell_rptc argv_lak argv_rak argv_v argv_a argv_p argv_f argv_fz argv_bor argv_rf argv_pt argv_rc argv_own mayTurn_none argvs pcallOp firm lowB refsTo_v refsTo_l refsTo_p refsTo_s refsTo_a refsTo_dead refsTo_nil refsTo_cons isOwn_lak ownFz_lak evSafe pskip plain pnewBlk fldAddr isOwn pput spliceP notOwn_fz notOwn_bor notOwn_own notOwn_rf notOwn_pt prt_fz prt_bor prt_own prt_rf prt_pt Go.Pur.freeze presM settles abin_and abin_or abin_andNot abin_mul abin_shr abin_shl abin_add abin_sub abin_eql abin_neq abin_lss abin_leq abin_gtr abin_geq
theorem conv_136_3 {n : Int} : prunP Tryd.prog (convert 136 3 (.int .u64 n)) = some (.int .i64 (IntKind.i64.wrap n)) := by kernel_rfl
theorem conv_5_3 {n : Int} : prunP Tryd.prog (convert 5 3 (.int .u8 n)) = some (.int .i64 (IntKind.i64.wrap n)) := by kernel_rfl
abbrev uv (n : Int) : PV := .v (.int .u64 n)
def ones1 (s : Int) : Int := IntKind.u64.wrap (andI .u64 (shrI .u64 s 1) 6148914691236517205 + andI .u64 s 6148914691236517205)
def ones2 (s : Int) : Int := IntKind.u64.wrap (andI .u64 (shrI .u64 s 2) 3689348814741910323 + andI .u64 s 3689348814741910323)
def ones3 (s : Int) : Int := andI .u64 (IntKind.u64.wrap (shrI .u64 s 4 + s)) 1085102592571150095
def ones4 (k s : Int) : Int := IntKind.u64.wrap (s + shrI .u64 s k)
def onesE (s : Int) : Int := andI .i64 (IntKind.i64.wrap (ones4 32 (ones4 16 (ones4 8 (ones3 (ones2 (ones1 s))))))) 127
theorem ones64_is {s : Int} {hp : List (Option (List PV))} : E Tryd.prog Y0 104 [uv s] hp = some (iv (onesE s), hp, none) := by
  rw [E_bodyN 1 body104 rfl (by decide) rfl]
  simp only [Tryd.f104, Option.get_some]
  simp [keep104, conv_136_3]
  rfl
theorem ones_is {s : Int} {hp : List (Option (List PV))} : E Tryd.prog Y0 90 [uv s] hp = some (iv (onesE s), hp, none) := by
  rw [E_bodyN 1 body90 rfl (by decide) rfl]
  simp only [Tryd.f90, Option.get_some]
  simp [keep90, ones64_is]
def cnt (s : Nat) : Nat := ((List.range 12).filter fun i => s.testBit i).length
theorem onesE_eq {s : Nat} (h : s < 4096) : onesE s = cnt s := by
  have : (List.range 4096).all (fun s => decide (onesE s = cnt s)) = true := by kernel_rfl
  rw [List.all_eq_true] at this
  simpa using this s (List.mem_range.2 h)
end Go.Proofs.YtcdhajbhpnbdkaaDoor
