/-
  short.Apart, Alike
  Printed by wip/tools/walk.py. Conditions: none; definitions and lemmas.
-/
import Derived.Test.YtmnmfmghmenkkaaKnown1
import Derived.Test.YtmnmfmghmenkkaaCheck25
import Derived.Test.YtmnmfmghmenkkaaHolds1
set_option linter.unusedSimpArgs false
set_option linter.unusedVariables false
namespace Go.Proofs.Ytmnmfmghmenkkaa
open Go.Abs Go.Pur
set_option maxRecDepth 100000
set_option maxHeartbeats 2000000
attribute [local simp] EK_region EK_seq EK_cond EK_block EK_blk EK_loop EK_exit EK.ex EK_ret EK_skip EK_nil EO_cons EO_nil EO1_true EO1_false EO2_some EO3_some EB_true EB_false pwanted poper pq pev Go.Pur.look pputT isAssign drOf pinit Tr.get_set lget pvOf_int pvOf_bool pvOf_str pvOf_nil rdv_ak notOwn_ak prt_ak loose_ak rdv_own rdv_fz rdv_bor rdv_rf rdv_pt rdv_v rdv_a rdv_t rdv_r rdv_p rdv_s rdv_f pbin plen pload ppart idxAddr pcond Nat.blt goInt_eq prun_not prun_neg mayLoad ER_ret ER_normal presL presOne moved stor okDrop settle_v settle_l settle_a settle_p settle_f noref_v noref_fz noref_a norefs_nil norefs_cons pclose given dropB Y0_keep pevParts stors pvCells pvCells.go vcells pfill reps zipParts ownFz pcells cellOK one psrcLen srcFits psrc takeP pgrow take getPl setPl mapL plEq elder isList lowP pevs frzs addP partAt ble_lim24 killV_v killV_a killV_t killV_f killV_i killV_p killV_s killV_un killV_dead killV_lfz killV_lbor killV_lown killV_rfz killV_rbor killV_lak killV_rak frzV_v frzV_a frzV_t frzV_f frzV_i frzV_p frzV_s frzV_un frzV_dead frzV_lfz frzV_lbor frzV_lown frzV_rfz frzV_rbor frzV_lak frzV_rak killCell_v killCell_a killCell_t killCell_f killCell_i killCell_p killCell_s killCell_un killCell_dead killCell_lfz killCell_lbor killCell_lown killCell_rfz killCell_rbor killCell_lak killCell_rak killV_lrf killV_lpt killV_rpt frzV_lrf frzV_lpt frzV_rpt killCell_lrft killCell_lptt killCell_rptt killCell_lrfc killCell_lptc killCell_rptc argv_lak argv_rak argv_v argv_a argv_p argv_f argv_fz argv_bor argv_rf argv_pt argv_rc argv_own mayTurn_none argvs pcallOp firm refsTo_v refsTo_l refsTo_p refsTo_s refsTo_a refsTo_dead refsTo_nil refsTo_cons isOwn_lak ownFz_lak evSafe pskip plain pnewBlk fldAddr isOwn pput notOwn_fz notOwn_bor notOwn_own notOwn_rf notOwn_pt prt_fz prt_bor prt_own prt_rf prt_pt Go.Pur.freeze presM settles abin_and abin_or abin_andNot abin_mul abin_shr abin_shl abin_add abin_sub abin_eql abin_neq abin_lss abin_leq abin_gtr abin_geq hows pcallIn Y0_how Y0_part howOf partOf rdv_mown rdv_mfz rdv_mbor rdv_mrf killV_mown killV_mfz killV_mbor killV_mrf frzV_mown frzV_mfz frzV_mbor frzV_mrf killCell_mown killCell_mfz killCell_mbor killCell_mrf argv_mfz argv_mbor argv_mrf settle_m kls_v kls_l kls_a kls_t kls_r kls_p kls_s kls_f kls_i kls_it kls_un kls_dead kls_mown kls_mrf kls_mbor kls_mfz fzOf takable mapHere mapOwn mapTo flat toPlain toPlain.go ofFlat ofPair mapEs plook lookRes Y0_mv mvOf mvBlk premv Y0_fzm fzmOf poperX pconv keep40 keep42 sz3 by3 row3 zero3 sz4 by4 row4 zero4 sz5 by5 row5 zero5 sz9 by9 row9 shape9 zero9 sz21 by21 row21 zero21 sz22 by22 row22 zero22 sz24 by24 row24 zero24 sz29 by29 row29 shape29 zero29 sz36 by36 row36 shape36 zero36 sz52 by52 row52 shape52 zero52 parts52 sz54 by54 row54 zero54 parts54 field54_0 field54_1 sz58 by58 row58 zero58 mt58 az3 sz63 by63 row63 zero63 sz66 by66 row66 shape66 zero66 parts66 sz67 by67 row67 shape67 zero67 sz75 by75 row75 shape75 zero75 sz76 by76 row76 shape76 zero76 sz78 by78 row78 zero78 mt78 sz79 by79 row79 shape79 zero79 sz92 by92 row92 zero92 sz94 by94 row94 zero94 parts94 field94_0 field94_1 sz99 by99 row99 shape99 zero99 sz102 by102 row102 zero102 mt102 az4 sz103 by103 row103 zero103 mt103 sz106 by106 row106 zero106 parts106 field106_0 field106_1 sz108 by108 row108 zero108 parts108 field108_0 field108_1 sz109 by109 row109 shape109 zero109 sz110 by110 row110 zero110 mt110 sz112 by112 row112 zero112 sz115 by115 row115 zero115 sz116 by116 row116 zero116 sz119 by119 row119 zero119 sz127 by127 row127 zero127 sz129 by129 row129 zero129 sz130 by130 row130 zero130 sz134 by134 row134 zero134 bs_size gAt gAt0 sAt sAt0 optPlain rows_len noMaker_eq kindOf vlOf abin_rem abin_quo mayTurn_none lowOf_none Go.Pur.partAt rows_nil rows_cons ble_add ble_add0 ble_same toPlain toPlain.go intIn2_0 intIn2_1 ble12 ble22 tv lv max_int min_int pplains ak_true ak_false apartP beq_add beq_add0 beq_add1 argv_s wok_none wok_low_iff lowOf_wok
def f40S (F : Nat) (p0 : List UInt8) (p1 : List UInt8) : Option (List UInt8 × Int) :=
  (f57S F [p0, p1]).bind fun x1 =>
  (some (decide (x1 = 0))).bind fun x3 =>
  (match x3 with
  | true => ((f70O p0 p1 10).bind fun (s4, b5) =>
  (match b5 with
  | true => (some (s4, 0))
  | false => (some ([], 13))))
  | false => (some ([], x1)))
theorem f40_is {p0 : List UInt8} {p1 : List UInt8} {hp : List (Option (List PV))} {F : Nat} {r : (List UInt8 × Int)}  (h : f40S F p0 p1 = some r) :
    E Try.prog Y0 40 [.v (.string (bs p0)), .v (.string (bs p1))] hp = some (.t [.v (.string (bs r.1)), iv r.2], hp, none) := by
  rw [E_bodyN 2 body40 rfl (by decide) rfl]
  simp only [Try.f40, Option.get_some]
  unfold f40S at h
  obtain ⟨x1, e2, h⟩ := bind_ok h
  have e2 : ∀ hp, E Try.prog Y0 57 [.l .fz .full 2 [.v (.string (bs p0)), .v (.string (bs p1))]] hp = some (iv x1, hp, none) := fun hp => f57_is (a0 := false) (c0 := .full) e2
  obtain ⟨x3, ex3, h⟩ := bindT h
  cases x3
  case false =>
   obtain rfl := inj_ok h
   simp [e2, ex3]
  obtain ⟨⟨s4, b5⟩, e6, h⟩ := bind_ok h
  try dsimp only at h
  have e6 : ∀ hp, E Try.prog Y0 70 [.v (.string (bs p0)), .v (.string (bs p1)), iv 10] hp = some (.t [.v (.string (bs s4)), .v (.bool b5)], hp, none) := fun hp => f70_is e6
  cases b5
  case true =>
   obtain rfl := inj_ok h
   simp [e2, ex3, e6]
  obtain rfl := inj_ok h
  simp [e2, ex3, e6]
def f42S (F : Nat) (p0 : List UInt8) (p1 : List UInt8) (p2 : Int) : Option (Bool × Int) :=
  (f57S F [p0, p1]).bind fun x1 =>
  (some (decide (x1 = 0))).bind fun x3 =>
  (match x3 with
  | true => ((some (decide (p2 < 0))).bind fun x4 =>
  (match x4 with
  | true => (some (false, 1))
  | false => ((some (decide (10 < p2))).bind fun x5 =>
  (match x5 with
  | true => (some (false, 1))
  | false => ((f70O p0 p1 p2).bind fun (s6, b7) =>
  some ((!b7), 0))))))
  | false => (some (false, x1)))
theorem f42_is {p0 : List UInt8} {p1 : List UInt8} {p2 : Int} {hp : List (Option (List PV))} {F : Nat} {r : (Bool × Int)}  (h : f42S F p0 p1 p2 = some r) :
    E Try.prog Y0 42 [.v (.string (bs p0)), .v (.string (bs p1)), iv p2] hp = some (.t [.v (.bool r.1), iv r.2], hp, none) := by
  rw [E_bodyN 3 body42 rfl (by decide) rfl]
  simp only [Try.f42, Option.get_some]
  unfold f42S at h
  obtain ⟨x1, e2, h⟩ := bind_ok h
  have e2 : ∀ hp, E Try.prog Y0 57 [.l .fz .full 2 [.v (.string (bs p0)), .v (.string (bs p1))]] hp = some (iv x1, hp, none) := fun hp => f57_is (a0 := false) (c0 := .full) e2
  obtain ⟨x3, ex3, h⟩ := bindT h
  cases x3
  case false =>
   obtain rfl := inj_ok h
   simp [e2, ex3]
  obtain ⟨x4, ex4, h⟩ := bindT h
  cases x4
  case true =>
   obtain rfl := inj_ok h
   simp [e2, ex3, ex4]
  obtain ⟨x5, ex5, h⟩ := bindT h
  cases x5
  case true =>
   obtain rfl := inj_ok h
   simp [e2, ex3, ex4, ex5]
  obtain ⟨⟨s6, b7⟩, e8, h⟩ := bind_ok h
  try dsimp only at h
  have e8 : ∀ hp, E Try.prog Y0 70 [.v (.string (bs p0)), .v (.string (bs p1)), iv p2] hp = some (.t [.v (.string (bs s6)), .v (.bool b7)], hp, none) := fun hp => f70_is e8
  obtain rfl := inj_ok h
  simp [e2, ex3, ex4, ex5, e8]
end Go.Proofs.Ytmnmfmghmenkkaa
