/-
  the law of differing parts
  Printed by wip/tools/walk.py. Conditions: none; definitions and lemmas.
-/
import Derived.Test.YtmnmfmghmenkkaaApart40
import Derived.Test.YtmnmfmghmenkkaaParts50
set_option linter.unusedSimpArgs false
set_option linter.unusedVariables false
namespace Go.Proofs.Ytmnmfmghmenkkaa
open Go.Abs Go.Pur
set_option maxRecDepth 100000
set_option maxHeartbeats 2000000
attribute [local simp] EK_region EK_seq EK_cond EK_block EK_blk EK_loop EK_exit EK.ex EK_ret EK_skip EK_nil EO_cons EO_nil EO1_true EO1_false EO2_some EO3_some EB_true EB_false pwanted poper pq pev Go.Pur.look pputT isAssign drOf pinit Tr.get_set lget pvOf_int pvOf_bool pvOf_str pvOf_nil rdv_ak notOwn_ak prt_ak loose_ak rdv_own rdv_fz rdv_bor rdv_rf rdv_pt rdv_v rdv_a rdv_t rdv_r rdv_p rdv_s rdv_f pbin plen pload ppart idxAddr pcond Nat.blt goInt_eq prun_not prun_neg mayLoad ER_ret ER_normal presL presOne moved stor okDrop settle_v settle_l settle_a settle_p settle_f noref_v noref_fz noref_a norefs_nil norefs_cons pclose given dropB Y0_keep pevParts stors pvCells pvCells.go vcells pfill reps zipParts ownFz pcells cellOK one psrcLen srcFits psrc takeP pgrow take getPl setPl mapL plEq elder isList lowP pevs frzs addP partAt ble_lim24 killV_v killV_a killV_t killV_f killV_i killV_p killV_s killV_un killV_dead killV_lfz killV_lbor killV_lown killV_rfz killV_rbor killV_lak killV_rak frzV_v frzV_a frzV_t frzV_f frzV_i frzV_p frzV_s frzV_un frzV_dead frzV_lfz frzV_lbor frzV_lown frzV_rfz frzV_rbor frzV_lak frzV_rak killCell_v killCell_a killCell_t killCell_f killCell_i killCell_p killCell_s killCell_un killCell_dead killCell_lfz killCell_lbor killCell_lown killCell_rfz killCell_rbor killCell_lak killCell_rak killV_lrf killV_lpt killV_rpt frzV_lrf frzV_lpt frzV_rpt killCell_lrft killCell_lptt killCell_rptt killCell_lrfc killCell_lptc killCell_rptc argv_lak argv_rak argv_v argv_a argv_p argv_f argv_fz argv_bor argv_rf argv_pt argv_rc argv_own mayTurn_none argvs pcallOp firm refsTo_v refsTo_l refsTo_p refsTo_s refsTo_a refsTo_dead refsTo_nil refsTo_cons isOwn_lak ownFz_lak evSafe pskip plain pnewBlk fldAddr isOwn pput notOwn_fz notOwn_bor notOwn_own notOwn_rf notOwn_pt prt_fz prt_bor prt_own prt_rf prt_pt Go.Pur.freeze presM settles abin_and abin_or abin_andNot abin_mul abin_shr abin_shl abin_add abin_sub abin_eql abin_neq abin_lss abin_leq abin_gtr abin_geq hows pcallIn Y0_how Y0_part howOf partOf rdv_mown rdv_mfz rdv_mbor rdv_mrf killV_mown killV_mfz killV_mbor killV_mrf frzV_mown frzV_mfz frzV_mbor frzV_mrf killCell_mown killCell_mfz killCell_mbor killCell_mrf argv_mfz argv_mbor argv_mrf settle_m kls_v kls_l kls_a kls_t kls_r kls_p kls_s kls_f kls_i kls_it kls_un kls_dead kls_mown kls_mrf kls_mbor kls_mfz fzOf takable mapHere mapOwn mapTo flat toPlain toPlain.go ofFlat ofPair mapEs plook lookRes Y0_mv mvOf mvBlk premv Y0_fzm fzmOf poperX pconv keep8 keep9 sz3 by3 row3 zero3 sz4 by4 row4 zero4 sz5 by5 row5 zero5 sz9 by9 row9 shape9 zero9 sz21 by21 row21 zero21 sz22 by22 row22 zero22 sz24 by24 row24 zero24 sz29 by29 row29 shape29 zero29 sz36 by36 row36 shape36 zero36 sz52 by52 row52 shape52 zero52 parts52 sz54 by54 row54 zero54 parts54 field54_0 field54_1 sz58 by58 row58 zero58 mt58 az3 sz63 by63 row63 zero63 sz66 by66 row66 shape66 zero66 parts66 sz67 by67 row67 shape67 zero67 sz75 by75 row75 shape75 zero75 sz76 by76 row76 shape76 zero76 sz78 by78 row78 zero78 mt78 sz79 by79 row79 shape79 zero79 sz92 by92 row92 zero92 sz94 by94 row94 zero94 parts94 field94_0 field94_1 sz99 by99 row99 shape99 zero99 sz102 by102 row102 zero102 mt102 az4 sz103 by103 row103 zero103 mt103 sz106 by106 row106 zero106 parts106 field106_0 field106_1 sz108 by108 row108 zero108 parts108 field108_0 field108_1 sz109 by109 row109 shape109 zero109 sz110 by110 row110 zero110 mt110 sz112 by112 row112 zero112 sz115 by115 row115 zero115 sz116 by116 row116 zero116 sz119 by119 row119 zero119 sz127 by127 row127 zero127 sz129 by129 row129 zero129 sz130 by130 row130 zero130 sz134 by134 row134 zero134 bs_size gAt gAt0 sAt sAt0 optPlain rows_len noMaker_eq kindOf vlOf abin_rem abin_quo mayTurn_none lowOf_none Go.Pur.partAt rows_nil rows_cons ble_add ble_add0 ble_same toPlain toPlain.go intIn2_0 intIn2_1 ble12 ble22 tv lv max_int min_int pplains ak_true ak_false apartP beq_add beq_add0 beq_add1 argv_s wok_none wok_low_iff lowOf_wok
theorem conv_5_3Law9 {z : Int} : prunP Try.prog (convert 5 3 (.int .u8 z)) = some (.int .i64 (IntKind.i64.wrap z)) := by kernel_rfl
def f9S (F : Nat) (p0a : Int) (p0b : Int) (p0c : Int) (p0d : Int) (p0e : Int) (p0f : Int) (p0g : Int) (p0h : Int) (p0i : Int) (p0j : Int) (p0k : Int) (p1a : Int) (p1b : Int) (p1c : Int) (p1d : Int) (p1e : Int) (p1f : Int) (p1g : Int) (p1h : Int) (p1i : Int) (p1j : Int) (p1k : Int) (p2 : Int) : Option (Bool) :=
  (some (IntKind.i64.wrap p2)).bind fun x1 =>
  (some (Int.tmod x1 6)).bind fun x2 =>
  (some (IntKind.i64.wrap (1 + x2))).bind fun x3 =>
  (f51O [p0a, p0b, p0c, p0d, p0e, p0f, p0g, p0h, p0i, p0j, p0k] 8 x3).bind fun x4 =>
  (f51O [p1a, p1b, p1c, p1d, p1e, p1f, p1g, p1h, p1i, p1j, p1k] 8 x3).bind fun x5 =>
  (f50S F x4).bind fun (m6, k7) =>
  (f50S F x5).bind fun (m9, k10) =>
  (f49O m6 k7 m9 k10).bind fun (s12, b13) =>
  (f40S F x4 x5).bind fun (s15, x16) =>
  (f40S F x5 x4).bind fun (s18, x19) =>
  (match b13 with
  | true => ((some (decide (x16 = 0))).bind fun x21 =>
  (match x21 with
  | true => ((some (decide (x19 = 0))).bind fun x22 =>
  (match x22 with
  | true => ((some (decide (s15 = s12))).bind fun x23 =>
  (match x23 with
  | true => ((some (decide (s18 = s12))).bind fun x24 =>
  (match x24 with
  | true => (some true)
  | false => (some false)))
  | false => (some false)))
  | false => (some false)))
  | false => (some false)))
  | false => ((some (decide (x4 = x5))).bind fun x26 =>
  (match x26 with
  | true => ((some (decide (x16 = 13))).bind fun x27 =>
  (match x27 with
  | true => ((some (decide (x19 = 13))).bind fun x28 =>
  (match x28 with
  | true => (some true)
  | false => (some false)))
  | false => (some false)))
  | false => (some false))))
theorem f9_is {p0a : Int} {p0b : Int} {p0c : Int} {p0d : Int} {p0e : Int} {p0f : Int} {p0g : Int} {p0h : Int} {p0i : Int} {p0j : Int} {p0k : Int} {p1a : Int} {p1b : Int} {p1c : Int} {p1d : Int} {p1e : Int} {p1f : Int} {p1g : Int} {p1h : Int} {p1i : Int} {p1j : Int} {p1k : Int} {p2 : Int} {hp : List (Option (List PV))} {F : Nat} {r : (Bool)}  (h : f9S F p0a p0b p0c p0d p0e p0f p0g p0h p0i p0j p0k p1a p1b p1c p1d p1e p1f p1g p1h p1i p1j p1k p2 = some r) :
    E Try.prog Y0 9 [.a [kv .u8 p0a, kv .u8 p0b, kv .u8 p0c, kv .u8 p0d, kv .u8 p0e, kv .u8 p0f, kv .u8 p0g, kv .u8 p0h, kv .u8 p0i, kv .u8 p0j, kv .u8 p0k], .a [kv .u8 p1a, kv .u8 p1b, kv .u8 p1c, kv .u8 p1d, kv .u8 p1e, kv .u8 p1f, kv .u8 p1g, kv .u8 p1h, kv .u8 p1i, kv .u8 p1j, kv .u8 p1k], kv .u8 p2] hp = some (.v (.bool r), hp, none) := by
  rw [E_bodyN 3 body9 rfl (by decide) rfl]
  simp only [Try.f9, Option.get_some]
  unfold f9S at h
  obtain ⟨x1, ex1, h⟩ := bindT h
  obtain ⟨x2, ex2, h⟩ := bindT h
  obtain ⟨x3, ex3, h⟩ := bindT h
  obtain ⟨x4, ex4, h⟩ := bind_ok h
  have ex4 : ∀ hp, E Try.prog Y0 51 [.a [kv .u8 p0a, kv .u8 p0b, kv .u8 p0c, kv .u8 p0d, kv .u8 p0e, kv .u8 p0f, kv .u8 p0g, kv .u8 p0h, kv .u8 p0i, kv .u8 p0j, kv .u8 p0k], iv 8, iv x3] hp = some (.v (.string (bs x4)), hp, none) := fun hp => f51_is ex4
  obtain ⟨x5, ex5, h⟩ := bind_ok h
  have ex5 : ∀ hp, E Try.prog Y0 51 [.a [kv .u8 p1a, kv .u8 p1b, kv .u8 p1c, kv .u8 p1d, kv .u8 p1e, kv .u8 p1f, kv .u8 p1g, kv .u8 p1h, kv .u8 p1i, kv .u8 p1j, kv .u8 p1k], iv 8, iv x3] hp = some (.v (.string (bs x5)), hp, none) := fun hp => f51_is ex5
  obtain ⟨⟨m6, k7⟩, e8, h⟩ := bind_ok h
  try dsimp only at h
  have e8 : ∀ hp, E Try.prog Y0 50 [.v (.string (bs x4))] hp = some (.m .own (mE sV (Value.int .i64) m6) k7, hp, none) := fun hp => f50_is  e8
  obtain ⟨⟨m9, k10⟩, e11, h⟩ := bind_ok h
  try dsimp only at h
  have e11 : ∀ hp, E Try.prog Y0 50 [.v (.string (bs x5))] hp = some (.m .own (mE sV (Value.int .i64) m9) k10, hp, none) := fun hp => f50_is  e11
  obtain ⟨⟨s12, b13⟩, e14, h⟩ := bind_ok h
  try dsimp only at h
  have e14 : ∀ hp, E Try.prog Y0 49 [.m .fz (mE sV (Value.int .i64) m6) k7, .m .fz (mE sV (Value.int .i64) m9) k10] hp = some (.t [.v (.string (bs s12)), .v (.bool b13)], hp, none) := fun hp => f49_is e14
  obtain ⟨⟨s15, x16⟩, e17, h⟩ := bind_ok h
  try dsimp only at h
  have e17 : ∀ hp, E Try.prog Y0 40 [.v (.string (bs x4)), .v (.string (bs x5))] hp = some (.t [.v (.string (bs s15)), iv x16], hp, none) := fun hp => f40_is  e17
  obtain ⟨⟨s18, x19⟩, e20, h⟩ := bind_ok h
  try dsimp only at h
  have e20 : ∀ hp, E Try.prog Y0 40 [.v (.string (bs x5)), .v (.string (bs x4))] hp = some (.t [.v (.string (bs s18)), iv x19], hp, none) := fun hp => f40_is  e20
  cases b13
  case false =>
   obtain ⟨x26, ex26, h⟩ := bind_ok h
   have ex26p := inj_ok ex26
   have ex26 : decide (bs x4 = bs x5) = x26 := (decide_eq_decide.2 bs_eq).trans (inj_ok ex26)
   cases x26
   case false =>
    obtain rfl := inj_ok h
    simp [conv_5_3Law9, ex1, ex2, ex3, ex4, ex5, e8, e11, e14, e17, e20, ex26, ex26p, abin_seql, abin_sneq]
   obtain ⟨x27, ex27, h⟩ := bindT h
   cases x27
   case false =>
    obtain rfl := inj_ok h
    simp [conv_5_3Law9, ex1, ex2, ex3, ex4, ex5, e8, e11, e14, e17, e20, ex26, ex26p, abin_seql, abin_sneq, ex27]
   obtain ⟨x28, ex28, h⟩ := bindT h
   cases x28
   case false =>
    obtain rfl := inj_ok h
    simp [conv_5_3Law9, ex1, ex2, ex3, ex4, ex5, e8, e11, e14, e17, e20, ex26, ex26p, abin_seql, abin_sneq, ex27, ex28]
   have q29 : ∀ hp, E Try.prog Y0 17 [] hp = some (.v (.bool true), hp, none) := fun hp => works_is
   obtain rfl := inj_ok h
   simp [conv_5_3Law9, ex1, ex2, ex3, ex4, ex5, e8, e11, e14, e17, e20, ex26, ex26p, abin_seql, abin_sneq, ex27, ex28, q29]
  obtain ⟨x21, ex21, h⟩ := bindT h
  cases x21
  case false =>
   obtain rfl := inj_ok h
   simp [conv_5_3Law9, ex1, ex2, ex3, ex4, ex5, e8, e11, e14, e17, e20, ex21]
  obtain ⟨x22, ex22, h⟩ := bindT h
  cases x22
  case false =>
   obtain rfl := inj_ok h
   simp [conv_5_3Law9, ex1, ex2, ex3, ex4, ex5, e8, e11, e14, e17, e20, ex21, ex22]
  obtain ⟨x23, ex23, h⟩ := bind_ok h
  have ex23p := inj_ok ex23
  have ex23 : decide (bs s15 = bs s12) = x23 := (decide_eq_decide.2 bs_eq).trans (inj_ok ex23)
  cases x23
  case false =>
   obtain rfl := inj_ok h
   simp [conv_5_3Law9, ex1, ex2, ex3, ex4, ex5, e8, e11, e14, e17, e20, ex21, ex22, ex23, ex23p, abin_seql, abin_sneq]
  obtain ⟨x24, ex24, h⟩ := bind_ok h
  have ex24p := inj_ok ex24
  have ex24 : decide (bs s18 = bs s12) = x24 := (decide_eq_decide.2 bs_eq).trans (inj_ok ex24)
  cases x24
  case false =>
   obtain rfl := inj_ok h
   simp [conv_5_3Law9, ex1, ex2, ex3, ex4, ex5, e8, e11, e14, e17, e20, ex21, ex22, ex23, ex23p, abin_seql, abin_sneq, ex24, ex24p]
  have q25 : ∀ hp, E Try.prog Y0 17 [] hp = some (.v (.bool true), hp, none) := fun hp => works_is
  obtain rfl := inj_ok h
  simp [conv_5_3Law9, ex1, ex2, ex3, ex4, ex5, e8, e11, e14, e17, e20, ex21, ex22, ex23, ex23p, abin_seql, abin_sneq, ex24, ex24p, q25]
end Go.Proofs.Ytmnmfmghmenkkaa
