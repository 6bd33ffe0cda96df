/-
  the chapter's examples
  Printed by wip/tools/walk.py. Conditions: none; definitions and lemmas.
-/
import Derived.Test.YtcjephdjemapbaaDoorRef3
set_option linter.unusedSimpArgs false
set_option linter.unusedVariables false
namespace Go.Proofs.YtcjephdjemapbaaDoor
open Go.Abs Go.Pur
set_option maxRecDepth 100000
set_option maxHeartbeats 2000000
attribute [local simp] EK_region EK_seq EK_cond EK_block EK_blk EK_loop EK_exit EK.ex EK_ret EK_skip EK_nil EO_cons EO_nil EO1_true EO1_false EO2_some EO3_some EB_true EB_false pwanted poper pq pev Go.Pur.look pputT isAssign drOf pinit Tr.get_set lget pvOf_int pvOf_bool pvOf_str pvOf_nil rdv_ak notOwn_ak prt_ak loose_ak rdv_own rdv_fz rdv_bor rdv_rf rdv_pt rdv_v rdv_a rdv_t rdv_r rdv_p rdv_s rdv_f pbin plen pload ppart idxAddr pcond Nat.blt goInt_eq prun_not prun_neg mayLoad ER_ret ER_normal presL presOne moved stor okDrop settle_v settle_l settle_a settle_p settle_f noref_v noref_fz noref_a norefs_nil norefs_cons pclose given dropB Y0_keep pevParts stors pvCells pvCells.go vcells pfill reps zipParts ownFz pcells cellOK one psrcLen srcFits psrc takeP pgrow take getPl setPl mapL plEq elder isList lowP pevs frzs addP partAt ble_lim24 killV_v killV_a killV_t killV_f killV_i killV_p killV_s killV_un killV_dead killV_lfz killV_lbor killV_lown killV_rfz killV_rbor killV_lak killV_rak frzV_v frzV_a frzV_t frzV_f frzV_i frzV_p frzV_s frzV_un frzV_dead frzV_lfz frzV_lbor frzV_lown frzV_rfz frzV_rbor frzV_lak frzV_rak killCell_v killCell_a killCell_t killCell_f killCell_i killCell_p killCell_s killCell_un killCell_dead killCell_lfz killCell_lbor killCell_lown killCell_rfz killCell_rbor killCell_lak killCell_rak killV_lrf killV_lpt killV_rpt frzV_lrf frzV_lpt frzV_rpt killCell_lrft killCell_lptt killCell_rptt killCell_lrfc killCell_lptc killCell_rptc argv_lak argv_rak argv_v argv_a argv_p argv_f argv_fz argv_bor argv_rf argv_pt argv_rc argv_own mayTurn_none argvs pcallOp firm refsTo_v refsTo_l refsTo_p refsTo_s refsTo_a refsTo_dead refsTo_nil refsTo_cons isOwn_lak ownFz_lak evSafe pskip plain pnewBlk fldAddr isOwn pput notOwn_fz notOwn_bor notOwn_own notOwn_rf notOwn_pt prt_fz prt_bor prt_own prt_rf prt_pt Go.Pur.freeze presM settles abin_and abin_or abin_andNot abin_mul abin_shr abin_shl abin_add abin_sub abin_eql abin_neq abin_lss abin_leq abin_gtr abin_geq hows pcallIn Y0_how Y0_part howOf partOf rdv_mown rdv_mfz rdv_mbor rdv_mrf killV_mown killV_mfz killV_mbor killV_mrf frzV_mown frzV_mfz frzV_mbor frzV_mrf killCell_mown killCell_mfz killCell_mbor killCell_mrf argv_mfz argv_mbor argv_mrf settle_m kls_v kls_l kls_a kls_t kls_r kls_p kls_s kls_f kls_i kls_it kls_un kls_dead kls_mown kls_mrf kls_mbor kls_mfz fzOf takable mapHere mapOwn mapTo flat toPlain toPlain.go ofFlat ofPair mapEs plook lookRes Y0_mv mvOf mvBlk premv Y0_fzm fzmOf poperX pconv keep17 sz3 by3 row3 zero3 sz4 by4 row4 zero4 sz5 by5 row5 zero5 sz9 by9 row9 shape9 zero9 sz21 by21 row21 zero21 sz23 by23 row23 shape23 zero23 sz24 by24 row24 zero24 sz38 by38 row38 shape38 zero38 sz47 by47 row47 shape47 zero47 parts47 sz51 by51 row51 zero51 sz54 by54 row54 shape54 zero54 sz55 by55 row55 shape55 zero55 sz58 by58 row58 shape58 zero58 sz60 by60 row60 zero60 sz63 by63 row63 shape63 zero63 sz73 by73 row73 shape73 zero73 parts73 sz79 by79 row79 shape79 zero79 sz81 by81 row81 shape81 zero81 parts81 sz86 by86 row86 shape86 parts86 sz90 by90 row90 zero90 sz92 by92 row92 zero92 sz96 by96 row96 zero96 parts96 field96_0 field96_1 sz99 by99 row99 zero99 sz104 by104 row104 zero104 sz106 by106 row106 zero106 parts106 field106_0 field106_1 sz119 by119 row119 zero119 sz123 by123 row123 zero123 sz124 by124 row124 shape124 zero124 parts124 sz125 by125 row125 shape125 zero125 parts125 sz126 by126 row126 shape126 parts126 sz128 by128 row128 zero128 parts128 field128_0 field128_1 sz129 by129 row129 shape129 zero129 parts129 sz133 by133 row133 zero133 bs_size gAt gAt0 sAt sAt0 optPlain rows_len noMaker_eq kindOf vlOf abin_rem abin_quo mayTurn_none lowOf_none Go.Pur.partAt rows_nil rows_cons ble_add ble_add0 ble_same toPlain toPlain.go intIn2_0 intIn2_1 ble12 ble22 tv lv max_int min_int pplains ak_true ak_false apartP beq_add beq_add0 beq_add1 argv_s wok_none wok_low_iff lowOf_wok
def f17S (F : Nat) : Option (Bool) :=
  (f18S F [111, 117]).bind fun ((c1, l2), x3) =>
  (f20S F [111, 111]).bind fun ((c5, l6), (c7, l8), x9) =>
  (f23S F [117, 111]).bind fun (s11, x12) =>
  (f25S F [111, 111]).bind fun (x14, x15, x16) =>
  (f29S F [104, 118, 118]).bind fun (s18, x19) =>
  (f47S F .full [3, 0, 1, 2]).bind fun (c21, l22) =>
  (f40S F l22).bind fun (s24, x25) =>
  (f35S F [118, 118, 104]).bind fun ((c27, l28), x29) =>
  (some (decide (x3 = 0))).bind fun x31 =>
  (match x31 with
  | true => ((some (decide (x9 = 0))).bind fun x32 =>
  (match x32 with
  | true => ((some (decide (x12 = 0))).bind fun x33 =>
  (match x33 with
  | true => ((some (decide (x16 = 0))).bind fun x34 =>
  (match x34 with
  | true => ((some (decide (x19 = 0))).bind fun x35 =>
  (match x35 with
  | true => ((some (decide (x25 = 0))).bind fun x36 =>
  (match x36 with
  | true => ((some (decide (x29 = 0))).bind fun x37 =>
  (match x37 with
  | true => ((f31S F [118, 118, 118]).bind fun (x38, x39, x40) =>
  (f37S F [118, 118, 118, 118]).bind fun (x42, x43, x44) =>
  (f29S F [118, 118, 118]).bind fun (s46, x47) =>
  (f37S F [118, 118, 104]).bind fun (x49, x50, x51) =>
  (f47S F .full [0, 1, 2, 3]).bind fun (c53, l54) =>
  (f40S F l54).bind fun (s56, x57) =>
  (some (decide (x40 = 0))).bind fun x59 =>
  (match x59 with
  | true => ((some (decide (x44 = 0))).bind fun x60 =>
  (match x60 with
  | true => ((some (decide (x47 = 12))).bind fun x61 =>
  (match x61 with
  | true => ((some (decide (x51 = 13))).bind fun x62 =>
  (match x62 with
  | true => ((some (decide (x57 = 12))).bind fun x63 =>
  (match x63 with
  | true => ((sameO l2 l22).bind fun x64 =>
  (match x64 with
  | true => ((f47S F .full [7, 2, 3, 6]).bind fun (c65, l66) =>
  (sameO l6 l66).bind fun x68 =>
  (match x68 with
  | true => ((f47S F .full [8, 1, 4, 5]).bind fun (c69, l70) =>
  (sameO l8 l70).bind fun x72 =>
  (match x72 with
  | true => ((some (decide (s11 = [118, 104, 104]))).bind fun x73 =>
  (match x73 with
  | true => ((some (decide (x14 = 0))).bind fun x74 =>
  (match x74 with
  | true => ((some (decide (x15 = 2))).bind fun x75 =>
  (match x75 with
  | true => ((some (decide (s18 = [111, 117]))).bind fun x76 =>
  (match x76 with
  | true => ((some (decide (s24 = [111, 117]))).bind fun x77 =>
  (match x77 with
  | true => ((f48S F [0, 0, 1, 0, 1, 1, 0, 1, 0, 2]).bind fun (c78, l79) =>
  (sameO l28 l79).bind fun x81 =>
  (match x81 with
  | true => ((some (decide (x38 = 0))).bind fun x82 =>
  (match x82 with
  | true => ((some (decide (x39 = 2))).bind fun x83 =>
  (match x83 with
  | true => ((some (decide (x42 = 0))).bind fun x84 =>
  (match x84 with
  | true => ((some (decide (x43 = 4))).bind fun x85 =>
  (match x85 with
  | true => ((f33S F [118, 118, 118] 0 2).bind fun x86 =>
  (some (decide (x86 = 0))).bind fun x88 =>
  (match x88 with
  | true => ((f33S F [118, 118, 118] 0 1).bind fun x89 =>
  (some (decide (x89 = 14))).bind fun x91 =>
  some x91)
  | false => (some false)))
  | false => (some false)))
  | false => (some false)))
  | false => (some false)))
  | false => (some false)))
  | false => (some false)))
  | false => (some false)))
  | false => (some false)))
  | false => (some false)))
  | false => (some false)))
  | false => (some false)))
  | false => (some false)))
  | false => (some false)))
  | false => (some false)))
  | false => (some false)))
  | false => (some false)))
  | false => (some false)))
  | false => (some false)))
  | false => (some false)))
  | false => (some false)))
  | false => (some false)))
  | false => (some false)))
  | false => (some false)))
  | false => (some false)))
  | false => (some false)))
  | false => (some false))
theorem f17_is  {hp : List (Option (List PV))} {F : Nat} {r : (Bool)}  (h : f17S F  = some r) :
    E Tryd.prog Y0 17 [] hp = some (.v (.bool r), hp, none) := by
  rw [E_bodyN 0 body17 rfl (by decide) rfl]
  simp only [Tryd.f17, Option.get_some]
  unfold f17S at h
  obtain ⟨⟨⟨c1, l2⟩, x3⟩, e4, h⟩ := bind_ok h
  try dsimp only at h
  have e4 : ∀ hp, E Tryd.prog Y0 18 [.v (.string (bs [111, 117]))] hp = some (.t [.l .fz c1 l2.length (l2.map iv), iv x3], hp, none) := fun hp => f18_is  e4
  obtain ⟨⟨⟨c5, l6⟩, ⟨c7, l8⟩, x9⟩, e10, h⟩ := bind_ok h
  try dsimp only at h
  have e10 : ∀ hp, E Tryd.prog Y0 20 [.v (.string (bs [111, 111]))] hp = some (.t [.l .fz c5 l6.length (l6.map iv), .l .fz c7 l8.length (l8.map iv), iv x9], hp, none) := fun hp => f20_is  e10
  obtain ⟨⟨s11, x12⟩, e13, h⟩ := bind_ok h
  try dsimp only at h
  have e13 : ∀ hp, E Tryd.prog Y0 23 [.v (.string (bs [117, 111]))] hp = some (.t [.v (.string (bs s11)), iv x12], hp, none) := fun hp => f23_is  e13
  obtain ⟨⟨x14, x15, x16⟩, e17, h⟩ := bind_ok h
  try dsimp only at h
  have e17 : ∀ hp, E Tryd.prog Y0 25 [.v (.string (bs [111, 111]))] hp = some (.t [iv x14, iv x15, iv x16], hp, none) := fun hp => f25_is  e17
  obtain ⟨⟨s18, x19⟩, e20, h⟩ := bind_ok h
  try dsimp only at h
  have e20 : ∀ hp, E Tryd.prog Y0 29 [.v (.string (bs [104, 118, 118]))] hp = some (.t [.v (.string (bs s18)), iv x19], hp, none) := fun hp => f29_is  e20
  obtain ⟨⟨c21, l22⟩, e23, h⟩ := bind_ok h
  try dsimp only at h
  have e23 : ∀ hp, E Tryd.prog Y0 47 [.l .fz .full 4 [iv 3, iv 0, iv 1, iv 2]] hp = some (.l .fz c21 l22.length (l22.map iv), hp, none) := fun hp => f47_is (c0 := .full) e23
  obtain ⟨⟨s24, x25⟩, e26, h⟩ := bind_ok h
  try dsimp only at h
  have e26 : ∀ hp, E Tryd.prog Y0 40 [.l .fz c21 l22.length (l22.map iv)] hp = some (.t [.v (.string (bs s24)), iv x25], hp, none) := fun hp => f40_is (a0 := false) (c0 := c21) e26
  obtain ⟨⟨⟨c27, l28⟩, x29⟩, e30, h⟩ := bind_ok h
  try dsimp only at h
  have e30 : ∀ hp, E Tryd.prog Y0 35 [.v (.string (bs [118, 118, 104]))] hp = some (.t [.l .fz c27 l28.length (rows l28), iv x29], hp, none) := fun hp => f35_is  e30
  obtain ⟨x31, ex31, h⟩ := bindT h
  cases x31
  case false =>
   obtain rfl := inj_ok h
   simp [e4, e10, e13, e17, e20, e23, e26, e30, ex31]
  obtain ⟨x32, ex32, h⟩ := bindT h
  cases x32
  case false =>
   obtain rfl := inj_ok h
   simp [e4, e10, e13, e17, e20, e23, e26, e30, ex31, ex32]
  obtain ⟨x33, ex33, h⟩ := bindT h
  cases x33
  case false =>
   obtain rfl := inj_ok h
   simp [e4, e10, e13, e17, e20, e23, e26, e30, ex31, ex32, ex33]
  obtain ⟨x34, ex34, h⟩ := bindT h
  cases x34
  case false =>
   obtain rfl := inj_ok h
   simp [e4, e10, e13, e17, e20, e23, e26, e30, ex31, ex32, ex33, ex34]
  obtain ⟨x35, ex35, h⟩ := bindT h
  cases x35
  case false =>
   obtain rfl := inj_ok h
   simp [e4, e10, e13, e17, e20, e23, e26, e30, ex31, ex32, ex33, ex34, ex35]
  obtain ⟨x36, ex36, h⟩ := bindT h
  cases x36
  case false =>
   obtain rfl := inj_ok h
   simp [e4, e10, e13, e17, e20, e23, e26, e30, ex31, ex32, ex33, ex34, ex35, ex36]
  obtain ⟨x37, ex37, h⟩ := bindT h
  cases x37
  case false =>
   obtain rfl := inj_ok h
   simp [e4, e10, e13, e17, e20, e23, e26, e30, ex31, ex32, ex33, ex34, ex35, ex36, ex37]
  obtain ⟨⟨x38, x39, x40⟩, e41, h⟩ := bind_ok h
  try dsimp only at h
  have e41 : ∀ hp, E Tryd.prog Y0 31 [.v (.string (bs [118, 118, 118]))] hp = some (.t [iv x38, iv x39, iv x40], hp, none) := fun hp => f31_is  e41
  obtain ⟨⟨x42, x43, x44⟩, e45, h⟩ := bind_ok h
  try dsimp only at h
  have e45 : ∀ hp, E Tryd.prog Y0 37 [.v (.string (bs [118, 118, 118, 118]))] hp = some (.t [iv x42, iv x43, iv x44], hp, none) := fun hp => f37_is  e45
  obtain ⟨⟨s46, x47⟩, e48, h⟩ := bind_ok h
  try dsimp only at h
  have e48 : ∀ hp, E Tryd.prog Y0 29 [.v (.string (bs [118, 118, 118]))] hp = some (.t [.v (.string (bs s46)), iv x47], hp, none) := fun hp => f29_is  e48
  obtain ⟨⟨x49, x50, x51⟩, e52, h⟩ := bind_ok h
  try dsimp only at h
  have e52 : ∀ hp, E Tryd.prog Y0 37 [.v (.string (bs [118, 118, 104]))] hp = some (.t [iv x49, iv x50, iv x51], hp, none) := fun hp => f37_is  e52
  obtain ⟨⟨c53, l54⟩, e55, h⟩ := bind_ok h
  try dsimp only at h
  have e55 : ∀ hp, E Tryd.prog Y0 47 [.l .fz .full 4 [iv 0, iv 1, iv 2, iv 3]] hp = some (.l .fz c53 l54.length (l54.map iv), hp, none) := fun hp => f47_is (c0 := .full) e55
  obtain ⟨⟨s56, x57⟩, e58, h⟩ := bind_ok h
  try dsimp only at h
  have e58 : ∀ hp, E Tryd.prog Y0 40 [.l .fz c53 l54.length (l54.map iv)] hp = some (.t [.v (.string (bs s56)), iv x57], hp, none) := fun hp => f40_is (a0 := false) (c0 := c53) e58
  obtain ⟨x59, ex59, h⟩ := bindT h
  cases x59
  case false =>
   obtain rfl := inj_ok h
   simp [e4, e10, e13, e17, e20, e23, e26, e30, ex31, ex32, ex33, ex34, ex35, ex36, ex37, e41, e45, e48, e52, e55, e58, ex59]
  obtain ⟨x60, ex60, h⟩ := bindT h
  cases x60
  case false =>
   obtain rfl := inj_ok h
   simp [e4, e10, e13, e17, e20, e23, e26, e30, ex31, ex32, ex33, ex34, ex35, ex36, ex37, e41, e45, e48, e52, e55, e58, ex59, ex60]
  obtain ⟨x61, ex61, h⟩ := bindT h
  cases x61
  case false =>
   obtain rfl := inj_ok h
   simp [e4, e10, e13, e17, e20, e23, e26, e30, ex31, ex32, ex33, ex34, ex35, ex36, ex37, e41, e45, e48, e52, e55, e58, ex59, ex60, ex61]
  obtain ⟨x62, ex62, h⟩ := bindT h
  cases x62
  case false =>
   obtain rfl := inj_ok h
   simp [e4, e10, e13, e17, e20, e23, e26, e30, ex31, ex32, ex33, ex34, ex35, ex36, ex37, e41, e45, e48, e52, e55, e58, ex59, ex60, ex61, ex62]
  obtain ⟨x63, ex63, h⟩ := bindT h
  cases x63
  case false =>
   obtain rfl := inj_ok h
   simp [e4, e10, e13, e17, e20, e23, e26, e30, ex31, ex32, ex33, ex34, ex35, ex36, ex37, e41, e45, e48, e52, e55, e58, ex59, ex60, ex61, ex62, ex63]
  obtain ⟨x64, ex64, h⟩ := bind_ok h
  have ex64 : ∀ hp, E Tryd.prog Y0 22 [.l .fz c1 l2.length (l2.map iv), .l .fz c21 l22.length (l22.map iv)] hp = some (.v (.bool x64), hp, none) := fun hp => same22_is (a0 := false) (c0 := c1) (a1 := false) (c1 := c21) ex64
  cases x64
  case false =>
   obtain rfl := inj_ok h
   simp [e4, e10, e13, e17, e20, e23, e26, e30, ex31, ex32, ex33, ex34, ex35, ex36, ex37, e41, e45, e48, e52, e55, e58, ex59, ex60, ex61, ex62, ex63, ex64]
  obtain ⟨⟨c65, l66⟩, e67, h⟩ := bind_ok h
  try dsimp only at h
  have e67 : ∀ hp, E Tryd.prog Y0 47 [.l .fz .full 4 [iv 7, iv 2, iv 3, iv 6]] hp = some (.l .fz c65 l66.length (l66.map iv), hp, none) := fun hp => f47_is (c0 := .full) e67
  obtain ⟨x68, ex68, h⟩ := bind_ok h
  have ex68 : ∀ hp, E Tryd.prog Y0 22 [.l .fz c5 l6.length (l6.map iv), .l .fz c65 l66.length (l66.map iv)] hp = some (.v (.bool x68), hp, none) := fun hp => same22_is (a0 := false) (c0 := c5) (a1 := false) (c1 := c65) ex68
  cases x68
  case false =>
   obtain rfl := inj_ok h
   simp [e4, e10, e13, e17, e20, e23, e26, e30, ex31, ex32, ex33, ex34, ex35, ex36, ex37, e41, e45, e48, e52, e55, e58, ex59, ex60, ex61, ex62, ex63, ex64, e67, ex68]
  obtain ⟨⟨c69, l70⟩, e71, h⟩ := bind_ok h
  try dsimp only at h
  have e71 : ∀ hp, E Tryd.prog Y0 47 [.l .fz .full 4 [iv 8, iv 1, iv 4, iv 5]] hp = some (.l .fz c69 l70.length (l70.map iv), hp, none) := fun hp => f47_is (c0 := .full) e71
  obtain ⟨x72, ex72, h⟩ := bind_ok h
  have ex72 : ∀ hp, E Tryd.prog Y0 22 [.l .fz c7 l8.length (l8.map iv), .l .fz c69 l70.length (l70.map iv)] hp = some (.v (.bool x72), hp, none) := fun hp => same22_is (a0 := false) (c0 := c7) (a1 := false) (c1 := c69) ex72
  cases x72
  case false =>
   obtain rfl := inj_ok h
   simp [e4, e10, e13, e17, e20, e23, e26, e30, ex31, ex32, ex33, ex34, ex35, ex36, ex37, e41, e45, e48, e52, e55, e58, ex59, ex60, ex61, ex62, ex63, ex64, e67, ex68, e71, ex72]
  obtain ⟨x73, ex73, h⟩ := bind_ok h
  have ex73p := inj_ok ex73
  have ex73 : decide (bs s11 = bs [118, 104, 104]) = x73 := (decide_eq_decide.2 bs_eq).trans (inj_ok ex73)
  cases x73
  case false =>
   obtain rfl := inj_ok h
   simp [e4, e10, e13, e17, e20, e23, e26, e30, ex31, ex32, ex33, ex34, ex35, ex36, ex37, e41, e45, e48, e52, e55, e58, ex59, ex60, ex61, ex62, ex63, ex64, e67, ex68, e71, ex72, ex73, ex73p, abin_seql, abin_sneq]
  obtain ⟨x74, ex74, h⟩ := bindT h
  cases x74
  case false =>
   obtain rfl := inj_ok h
   simp [e4, e10, e13, e17, e20, e23, e26, e30, ex31, ex32, ex33, ex34, ex35, ex36, ex37, e41, e45, e48, e52, e55, e58, ex59, ex60, ex61, ex62, ex63, ex64, e67, ex68, e71, ex72, ex73, ex73p, abin_seql, abin_sneq, ex74]
  obtain ⟨x75, ex75, h⟩ := bindT h
  cases x75
  case false =>
   obtain rfl := inj_ok h
   simp [e4, e10, e13, e17, e20, e23, e26, e30, ex31, ex32, ex33, ex34, ex35, ex36, ex37, e41, e45, e48, e52, e55, e58, ex59, ex60, ex61, ex62, ex63, ex64, e67, ex68, e71, ex72, ex73, ex73p, abin_seql, abin_sneq, ex74, ex75]
  obtain ⟨x76, ex76, h⟩ := bind_ok h
  have ex76p := inj_ok ex76
  have ex76 : decide (bs s18 = bs [111, 117]) = x76 := (decide_eq_decide.2 bs_eq).trans (inj_ok ex76)
  cases x76
  case false =>
   obtain rfl := inj_ok h
   simp [e4, e10, e13, e17, e20, e23, e26, e30, ex31, ex32, ex33, ex34, ex35, ex36, ex37, e41, e45, e48, e52, e55, e58, ex59, ex60, ex61, ex62, ex63, ex64, e67, ex68, e71, ex72, ex73, ex73p, abin_seql, abin_sneq, ex74, ex75, ex76, ex76p]
  obtain ⟨x77, ex77, h⟩ := bind_ok h
  have ex77p := inj_ok ex77
  have ex77 : decide (bs s24 = bs [111, 117]) = x77 := (decide_eq_decide.2 bs_eq).trans (inj_ok ex77)
  cases x77
  case false =>
   obtain rfl := inj_ok h
   simp [e4, e10, e13, e17, e20, e23, e26, e30, ex31, ex32, ex33, ex34, ex35, ex36, ex37, e41, e45, e48, e52, e55, e58, ex59, ex60, ex61, ex62, ex63, ex64, e67, ex68, e71, ex72, ex73, ex73p, abin_seql, abin_sneq, ex74, ex75, ex76, ex76p, ex77, ex77p]
  obtain ⟨⟨c78, l79⟩, e80, h⟩ := bind_ok h
  try dsimp only at h
  have e80 : ∀ hp, E Tryd.prog Y0 48 [.l .fz .full 10 [iv 0, iv 0, iv 1, iv 0, iv 1, iv 1, iv 0, iv 1, iv 0, iv 2]] hp = some (.l .own c78 l79.length (rows l79), hp, none) := fun hp => f48_is (a0 := false) (c0 := .full) e80
  obtain ⟨x81, ex81, h⟩ := bind_ok h
  have ex81 : ∀ hp, E Tryd.prog Y0 39 [.l .fz c27 l28.length (rows l28), .l .fz c78 l79.length (rows l79)] hp = some (.v (.bool x81), hp, none) := fun hp => alike_is (a0 := false) (c0 := c27) (a1 := false) (c1 := c78) ex81
  cases x81
  case false =>
   obtain rfl := inj_ok h
   simp [e4, e10, e13, e17, e20, e23, e26, e30, ex31, ex32, ex33, ex34, ex35, ex36, ex37, e41, e45, e48, e52, e55, e58, ex59, ex60, ex61, ex62, ex63, ex64, e67, ex68, e71, ex72, ex73, ex73p, abin_seql, abin_sneq, ex74, ex75, ex76, ex76p, ex77, ex77p, e80, ex81]
  obtain ⟨x82, ex82, h⟩ := bindT h
  cases x82
  case false =>
   obtain rfl := inj_ok h
   simp [e4, e10, e13, e17, e20, e23, e26, e30, ex31, ex32, ex33, ex34, ex35, ex36, ex37, e41, e45, e48, e52, e55, e58, ex59, ex60, ex61, ex62, ex63, ex64, e67, ex68, e71, ex72, ex73, ex73p, abin_seql, abin_sneq, ex74, ex75, ex76, ex76p, ex77, ex77p, e80, ex81, ex82]
  obtain ⟨x83, ex83, h⟩ := bindT h
  cases x83
  case false =>
   obtain rfl := inj_ok h
   simp [e4, e10, e13, e17, e20, e23, e26, e30, ex31, ex32, ex33, ex34, ex35, ex36, ex37, e41, e45, e48, e52, e55, e58, ex59, ex60, ex61, ex62, ex63, ex64, e67, ex68, e71, ex72, ex73, ex73p, abin_seql, abin_sneq, ex74, ex75, ex76, ex76p, ex77, ex77p, e80, ex81, ex82, ex83]
  obtain ⟨x84, ex84, h⟩ := bindT h
  cases x84
  case false =>
   obtain rfl := inj_ok h
   simp [e4, e10, e13, e17, e20, e23, e26, e30, ex31, ex32, ex33, ex34, ex35, ex36, ex37, e41, e45, e48, e52, e55, e58, ex59, ex60, ex61, ex62, ex63, ex64, e67, ex68, e71, ex72, ex73, ex73p, abin_seql, abin_sneq, ex74, ex75, ex76, ex76p, ex77, ex77p, e80, ex81, ex82, ex83, ex84]
  obtain ⟨x85, ex85, h⟩ := bindT h
  cases x85
  case false =>
   obtain rfl := inj_ok h
   simp [e4, e10, e13, e17, e20, e23, e26, e30, ex31, ex32, ex33, ex34, ex35, ex36, ex37, e41, e45, e48, e52, e55, e58, ex59, ex60, ex61, ex62, ex63, ex64, e67, ex68, e71, ex72, ex73, ex73p, abin_seql, abin_sneq, ex74, ex75, ex76, ex76p, ex77, ex77p, e80, ex81, ex82, ex83, ex84, ex85]
  obtain ⟨x86, e87, h⟩ := bind_ok h
  have e87 : ∀ hp, E Tryd.prog Y0 33 [.v (.string (bs [118, 118, 118])), iv 0, iv 2] hp = some (iv x86, hp, none) := fun hp => f33_is  e87
  obtain ⟨x88, ex88, h⟩ := bindT h
  cases x88
  case false =>
   obtain rfl := inj_ok h
   simp [e4, e10, e13, e17, e20, e23, e26, e30, ex31, ex32, ex33, ex34, ex35, ex36, ex37, e41, e45, e48, e52, e55, e58, ex59, ex60, ex61, ex62, ex63, ex64, e67, ex68, e71, ex72, ex73, ex73p, abin_seql, abin_sneq, ex74, ex75, ex76, ex76p, ex77, ex77p, e80, ex81, ex82, ex83, ex84, ex85, e87, ex88]
  obtain ⟨x89, e90, h⟩ := bind_ok h
  have e90 : ∀ hp, E Tryd.prog Y0 33 [.v (.string (bs [118, 118, 118])), iv 0, iv 1] hp = some (iv x89, hp, none) := fun hp => f33_is  e90
  obtain ⟨x91, ex91, h⟩ := bindT h
  obtain rfl := inj_ok h
  simp [e4, e10, e13, e17, e20, e23, e26, e30, ex31, ex32, ex33, ex34, ex35, ex36, ex37, e41, e45, e48, e52, e55, e58, ex59, ex60, ex61, ex62, ex63, ex64, e67, ex68, e71, ex72, ex73, ex73p, abin_seql, abin_sneq, ex74, ex75, ex76, ex76p, ex77, ex77p, e80, ex81, ex82, ex83, ex84, ex85, e87, ex88, e90, ex91]
end Go.Proofs.YtcjephdjemapbaaDoor
