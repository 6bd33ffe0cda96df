/-
  StandLast
  Printed by wip/tools/walk.py. Conditions: none; definitions and lemmas.
-/
import Derived.Test.YtcdhajbhpnbdkaaDoorOut1
import Derived.Test.YtcdhajbhpnbdkaaDoorPurI
set_option linter.unusedSimpArgs false
set_option linter.unusedVariables false
namespace Go.Proofs.YtcdhajbhpnbdkaaDoor
open Go.Abs Go.Pur
set_option maxRecDepth 100000
set_option maxHeartbeats 2000000
attribute [local simp] EK_region EK_seq EK_cond EK_block EK_blk EK_loop EK_exit EK.ex EK_ret EK_skip EK_nil EO_cons EO_nil EO1_true EO1_false EO2_some EO3_some EB_true EB_false pwanted poper pq pev Go.Pur.look pputT isAssign drOf pinit Tr.get_set lget pvOf_int pvOf_bool pvOf_str pvOf_nil rdv_ak notOwn_ak prt_ak loose_ak rdv_own rdv_fz rdv_bor rdv_rf rdv_pt rdv_v rdv_a rdv_t rdv_r rdv_p rdv_s rdv_f pbin plen pload ppart idxAddr pcond Nat.blt goInt_eq prun_not prun_neg mayLoad ER_ret ER_normal presL presOne moved stor okDrop settle_v settle_l settle_a settle_p settle_f noref_v noref_fz noref_a norefs_nil norefs_cons pclose given dropB Y0_keep pevParts stors pvCells pvCells.go vcells pfill reps zipParts ownFz pcells cellOK one psrcLen srcFits psrc takeP pgrow take getPl setPl mapL plEq elder isList lowP pevs frzs addP partAt ble_lim24 killV_v killV_a killV_t killV_f killV_i killV_p killV_s killV_un killV_dead killV_lfz killV_lbor killV_lown killV_rfz killV_rbor killV_lak killV_rak frzV_v frzV_a frzV_t frzV_f frzV_i frzV_p frzV_s frzV_un frzV_dead frzV_lfz frzV_lbor frzV_lown frzV_rfz frzV_rbor frzV_lak frzV_rak killCell_v killCell_a killCell_t killCell_f killCell_i killCell_p killCell_s killCell_un killCell_dead killCell_lfz killCell_lbor killCell_lown killCell_rfz killCell_rbor killCell_lak killCell_rak killV_lrf killV_lpt killV_rpt frzV_lrf frzV_lpt frzV_rpt killCell_lrft killCell_lptt killCell_rptt killCell_lrfc killCell_lptc killCell_rptc argv_lak argv_rak argv_v argv_a argv_p argv_f argv_fz argv_bor argv_rf argv_pt argv_rc argv_own mayTurn_none argvs pcallOp firm refsTo_v refsTo_l refsTo_p refsTo_s refsTo_a refsTo_dead refsTo_nil refsTo_cons isOwn_lak ownFz_lak evSafe pskip plain pnewBlk fldAddr isOwn pput notOwn_fz notOwn_bor notOwn_own notOwn_rf notOwn_pt prt_fz prt_bor prt_own prt_rf prt_pt Go.Pur.freeze presM settles abin_and abin_or abin_andNot abin_mul abin_shr abin_shl abin_add abin_sub abin_eql abin_neq abin_lss abin_leq abin_gtr abin_geq keep8 sz3 by3 row3 zero3 sz4 by4 row4 zero4 sz5 by5 row5 zero5 sz9 by9 row9 shape9 zero9 sz22 by22 row22 shape22 zero22 sz24 by24 row24 zero24 parts24 field24_0 field24_1 sz27 by27 row27 zero27 parts27 field27_0 field27_1 sz28 by28 row28 zero28 sz32 by32 row32 shape32 zero32 sz46 by46 row46 shape46 zero46 sz54 by54 row54 shape54 zero54 parts54 sz56 by56 row56 zero56 parts56 field56_0 field56_1 field56_2 sz63 by63 row63 shape63 zero63 parts63 sz70 by70 row70 shape70 zero70 parts70 sz75 by75 row75 shape75 zero75 parts75 sz79 by79 row79 zero79 sz84 by84 row84 zero84 sz86 by86 row86 shape86 zero86 sz91 by91 row91 zero91 sz93 by93 row93 zero93 parts93 field93_0 sz97 by97 row97 zero97 sz100 by100 row100 zero100 sz102 by102 row102 zero102 sz105 by105 row105 zero105 parts105 field105_0 field105_1 field105_2 sz106 by106 row106 zero106 sz108 by108 row108 zero108 parts108 field108_0 field108_1 sz109 by109 row109 shape109 zero109 parts109 sz110 by110 row110 shape110 parts110 sz112 by112 row112 parts112 field112_0 field112_1 sz126 by126 row126 shape126 zero126 sz127 by127 row127 zero127 sz134 by134 row134 zero134 sz136 by136 row136 zero136 sz140 by140 row140 zero140 sz147 by147 row147 shape147 zero147 parts147 sz148 by148 row148 shape148 zero148 parts148 sz149 by149 row149 zero149 sz153 by153 row153 zero153 bs_size gAt gAt0 sAt sAt0 optPlain rows_len noMaker_eq kindOf vlOf abin_rem abin_quo mayTurn_none lowOf_none Go.Pur.partAt rows_nil rows_cons ble_add ble_add0 ble_same toPlain toPlain.go intIn2_0 intIn2_1 ble12 ble22 tv lv max_int min_int pplains ak_true ak_false apartP beq_add beq_add0 beq_add1 argv_s wok_none wok_low_iff lowOf_wok
attribute [local simp] ble_addc
def f8_L2 (F : Nat) (x1 : (Int × List Int)) (v3 : Int) (v18 : Int) (m19 : List Int) (m20 : List Int) (y23 : Int) (l26 : List Int) (x28 : Int) (K : Unit → Option (Bool)) : Nat → Int → Option (Bool)
  | 0, _ => none
  | n + 1, v29 => (some (decide (v29 < x28))).bind fun x30 =>
    (match x30 with
    | true => ((gI l26 v29).bind fun y31 =>
    (some (decide (v3 = 0))).bind fun x32 =>
    (match x32 with
    | true => ((dropO x1.2 v18).bind fun x33 =>
    (f52S F x33 y31).bind fun x34 =>
    (f52S F x33 y23).bind fun x36 =>
    (some (decide (0 ≤ x36))).bind fun x38 =>
    (match x38 with
    | true => ((some (decide (x34 < 0))).bind fun x39 =>
    (match x39 with
    | true => (some false)
    | false => ((some (decide (x36 < x34))).bind fun x40 =>
    (match x40 with
    | true => (some false)
    | false => ((some (decide (x36 < 0))).bind fun x41 =>
    (match x41 with
    | true => ((some (IntKind.i64.wrap (v29 + 1))).bind fun x42 =>
    f8_L2 F x1 v3 v18 m19 m20 y23 l26 x28 K n x42)
    | false => ((some (IntKind.i64.wrap (v29 + 1))).bind fun x43 =>
    f8_L2 F x1 v3 v18 m19 m20 y23 l26 x28 K n x43)))))))
    | false => ((some (decide (x36 < 0))).bind fun x44 =>
    (match x44 with
    | true => ((some (decide (x34 < 0))).bind fun x45 =>
    (match x45 with
    | true => ((some (decide (y31 < y23))).bind fun x46 =>
    (match x46 with
    | true => (some false)
    | false => ((some (IntKind.i64.wrap (v29 + 1))).bind fun x47 =>
    f8_L2 F x1 v3 v18 m19 m20 y23 l26 x28 K n x47)))
    | false => ((some (IntKind.i64.wrap (v29 + 1))).bind fun x48 =>
    f8_L2 F x1 v3 v18 m19 m20 y23 l26 x28 K n x48)))
    | false => ((some (IntKind.i64.wrap (v29 + 1))).bind fun x49 =>
    f8_L2 F x1 v3 v18 m19 m20 y23 l26 x28 K n x49)))))
    | false => ((some (decide (v3 = 1))).bind fun x50 =>
    (match x50 with
    | true => ((gI m19 y31).bind fun y51 =>
    (gI m19 y23).bind fun y52 =>
    (some (decide (y51 < y52))).bind fun x53 =>
    (match x53 with
    | true => (some false)
    | false => ((some (IntKind.i64.wrap (v29 + 1))).bind fun x54 =>
    f8_L2 F x1 v3 v18 m19 m20 y23 l26 x28 K n x54)))
    | false => ((some (decide (v3 = 2))).bind fun x55 =>
    (match x55 with
    | true => ((gI m20 y31).bind fun y56 =>
    (gI m20 y23).bind fun y57 =>
    (some (decide (y56 < y57))).bind fun x58 =>
    (match x58 with
    | true => (some false)
    | false => ((some (IntKind.i64.wrap (v29 + 1))).bind fun x59 =>
    f8_L2 F x1 v3 v18 m19 m20 y23 l26 x28 K n x59)))
    | false => ((some (IntKind.i64.wrap (v29 + 1))).bind fun x60 =>
    f8_L2 F x1 v3 v18 m19 m20 y23 l26 x28 K n x60)))))))
    | false => (K ()))
def f8_L1 (F : Nat) (x1 : (Int × List Int)) (v3 : Int) (x7 : (List Int × Int)) (l9 : List Int) (x16 : Int) (K : List Int × List Int → Option (Bool)) : Nat → Int × Int × List Int × List Int → Option (Bool)
  | 0, _ => none
  | n + 1, (v17, v18, m19, m20) => (some (decide (v18 < x16))).bind fun x21 =>
    (match x21 with
    | true => ((gI x1.2 v18).bind fun y22 =>
    (gI x7.1 v18).bind fun y23 =>
    (some (decide (0 ≤ y23))).bind fun x24 =>
    (match x24 with
    | true => ((f51S F v17).bind fun (c25, l26) =>
    (some ((l26.length : Int))).bind fun x28 =>
    f8_L2 F x1 v3 v18 m19 m20 y23 l26 x28 (fun _ =>
      (shrO .i64 v17 y22).bind fun x61 =>
      (some (andI .i64 x61 1)).bind fun x62 =>
      (some (decide (x62 = 0))).bind fun x63 =>
      (match x63 with
      | true => ((gI m19 y22).bind fun y64 =>
      (sI m19 y22 v18).bind fun m65 =>
      (gI m20 y22).bind fun y66 =>
      (sI m20 y22 v18).bind fun m67 =>
      (gI l9 v18).bind fun y68 =>
      (some (IntKind.i64.wrap (v18 + 1))).bind fun x69 =>
      f8_L1 F x1 v3 x7 l9 x16 K n (y68, x69, m65, m67))
      | false => ((gI m20 y22).bind fun y70 =>
      (sI m20 y22 v18).bind fun m71 =>
      (gI l9 v18).bind fun y72 =>
      (some (IntKind.i64.wrap (v18 + 1))).bind fun x73 =>
      f8_L1 F x1 v3 x7 l9 x16 K n (y72, x73, m19, m71)))) F 0)
    | false => ((shrO .i64 v17 y22).bind fun x74 =>
    (some (andI .i64 x74 1)).bind fun x75 =>
    (some (decide (x75 = 0))).bind fun x76 =>
    (match x76 with
    | true => ((gI m19 y22).bind fun y77 =>
    (sI m19 y22 v18).bind fun m78 =>
    (gI m20 y22).bind fun y79 =>
    (sI m20 y22 v18).bind fun m80 =>
    (gI l9 v18).bind fun y81 =>
    (some (IntKind.i64.wrap (v18 + 1))).bind fun x82 =>
    f8_L1 F x1 v3 x7 l9 x16 K n (y81, x82, m78, m80))
    | false => ((gI m20 y22).bind fun y83 =>
    (sI m20 y22 v18).bind fun m84 =>
    (gI l9 v18).bind fun y85 =>
    (some (IntKind.i64.wrap (v18 + 1))).bind fun x86 =>
    f8_L1 F x1 v3 x7 l9 x16 K n (y85, x86, m19, m84))))))
    | false => (K (m19, m20)))
def f8_L4 (F : Nat) (x1 : (Int × List Int)) (v3 : Int) (v102 : Int) (m103 : List Int) (m104 : List Int) (y107 : Int) (l110 : List Int) (x112 : Int) (K : Unit → Option (Bool)) : Nat → Int → Option (Bool)
  | 0, _ => none
  | n + 1, v113 => (some (decide (v113 < x112))).bind fun x114 =>
    (match x114 with
    | true => ((gI l110 v113).bind fun y115 =>
    (some (decide (v3 = 0))).bind fun x116 =>
    (match x116 with
    | true => ((dropO x1.2 v102).bind fun x117 =>
    (f52S F x117 y115).bind fun x118 =>
    (f52S F x117 y107).bind fun x120 =>
    (some (decide (0 ≤ x120))).bind fun x122 =>
    (match x122 with
    | true => ((some (decide (x118 < 0))).bind fun x123 =>
    (match x123 with
    | true => (some false)
    | false => ((some (decide (x120 < x118))).bind fun x124 =>
    (match x124 with
    | true => (some false)
    | false => ((some (decide (x120 < 0))).bind fun x125 =>
    (match x125 with
    | true => ((some (IntKind.i64.wrap (v113 + 1))).bind fun x126 =>
    f8_L4 F x1 v3 v102 m103 m104 y107 l110 x112 K n x126)
    | false => ((some (IntKind.i64.wrap (v113 + 1))).bind fun x127 =>
    f8_L4 F x1 v3 v102 m103 m104 y107 l110 x112 K n x127)))))))
    | false => ((some (decide (x120 < 0))).bind fun x128 =>
    (match x128 with
    | true => ((some (decide (x118 < 0))).bind fun x129 =>
    (match x129 with
    | true => ((some (decide (y115 < y107))).bind fun x130 =>
    (match x130 with
    | true => (some false)
    | false => ((some (IntKind.i64.wrap (v113 + 1))).bind fun x131 =>
    f8_L4 F x1 v3 v102 m103 m104 y107 l110 x112 K n x131)))
    | false => ((some (IntKind.i64.wrap (v113 + 1))).bind fun x132 =>
    f8_L4 F x1 v3 v102 m103 m104 y107 l110 x112 K n x132)))
    | false => ((some (IntKind.i64.wrap (v113 + 1))).bind fun x133 =>
    f8_L4 F x1 v3 v102 m103 m104 y107 l110 x112 K n x133)))))
    | false => ((some (decide (v3 = 1))).bind fun x134 =>
    (match x134 with
    | true => ((gI m103 y115).bind fun y135 =>
    (gI m103 y107).bind fun y136 =>
    (some (decide (y135 < y136))).bind fun x137 =>
    (match x137 with
    | true => (some false)
    | false => ((some (IntKind.i64.wrap (v113 + 1))).bind fun x138 =>
    f8_L4 F x1 v3 v102 m103 m104 y107 l110 x112 K n x138)))
    | false => ((some (decide (v3 = 2))).bind fun x139 =>
    (match x139 with
    | true => ((gI m104 y115).bind fun y140 =>
    (gI m104 y107).bind fun y141 =>
    (some (decide (y140 < y141))).bind fun x142 =>
    (match x142 with
    | true => (some false)
    | false => ((some (IntKind.i64.wrap (v113 + 1))).bind fun x143 =>
    f8_L4 F x1 v3 v102 m103 m104 y107 l110 x112 K n x143)))
    | false => ((some (IntKind.i64.wrap (v113 + 1))).bind fun x144 =>
    f8_L4 F x1 v3 v102 m103 m104 y107 l110 x112 K n x144)))))))
    | false => (K ()))
def f8_L3 (F : Nat) (x1 : (Int × List Int)) (v3 : Int) (x91 : (List Int × Int)) (l93 : List Int) (x100 : Int) (K : List Int × List Int → Option (Bool)) : Nat → Int × Int × List Int × List Int → Option (Bool)
  | 0, _ => none
  | n + 1, (v101, v102, m103, m104) => (some (decide (v102 < x100))).bind fun x105 =>
    (match x105 with
    | true => ((gI x1.2 v102).bind fun y106 =>
    (gI x91.1 v102).bind fun y107 =>
    (some (decide (0 ≤ y107))).bind fun x108 =>
    (match x108 with
    | true => ((f51S F v101).bind fun (c109, l110) =>
    (some ((l110.length : Int))).bind fun x112 =>
    f8_L4 F x1 v3 v102 m103 m104 y107 l110 x112 (fun _ =>
      (shrO .i64 v101 y106).bind fun x145 =>
      (some (andI .i64 x145 1)).bind fun x146 =>
      (some (decide (x146 = 0))).bind fun x147 =>
      (match x147 with
      | true => ((gI m103 y106).bind fun y148 =>
      (sI m103 y106 v102).bind fun m149 =>
      (gI m104 y106).bind fun y150 =>
      (sI m104 y106 v102).bind fun m151 =>
      (gI l93 v102).bind fun y152 =>
      (some (IntKind.i64.wrap (v102 + 1))).bind fun x153 =>
      f8_L3 F x1 v3 x91 l93 x100 K n (y152, x153, m149, m151))
      | false => ((gI m104 y106).bind fun y154 =>
      (sI m104 y106 v102).bind fun m155 =>
      (gI l93 v102).bind fun y156 =>
      (some (IntKind.i64.wrap (v102 + 1))).bind fun x157 =>
      f8_L3 F x1 v3 x91 l93 x100 K n (y156, x157, m103, m155)))) F 0)
    | false => ((shrO .i64 v101 y106).bind fun x158 =>
    (some (andI .i64 x158 1)).bind fun x159 =>
    (some (decide (x159 = 0))).bind fun x160 =>
    (match x160 with
    | true => ((gI m103 y106).bind fun y161 =>
    (sI m103 y106 v102).bind fun m162 =>
    (gI m104 y106).bind fun y163 =>
    (sI m104 y106 v102).bind fun m164 =>
    (gI l93 v102).bind fun y165 =>
    (some (IntKind.i64.wrap (v102 + 1))).bind fun x166 =>
    f8_L3 F x1 v3 x91 l93 x100 K n (y165, x166, m162, m164))
    | false => ((gI m104 y106).bind fun y167 =>
    (sI m104 y106 v102).bind fun m168 =>
    (gI l93 v102).bind fun y169 =>
    (some (IntKind.i64.wrap (v102 + 1))).bind fun x170 =>
    f8_L3 F x1 v3 x91 l93 x100 K n (y169, x170, m103, m168))))))
    | false => (K (m103, m104)))
def f8_L6 (F : Nat) (x1 : (Int × List Int)) (v3 : Int) (v184 : Int) (m185 : List Int) (m186 : List Int) (y189 : Int) (l192 : List Int) (x194 : Int) (K : Unit → Option (Bool)) : Nat → Int → Option (Bool)
  | 0, _ => none
  | n + 1, v195 => (some (decide (v195 < x194))).bind fun x196 =>
    (match x196 with
    | true => ((gI l192 v195).bind fun y197 =>
    (some (decide (v3 = 0))).bind fun x198 =>
    (match x198 with
    | true => ((dropO x1.2 v184).bind fun x199 =>
    (f52S F x199 y197).bind fun x200 =>
    (f52S F x199 y189).bind fun x202 =>
    (some (decide (0 ≤ x202))).bind fun x204 =>
    (match x204 with
    | true => ((some (decide (x200 < 0))).bind fun x205 =>
    (match x205 with
    | true => (some false)
    | false => ((some (decide (x202 < x200))).bind fun x206 =>
    (match x206 with
    | true => (some false)
    | false => ((some (decide (x202 < 0))).bind fun x207 =>
    (match x207 with
    | true => ((some (IntKind.i64.wrap (v195 + 1))).bind fun x208 =>
    f8_L6 F x1 v3 v184 m185 m186 y189 l192 x194 K n x208)
    | false => ((some (IntKind.i64.wrap (v195 + 1))).bind fun x209 =>
    f8_L6 F x1 v3 v184 m185 m186 y189 l192 x194 K n x209)))))))
    | false => ((some (decide (x202 < 0))).bind fun x210 =>
    (match x210 with
    | true => ((some (decide (x200 < 0))).bind fun x211 =>
    (match x211 with
    | true => ((some (decide (y197 < y189))).bind fun x212 =>
    (match x212 with
    | true => (some false)
    | false => ((some (IntKind.i64.wrap (v195 + 1))).bind fun x213 =>
    f8_L6 F x1 v3 v184 m185 m186 y189 l192 x194 K n x213)))
    | false => ((some (IntKind.i64.wrap (v195 + 1))).bind fun x214 =>
    f8_L6 F x1 v3 v184 m185 m186 y189 l192 x194 K n x214)))
    | false => ((some (IntKind.i64.wrap (v195 + 1))).bind fun x215 =>
    f8_L6 F x1 v3 v184 m185 m186 y189 l192 x194 K n x215)))))
    | false => ((some (decide (v3 = 1))).bind fun x216 =>
    (match x216 with
    | true => ((gI m185 y197).bind fun y217 =>
    (gI m185 y189).bind fun y218 =>
    (some (decide (y217 < y218))).bind fun x219 =>
    (match x219 with
    | true => (some false)
    | false => ((some (IntKind.i64.wrap (v195 + 1))).bind fun x220 =>
    f8_L6 F x1 v3 v184 m185 m186 y189 l192 x194 K n x220)))
    | false => ((some (decide (v3 = 2))).bind fun x221 =>
    (match x221 with
    | true => ((gI m186 y197).bind fun y222 =>
    (gI m186 y189).bind fun y223 =>
    (some (decide (y222 < y223))).bind fun x224 =>
    (match x224 with
    | true => (some false)
    | false => ((some (IntKind.i64.wrap (v195 + 1))).bind fun x225 =>
    f8_L6 F x1 v3 v184 m185 m186 y189 l192 x194 K n x225)))
    | false => ((some (IntKind.i64.wrap (v195 + 1))).bind fun x226 =>
    f8_L6 F x1 v3 v184 m185 m186 y189 l192 x194 K n x226)))))))
    | false => (K ()))
def f8_L5 (F : Nat) (x1 : (Int × List Int)) (v3 : Int) (x5 : (List Int × Int)) (l175 : List Int) (x182 : Int) (K : List Int × List Int → Option (Bool)) : Nat → Int × Int × List Int × List Int → Option (Bool)
  | 0, _ => none
  | n + 1, (v183, v184, m185, m186) => (some (decide (v184 < x182))).bind fun x187 =>
    (match x187 with
    | true => ((gI x1.2 v184).bind fun y188 =>
    (gI x5.1 v184).bind fun y189 =>
    (some (decide (0 ≤ y189))).bind fun x190 =>
    (match x190 with
    | true => ((f51S F v183).bind fun (c191, l192) =>
    (some ((l192.length : Int))).bind fun x194 =>
    f8_L6 F x1 v3 v184 m185 m186 y189 l192 x194 (fun _ =>
      (shrO .i64 v183 y188).bind fun x227 =>
      (some (andI .i64 x227 1)).bind fun x228 =>
      (some (decide (x228 = 0))).bind fun x229 =>
      (match x229 with
      | true => ((gI m185 y188).bind fun y230 =>
      (sI m185 y188 v184).bind fun m231 =>
      (gI m186 y188).bind fun y232 =>
      (sI m186 y188 v184).bind fun m233 =>
      (gI l175 v184).bind fun y234 =>
      (some (IntKind.i64.wrap (v184 + 1))).bind fun x235 =>
      f8_L5 F x1 v3 x5 l175 x182 K n (y234, x235, m231, m233))
      | false => ((gI m186 y188).bind fun y236 =>
      (sI m186 y188 v184).bind fun m237 =>
      (gI l175 v184).bind fun y238 =>
      (some (IntKind.i64.wrap (v184 + 1))).bind fun x239 =>
      f8_L5 F x1 v3 x5 l175 x182 K n (y238, x239, m185, m237)))) F 0)
    | false => ((shrO .i64 v183 y188).bind fun x240 =>
    (some (andI .i64 x240 1)).bind fun x241 =>
    (some (decide (x241 = 0))).bind fun x242 =>
    (match x242 with
    | true => ((gI m185 y188).bind fun y243 =>
    (sI m185 y188 v184).bind fun m244 =>
    (gI m186 y188).bind fun y245 =>
    (sI m186 y188 v184).bind fun m246 =>
    (gI l175 v184).bind fun y247 =>
    (some (IntKind.i64.wrap (v184 + 1))).bind fun x248 =>
    f8_L5 F x1 v3 x5 l175 x182 K n (y247, x248, m244, m246))
    | false => ((gI m186 y188).bind fun y249 =>
    (sI m186 y188 v184).bind fun m250 =>
    (gI l175 v184).bind fun y251 =>
    (some (IntKind.i64.wrap (v184 + 1))).bind fun x252 =>
    f8_L5 F x1 v3 x5 l175 x182 K n (y251, x252, m185, m250))))))
    | false => (K (m185, m186)))
def f8_L0 (F : Nat) (x1 : (Int × List Int)) (K : Unit → Option (Bool)) : Nat → Int → Option (Bool)
  | 0, _ => none
  | n + 1, v3 => (some (decide (v3 < 3))).bind fun x4 =>
    (match x4 with
    | true => ((onS x1.2 (refPlan true false x1.1 x1.2, chk x1.1 x1.2)).bind fun x5 =>
    (some (decide (v3 = 1))).bind fun x6 =>
    (match x6 with
    | true => ((onS x1.2 (refPlan false false x1.1 x1.2, chk x1.1 x1.2)).bind fun x7 =>
    (f50S F x1.1 x1.2 x7.1).bind fun ((c8, l9), x10, b11) =>
    (some (decide (x7.2 = 0))).bind fun x13 =>
    (match x13 with
    | true => ((match b11 with
    | true => ((some ((x1.2.length : Int))).bind fun x16 =>
    f8_L1 F x1 v3 x7 l9 x16 (fun (m87, m88) =>
      (some (IntKind.i64.wrap (v3 + 1))).bind fun x89 =>
      f8_L0 F x1 K n x89) F (0, 0, [0, 0, 0, 0, 0, 0], [0, 0, 0, 0, 0, 0]))
    | false => (some false)))
    | false => (some false)))
    | false => ((some (decide (v3 = 2))).bind fun x90 =>
    (match x90 with
    | true => ((onS x1.2 (refPlan false true x1.1 x1.2, chk x1.1 x1.2)).bind fun x91 =>
    (f50S F x1.1 x1.2 x91.1).bind fun ((c92, l93), x94, b95) =>
    (some (decide (x91.2 = 0))).bind fun x97 =>
    (match x97 with
    | true => ((match b95 with
    | true => ((some ((x1.2.length : Int))).bind fun x100 =>
    f8_L3 F x1 v3 x91 l93 x100 (fun (m171, m172) =>
      (some (IntKind.i64.wrap (v3 + 1))).bind fun x173 =>
      f8_L0 F x1 K n x173) F (0, 0, [0, 0, 0, 0, 0, 0], [0, 0, 0, 0, 0, 0]))
    | false => (some false)))
    | false => (some false)))
    | false => ((f50S F x1.1 x1.2 x5.1).bind fun ((c174, l175), x176, b177) =>
    (some (decide (x5.2 = 0))).bind fun x179 =>
    (match x179 with
    | true => ((match b177 with
    | true => ((some ((x1.2.length : Int))).bind fun x182 =>
    f8_L5 F x1 v3 x5 l175 x182 (fun (m253, m254) =>
      (some (IntKind.i64.wrap (v3 + 1))).bind fun x255 =>
      f8_L0 F x1 K n x255) F (0, 0, [0, 0, 0, 0, 0, 0], [0, 0, 0, 0, 0, 0]))
    | false => (some false)))
    | false => (some false)))))))
    | false => (K ()))
def f8S (F : Nat) (p0a : Int) (p0b : Int) (p0c : Int) (p0d : Int) (p0e : Int) (p0f : Int) (p0g : Int) (p0h : Int) (p0i : Int) (p0j : Int) (p0k : Int) (p0l : Int) (p0m : Int) (p0n : Int) : Option (Bool) :=
  (madeS 5 12 p0a p0b [p0c, p0d, p0e, p0f, p0g, p0h, p0i, p0j, p0k, p0l, p0m, p0n]).bind fun x1 =>
  f8_L0 F x1 (fun _ =>
    (f18S F ).bind fun b256 =>
    some b256) F 0
theorem f8_is {p0a : Int} {p0b : Int} {p0c : Int} {p0d : Int} {p0e : Int} {p0f : Int} {p0g : Int} {p0h : Int} {p0i : Int} {p0j : Int} {p0k : Int} {p0l : Int} {p0m : Int} {p0n : Int} {hp : List (Option (List PV))} {F : Nat} {r : (Bool)}  (h : f8S F p0a p0b p0c p0d p0e p0f p0g p0h p0i p0j p0k p0l p0m p0n = some r) :
    E Tryd.prog Y0 8 [.a [kv .u8 p0a, kv .u8 p0b, kv .u8 p0c, kv .u8 p0d, kv .u8 p0e, kv .u8 p0f, kv .u8 p0g, kv .u8 p0h, kv .u8 p0i, kv .u8 p0j, kv .u8 p0k, kv .u8 p0l, kv .u8 p0m, kv .u8 p0n]] hp = some (.v (.bool r), hp, none) := by
  rw [E_bodyN 1 body8 rfl (by decide) rfl]
  simp only [Tryd.f8, Option.get_some]
  unfold f8S at h
  obtain ⟨x1, ex1, h⟩ := bind_ok h
  have ex1 : ∀ hp, E Tryd.prog Y0 48 [.a [kv .u8 p0a, kv .u8 p0b, kv .u8 p0c, kv .u8 p0d, kv .u8 p0e, kv .u8 p0f, kv .u8 p0g, kv .u8 p0h, kv .u8 p0i, kv .u8 p0j, kv .u8 p0k, kv .u8 p0l, kv .u8 p0m, kv .u8 p0n], iv 5, iv 12] hp = some (.a [iv x1.1, .l .fz .nz x1.2.length (x1.2.map iv)], hp, none) := fun hp => f48_is rfl ex1
  have q2 : spliceP 0 [iv x1.1, .l .fz .nz x1.2.length (x1.2.map iv)] [iv 0, .l .own .nz 0 []] = some [iv x1.1, .l .fz .nz x1.2.length (x1.2.map iv)] := rfl
  simp [ex1, q2]
  have hL0 := h; clear h
  refine loopS (S := f8_L0 F x1) (fun v3 σ => ∃ (ts : Tr PV) (w : Option Nat) (H : List (Option (List PV))), wok hp.length w ∧ σ = ⟨[], ts, H, w⟩ ∧ (∃ G, H = hp ++ (some [kv .u8 p0a, kv .u8 p0b, kv .u8 p0c, kv .u8 p0d, kv .u8 p0e, kv .u8 p0f, kv .u8 p0g, kv .u8 p0h, kv .u8 p0i, kv .u8 p0j, kv .u8 p0k, kv .u8 p0l, kv .u8 p0m, kv .u8 p0n] :: (some [iv x1.1, .l .fz .nz x1.2.length (x1.2.map iv)] :: G))) ∧ ts.get 3 = some (.p (hp.length + 1) 0) ∧ ts.get 23 = some (iv v3) ∧ True) (fun _ σ => ∃ (ts : Tr PV) (w : Option Nat) (H : List (Option (List PV))), wok hp.length w ∧ σ = ⟨[], ts, H, w⟩ ∧ (∃ G, H = hp ++ (some [kv .u8 p0a, kv .u8 p0b, kv .u8 p0c, kv .u8 p0d, kv .u8 p0e, kv .u8 p0f, kv .u8 p0g, kv .u8 p0h, kv .u8 p0i, kv .u8 p0j, kv .u8 p0k, kv .u8 p0l, kv .u8 p0m, kv .u8 p0n] :: (some [iv x1.1, .l .fz .nz x1.2.length (x1.2.map iv)] :: G))) ∧ True) (fun _ => rfl) hL0 ?_ ?_ ?_
  · exact ⟨_, _, _, by simp, rfl, ⟨[], by simp⟩, by simp [ex1, q2]⟩
  · rintro ⟨⟩ σ ⟨ts, w, H, hw, rfl, ⟨G, rfl⟩, -⟩ h
    clear hL0
    try dsimp only at h
    obtain ⟨b256, e257, h⟩ := bind_ok h
    have e257 : ∀ hp, E Tryd.prog Y0 18 [] hp = some (.v (.bool b256), hp, none) := fun hp => f18_is  e257
    obtain rfl := inj_ok h
    simp [e257, hw]
  · rintro k n v3 σ ⟨ts, w, H, hw, rfl, ⟨G, rfl⟩, g3, g23, -⟩ h ih ex
    clear hL0
    rw [f8_L0] at h
    obtain ⟨x4, ex4, h⟩ := bindT h
    cases x4
    case false =>
     simp [g3, g23, ex4]
     refine ex () _ ?_ h
     exact ⟨_, _, _, by simp [hw], rfl, ⟨_, rfl⟩, by simp [g3, g23, ex4]⟩
    obtain ⟨x5, ex5, h⟩ := bind_ok h
    have ex5 : ∀ hp, E Tryd.prog Y0 26 [.a [iv x1.1, .l .fz .nz x1.2.length (x1.2.map iv)]] hp = some (.t [.l .fz .nz x5.1.length (x5.1.map iv), iv x5.2], hp, none) := fun hp => f26_is ex5
    obtain ⟨x6, ex6, h⟩ := bindT h
    cases x6
    case true =>
     obtain ⟨x7, ex7, h⟩ := bind_ok h
     have ex7 : ∀ hp, E Tryd.prog Y0 28 [.a [iv x1.1, .l .fz .nz x1.2.length (x1.2.map iv)]] hp = some (.t [.l .fz .nz x7.1.length (x7.1.map iv), iv x7.2], hp, none) := fun hp => f28_is ex7
     obtain ⟨⟨⟨c8, l9⟩, x10, b11⟩, e12, h⟩ := bind_ok h
     try dsimp only at h
     have e12 : ∀ hp, E Tryd.prog Y0 50 [.a [iv x1.1, .l .fz .nz x1.2.length (x1.2.map iv)], .l .fz .nz x7.1.length (x7.1.map iv)] hp = some (.t [.l .fz c8 l9.length (l9.map iv), iv x10, .v (.bool b11)], hp, none) := fun hp => f50_is (c0b := .nz) (a1 := false) (c1 := .nz) e12
     obtain ⟨x13, ex13, h⟩ := bindT h
     cases x13
     case false =>
      obtain rfl := inj_ok h
      simp [g3, g23, ex4, ex5, ex6, ex7, e12, ex13, hw]
     cases b11
     case false =>
      obtain rfl := inj_ok h
      simp [g3, g23, ex4, ex5, ex6, ex7, e12, ex13, hw]
     have q14 : spliceP 0 [iv 0, iv 0, iv 0, iv 0, iv 0, iv 0] [iv 0, iv 0, iv 0, iv 0, iv 0, iv 0] = some [iv 0, iv 0, iv 0, iv 0, iv 0, iv 0] := rfl
     have q15 : spliceP 0 [iv 0, iv 0, iv 0, iv 0, iv 0, iv 0] [iv 0, iv 0, iv 0, iv 0, iv 0, iv 0] = some [iv 0, iv 0, iv 0, iv 0, iv 0, iv 0] := rfl
     obtain ⟨x16, ex16, h⟩ := bindT h
     simp [g3, g23, ex4, ex5, ex6, ex7, e12, ex13, q14, q15, ex16]
     have hL1 := h; clear h
     refine loopS (S := f8_L1 F x1 v3 x7 l9 x16) (fun (v17, v18, m19, m20) σ => ∃ (ts : Tr PV) (w : Option Nat), wok hp.length w ∧ σ = ⟨[], ts, hp ++ (some [kv .u8 p0a, kv .u8 p0b, kv .u8 p0c, kv .u8 p0d, kv .u8 p0e, kv .u8 p0f, kv .u8 p0g, kv .u8 p0h, kv .u8 p0i, kv .u8 p0j, kv .u8 p0k, kv .u8 p0l, kv .u8 p0m, kv .u8 p0n] :: (some [iv x1.1, .l .fz .nz x1.2.length (x1.2.map iv)] :: (G ++ [some (m19.map iv), some (m20.map iv)]))), w⟩ ∧ ts.get 3 = some (.p (hp.length + 1) 0) ∧ ts.get 4 = some (iv v3) ∧ ts.get 5 = some (.l .fz .nz x7.1.length (x7.1.map iv)) ∧ ts.get 7 = some (.l .fz c8 l9.length (l9.map iv)) ∧ ts.get 10 = some (.p (hp.length + (G.length + 1 + 1)) 0) ∧ ts.get 11 = some (.p (hp.length + (G.length + 1 + 1 + 1)) 0) ∧ ts.get 12 = some (iv v17) ∧ ts.get 23 = some (iv v3) ∧ ts.get 61 = some (.l .fz .nz x1.2.length (x1.2.map iv)) ∧ ts.get 62 = some (iv x16) ∧ ts.get 63 = some (iv v18) ∧ m19.length = 6 ∧ m20.length = 6 ∧ True) (fun (m87, m88) σ => ∃ (ts : Tr PV) (w : Option Nat), wok hp.length w ∧ σ = ⟨[], ts, hp ++ (some [kv .u8 p0a, kv .u8 p0b, kv .u8 p0c, kv .u8 p0d, kv .u8 p0e, kv .u8 p0f, kv .u8 p0g, kv .u8 p0h, kv .u8 p0i, kv .u8 p0j, kv .u8 p0k, kv .u8 p0l, kv .u8 p0m, kv .u8 p0n] :: (some [iv x1.1, .l .fz .nz x1.2.length (x1.2.map iv)] :: (G ++ [some (m87.map iv), some (m88.map iv)]))), w⟩ ∧ ts.get 3 = some (.p (hp.length + 1) 0) ∧ ts.get 23 = some (iv v3) ∧ m87.length = 6 ∧ m88.length = 6 ∧ True) (fun _ => rfl) hL1 ?_ ?_ ?_
     · exact ⟨_, _, by simp [hw], rfl, by simp [g3, g23, ex4, ex5, ex6, ex7, e12, ex13, q14, q15, ex16]⟩
     · rintro ⟨m87, m88⟩ σ ⟨ts, w, hw, rfl, g3, g23, hlg0, hlg1, -⟩ h
       clear hL1
       try dsimp only at h
       obtain ⟨x89, ex89, h⟩ := bindT h
       simp [g3, g23, hlg0, hlg1, ex89]
       refine ih x89 _ ?_ h
       exact ⟨_, _, _, by simp [hw], rfl, ⟨_, rfl⟩, by simp [g3, g23, hlg0, hlg1, ex89]⟩
     · rintro k n ⟨v17, v18, m19, m20⟩ σ ⟨ts, w, hw, rfl, g3, g4, g5, g7, g10, g11, g12, g23, g61, g62, g63, hlg0, hlg1, -⟩ h ih ex
       clear hL1
       rw [f8_L1] at h
       obtain ⟨x21, ex21, h⟩ := bindT h
       cases x21
       case false =>
        simp [g3, g4, g5, g7, g10, g11, g12, g23, g61, g62, g63, hlg0, hlg1, ex21]
        refine ex (m19, m20) _ ?_ h
        exact ⟨_, _, by simp [hw], rfl, by simp [g3, g4, g5, g7, g10, g11, g12, g23, g61, g62, g63, hlg0, hlg1, ex21]⟩
       obtain ⟨y22, ey22, h⟩ := bind_ok h
       obtain ⟨ey22a, ey22e, ey22b, ey22c, ey22g⟩ := gI_ok rfl ey22
       obtain ⟨y23, ey23, h⟩ := bind_ok h
       obtain ⟨ey23a, ey23e, ey23b, ey23c, ey23g⟩ := gI_ok rfl ey23
       obtain ⟨x24, ex24, h⟩ := bindT h
       cases x24
       case false =>
        obtain ⟨x74, ex74, h⟩ := bind_ok h
        obtain ⟨ex74a, ex74⟩ := shrO_ok ex74
        obtain ⟨x75, ex75, h⟩ := bindT h
        obtain ⟨x76, ex76, h⟩ := bindT h
        cases x76
        case false =>
         obtain ⟨y83, ey83, h⟩ := bind_ok h
         obtain ⟨ey83a, ey83e, ey83b, ey83c, ey83g⟩ := gI_ok hlg1 ey83
         obtain ⟨m84, em84, h⟩ := bind_ok h
         obtain ⟨em84a, em84e, em84l, em84s, em84q⟩ := sI_ok iv hlg1 em84
         have hlg1 := em84l
         obtain ⟨y85, ey85, h⟩ := bind_ok h
         obtain ⟨ey85a, ey85e, ey85b, ey85c, ey85g⟩ := gI_ok rfl ey85
         obtain ⟨x86, ex86, h⟩ := bindT h
         simp [g3, g4, g5, g7, g10, g11, g12, g23, g61, g62, g63, hlg0, hlg1, ex21, ey22a, ey22b, ey22c, ey23a, ey23b, ey23c, ex24, ex74, ex74a, ex75, ex76, ey83a, ey83b, ey83c, em84a, em84s, ey85a, ey85b, ey85c, ex86]
         refine ih (y85, x86, m19, m84) _ ?_ h
         exact ⟨_, _, by simp [hw], rfl, by simp [g3, g4, g5, g7, g10, g11, g12, g23, g61, g62, g63, hlg0, hlg1, ex21, ey22a, ey22b, ey22c, ey23a, ey23b, ey23c, ex24, ex74, ex74a, ex75, ex76, ey83a, ey83b, ey83c, em84a, em84s, ey85a, ey85b, ey85c, ex86]⟩
        obtain ⟨y77, ey77, h⟩ := bind_ok h
        obtain ⟨ey77a, ey77e, ey77b, ey77c, ey77g⟩ := gI_ok hlg0 ey77
        obtain ⟨m78, em78, h⟩ := bind_ok h
        obtain ⟨em78a, em78e, em78l, em78s, em78q⟩ := sI_ok iv hlg0 em78
        have hlg0 := em78l
        obtain ⟨y79, ey79, h⟩ := bind_ok h
        obtain ⟨ey79a, ey79e, ey79b, ey79c, ey79g⟩ := gI_ok hlg1 ey79
        obtain ⟨m80, em80, h⟩ := bind_ok h
        obtain ⟨em80a, em80e, em80l, em80s, em80q⟩ := sI_ok iv hlg1 em80
        have hlg1 := em80l
        obtain ⟨y81, ey81, h⟩ := bind_ok h
        obtain ⟨ey81a, ey81e, ey81b, ey81c, ey81g⟩ := gI_ok rfl ey81
        obtain ⟨x82, ex82, h⟩ := bindT h
        simp [g3, g4, g5, g7, g10, g11, g12, g23, g61, g62, g63, hlg0, hlg1, ex21, ey22a, ey22b, ey22c, ey23a, ey23b, ey23c, ex24, ex74, ex74a, ex75, ex76, ey77a, ey77b, ey77c, em78a, em78s, ey79a, ey79b, ey79c, em80a, em80s, ey81a, ey81b, ey81c, ex82]
        refine ih (y81, x82, m78, m80) _ ?_ h
        exact ⟨_, _, by simp [hw], rfl, by simp [g3, g4, g5, g7, g10, g11, g12, g23, g61, g62, g63, hlg0, hlg1, ex21, ey22a, ey22b, ey22c, ey23a, ey23b, ey23c, ex24, ex74, ex74a, ex75, ex76, ey77a, ey77b, ey77c, em78a, em78s, ey79a, ey79b, ey79c, em80a, em80s, ey81a, ey81b, ey81c, ex82]⟩
       obtain ⟨⟨c25, l26⟩, e27, h⟩ := bind_ok h
       try dsimp only at h
       have e27 : ∀ hp, E Tryd.prog Y0 51 [iv v17] hp = some (.l .own c25 l26.length (l26.map iv), hp, none) := fun hp => f51_is  e27
       obtain ⟨x28, ex28, h⟩ := bindT h
       simp [g3, g4, g5, g7, g10, g11, g12, g23, g61, g62, g63, hlg0, hlg1, ex21, ey22a, ey22b, ey22c, ey23a, ey23b, ey23c, ex24, e27, ex28]
       have hL2 := h; clear h
       refine loopS (S := f8_L2 F x1 v3 v18 m19 m20 y23 l26 x28) (fun v29 σ => ∃ (ts : Tr PV) (w : Option Nat), wok hp.length w ∧ σ = ⟨[], ts, hp ++ (some [kv .u8 p0a, kv .u8 p0b, kv .u8 p0c, kv .u8 p0d, kv .u8 p0e, kv .u8 p0f, kv .u8 p0g, kv .u8 p0h, kv .u8 p0i, kv .u8 p0j, kv .u8 p0k, kv .u8 p0l, kv .u8 p0m, kv .u8 p0n] :: (some [iv x1.1, .l .fz .nz x1.2.length (x1.2.map iv)] :: (G ++ [some (m19.map iv), some (m20.map iv)]))), w⟩ ∧ ts.get 3 = some (.p (hp.length + 1) 0) ∧ ts.get 4 = some (iv v3) ∧ ts.get 5 = some (.l .fz .nz x7.1.length (x7.1.map iv)) ∧ ts.get 7 = some (.l .fz c8 l9.length (l9.map iv)) ∧ ts.get 10 = some (.p (hp.length + (G.length + 1 + 1)) 0) ∧ ts.get 11 = some (.p (hp.length + (G.length + 1 + 1 + 1)) 0) ∧ ts.get 12 = some (iv v17) ∧ ts.get 13 = some (iv v18) ∧ ts.get 14 = some (iv y22) ∧ ts.get 15 = some (iv y23) ∧ ts.get 23 = some (iv v3) ∧ ts.get 61 = some (.l .fz .nz x1.2.length (x1.2.map iv)) ∧ ts.get 62 = some (iv x16) ∧ ts.get 63 = some (iv v18) ∧ ts.get 75 = some (.l .own c25 l26.length (l26.map iv)) ∧ ts.get 76 = some (iv x28) ∧ ts.get 77 = some (iv v29) ∧ m19.length = 6 ∧ m20.length = 6 ∧ True) (fun _ σ => ∃ (ts : Tr PV) (w : Option Nat), wok hp.length w ∧ σ = ⟨[], ts, hp ++ (some [kv .u8 p0a, kv .u8 p0b, kv .u8 p0c, kv .u8 p0d, kv .u8 p0e, kv .u8 p0f, kv .u8 p0g, kv .u8 p0h, kv .u8 p0i, kv .u8 p0j, kv .u8 p0k, kv .u8 p0l, kv .u8 p0m, kv .u8 p0n] :: (some [iv x1.1, .l .fz .nz x1.2.length (x1.2.map iv)] :: (G ++ [some (m19.map iv), some (m20.map iv)]))), w⟩ ∧ ts.get 3 = some (.p (hp.length + 1) 0) ∧ ts.get 4 = some (iv v3) ∧ ts.get 5 = some (.l .fz .nz x7.1.length (x7.1.map iv)) ∧ ts.get 7 = some (.l .fz c8 l9.length (l9.map iv)) ∧ ts.get 10 = some (.p (hp.length + (G.length + 1 + 1)) 0) ∧ ts.get 11 = some (.p (hp.length + (G.length + 1 + 1 + 1)) 0) ∧ ts.get 12 = some (iv v17) ∧ ts.get 13 = some (iv v18) ∧ ts.get 14 = some (iv y22) ∧ ts.get 23 = some (iv v3) ∧ ts.get 61 = some (.l .fz .nz x1.2.length (x1.2.map iv)) ∧ ts.get 62 = some (iv x16) ∧ ts.get 63 = some (iv v18) ∧ m19.length = 6 ∧ m20.length = 6 ∧ True) (fun _ => rfl) hL2 ?_ ?_ ?_
       · exact ⟨_, _, by simp [hw], rfl, by simp [g3, g4, g5, g7, g10, g11, g12, g23, g61, g62, g63, hlg0, hlg1, ex21, ey22a, ey22b, ey22c, ey23a, ey23b, ey23c, ex24, e27, ex28]⟩
       · rintro ⟨⟩ σ ⟨ts, w, hw, rfl, g3, g4, g5, g7, g10, g11, g12, g13, g14, g23, g61, g62, g63, hlg0, hlg1, -⟩ h
         clear hL2
         try dsimp only at h
         obtain ⟨x61, ex61, h⟩ := bind_ok h
         obtain ⟨ex61a, ex61⟩ := shrO_ok ex61
         obtain ⟨x62, ex62, h⟩ := bindT h
         obtain ⟨x63, ex63, h⟩ := bindT h
         cases x63
         case false =>
          obtain ⟨y70, ey70, h⟩ := bind_ok h
          obtain ⟨ey70a, ey70e, ey70b, ey70c, ey70g⟩ := gI_ok hlg1 ey70
          obtain ⟨m71, em71, h⟩ := bind_ok h
          obtain ⟨em71a, em71e, em71l, em71s, em71q⟩ := sI_ok iv hlg1 em71
          have hlg1 := em71l
          obtain ⟨y72, ey72, h⟩ := bind_ok h
          obtain ⟨ey72a, ey72e, ey72b, ey72c, ey72g⟩ := gI_ok rfl ey72
          obtain ⟨x73, ex73, h⟩ := bindT h
          simp [g3, g4, g5, g7, g10, g11, g12, g13, g14, g23, g61, g62, g63, hlg0, hlg1, ex61, ex61a, ex62, ex63, ey70a, ey70b, ey70c, em71a, em71s, ey72a, ey72b, ey72c, ex73]
          refine ih (y72, x73, m19, m71) _ ?_ h
          exact ⟨_, _, by simp [hw], rfl, by simp [g3, g4, g5, g7, g10, g11, g12, g13, g14, g23, g61, g62, g63, hlg0, hlg1, ex61, ex61a, ex62, ex63, ey70a, ey70b, ey70c, em71a, em71s, ey72a, ey72b, ey72c, ex73]⟩
         obtain ⟨y64, ey64, h⟩ := bind_ok h
         obtain ⟨ey64a, ey64e, ey64b, ey64c, ey64g⟩ := gI_ok hlg0 ey64
         obtain ⟨m65, em65, h⟩ := bind_ok h
         obtain ⟨em65a, em65e, em65l, em65s, em65q⟩ := sI_ok iv hlg0 em65
         have hlg0 := em65l
         obtain ⟨y66, ey66, h⟩ := bind_ok h
         obtain ⟨ey66a, ey66e, ey66b, ey66c, ey66g⟩ := gI_ok hlg1 ey66
         obtain ⟨m67, em67, h⟩ := bind_ok h
         obtain ⟨em67a, em67e, em67l, em67s, em67q⟩ := sI_ok iv hlg1 em67
         have hlg1 := em67l
         obtain ⟨y68, ey68, h⟩ := bind_ok h
         obtain ⟨ey68a, ey68e, ey68b, ey68c, ey68g⟩ := gI_ok rfl ey68
         obtain ⟨x69, ex69, h⟩ := bindT h
         simp [g3, g4, g5, g7, g10, g11, g12, g13, g14, g23, g61, g62, g63, hlg0, hlg1, ex61, ex61a, ex62, ex63, ey64a, ey64b, ey64c, em65a, em65s, ey66a, ey66b, ey66c, em67a, em67s, ey68a, ey68b, ey68c, ex69]
         refine ih (y68, x69, m65, m67) _ ?_ h
         exact ⟨_, _, by simp [hw], rfl, by simp [g3, g4, g5, g7, g10, g11, g12, g13, g14, g23, g61, g62, g63, hlg0, hlg1, ex61, ex61a, ex62, ex63, ey64a, ey64b, ey64c, em65a, em65s, ey66a, ey66b, ey66c, em67a, em67s, ey68a, ey68b, ey68c, ex69]⟩
       · rintro k n v29 σ ⟨ts, w, hw, rfl, g3, g4, g5, g7, g10, g11, g12, g13, g14, g15, g23, g61, g62, g63, g75, g76, g77, hlg0, hlg1, -⟩ h ih ex
         clear hL2
         rw [f8_L2] at h
         obtain ⟨x30, ex30, h⟩ := bindT h
         cases x30
         case false =>
          simp [g3, g4, g5, g7, g10, g11, g12, g13, g14, g15, g23, g61, g62, g63, g75, g76, g77, hlg0, hlg1, ex30]
          refine ex () _ ?_ h
          exact ⟨_, _, by simp [hw], rfl, by simp [g3, g4, g5, g7, g10, g11, g12, g13, g14, g15, g23, g61, g62, g63, g75, g76, g77, hlg0, hlg1, ex30]⟩
         obtain ⟨y31, ey31, h⟩ := bind_ok h
         obtain ⟨ey31a, ey31e, ey31b, ey31c, ey31g⟩ := gI_ok rfl ey31
         obtain ⟨x32, ex32, h⟩ := bindT h
         cases x32
         case false =>
          obtain ⟨x50, ex50, h⟩ := bindT h
          cases x50
          case true =>
           obtain ⟨y51, ey51, h⟩ := bind_ok h
           obtain ⟨ey51a, ey51e, ey51b, ey51c, ey51g⟩ := gI_ok hlg0 ey51
           obtain ⟨y52, ey52, h⟩ := bind_ok h
           obtain ⟨ey52a, ey52e, ey52b, ey52c, ey52g⟩ := gI_ok hlg0 ey52
           obtain ⟨x53, ex53, h⟩ := bindT h
           cases x53
           case true =>
            obtain rfl := inj_ok h
            simp [g3, g4, g5, g7, g10, g11, g12, g13, g14, g15, g23, g61, g62, g63, g75, g76, g77, hlg0, hlg1, ex30, ey31a, ey31b, ey31c, ex32, ex50, ey51a, ey51b, ey51c, ey52a, ey52b, ey52c, ex53, hw]
           obtain ⟨x54, ex54, h⟩ := bindT h
           simp [g3, g4, g5, g7, g10, g11, g12, g13, g14, g15, g23, g61, g62, g63, g75, g76, g77, hlg0, hlg1, ex30, ey31a, ey31b, ey31c, ex32, ex50, ey51a, ey51b, ey51c, ey52a, ey52b, ey52c, ex53, ex54]
           refine ih x54 _ ?_ h
           exact ⟨_, _, by simp [hw], rfl, by simp [g3, g4, g5, g7, g10, g11, g12, g13, g14, g15, g23, g61, g62, g63, g75, g76, g77, hlg0, hlg1, ex30, ey31a, ey31b, ey31c, ex32, ex50, ey51a, ey51b, ey51c, ey52a, ey52b, ey52c, ex53, ex54]⟩
          obtain ⟨x55, ex55, h⟩ := bindT h
          cases x55
          case false =>
           obtain ⟨x60, ex60, h⟩ := bindT h
           simp [g3, g4, g5, g7, g10, g11, g12, g13, g14, g15, g23, g61, g62, g63, g75, g76, g77, hlg0, hlg1, ex30, ey31a, ey31b, ey31c, ex32, ex50, ex55, ex60]
           refine ih x60 _ ?_ h
           exact ⟨_, _, by simp [hw], rfl, by simp [g3, g4, g5, g7, g10, g11, g12, g13, g14, g15, g23, g61, g62, g63, g75, g76, g77, hlg0, hlg1, ex30, ey31a, ey31b, ey31c, ex32, ex50, ex55, ex60]⟩
          obtain ⟨y56, ey56, h⟩ := bind_ok h
          obtain ⟨ey56a, ey56e, ey56b, ey56c, ey56g⟩ := gI_ok hlg1 ey56
          obtain ⟨y57, ey57, h⟩ := bind_ok h
          obtain ⟨ey57a, ey57e, ey57b, ey57c, ey57g⟩ := gI_ok hlg1 ey57
          obtain ⟨x58, ex58, h⟩ := bindT h
          cases x58
          case true =>
           obtain rfl := inj_ok h
           simp [g3, g4, g5, g7, g10, g11, g12, g13, g14, g15, g23, g61, g62, g63, g75, g76, g77, hlg0, hlg1, ex30, ey31a, ey31b, ey31c, ex32, ex50, ex55, ey56a, ey56b, ey56c, ey57a, ey57b, ey57c, ex58, hw]
          obtain ⟨x59, ex59, h⟩ := bindT h
          simp [g3, g4, g5, g7, g10, g11, g12, g13, g14, g15, g23, g61, g62, g63, g75, g76, g77, hlg0, hlg1, ex30, ey31a, ey31b, ey31c, ex32, ex50, ex55, ey56a, ey56b, ey56c, ey57a, ey57b, ey57c, ex58, ex59]
          refine ih x59 _ ?_ h
          exact ⟨_, _, by simp [hw], rfl, by simp [g3, g4, g5, g7, g10, g11, g12, g13, g14, g15, g23, g61, g62, g63, g75, g76, g77, hlg0, hlg1, ex30, ey31a, ey31b, ey31c, ex32, ex50, ex55, ey56a, ey56b, ey56c, ey57a, ey57b, ey57c, ex58, ex59]⟩
         obtain ⟨x33, ex33, h⟩ := bind_ok h
         have ex33 := pslice_drop (t := 22) (k := .fz) (c := .nz) iv shape22 rfl ex33
         obtain ⟨x34, e35, h⟩ := bind_ok h
         have e35 : ∀ hp, E Tryd.prog Y0 52 [.l .fz (dpC .nz) x33.length (x33.map iv), iv y31] hp = some (iv x34, hp, none) := fun hp => f52_is (a0 := false) (c0 := (dpC .nz)) e35
         obtain ⟨x36, e37, h⟩ := bind_ok h
         have e37 : ∀ hp, E Tryd.prog Y0 52 [.l .fz (dpC .nz) x33.length (x33.map iv), iv y23] hp = some (iv x36, hp, none) := fun hp => f52_is (a0 := false) (c0 := (dpC .nz)) e37
         obtain ⟨x38, ex38, h⟩ := bindT h
         cases x38
         case true =>
          obtain ⟨x39, ex39, h⟩ := bindT h
          cases x39
          case true =>
           obtain rfl := inj_ok h
           simp [g3, g4, g5, g7, g10, g11, g12, g13, g14, g15, g23, g61, g62, g63, g75, g76, g77, hlg0, hlg1, ex30, ey31a, ey31b, ey31c, ex32, ex33, prt_ak, e35, e37, ex38, ex39, hw]
          obtain ⟨x40, ex40, h⟩ := bindT h
          cases x40
          case true =>
           obtain rfl := inj_ok h
           simp [g3, g4, g5, g7, g10, g11, g12, g13, g14, g15, g23, g61, g62, g63, g75, g76, g77, hlg0, hlg1, ex30, ey31a, ey31b, ey31c, ex32, ex33, prt_ak, e35, e37, ex38, ex39, ex40, hw]
          obtain ⟨x41, ex41, h⟩ := bindT h
          cases x41
          case true =>
           obtain ⟨x42, ex42, h⟩ := bindT h
           simp [g3, g4, g5, g7, g10, g11, g12, g13, g14, g15, g23, g61, g62, g63, g75, g76, g77, hlg0, hlg1, ex30, ey31a, ey31b, ey31c, ex32, ex33, prt_ak, e35, e37, ex38, ex39, ex40, ex41, ex42]
           refine ih x42 _ ?_ h
           exact ⟨_, _, by simp [hw], rfl, by simp [g3, g4, g5, g7, g10, g11, g12, g13, g14, g15, g23, g61, g62, g63, g75, g76, g77, hlg0, hlg1, ex30, ey31a, ey31b, ey31c, ex32, ex33, prt_ak, e35, e37, ex38, ex39, ex40, ex41, ex42]⟩
          obtain ⟨x43, ex43, h⟩ := bindT h
          simp [g3, g4, g5, g7, g10, g11, g12, g13, g14, g15, g23, g61, g62, g63, g75, g76, g77, hlg0, hlg1, ex30, ey31a, ey31b, ey31c, ex32, ex33, prt_ak, e35, e37, ex38, ex39, ex40, ex41, ex43]
          refine ih x43 _ ?_ h
          exact ⟨_, _, by simp [hw], rfl, by simp [g3, g4, g5, g7, g10, g11, g12, g13, g14, g15, g23, g61, g62, g63, g75, g76, g77, hlg0, hlg1, ex30, ey31a, ey31b, ey31c, ex32, ex33, prt_ak, e35, e37, ex38, ex39, ex40, ex41, ex43]⟩
         obtain ⟨x44, ex44, h⟩ := bindT h
         cases x44
         case false =>
          obtain ⟨x49, ex49, h⟩ := bindT h
          simp [g3, g4, g5, g7, g10, g11, g12, g13, g14, g15, g23, g61, g62, g63, g75, g76, g77, hlg0, hlg1, ex30, ey31a, ey31b, ey31c, ex32, ex33, prt_ak, e35, e37, ex38, ex44, ex49]
          refine ih x49 _ ?_ h
          exact ⟨_, _, by simp [hw], rfl, by simp [g3, g4, g5, g7, g10, g11, g12, g13, g14, g15, g23, g61, g62, g63, g75, g76, g77, hlg0, hlg1, ex30, ey31a, ey31b, ey31c, ex32, ex33, prt_ak, e35, e37, ex38, ex44, ex49]⟩
         obtain ⟨x45, ex45, h⟩ := bindT h
         cases x45
         case false =>
          obtain ⟨x48, ex48, h⟩ := bindT h
          simp [g3, g4, g5, g7, g10, g11, g12, g13, g14, g15, g23, g61, g62, g63, g75, g76, g77, hlg0, hlg1, ex30, ey31a, ey31b, ey31c, ex32, ex33, prt_ak, e35, e37, ex38, ex44, ex45, ex48]
          refine ih x48 _ ?_ h
          exact ⟨_, _, by simp [hw], rfl, by simp [g3, g4, g5, g7, g10, g11, g12, g13, g14, g15, g23, g61, g62, g63, g75, g76, g77, hlg0, hlg1, ex30, ey31a, ey31b, ey31c, ex32, ex33, prt_ak, e35, e37, ex38, ex44, ex45, ex48]⟩
         obtain ⟨x46, ex46, h⟩ := bindT h
         cases x46
         case true =>
          obtain rfl := inj_ok h
          simp [g3, g4, g5, g7, g10, g11, g12, g13, g14, g15, g23, g61, g62, g63, g75, g76, g77, hlg0, hlg1, ex30, ey31a, ey31b, ey31c, ex32, ex33, prt_ak, e35, e37, ex38, ex44, ex45, ex46, hw]
         obtain ⟨x47, ex47, h⟩ := bindT h
         simp [g3, g4, g5, g7, g10, g11, g12, g13, g14, g15, g23, g61, g62, g63, g75, g76, g77, hlg0, hlg1, ex30, ey31a, ey31b, ey31c, ex32, ex33, prt_ak, e35, e37, ex38, ex44, ex45, ex46, ex47]
         refine ih x47 _ ?_ h
         exact ⟨_, _, by simp [hw], rfl, by simp [g3, g4, g5, g7, g10, g11, g12, g13, g14, g15, g23, g61, g62, g63, g75, g76, g77, hlg0, hlg1, ex30, ey31a, ey31b, ey31c, ex32, ex33, prt_ak, e35, e37, ex38, ex44, ex45, ex46, ex47]⟩
    obtain ⟨x90, ex90, h⟩ := bindT h
    cases x90
    case false =>
     obtain ⟨⟨⟨c174, l175⟩, x176, b177⟩, e178, h⟩ := bind_ok h
     try dsimp only at h
     have e178 : ∀ hp, E Tryd.prog Y0 50 [.a [iv x1.1, .l .fz .nz x1.2.length (x1.2.map iv)], .l .fz .nz x5.1.length (x5.1.map iv)] hp = some (.t [.l .fz c174 l175.length (l175.map iv), iv x176, .v (.bool b177)], hp, none) := fun hp => f50_is (c0b := .nz) (a1 := false) (c1 := .nz) e178
     obtain ⟨x179, ex179, h⟩ := bindT h
     cases x179
     case false =>
      obtain rfl := inj_ok h
      simp [g3, g23, ex4, ex5, ex6, ex90, e178, ex179, hw]
     cases b177
     case false =>
      obtain rfl := inj_ok h
      simp [g3, g23, ex4, ex5, ex6, ex90, e178, ex179, hw]
     have q180 : spliceP 0 [iv 0, iv 0, iv 0, iv 0, iv 0, iv 0] [iv 0, iv 0, iv 0, iv 0, iv 0, iv 0] = some [iv 0, iv 0, iv 0, iv 0, iv 0, iv 0] := rfl
     have q181 : spliceP 0 [iv 0, iv 0, iv 0, iv 0, iv 0, iv 0] [iv 0, iv 0, iv 0, iv 0, iv 0, iv 0] = some [iv 0, iv 0, iv 0, iv 0, iv 0, iv 0] := rfl
     obtain ⟨x182, ex182, h⟩ := bindT h
     simp [g3, g23, ex4, ex5, ex6, ex90, e178, ex179, q180, q181, ex182]
     have hL5 := h; clear h
     refine loopS (S := f8_L5 F x1 v3 x5 l175 x182) (fun (v183, v184, m185, m186) σ => ∃ (ts : Tr PV) (w : Option Nat), wok hp.length w ∧ σ = ⟨[], ts, hp ++ (some [kv .u8 p0a, kv .u8 p0b, kv .u8 p0c, kv .u8 p0d, kv .u8 p0e, kv .u8 p0f, kv .u8 p0g, kv .u8 p0h, kv .u8 p0i, kv .u8 p0j, kv .u8 p0k, kv .u8 p0l, kv .u8 p0m, kv .u8 p0n] :: (some [iv x1.1, .l .fz .nz x1.2.length (x1.2.map iv)] :: (G ++ [some (m185.map iv), some (m186.map iv)]))), w⟩ ∧ ts.get 3 = some (.p (hp.length + 1) 0) ∧ ts.get 4 = some (iv v3) ∧ ts.get 5 = some (.l .fz .nz x5.1.length (x5.1.map iv)) ∧ ts.get 7 = some (.l .fz c174 l175.length (l175.map iv)) ∧ ts.get 10 = some (.p (hp.length + (G.length + 1 + 1)) 0) ∧ ts.get 11 = some (.p (hp.length + (G.length + 1 + 1 + 1)) 0) ∧ ts.get 12 = some (iv v183) ∧ ts.get 23 = some (iv v3) ∧ ts.get 61 = some (.l .fz .nz x1.2.length (x1.2.map iv)) ∧ ts.get 62 = some (iv x182) ∧ ts.get 63 = some (iv v184) ∧ m185.length = 6 ∧ m186.length = 6 ∧ True) (fun (m253, m254) σ => ∃ (ts : Tr PV) (w : Option Nat), wok hp.length w ∧ σ = ⟨[], ts, hp ++ (some [kv .u8 p0a, kv .u8 p0b, kv .u8 p0c, kv .u8 p0d, kv .u8 p0e, kv .u8 p0f, kv .u8 p0g, kv .u8 p0h, kv .u8 p0i, kv .u8 p0j, kv .u8 p0k, kv .u8 p0l, kv .u8 p0m, kv .u8 p0n] :: (some [iv x1.1, .l .fz .nz x1.2.length (x1.2.map iv)] :: (G ++ [some (m253.map iv), some (m254.map iv)]))), w⟩ ∧ ts.get 3 = some (.p (hp.length + 1) 0) ∧ ts.get 23 = some (iv v3) ∧ m253.length = 6 ∧ m254.length = 6 ∧ True) (fun _ => rfl) hL5 ?_ ?_ ?_
     · exact ⟨_, _, by simp [hw], rfl, by simp [g3, g23, ex4, ex5, ex6, ex90, e178, ex179, q180, q181, ex182]⟩
     · rintro ⟨m253, m254⟩ σ ⟨ts, w, hw, rfl, g3, g23, hlg0, hlg1, -⟩ h
       clear hL5
       try dsimp only at h
       obtain ⟨x255, ex255, h⟩ := bindT h
       simp [g3, g23, hlg0, hlg1, ex255]
       refine ih x255 _ ?_ h
       exact ⟨_, _, _, by simp [hw], rfl, ⟨_, rfl⟩, by simp [g3, g23, hlg0, hlg1, ex255]⟩
     · rintro k n ⟨v183, v184, m185, m186⟩ σ ⟨ts, w, hw, rfl, g3, g4, g5, g7, g10, g11, g12, g23, g61, g62, g63, hlg0, hlg1, -⟩ h ih ex
       clear hL5
       rw [f8_L5] at h
       obtain ⟨x187, ex187, h⟩ := bindT h
       cases x187
       case false =>
        simp [g3, g4, g5, g7, g10, g11, g12, g23, g61, g62, g63, hlg0, hlg1, ex187]
        refine ex (m185, m186) _ ?_ h
        exact ⟨_, _, by simp [hw], rfl, by simp [g3, g4, g5, g7, g10, g11, g12, g23, g61, g62, g63, hlg0, hlg1, ex187]⟩
       obtain ⟨y188, ey188, h⟩ := bind_ok h
       obtain ⟨ey188a, ey188e, ey188b, ey188c, ey188g⟩ := gI_ok rfl ey188
       obtain ⟨y189, ey189, h⟩ := bind_ok h
       obtain ⟨ey189a, ey189e, ey189b, ey189c, ey189g⟩ := gI_ok rfl ey189
       obtain ⟨x190, ex190, h⟩ := bindT h
       cases x190
       case false =>
        obtain ⟨x240, ex240, h⟩ := bind_ok h
        obtain ⟨ex240a, ex240⟩ := shrO_ok ex240
        obtain ⟨x241, ex241, h⟩ := bindT h
        obtain ⟨x242, ex242, h⟩ := bindT h
        cases x242
        case false =>
         obtain ⟨y249, ey249, h⟩ := bind_ok h
         obtain ⟨ey249a, ey249e, ey249b, ey249c, ey249g⟩ := gI_ok hlg1 ey249
         obtain ⟨m250, em250, h⟩ := bind_ok h
         obtain ⟨em250a, em250e, em250l, em250s, em250q⟩ := sI_ok iv hlg1 em250
         have hlg1 := em250l
         obtain ⟨y251, ey251, h⟩ := bind_ok h
         obtain ⟨ey251a, ey251e, ey251b, ey251c, ey251g⟩ := gI_ok rfl ey251
         obtain ⟨x252, ex252, h⟩ := bindT h
         simp [g3, g4, g5, g7, g10, g11, g12, g23, g61, g62, g63, hlg0, hlg1, ex187, ey188a, ey188b, ey188c, ey189a, ey189b, ey189c, ex190, ex240, ex240a, ex241, ex242, ey249a, ey249b, ey249c, em250a, em250s, ey251a, ey251b, ey251c, ex252]
         refine ih (y251, x252, m185, m250) _ ?_ h
         exact ⟨_, _, by simp [hw], rfl, by simp [g3, g4, g5, g7, g10, g11, g12, g23, g61, g62, g63, hlg0, hlg1, ex187, ey188a, ey188b, ey188c, ey189a, ey189b, ey189c, ex190, ex240, ex240a, ex241, ex242, ey249a, ey249b, ey249c, em250a, em250s, ey251a, ey251b, ey251c, ex252]⟩
        obtain ⟨y243, ey243, h⟩ := bind_ok h
        obtain ⟨ey243a, ey243e, ey243b, ey243c, ey243g⟩ := gI_ok hlg0 ey243
        obtain ⟨m244, em244, h⟩ := bind_ok h
        obtain ⟨em244a, em244e, em244l, em244s, em244q⟩ := sI_ok iv hlg0 em244
        have hlg0 := em244l
        obtain ⟨y245, ey245, h⟩ := bind_ok h
        obtain ⟨ey245a, ey245e, ey245b, ey245c, ey245g⟩ := gI_ok hlg1 ey245
        obtain ⟨m246, em246, h⟩ := bind_ok h
        obtain ⟨em246a, em246e, em246l, em246s, em246q⟩ := sI_ok iv hlg1 em246
        have hlg1 := em246l
        obtain ⟨y247, ey247, h⟩ := bind_ok h
        obtain ⟨ey247a, ey247e, ey247b, ey247c, ey247g⟩ := gI_ok rfl ey247
        obtain ⟨x248, ex248, h⟩ := bindT h
        simp [g3, g4, g5, g7, g10, g11, g12, g23, g61, g62, g63, hlg0, hlg1, ex187, ey188a, ey188b, ey188c, ey189a, ey189b, ey189c, ex190, ex240, ex240a, ex241, ex242, ey243a, ey243b, ey243c, em244a, em244s, ey245a, ey245b, ey245c, em246a, em246s, ey247a, ey247b, ey247c, ex248]
        refine ih (y247, x248, m244, m246) _ ?_ h
        exact ⟨_, _, by simp [hw], rfl, by simp [g3, g4, g5, g7, g10, g11, g12, g23, g61, g62, g63, hlg0, hlg1, ex187, ey188a, ey188b, ey188c, ey189a, ey189b, ey189c, ex190, ex240, ex240a, ex241, ex242, ey243a, ey243b, ey243c, em244a, em244s, ey245a, ey245b, ey245c, em246a, em246s, ey247a, ey247b, ey247c, ex248]⟩
       obtain ⟨⟨c191, l192⟩, e193, h⟩ := bind_ok h
       try dsimp only at h
       have e193 : ∀ hp, E Tryd.prog Y0 51 [iv v183] hp = some (.l .own c191 l192.length (l192.map iv), hp, none) := fun hp => f51_is  e193
       obtain ⟨x194, ex194, h⟩ := bindT h
       simp [g3, g4, g5, g7, g10, g11, g12, g23, g61, g62, g63, hlg0, hlg1, ex187, ey188a, ey188b, ey188c, ey189a, ey189b, ey189c, ex190, e193, ex194]
       have hL6 := h; clear h
       refine loopS (S := f8_L6 F x1 v3 v184 m185 m186 y189 l192 x194) (fun v195 σ => ∃ (ts : Tr PV) (w : Option Nat), wok hp.length w ∧ σ = ⟨[], ts, hp ++ (some [kv .u8 p0a, kv .u8 p0b, kv .u8 p0c, kv .u8 p0d, kv .u8 p0e, kv .u8 p0f, kv .u8 p0g, kv .u8 p0h, kv .u8 p0i, kv .u8 p0j, kv .u8 p0k, kv .u8 p0l, kv .u8 p0m, kv .u8 p0n] :: (some [iv x1.1, .l .fz .nz x1.2.length (x1.2.map iv)] :: (G ++ [some (m185.map iv), some (m186.map iv)]))), w⟩ ∧ ts.get 3 = some (.p (hp.length + 1) 0) ∧ ts.get 4 = some (iv v3) ∧ ts.get 5 = some (.l .fz .nz x5.1.length (x5.1.map iv)) ∧ ts.get 7 = some (.l .fz c174 l175.length (l175.map iv)) ∧ ts.get 10 = some (.p (hp.length + (G.length + 1 + 1)) 0) ∧ ts.get 11 = some (.p (hp.length + (G.length + 1 + 1 + 1)) 0) ∧ ts.get 12 = some (iv v183) ∧ ts.get 13 = some (iv v184) ∧ ts.get 14 = some (iv y188) ∧ ts.get 15 = some (iv y189) ∧ ts.get 23 = some (iv v3) ∧ ts.get 61 = some (.l .fz .nz x1.2.length (x1.2.map iv)) ∧ ts.get 62 = some (iv x182) ∧ ts.get 63 = some (iv v184) ∧ ts.get 75 = some (.l .own c191 l192.length (l192.map iv)) ∧ ts.get 76 = some (iv x194) ∧ ts.get 77 = some (iv v195) ∧ m185.length = 6 ∧ m186.length = 6 ∧ True) (fun _ σ => ∃ (ts : Tr PV) (w : Option Nat), wok hp.length w ∧ σ = ⟨[], ts, hp ++ (some [kv .u8 p0a, kv .u8 p0b, kv .u8 p0c, kv .u8 p0d, kv .u8 p0e, kv .u8 p0f, kv .u8 p0g, kv .u8 p0h, kv .u8 p0i, kv .u8 p0j, kv .u8 p0k, kv .u8 p0l, kv .u8 p0m, kv .u8 p0n] :: (some [iv x1.1, .l .fz .nz x1.2.length (x1.2.map iv)] :: (G ++ [some (m185.map iv), some (m186.map iv)]))), w⟩ ∧ ts.get 3 = some (.p (hp.length + 1) 0) ∧ ts.get 4 = some (iv v3) ∧ ts.get 5 = some (.l .fz .nz x5.1.length (x5.1.map iv)) ∧ ts.get 7 = some (.l .fz c174 l175.length (l175.map iv)) ∧ ts.get 10 = some (.p (hp.length + (G.length + 1 + 1)) 0) ∧ ts.get 11 = some (.p (hp.length + (G.length + 1 + 1 + 1)) 0) ∧ ts.get 12 = some (iv v183) ∧ ts.get 13 = some (iv v184) ∧ ts.get 14 = some (iv y188) ∧ ts.get 23 = some (iv v3) ∧ ts.get 61 = some (.l .fz .nz x1.2.length (x1.2.map iv)) ∧ ts.get 62 = some (iv x182) ∧ ts.get 63 = some (iv v184) ∧ m185.length = 6 ∧ m186.length = 6 ∧ True) (fun _ => rfl) hL6 ?_ ?_ ?_
       · exact ⟨_, _, by simp [hw], rfl, by simp [g3, g4, g5, g7, g10, g11, g12, g23, g61, g62, g63, hlg0, hlg1, ex187, ey188a, ey188b, ey188c, ey189a, ey189b, ey189c, ex190, e193, ex194]⟩
       · rintro ⟨⟩ σ ⟨ts, w, hw, rfl, g3, g4, g5, g7, g10, g11, g12, g13, g14, g23, g61, g62, g63, hlg0, hlg1, -⟩ h
         clear hL6
         try dsimp only at h
         obtain ⟨x227, ex227, h⟩ := bind_ok h
         obtain ⟨ex227a, ex227⟩ := shrO_ok ex227
         obtain ⟨x228, ex228, h⟩ := bindT h
         obtain ⟨x229, ex229, h⟩ := bindT h
         cases x229
         case false =>
          obtain ⟨y236, ey236, h⟩ := bind_ok h
          obtain ⟨ey236a, ey236e, ey236b, ey236c, ey236g⟩ := gI_ok hlg1 ey236
          obtain ⟨m237, em237, h⟩ := bind_ok h
          obtain ⟨em237a, em237e, em237l, em237s, em237q⟩ := sI_ok iv hlg1 em237
          have hlg1 := em237l
          obtain ⟨y238, ey238, h⟩ := bind_ok h
          obtain ⟨ey238a, ey238e, ey238b, ey238c, ey238g⟩ := gI_ok rfl ey238
          obtain ⟨x239, ex239, h⟩ := bindT h
          simp [g3, g4, g5, g7, g10, g11, g12, g13, g14, g23, g61, g62, g63, hlg0, hlg1, ex227, ex227a, ex228, ex229, ey236a, ey236b, ey236c, em237a, em237s, ey238a, ey238b, ey238c, ex239]
          refine ih (y238, x239, m185, m237) _ ?_ h
          exact ⟨_, _, by simp [hw], rfl, by simp [g3, g4, g5, g7, g10, g11, g12, g13, g14, g23, g61, g62, g63, hlg0, hlg1, ex227, ex227a, ex228, ex229, ey236a, ey236b, ey236c, em237a, em237s, ey238a, ey238b, ey238c, ex239]⟩
         obtain ⟨y230, ey230, h⟩ := bind_ok h
         obtain ⟨ey230a, ey230e, ey230b, ey230c, ey230g⟩ := gI_ok hlg0 ey230
         obtain ⟨m231, em231, h⟩ := bind_ok h
         obtain ⟨em231a, em231e, em231l, em231s, em231q⟩ := sI_ok iv hlg0 em231
         have hlg0 := em231l
         obtain ⟨y232, ey232, h⟩ := bind_ok h
         obtain ⟨ey232a, ey232e, ey232b, ey232c, ey232g⟩ := gI_ok hlg1 ey232
         obtain ⟨m233, em233, h⟩ := bind_ok h
         obtain ⟨em233a, em233e, em233l, em233s, em233q⟩ := sI_ok iv hlg1 em233
         have hlg1 := em233l
         obtain ⟨y234, ey234, h⟩ := bind_ok h
         obtain ⟨ey234a, ey234e, ey234b, ey234c, ey234g⟩ := gI_ok rfl ey234
         obtain ⟨x235, ex235, h⟩ := bindT h
         simp [g3, g4, g5, g7, g10, g11, g12, g13, g14, g23, g61, g62, g63, hlg0, hlg1, ex227, ex227a, ex228, ex229, ey230a, ey230b, ey230c, em231a, em231s, ey232a, ey232b, ey232c, em233a, em233s, ey234a, ey234b, ey234c, ex235]
         refine ih (y234, x235, m231, m233) _ ?_ h
         exact ⟨_, _, by simp [hw], rfl, by simp [g3, g4, g5, g7, g10, g11, g12, g13, g14, g23, g61, g62, g63, hlg0, hlg1, ex227, ex227a, ex228, ex229, ey230a, ey230b, ey230c, em231a, em231s, ey232a, ey232b, ey232c, em233a, em233s, ey234a, ey234b, ey234c, ex235]⟩
       · rintro k n v195 σ ⟨ts, w, hw, rfl, g3, g4, g5, g7, g10, g11, g12, g13, g14, g15, g23, g61, g62, g63, g75, g76, g77, hlg0, hlg1, -⟩ h ih ex
         clear hL6
         rw [f8_L6] at h
         obtain ⟨x196, ex196, h⟩ := bindT h
         cases x196
         case false =>
          simp [g3, g4, g5, g7, g10, g11, g12, g13, g14, g15, g23, g61, g62, g63, g75, g76, g77, hlg0, hlg1, ex196]
          refine ex () _ ?_ h
          exact ⟨_, _, by simp [hw], rfl, by simp [g3, g4, g5, g7, g10, g11, g12, g13, g14, g15, g23, g61, g62, g63, g75, g76, g77, hlg0, hlg1, ex196]⟩
         obtain ⟨y197, ey197, h⟩ := bind_ok h
         obtain ⟨ey197a, ey197e, ey197b, ey197c, ey197g⟩ := gI_ok rfl ey197
         obtain ⟨x198, ex198, h⟩ := bindT h
         cases x198
         case false =>
          obtain ⟨x216, ex216, h⟩ := bindT h
          cases x216
          case true =>
           obtain ⟨y217, ey217, h⟩ := bind_ok h
           obtain ⟨ey217a, ey217e, ey217b, ey217c, ey217g⟩ := gI_ok hlg0 ey217
           obtain ⟨y218, ey218, h⟩ := bind_ok h
           obtain ⟨ey218a, ey218e, ey218b, ey218c, ey218g⟩ := gI_ok hlg0 ey218
           obtain ⟨x219, ex219, h⟩ := bindT h
           cases x219
           case true =>
            obtain rfl := inj_ok h
            simp [g3, g4, g5, g7, g10, g11, g12, g13, g14, g15, g23, g61, g62, g63, g75, g76, g77, hlg0, hlg1, ex196, ey197a, ey197b, ey197c, ex198, ex216, ey217a, ey217b, ey217c, ey218a, ey218b, ey218c, ex219, hw]
           obtain ⟨x220, ex220, h⟩ := bindT h
           simp [g3, g4, g5, g7, g10, g11, g12, g13, g14, g15, g23, g61, g62, g63, g75, g76, g77, hlg0, hlg1, ex196, ey197a, ey197b, ey197c, ex198, ex216, ey217a, ey217b, ey217c, ey218a, ey218b, ey218c, ex219, ex220]
           refine ih x220 _ ?_ h
           exact ⟨_, _, by simp [hw], rfl, by simp [g3, g4, g5, g7, g10, g11, g12, g13, g14, g15, g23, g61, g62, g63, g75, g76, g77, hlg0, hlg1, ex196, ey197a, ey197b, ey197c, ex198, ex216, ey217a, ey217b, ey217c, ey218a, ey218b, ey218c, ex219, ex220]⟩
          obtain ⟨x221, ex221, h⟩ := bindT h
          cases x221
          case false =>
           obtain ⟨x226, ex226, h⟩ := bindT h
           simp [g3, g4, g5, g7, g10, g11, g12, g13, g14, g15, g23, g61, g62, g63, g75, g76, g77, hlg0, hlg1, ex196, ey197a, ey197b, ey197c, ex198, ex216, ex221, ex226]
           refine ih x226 _ ?_ h
           exact ⟨_, _, by simp [hw], rfl, by simp [g3, g4, g5, g7, g10, g11, g12, g13, g14, g15, g23, g61, g62, g63, g75, g76, g77, hlg0, hlg1, ex196, ey197a, ey197b, ey197c, ex198, ex216, ex221, ex226]⟩
          obtain ⟨y222, ey222, h⟩ := bind_ok h
          obtain ⟨ey222a, ey222e, ey222b, ey222c, ey222g⟩ := gI_ok hlg1 ey222
          obtain ⟨y223, ey223, h⟩ := bind_ok h
          obtain ⟨ey223a, ey223e, ey223b, ey223c, ey223g⟩ := gI_ok hlg1 ey223
          obtain ⟨x224, ex224, h⟩ := bindT h
          cases x224
          case true =>
           obtain rfl := inj_ok h
           simp [g3, g4, g5, g7, g10, g11, g12, g13, g14, g15, g23, g61, g62, g63, g75, g76, g77, hlg0, hlg1, ex196, ey197a, ey197b, ey197c, ex198, ex216, ex221, ey222a, ey222b, ey222c, ey223a, ey223b, ey223c, ex224, hw]
          obtain ⟨x225, ex225, h⟩ := bindT h
          simp [g3, g4, g5, g7, g10, g11, g12, g13, g14, g15, g23, g61, g62, g63, g75, g76, g77, hlg0, hlg1, ex196, ey197a, ey197b, ey197c, ex198, ex216, ex221, ey222a, ey222b, ey222c, ey223a, ey223b, ey223c, ex224, ex225]
          refine ih x225 _ ?_ h
          exact ⟨_, _, by simp [hw], rfl, by simp [g3, g4, g5, g7, g10, g11, g12, g13, g14, g15, g23, g61, g62, g63, g75, g76, g77, hlg0, hlg1, ex196, ey197a, ey197b, ey197c, ex198, ex216, ex221, ey222a, ey222b, ey222c, ey223a, ey223b, ey223c, ex224, ex225]⟩
         obtain ⟨x199, ex199, h⟩ := bind_ok h
         have ex199 := pslice_drop (t := 22) (k := .fz) (c := .nz) iv shape22 rfl ex199
         obtain ⟨x200, e201, h⟩ := bind_ok h
         have e201 : ∀ hp, E Tryd.prog Y0 52 [.l .fz (dpC .nz) x199.length (x199.map iv), iv y197] hp = some (iv x200, hp, none) := fun hp => f52_is (a0 := false) (c0 := (dpC .nz)) e201
         obtain ⟨x202, e203, h⟩ := bind_ok h
         have e203 : ∀ hp, E Tryd.prog Y0 52 [.l .fz (dpC .nz) x199.length (x199.map iv), iv y189] hp = some (iv x202, hp, none) := fun hp => f52_is (a0 := false) (c0 := (dpC .nz)) e203
         obtain ⟨x204, ex204, h⟩ := bindT h
         cases x204
         case true =>
          obtain ⟨x205, ex205, h⟩ := bindT h
          cases x205
          case true =>
           obtain rfl := inj_ok h
           simp [g3, g4, g5, g7, g10, g11, g12, g13, g14, g15, g23, g61, g62, g63, g75, g76, g77, hlg0, hlg1, ex196, ey197a, ey197b, ey197c, ex198, ex199, prt_ak, e201, e203, ex204, ex205, hw]
          obtain ⟨x206, ex206, h⟩ := bindT h
          cases x206
          case true =>
           obtain rfl := inj_ok h
           simp [g3, g4, g5, g7, g10, g11, g12, g13, g14, g15, g23, g61, g62, g63, g75, g76, g77, hlg0, hlg1, ex196, ey197a, ey197b, ey197c, ex198, ex199, prt_ak, e201, e203, ex204, ex205, ex206, hw]
          obtain ⟨x207, ex207, h⟩ := bindT h
          cases x207
          case true =>
           obtain ⟨x208, ex208, h⟩ := bindT h
           simp [g3, g4, g5, g7, g10, g11, g12, g13, g14, g15, g23, g61, g62, g63, g75, g76, g77, hlg0, hlg1, ex196, ey197a, ey197b, ey197c, ex198, ex199, prt_ak, e201, e203, ex204, ex205, ex206, ex207, ex208]
           refine ih x208 _ ?_ h
           exact ⟨_, _, by simp [hw], rfl, by simp [g3, g4, g5, g7, g10, g11, g12, g13, g14, g15, g23, g61, g62, g63, g75, g76, g77, hlg0, hlg1, ex196, ey197a, ey197b, ey197c, ex198, ex199, prt_ak, e201, e203, ex204, ex205, ex206, ex207, ex208]⟩
          obtain ⟨x209, ex209, h⟩ := bindT h
          simp [g3, g4, g5, g7, g10, g11, g12, g13, g14, g15, g23, g61, g62, g63, g75, g76, g77, hlg0, hlg1, ex196, ey197a, ey197b, ey197c, ex198, ex199, prt_ak, e201, e203, ex204, ex205, ex206, ex207, ex209]
          refine ih x209 _ ?_ h
          exact ⟨_, _, by simp [hw], rfl, by simp [g3, g4, g5, g7, g10, g11, g12, g13, g14, g15, g23, g61, g62, g63, g75, g76, g77, hlg0, hlg1, ex196, ey197a, ey197b, ey197c, ex198, ex199, prt_ak, e201, e203, ex204, ex205, ex206, ex207, ex209]⟩
         obtain ⟨x210, ex210, h⟩ := bindT h
         cases x210
         case false =>
          obtain ⟨x215, ex215, h⟩ := bindT h
          simp [g3, g4, g5, g7, g10, g11, g12, g13, g14, g15, g23, g61, g62, g63, g75, g76, g77, hlg0, hlg1, ex196, ey197a, ey197b, ey197c, ex198, ex199, prt_ak, e201, e203, ex204, ex210, ex215]
          refine ih x215 _ ?_ h
          exact ⟨_, _, by simp [hw], rfl, by simp [g3, g4, g5, g7, g10, g11, g12, g13, g14, g15, g23, g61, g62, g63, g75, g76, g77, hlg0, hlg1, ex196, ey197a, ey197b, ey197c, ex198, ex199, prt_ak, e201, e203, ex204, ex210, ex215]⟩
         obtain ⟨x211, ex211, h⟩ := bindT h
         cases x211
         case false =>
          obtain ⟨x214, ex214, h⟩ := bindT h
          simp [g3, g4, g5, g7, g10, g11, g12, g13, g14, g15, g23, g61, g62, g63, g75, g76, g77, hlg0, hlg1, ex196, ey197a, ey197b, ey197c, ex198, ex199, prt_ak, e201, e203, ex204, ex210, ex211, ex214]
          refine ih x214 _ ?_ h
          exact ⟨_, _, by simp [hw], rfl, by simp [g3, g4, g5, g7, g10, g11, g12, g13, g14, g15, g23, g61, g62, g63, g75, g76, g77, hlg0, hlg1, ex196, ey197a, ey197b, ey197c, ex198, ex199, prt_ak, e201, e203, ex204, ex210, ex211, ex214]⟩
         obtain ⟨x212, ex212, h⟩ := bindT h
         cases x212
         case true =>
          obtain rfl := inj_ok h
          simp [g3, g4, g5, g7, g10, g11, g12, g13, g14, g15, g23, g61, g62, g63, g75, g76, g77, hlg0, hlg1, ex196, ey197a, ey197b, ey197c, ex198, ex199, prt_ak, e201, e203, ex204, ex210, ex211, ex212, hw]
         obtain ⟨x213, ex213, h⟩ := bindT h
         simp [g3, g4, g5, g7, g10, g11, g12, g13, g14, g15, g23, g61, g62, g63, g75, g76, g77, hlg0, hlg1, ex196, ey197a, ey197b, ey197c, ex198, ex199, prt_ak, e201, e203, ex204, ex210, ex211, ex212, ex213]
         refine ih x213 _ ?_ h
         exact ⟨_, _, by simp [hw], rfl, by simp [g3, g4, g5, g7, g10, g11, g12, g13, g14, g15, g23, g61, g62, g63, g75, g76, g77, hlg0, hlg1, ex196, ey197a, ey197b, ey197c, ex198, ex199, prt_ak, e201, e203, ex204, ex210, ex211, ex212, ex213]⟩
    obtain ⟨x91, ex91, h⟩ := bind_ok h
    have ex91 : ∀ hp, E Tryd.prog Y0 30 [.a [iv x1.1, .l .fz .nz x1.2.length (x1.2.map iv)]] hp = some (.t [.l .fz .nz x91.1.length (x91.1.map iv), iv x91.2], hp, none) := fun hp => f30_is ex91
    obtain ⟨⟨⟨c92, l93⟩, x94, b95⟩, e96, h⟩ := bind_ok h
    try dsimp only at h
    have e96 : ∀ hp, E Tryd.prog Y0 50 [.a [iv x1.1, .l .fz .nz x1.2.length (x1.2.map iv)], .l .fz .nz x91.1.length (x91.1.map iv)] hp = some (.t [.l .fz c92 l93.length (l93.map iv), iv x94, .v (.bool b95)], hp, none) := fun hp => f50_is (c0b := .nz) (a1 := false) (c1 := .nz) e96
    obtain ⟨x97, ex97, h⟩ := bindT h
    cases x97
    case false =>
     obtain rfl := inj_ok h
     simp [g3, g23, ex4, ex5, ex6, ex90, ex91, e96, ex97, hw]
    cases b95
    case false =>
     obtain rfl := inj_ok h
     simp [g3, g23, ex4, ex5, ex6, ex90, ex91, e96, ex97, hw]
    have q98 : spliceP 0 [iv 0, iv 0, iv 0, iv 0, iv 0, iv 0] [iv 0, iv 0, iv 0, iv 0, iv 0, iv 0] = some [iv 0, iv 0, iv 0, iv 0, iv 0, iv 0] := rfl
    have q99 : spliceP 0 [iv 0, iv 0, iv 0, iv 0, iv 0, iv 0] [iv 0, iv 0, iv 0, iv 0, iv 0, iv 0] = some [iv 0, iv 0, iv 0, iv 0, iv 0, iv 0] := rfl
    obtain ⟨x100, ex100, h⟩ := bindT h
    simp [g3, g23, ex4, ex5, ex6, ex90, ex91, e96, ex97, q98, q99, ex100]
    have hL3 := h; clear h
    refine loopS (S := f8_L3 F x1 v3 x91 l93 x100) (fun (v101, v102, m103, m104) σ => ∃ (ts : Tr PV) (w : Option Nat), wok hp.length w ∧ σ = ⟨[], ts, hp ++ (some [kv .u8 p0a, kv .u8 p0b, kv .u8 p0c, kv .u8 p0d, kv .u8 p0e, kv .u8 p0f, kv .u8 p0g, kv .u8 p0h, kv .u8 p0i, kv .u8 p0j, kv .u8 p0k, kv .u8 p0l, kv .u8 p0m, kv .u8 p0n] :: (some [iv x1.1, .l .fz .nz x1.2.length (x1.2.map iv)] :: (G ++ [some (m103.map iv), some (m104.map iv)]))), w⟩ ∧ ts.get 3 = some (.p (hp.length + 1) 0) ∧ ts.get 4 = some (iv v3) ∧ ts.get 5 = some (.l .fz .nz x91.1.length (x91.1.map iv)) ∧ ts.get 7 = some (.l .fz c92 l93.length (l93.map iv)) ∧ ts.get 10 = some (.p (hp.length + (G.length + 1 + 1)) 0) ∧ ts.get 11 = some (.p (hp.length + (G.length + 1 + 1 + 1)) 0) ∧ ts.get 12 = some (iv v101) ∧ ts.get 23 = some (iv v3) ∧ ts.get 61 = some (.l .fz .nz x1.2.length (x1.2.map iv)) ∧ ts.get 62 = some (iv x100) ∧ ts.get 63 = some (iv v102) ∧ m103.length = 6 ∧ m104.length = 6 ∧ True) (fun (m171, m172) σ => ∃ (ts : Tr PV) (w : Option Nat), wok hp.length w ∧ σ = ⟨[], ts, hp ++ (some [kv .u8 p0a, kv .u8 p0b, kv .u8 p0c, kv .u8 p0d, kv .u8 p0e, kv .u8 p0f, kv .u8 p0g, kv .u8 p0h, kv .u8 p0i, kv .u8 p0j, kv .u8 p0k, kv .u8 p0l, kv .u8 p0m, kv .u8 p0n] :: (some [iv x1.1, .l .fz .nz x1.2.length (x1.2.map iv)] :: (G ++ [some (m171.map iv), some (m172.map iv)]))), w⟩ ∧ ts.get 3 = some (.p (hp.length + 1) 0) ∧ ts.get 23 = some (iv v3) ∧ m171.length = 6 ∧ m172.length = 6 ∧ True) (fun _ => rfl) hL3 ?_ ?_ ?_
    · exact ⟨_, _, by simp [hw], rfl, by simp [g3, g23, ex4, ex5, ex6, ex90, ex91, e96, ex97, q98, q99, ex100]⟩
    · rintro ⟨m171, m172⟩ σ ⟨ts, w, hw, rfl, g3, g23, hlg0, hlg1, -⟩ h
      clear hL3
      try dsimp only at h
      obtain ⟨x173, ex173, h⟩ := bindT h
      simp [g3, g23, hlg0, hlg1, ex173]
      refine ih x173 _ ?_ h
      exact ⟨_, _, _, by simp [hw], rfl, ⟨_, rfl⟩, by simp [g3, g23, hlg0, hlg1, ex173]⟩
    · rintro k n ⟨v101, v102, m103, m104⟩ σ ⟨ts, w, hw, rfl, g3, g4, g5, g7, g10, g11, g12, g23, g61, g62, g63, hlg0, hlg1, -⟩ h ih ex
      clear hL3
      rw [f8_L3] at h
      obtain ⟨x105, ex105, h⟩ := bindT h
      cases x105
      case false =>
       simp [g3, g4, g5, g7, g10, g11, g12, g23, g61, g62, g63, hlg0, hlg1, ex105]
       refine ex (m103, m104) _ ?_ h
       exact ⟨_, _, by simp [hw], rfl, by simp [g3, g4, g5, g7, g10, g11, g12, g23, g61, g62, g63, hlg0, hlg1, ex105]⟩
      obtain ⟨y106, ey106, h⟩ := bind_ok h
      obtain ⟨ey106a, ey106e, ey106b, ey106c, ey106g⟩ := gI_ok rfl ey106
      obtain ⟨y107, ey107, h⟩ := bind_ok h
      obtain ⟨ey107a, ey107e, ey107b, ey107c, ey107g⟩ := gI_ok rfl ey107
      obtain ⟨x108, ex108, h⟩ := bindT h
      cases x108
      case false =>
       obtain ⟨x158, ex158, h⟩ := bind_ok h
       obtain ⟨ex158a, ex158⟩ := shrO_ok ex158
       obtain ⟨x159, ex159, h⟩ := bindT h
       obtain ⟨x160, ex160, h⟩ := bindT h
       cases x160
       case false =>
        obtain ⟨y167, ey167, h⟩ := bind_ok h
        obtain ⟨ey167a, ey167e, ey167b, ey167c, ey167g⟩ := gI_ok hlg1 ey167
        obtain ⟨m168, em168, h⟩ := bind_ok h
        obtain ⟨em168a, em168e, em168l, em168s, em168q⟩ := sI_ok iv hlg1 em168
        have hlg1 := em168l
        obtain ⟨y169, ey169, h⟩ := bind_ok h
        obtain ⟨ey169a, ey169e, ey169b, ey169c, ey169g⟩ := gI_ok rfl ey169
        obtain ⟨x170, ex170, h⟩ := bindT h
        simp [g3, g4, g5, g7, g10, g11, g12, g23, g61, g62, g63, hlg0, hlg1, ex105, ey106a, ey106b, ey106c, ey107a, ey107b, ey107c, ex108, ex158, ex158a, ex159, ex160, ey167a, ey167b, ey167c, em168a, em168s, ey169a, ey169b, ey169c, ex170]
        refine ih (y169, x170, m103, m168) _ ?_ h
        exact ⟨_, _, by simp [hw], rfl, by simp [g3, g4, g5, g7, g10, g11, g12, g23, g61, g62, g63, hlg0, hlg1, ex105, ey106a, ey106b, ey106c, ey107a, ey107b, ey107c, ex108, ex158, ex158a, ex159, ex160, ey167a, ey167b, ey167c, em168a, em168s, ey169a, ey169b, ey169c, ex170]⟩
       obtain ⟨y161, ey161, h⟩ := bind_ok h
       obtain ⟨ey161a, ey161e, ey161b, ey161c, ey161g⟩ := gI_ok hlg0 ey161
       obtain ⟨m162, em162, h⟩ := bind_ok h
       obtain ⟨em162a, em162e, em162l, em162s, em162q⟩ := sI_ok iv hlg0 em162
       have hlg0 := em162l
       obtain ⟨y163, ey163, h⟩ := bind_ok h
       obtain ⟨ey163a, ey163e, ey163b, ey163c, ey163g⟩ := gI_ok hlg1 ey163
       obtain ⟨m164, em164, h⟩ := bind_ok h
       obtain ⟨em164a, em164e, em164l, em164s, em164q⟩ := sI_ok iv hlg1 em164
       have hlg1 := em164l
       obtain ⟨y165, ey165, h⟩ := bind_ok h
       obtain ⟨ey165a, ey165e, ey165b, ey165c, ey165g⟩ := gI_ok rfl ey165
       obtain ⟨x166, ex166, h⟩ := bindT h
       simp [g3, g4, g5, g7, g10, g11, g12, g23, g61, g62, g63, hlg0, hlg1, ex105, ey106a, ey106b, ey106c, ey107a, ey107b, ey107c, ex108, ex158, ex158a, ex159, ex160, ey161a, ey161b, ey161c, em162a, em162s, ey163a, ey163b, ey163c, em164a, em164s, ey165a, ey165b, ey165c, ex166]
       refine ih (y165, x166, m162, m164) _ ?_ h
       exact ⟨_, _, by simp [hw], rfl, by simp [g3, g4, g5, g7, g10, g11, g12, g23, g61, g62, g63, hlg0, hlg1, ex105, ey106a, ey106b, ey106c, ey107a, ey107b, ey107c, ex108, ex158, ex158a, ex159, ex160, ey161a, ey161b, ey161c, em162a, em162s, ey163a, ey163b, ey163c, em164a, em164s, ey165a, ey165b, ey165c, ex166]⟩
      obtain ⟨⟨c109, l110⟩, e111, h⟩ := bind_ok h
      try dsimp only at h
      have e111 : ∀ hp, E Tryd.prog Y0 51 [iv v101] hp = some (.l .own c109 l110.length (l110.map iv), hp, none) := fun hp => f51_is  e111
      obtain ⟨x112, ex112, h⟩ := bindT h
      simp [g3, g4, g5, g7, g10, g11, g12, g23, g61, g62, g63, hlg0, hlg1, ex105, ey106a, ey106b, ey106c, ey107a, ey107b, ey107c, ex108, e111, ex112]
      have hL4 := h; clear h
      refine loopS (S := f8_L4 F x1 v3 v102 m103 m104 y107 l110 x112) (fun v113 σ => ∃ (ts : Tr PV) (w : Option Nat), wok hp.length w ∧ σ = ⟨[], ts, hp ++ (some [kv .u8 p0a, kv .u8 p0b, kv .u8 p0c, kv .u8 p0d, kv .u8 p0e, kv .u8 p0f, kv .u8 p0g, kv .u8 p0h, kv .u8 p0i, kv .u8 p0j, kv .u8 p0k, kv .u8 p0l, kv .u8 p0m, kv .u8 p0n] :: (some [iv x1.1, .l .fz .nz x1.2.length (x1.2.map iv)] :: (G ++ [some (m103.map iv), some (m104.map iv)]))), w⟩ ∧ ts.get 3 = some (.p (hp.length + 1) 0) ∧ ts.get 4 = some (iv v3) ∧ ts.get 5 = some (.l .fz .nz x91.1.length (x91.1.map iv)) ∧ ts.get 7 = some (.l .fz c92 l93.length (l93.map iv)) ∧ ts.get 10 = some (.p (hp.length + (G.length + 1 + 1)) 0) ∧ ts.get 11 = some (.p (hp.length + (G.length + 1 + 1 + 1)) 0) ∧ ts.get 12 = some (iv v101) ∧ ts.get 13 = some (iv v102) ∧ ts.get 14 = some (iv y106) ∧ ts.get 15 = some (iv y107) ∧ ts.get 23 = some (iv v3) ∧ ts.get 61 = some (.l .fz .nz x1.2.length (x1.2.map iv)) ∧ ts.get 62 = some (iv x100) ∧ ts.get 63 = some (iv v102) ∧ ts.get 75 = some (.l .own c109 l110.length (l110.map iv)) ∧ ts.get 76 = some (iv x112) ∧ ts.get 77 = some (iv v113) ∧ m103.length = 6 ∧ m104.length = 6 ∧ True) (fun _ σ => ∃ (ts : Tr PV) (w : Option Nat), wok hp.length w ∧ σ = ⟨[], ts, hp ++ (some [kv .u8 p0a, kv .u8 p0b, kv .u8 p0c, kv .u8 p0d, kv .u8 p0e, kv .u8 p0f, kv .u8 p0g, kv .u8 p0h, kv .u8 p0i, kv .u8 p0j, kv .u8 p0k, kv .u8 p0l, kv .u8 p0m, kv .u8 p0n] :: (some [iv x1.1, .l .fz .nz x1.2.length (x1.2.map iv)] :: (G ++ [some (m103.map iv), some (m104.map iv)]))), w⟩ ∧ ts.get 3 = some (.p (hp.length + 1) 0) ∧ ts.get 4 = some (iv v3) ∧ ts.get 5 = some (.l .fz .nz x91.1.length (x91.1.map iv)) ∧ ts.get 7 = some (.l .fz c92 l93.length (l93.map iv)) ∧ ts.get 10 = some (.p (hp.length + (G.length + 1 + 1)) 0) ∧ ts.get 11 = some (.p (hp.length + (G.length + 1 + 1 + 1)) 0) ∧ ts.get 12 = some (iv v101) ∧ ts.get 13 = some (iv v102) ∧ ts.get 14 = some (iv y106) ∧ ts.get 23 = some (iv v3) ∧ ts.get 61 = some (.l .fz .nz x1.2.length (x1.2.map iv)) ∧ ts.get 62 = some (iv x100) ∧ ts.get 63 = some (iv v102) ∧ m103.length = 6 ∧ m104.length = 6 ∧ True) (fun _ => rfl) hL4 ?_ ?_ ?_
      · exact ⟨_, _, by simp [hw], rfl, by simp [g3, g4, g5, g7, g10, g11, g12, g23, g61, g62, g63, hlg0, hlg1, ex105, ey106a, ey106b, ey106c, ey107a, ey107b, ey107c, ex108, e111, ex112]⟩
      · rintro ⟨⟩ σ ⟨ts, w, hw, rfl, g3, g4, g5, g7, g10, g11, g12, g13, g14, g23, g61, g62, g63, hlg0, hlg1, -⟩ h
        clear hL4
        try dsimp only at h
        obtain ⟨x145, ex145, h⟩ := bind_ok h
        obtain ⟨ex145a, ex145⟩ := shrO_ok ex145
        obtain ⟨x146, ex146, h⟩ := bindT h
        obtain ⟨x147, ex147, h⟩ := bindT h
        cases x147
        case false =>
         obtain ⟨y154, ey154, h⟩ := bind_ok h
         obtain ⟨ey154a, ey154e, ey154b, ey154c, ey154g⟩ := gI_ok hlg1 ey154
         obtain ⟨m155, em155, h⟩ := bind_ok h
         obtain ⟨em155a, em155e, em155l, em155s, em155q⟩ := sI_ok iv hlg1 em155
         have hlg1 := em155l
         obtain ⟨y156, ey156, h⟩ := bind_ok h
         obtain ⟨ey156a, ey156e, ey156b, ey156c, ey156g⟩ := gI_ok rfl ey156
         obtain ⟨x157, ex157, h⟩ := bindT h
         simp [g3, g4, g5, g7, g10, g11, g12, g13, g14, g23, g61, g62, g63, hlg0, hlg1, ex145, ex145a, ex146, ex147, ey154a, ey154b, ey154c, em155a, em155s, ey156a, ey156b, ey156c, ex157]
         refine ih (y156, x157, m103, m155) _ ?_ h
         exact ⟨_, _, by simp [hw], rfl, by simp [g3, g4, g5, g7, g10, g11, g12, g13, g14, g23, g61, g62, g63, hlg0, hlg1, ex145, ex145a, ex146, ex147, ey154a, ey154b, ey154c, em155a, em155s, ey156a, ey156b, ey156c, ex157]⟩
        obtain ⟨y148, ey148, h⟩ := bind_ok h
        obtain ⟨ey148a, ey148e, ey148b, ey148c, ey148g⟩ := gI_ok hlg0 ey148
        obtain ⟨m149, em149, h⟩ := bind_ok h
        obtain ⟨em149a, em149e, em149l, em149s, em149q⟩ := sI_ok iv hlg0 em149
        have hlg0 := em149l
        obtain ⟨y150, ey150, h⟩ := bind_ok h
        obtain ⟨ey150a, ey150e, ey150b, ey150c, ey150g⟩ := gI_ok hlg1 ey150
        obtain ⟨m151, em151, h⟩ := bind_ok h
        obtain ⟨em151a, em151e, em151l, em151s, em151q⟩ := sI_ok iv hlg1 em151
        have hlg1 := em151l
        obtain ⟨y152, ey152, h⟩ := bind_ok h
        obtain ⟨ey152a, ey152e, ey152b, ey152c, ey152g⟩ := gI_ok rfl ey152
        obtain ⟨x153, ex153, h⟩ := bindT h
        simp [g3, g4, g5, g7, g10, g11, g12, g13, g14, g23, g61, g62, g63, hlg0, hlg1, ex145, ex145a, ex146, ex147, ey148a, ey148b, ey148c, em149a, em149s, ey150a, ey150b, ey150c, em151a, em151s, ey152a, ey152b, ey152c, ex153]
        refine ih (y152, x153, m149, m151) _ ?_ h
        exact ⟨_, _, by simp [hw], rfl, by simp [g3, g4, g5, g7, g10, g11, g12, g13, g14, g23, g61, g62, g63, hlg0, hlg1, ex145, ex145a, ex146, ex147, ey148a, ey148b, ey148c, em149a, em149s, ey150a, ey150b, ey150c, em151a, em151s, ey152a, ey152b, ey152c, ex153]⟩
      · rintro k n v113 σ ⟨ts, w, hw, rfl, g3, g4, g5, g7, g10, g11, g12, g13, g14, g15, g23, g61, g62, g63, g75, g76, g77, hlg0, hlg1, -⟩ h ih ex
        clear hL4
        rw [f8_L4] at h
        obtain ⟨x114, ex114, h⟩ := bindT h
        cases x114
        case false =>
         simp [g3, g4, g5, g7, g10, g11, g12, g13, g14, g15, g23, g61, g62, g63, g75, g76, g77, hlg0, hlg1, ex114]
         refine ex () _ ?_ h
         exact ⟨_, _, by simp [hw], rfl, by simp [g3, g4, g5, g7, g10, g11, g12, g13, g14, g15, g23, g61, g62, g63, g75, g76, g77, hlg0, hlg1, ex114]⟩
        obtain ⟨y115, ey115, h⟩ := bind_ok h
        obtain ⟨ey115a, ey115e, ey115b, ey115c, ey115g⟩ := gI_ok rfl ey115
        obtain ⟨x116, ex116, h⟩ := bindT h
        cases x116
        case false =>
         obtain ⟨x134, ex134, h⟩ := bindT h
         cases x134
         case true =>
          obtain ⟨y135, ey135, h⟩ := bind_ok h
          obtain ⟨ey135a, ey135e, ey135b, ey135c, ey135g⟩ := gI_ok hlg0 ey135
          obtain ⟨y136, ey136, h⟩ := bind_ok h
          obtain ⟨ey136a, ey136e, ey136b, ey136c, ey136g⟩ := gI_ok hlg0 ey136
          obtain ⟨x137, ex137, h⟩ := bindT h
          cases x137
          case true =>
           obtain rfl := inj_ok h
           simp [g3, g4, g5, g7, g10, g11, g12, g13, g14, g15, g23, g61, g62, g63, g75, g76, g77, hlg0, hlg1, ex114, ey115a, ey115b, ey115c, ex116, ex134, ey135a, ey135b, ey135c, ey136a, ey136b, ey136c, ex137, hw]
          obtain ⟨x138, ex138, h⟩ := bindT h
          simp [g3, g4, g5, g7, g10, g11, g12, g13, g14, g15, g23, g61, g62, g63, g75, g76, g77, hlg0, hlg1, ex114, ey115a, ey115b, ey115c, ex116, ex134, ey135a, ey135b, ey135c, ey136a, ey136b, ey136c, ex137, ex138]
          refine ih x138 _ ?_ h
          exact ⟨_, _, by simp [hw], rfl, by simp [g3, g4, g5, g7, g10, g11, g12, g13, g14, g15, g23, g61, g62, g63, g75, g76, g77, hlg0, hlg1, ex114, ey115a, ey115b, ey115c, ex116, ex134, ey135a, ey135b, ey135c, ey136a, ey136b, ey136c, ex137, ex138]⟩
         obtain ⟨x139, ex139, h⟩ := bindT h
         cases x139
         case false =>
          obtain ⟨x144, ex144, h⟩ := bindT h
          simp [g3, g4, g5, g7, g10, g11, g12, g13, g14, g15, g23, g61, g62, g63, g75, g76, g77, hlg0, hlg1, ex114, ey115a, ey115b, ey115c, ex116, ex134, ex139, ex144]
          refine ih x144 _ ?_ h
          exact ⟨_, _, by simp [hw], rfl, by simp [g3, g4, g5, g7, g10, g11, g12, g13, g14, g15, g23, g61, g62, g63, g75, g76, g77, hlg0, hlg1, ex114, ey115a, ey115b, ey115c, ex116, ex134, ex139, ex144]⟩
         obtain ⟨y140, ey140, h⟩ := bind_ok h
         obtain ⟨ey140a, ey140e, ey140b, ey140c, ey140g⟩ := gI_ok hlg1 ey140
         obtain ⟨y141, ey141, h⟩ := bind_ok h
         obtain ⟨ey141a, ey141e, ey141b, ey141c, ey141g⟩ := gI_ok hlg1 ey141
         obtain ⟨x142, ex142, h⟩ := bindT h
         cases x142
         case true =>
          obtain rfl := inj_ok h
          simp [g3, g4, g5, g7, g10, g11, g12, g13, g14, g15, g23, g61, g62, g63, g75, g76, g77, hlg0, hlg1, ex114, ey115a, ey115b, ey115c, ex116, ex134, ex139, ey140a, ey140b, ey140c, ey141a, ey141b, ey141c, ex142, hw]
         obtain ⟨x143, ex143, h⟩ := bindT h
         simp [g3, g4, g5, g7, g10, g11, g12, g13, g14, g15, g23, g61, g62, g63, g75, g76, g77, hlg0, hlg1, ex114, ey115a, ey115b, ey115c, ex116, ex134, ex139, ey140a, ey140b, ey140c, ey141a, ey141b, ey141c, ex142, ex143]
         refine ih x143 _ ?_ h
         exact ⟨_, _, by simp [hw], rfl, by simp [g3, g4, g5, g7, g10, g11, g12, g13, g14, g15, g23, g61, g62, g63, g75, g76, g77, hlg0, hlg1, ex114, ey115a, ey115b, ey115c, ex116, ex134, ex139, ey140a, ey140b, ey140c, ey141a, ey141b, ey141c, ex142, ex143]⟩
        obtain ⟨x117, ex117, h⟩ := bind_ok h
        have ex117 := pslice_drop (t := 22) (k := .fz) (c := .nz) iv shape22 rfl ex117
        obtain ⟨x118, e119, h⟩ := bind_ok h
        have e119 : ∀ hp, E Tryd.prog Y0 52 [.l .fz (dpC .nz) x117.length (x117.map iv), iv y115] hp = some (iv x118, hp, none) := fun hp => f52_is (a0 := false) (c0 := (dpC .nz)) e119
        obtain ⟨x120, e121, h⟩ := bind_ok h
        have e121 : ∀ hp, E Tryd.prog Y0 52 [.l .fz (dpC .nz) x117.length (x117.map iv), iv y107] hp = some (iv x120, hp, none) := fun hp => f52_is (a0 := false) (c0 := (dpC .nz)) e121
        obtain ⟨x122, ex122, h⟩ := bindT h
        cases x122
        case true =>
         obtain ⟨x123, ex123, h⟩ := bindT h
         cases x123
         case true =>
          obtain rfl := inj_ok h
          simp [g3, g4, g5, g7, g10, g11, g12, g13, g14, g15, g23, g61, g62, g63, g75, g76, g77, hlg0, hlg1, ex114, ey115a, ey115b, ey115c, ex116, ex117, prt_ak, e119, e121, ex122, ex123, hw]
         obtain ⟨x124, ex124, h⟩ := bindT h
         cases x124
         case true =>
          obtain rfl := inj_ok h
          simp [g3, g4, g5, g7, g10, g11, g12, g13, g14, g15, g23, g61, g62, g63, g75, g76, g77, hlg0, hlg1, ex114, ey115a, ey115b, ey115c, ex116, ex117, prt_ak, e119, e121, ex122, ex123, ex124, hw]
         obtain ⟨x125, ex125, h⟩ := bindT h
         cases x125
         case true =>
          obtain ⟨x126, ex126, h⟩ := bindT h
          simp [g3, g4, g5, g7, g10, g11, g12, g13, g14, g15, g23, g61, g62, g63, g75, g76, g77, hlg0, hlg1, ex114, ey115a, ey115b, ey115c, ex116, ex117, prt_ak, e119, e121, ex122, ex123, ex124, ex125, ex126]
          refine ih x126 _ ?_ h
          exact ⟨_, _, by simp [hw], rfl, by simp [g3, g4, g5, g7, g10, g11, g12, g13, g14, g15, g23, g61, g62, g63, g75, g76, g77, hlg0, hlg1, ex114, ey115a, ey115b, ey115c, ex116, ex117, prt_ak, e119, e121, ex122, ex123, ex124, ex125, ex126]⟩
         obtain ⟨x127, ex127, h⟩ := bindT h
         simp [g3, g4, g5, g7, g10, g11, g12, g13, g14, g15, g23, g61, g62, g63, g75, g76, g77, hlg0, hlg1, ex114, ey115a, ey115b, ey115c, ex116, ex117, prt_ak, e119, e121, ex122, ex123, ex124, ex125, ex127]
         refine ih x127 _ ?_ h
         exact ⟨_, _, by simp [hw], rfl, by simp [g3, g4, g5, g7, g10, g11, g12, g13, g14, g15, g23, g61, g62, g63, g75, g76, g77, hlg0, hlg1, ex114, ey115a, ey115b, ey115c, ex116, ex117, prt_ak, e119, e121, ex122, ex123, ex124, ex125, ex127]⟩
        obtain ⟨x128, ex128, h⟩ := bindT h
        cases x128
        case false =>
         obtain ⟨x133, ex133, h⟩ := bindT h
         simp [g3, g4, g5, g7, g10, g11, g12, g13, g14, g15, g23, g61, g62, g63, g75, g76, g77, hlg0, hlg1, ex114, ey115a, ey115b, ey115c, ex116, ex117, prt_ak, e119, e121, ex122, ex128, ex133]
         refine ih x133 _ ?_ h
         exact ⟨_, _, by simp [hw], rfl, by simp [g3, g4, g5, g7, g10, g11, g12, g13, g14, g15, g23, g61, g62, g63, g75, g76, g77, hlg0, hlg1, ex114, ey115a, ey115b, ey115c, ex116, ex117, prt_ak, e119, e121, ex122, ex128, ex133]⟩
        obtain ⟨x129, ex129, h⟩ := bindT h
        cases x129
        case false =>
         obtain ⟨x132, ex132, h⟩ := bindT h
         simp [g3, g4, g5, g7, g10, g11, g12, g13, g14, g15, g23, g61, g62, g63, g75, g76, g77, hlg0, hlg1, ex114, ey115a, ey115b, ey115c, ex116, ex117, prt_ak, e119, e121, ex122, ex128, ex129, ex132]
         refine ih x132 _ ?_ h
         exact ⟨_, _, by simp [hw], rfl, by simp [g3, g4, g5, g7, g10, g11, g12, g13, g14, g15, g23, g61, g62, g63, g75, g76, g77, hlg0, hlg1, ex114, ey115a, ey115b, ey115c, ex116, ex117, prt_ak, e119, e121, ex122, ex128, ex129, ex132]⟩
        obtain ⟨x130, ex130, h⟩ := bindT h
        cases x130
        case true =>
         obtain rfl := inj_ok h
         simp [g3, g4, g5, g7, g10, g11, g12, g13, g14, g15, g23, g61, g62, g63, g75, g76, g77, hlg0, hlg1, ex114, ey115a, ey115b, ey115c, ex116, ex117, prt_ak, e119, e121, ex122, ex128, ex129, ex130, hw]
        obtain ⟨x131, ex131, h⟩ := bindT h
        simp [g3, g4, g5, g7, g10, g11, g12, g13, g14, g15, g23, g61, g62, g63, g75, g76, g77, hlg0, hlg1, ex114, ey115a, ey115b, ey115c, ex116, ex117, prt_ak, e119, e121, ex122, ex128, ex129, ex130, ex131]
        refine ih x131 _ ?_ h
        exact ⟨_, _, by simp [hw], rfl, by simp [g3, g4, g5, g7, g10, g11, g12, g13, g14, g15, g23, g61, g62, g63, g75, g76, g77, hlg0, hlg1, ex114, ey115a, ey115b, ey115c, ex116, ex117, prt_ak, e119, e121, ex122, ex128, ex129, ex130, ex131]⟩
end Go.Proofs.YtcdhajbhpnbdkaaDoor
