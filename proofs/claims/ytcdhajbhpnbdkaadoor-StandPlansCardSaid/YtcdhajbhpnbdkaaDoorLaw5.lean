/-
  StandPlans
  Printed by wip/tools/walk.py. Conditions: none; definitions and lemmas.
-/
import Derived.Test.YtcdhajbhpnbdkaaDoorWorks4
set_option linter.unusedSimpArgs false
set_option linter.unusedVariables false
namespace Go.Proofs.YtcdhajbhpnbdkaaDoor
open Go.Abs Go.Pur
set_option maxRecDepth 100000
set_option maxHeartbeats 2000000
attribute [local simp] EK_region EK_seq EK_cond EK_block EK_blk EK_loop EK_exit EK.ex EK_ret EK_skip EK_nil EO_cons EO_nil EO1_true EO1_false EO2_some EO3_some EB_true EB_false pwanted poper pq pev Go.Pur.look pputT isAssign drOf pinit Tr.get_set lget pvOf_int pvOf_bool pvOf_str pvOf_nil rdv_ak notOwn_ak prt_ak loose_ak rdv_own rdv_fz rdv_bor rdv_rf rdv_pt rdv_v rdv_a rdv_t rdv_r rdv_p rdv_s rdv_f pbin plen pload ppart idxAddr pcond Nat.blt goInt_eq prun_not prun_neg mayLoad ER_ret ER_normal presL presOne moved stor okDrop settle_v settle_l settle_a settle_p settle_f noref_v noref_fz noref_a norefs_nil norefs_cons pclose given dropB Y0_keep pevParts stors pvCells pvCells.go vcells pfill reps zipParts ownFz pcells cellOK one psrcLen srcFits psrc takeP pgrow take getPl setPl mapL plEq elder isList lowP pevs frzs addP partAt ble_lim24 killV_v killV_a killV_t killV_f killV_i killV_p killV_s killV_un killV_dead killV_lfz killV_lbor killV_lown killV_rfz killV_rbor killV_lak killV_rak frzV_v frzV_a frzV_t frzV_f frzV_i frzV_p frzV_s frzV_un frzV_dead frzV_lfz frzV_lbor frzV_lown frzV_rfz frzV_rbor frzV_lak frzV_rak killCell_v killCell_a killCell_t killCell_f killCell_i killCell_p killCell_s killCell_un killCell_dead killCell_lfz killCell_lbor killCell_lown killCell_rfz killCell_rbor killCell_lak killCell_rak killV_lrf killV_lpt killV_rpt frzV_lrf frzV_lpt frzV_rpt killCell_lrft killCell_lptt killCell_rptt killCell_lrfc killCell_lptc killCell_rptc argv_lak argv_rak argv_v argv_a argv_p argv_f argv_fz argv_bor argv_rf argv_pt argv_rc argv_own mayTurn_none argvs pcallOp firm refsTo_v refsTo_l refsTo_p refsTo_s refsTo_a refsTo_dead refsTo_nil refsTo_cons isOwn_lak ownFz_lak evSafe pskip plain pnewBlk fldAddr isOwn pput notOwn_fz notOwn_bor notOwn_own notOwn_rf notOwn_pt prt_fz prt_bor prt_own prt_rf prt_pt Go.Pur.freeze presM settles abin_and abin_or abin_andNot abin_mul abin_shr abin_shl abin_add abin_sub abin_eql abin_neq abin_lss abin_leq abin_gtr abin_geq keep5 sz3 by3 row3 zero3 sz4 by4 row4 zero4 sz5 by5 row5 zero5 sz9 by9 row9 shape9 zero9 sz22 by22 row22 shape22 zero22 sz24 by24 row24 zero24 parts24 field24_0 field24_1 sz27 by27 row27 zero27 parts27 field27_0 field27_1 sz28 by28 row28 zero28 sz32 by32 row32 shape32 zero32 sz46 by46 row46 shape46 zero46 sz54 by54 row54 shape54 zero54 parts54 sz56 by56 row56 zero56 parts56 field56_0 field56_1 field56_2 sz63 by63 row63 shape63 zero63 parts63 sz70 by70 row70 shape70 zero70 parts70 sz75 by75 row75 shape75 zero75 parts75 sz79 by79 row79 zero79 sz84 by84 row84 zero84 sz86 by86 row86 shape86 zero86 sz91 by91 row91 zero91 sz93 by93 row93 zero93 parts93 field93_0 sz97 by97 row97 zero97 sz100 by100 row100 zero100 sz102 by102 row102 zero102 sz105 by105 row105 zero105 parts105 field105_0 field105_1 field105_2 sz106 by106 row106 zero106 sz108 by108 row108 zero108 parts108 field108_0 field108_1 sz109 by109 row109 shape109 zero109 parts109 sz110 by110 row110 shape110 parts110 sz112 by112 row112 parts112 field112_0 field112_1 sz126 by126 row126 shape126 zero126 sz127 by127 row127 zero127 sz134 by134 row134 zero134 sz136 by136 row136 zero136 sz140 by140 row140 zero140 sz147 by147 row147 shape147 zero147 parts147 sz148 by148 row148 shape148 zero148 parts148 sz149 by149 row149 zero149 sz153 by153 row153 zero153 bs_size gAt gAt0 sAt sAt0 optPlain rows_len noMaker_eq kindOf vlOf abin_rem abin_quo mayTurn_none lowOf_none Go.Pur.partAt rows_nil rows_cons ble_add ble_add0 ble_same toPlain toPlain.go intIn2_0 intIn2_1 ble12 ble22 tv lv max_int min_int pplains ak_true ak_false apartP beq_add beq_add0 beq_add1 argv_s wok_none wok_low_iff lowOf_wok
attribute [local simp] ble_addc
def f5S (F : Nat) (p0a : Int) (p0b : List Int) : Option (Bool) :=
  (some (decide (40 < p0b.length ∨ 40 < ([] : List Int).length))).bind fun x1 =>
  (match x1 with
  | true => ((f18S F ).bind fun b2 =>
  some b2)
  | false => ((onS p0b (fewS p0a p0b, chk p0a p0b)).bind fun x5 =>
  (f34S F p0a p0b).bind fun (x6, x7) =>
  (onS p0b (firS p0a p0b, chk p0a p0b)).bind fun x9 =>
  (f36S F p0a p0b).bind fun ((c10, l11), x12) =>
  (onS p0b (cntS p0a p0b, chk p0a p0b)).bind fun x14 =>
  (f38S F p0a p0b).bind fun (x15, x16) =>
  (some (decide (x5.1 = x6))).bind fun x18 =>
  (match x18 with
  | true => ((some (decide (x5.2 = x7))).bind fun x19 =>
  (match x19 with
  | true => ((onS x9.1 (decide (x9.1 = l11))).bind fun x20 =>
  (match x20 with
  | true => ((some (decide (x9.2 = x12))).bind fun x21 =>
  (match x21 with
  | true => ((some (decide (x14.1 = x15))).bind fun x22 =>
  (match x22 with
  | true => ((some (decide (x14.2 = x16))).bind fun x23 =>
  (match x23 with
  | true => ((f18S F ).bind fun b24 =>
  some b24)
  | false => (some false)))
  | false => (some false)))
  | false => (some false)))
  | false => (some false)))
  | false => (some false)))
  | false => (some false))))
theorem f5_is {p0a : Int} {c0b : Ck} {p0b : List Int} {hp : List (Option (List PV))} {F : Nat} {r : (Bool)}  (h : f5S F p0a p0b = some r) :
    E Tryd.prog Y0 5 [.a [iv p0a, .l .fz c0b p0b.length (p0b.map iv)]] hp = some (.v (.bool r), hp, none) := by
  rw [E_bodyN 1 body5 rfl (by decide) rfl]
  simp only [Tryd.f5, Option.get_some]
  unfold f5S at h
  obtain ⟨x1, ex1, h⟩ := bind_ok h
  have ex1 : ∀ hp, E Tryd.prog Y0 17 [.a [iv p0a, .l .fz c0b p0b.length (p0b.map iv)], .l .fz .nz 0 []] hp = some (.v (.bool x1), hp, none) := fun hp => f17_is (a1 := false) (c1 := .nz) ex1
  cases x1
  case true =>
   obtain ⟨b2, e3, h⟩ := bind_ok h
   have e3 : ∀ hp, E Tryd.prog Y0 18 [] hp = some (.v (.bool b2), hp, none) := fun hp => f18_is  e3
   obtain rfl := inj_ok h
   simp [ex1, e3]
  have q4 : spliceP 0 [iv p0a, .l .fz c0b p0b.length (p0b.map iv)] [iv 0, .l .own .nz 0 []] = some [iv p0a, .l .fz c0b p0b.length (p0b.map iv)] := rfl
  obtain ⟨x5, ex5, h⟩ := bind_ok h
  have ex5 : ∀ hp, E Tryd.prog Y0 33 [.a [iv p0a, .l .fz c0b p0b.length (p0b.map iv)]] hp = some (.t [iv x5.1, iv x5.2], hp, none) := fun hp => f33_is ex5
  obtain ⟨⟨x6, x7⟩, e8, h⟩ := bind_ok h
  try dsimp only at h
  have e8 : ∀ hp, E Tryd.prog Y0 34 [.a [iv p0a, .l .fz c0b p0b.length (p0b.map iv)]] hp = some (.t [iv x6, iv x7], hp, none) := fun hp => f34_is (c0b := c0b) e8
  obtain ⟨x9, ex9, h⟩ := bind_ok h
  have ex9 : ∀ hp, E Tryd.prog Y0 35 [.a [iv p0a, .l .fz c0b p0b.length (p0b.map iv)]] hp = some (.t [.l .fz .nz x9.1.length (x9.1.map iv), iv x9.2], hp, none) := fun hp => f35_is ex9
  obtain ⟨⟨⟨c10, l11⟩, x12⟩, e13, h⟩ := bind_ok h
  try dsimp only at h
  have e13 : ∀ hp, E Tryd.prog Y0 36 [.a [iv p0a, .l .fz c0b p0b.length (p0b.map iv)]] hp = some (.t [.l .fz c10 l11.length (l11.map iv), iv x12], hp, none) := fun hp => f36_is (c0b := c0b) e13
  obtain ⟨x14, ex14, h⟩ := bind_ok h
  have ex14 : ∀ hp, E Tryd.prog Y0 37 [.a [iv p0a, .l .fz c0b p0b.length (p0b.map iv)]] hp = some (.t [iv x14.1, iv x14.2], hp, none) := fun hp => f37_is ex14
  obtain ⟨⟨x15, x16⟩, e17, h⟩ := bind_ok h
  try dsimp only at h
  have e17 : ∀ hp, E Tryd.prog Y0 38 [.a [iv p0a, .l .fz c0b p0b.length (p0b.map iv)]] hp = some (.t [iv x15, iv x16], hp, none) := fun hp => f38_is (c0b := c0b) e17
  obtain ⟨x18, ex18, h⟩ := bindT h
  cases x18
  case false =>
   obtain rfl := inj_ok h
   simp [ex1, q4, ex5, e8, ex9, e13, ex14, e17, ex18]
  obtain ⟨x19, ex19, h⟩ := bindT h
  cases x19
  case false =>
   obtain rfl := inj_ok h
   simp [ex1, q4, ex5, e8, ex9, e13, ex14, e17, ex18, ex19]
  obtain ⟨x20, ex20, h⟩ := bind_ok h
  have ex20 : ∀ hp, E Tryd.prog Y0 32 [.l .fz .nz x9.1.length (x9.1.map iv), .l .fz c10 l11.length (l11.map iv)] hp = some (.v (.bool x20), hp, none) := fun hp => f32_is (a0 := false) (c0 := .nz) (a1 := false) (c1 := c10) ex20
  cases x20
  case false =>
   obtain rfl := inj_ok h
   simp [ex1, q4, ex5, e8, ex9, e13, ex14, e17, ex18, ex19, ex20]
  obtain ⟨x21, ex21, h⟩ := bindT h
  cases x21
  case false =>
   obtain rfl := inj_ok h
   simp [ex1, q4, ex5, e8, ex9, e13, ex14, e17, ex18, ex19, ex20, ex21]
  obtain ⟨x22, ex22, h⟩ := bindT h
  cases x22
  case false =>
   obtain rfl := inj_ok h
   simp [ex1, q4, ex5, e8, ex9, e13, ex14, e17, ex18, ex19, ex20, ex21, ex22]
  obtain ⟨x23, ex23, h⟩ := bindT h
  cases x23
  case false =>
   obtain rfl := inj_ok h
   simp [ex1, q4, ex5, e8, ex9, e13, ex14, e17, ex18, ex19, ex20, ex21, ex22, ex23]
  obtain ⟨b24, e25, h⟩ := bind_ok h
  have e25 : ∀ hp, E Tryd.prog Y0 18 [] hp = some (.v (.bool b24), hp, none) := fun hp => f18_is  e25
  obtain rfl := inj_ok h
  simp [ex1, q4, ex5, e8, ex9, e13, ex14, e17, ex18, ex19, ex20, ex21, ex22, ex23, e25]
end Go.Proofs.YtcdhajbhpnbdkaaDoor
