/-
  StandBelady: the walk.
  Printed by wip/tools/walk.py. Conditions: none; definitions and lemmas.
-/
import Derived.Test.YtcdhajbhpnbdkaaDoorOut1
import Derived.Test.YtcdhajbhpnbdkaaDoorPurI
import Derived.Test.YtcdhajbhpnbdkaaDoorPutWalk
set_option linter.unusedSimpArgs false
set_option linter.unusedVariables false
namespace Go.Proofs.YtcdhajbhpnbdkaaDoor
open Go.Abs Go.Pur
set_option maxRecDepth 100000
set_option maxHeartbeats 2000000
attribute [local simp] EK_region EK_seq EK_cond EK_block EK_blk EK_loop EK_exit EK.ex EK_ret EK_skip EK_nil EO_cons EO_nil EO1_true EO1_false EO2_some EO3_some EB_true EB_false pwanted poper pq pev Go.Pur.look pputT isAssign drOf pinit Tr.get_set lget pvOf_int pvOf_bool pvOf_str pvOf_nil rdv_ak notOwn_ak prt_ak loose_ak rdv_own rdv_fz rdv_bor rdv_rf rdv_pt rdv_v rdv_a rdv_t rdv_r rdv_p rdv_s rdv_f pbin plen pload ppart idxAddr pcond Nat.blt goInt_eq prun_not prun_neg mayLoad ER_ret ER_normal presL presOne moved stor okDrop settle_v settle_l settle_a settle_p settle_f noref_v noref_fz noref_a norefs_nil norefs_cons pclose given dropB Y0_keep pevParts stors pvCells pvCells.go vcells pfill reps zipParts ownFz pcells cellOK one psrcLen srcFits psrc takeP pgrow take getPl setPl mapL plEq elder isList lowP pevs frzs addP partAt ble_lim24 killV_v killV_a killV_t killV_f killV_i killV_p killV_s killV_un killV_dead killV_lfz killV_lbor killV_lown killV_rfz killV_rbor killV_lak killV_rak frzV_v frzV_a frzV_t frzV_f frzV_i frzV_p frzV_s frzV_un frzV_dead frzV_lfz frzV_lbor frzV_lown frzV_rfz frzV_rbor frzV_lak frzV_rak killCell_v killCell_a killCell_t killCell_f killCell_i killCell_p killCell_s killCell_un killCell_dead killCell_lfz killCell_lbor killCell_lown killCell_rfz killCell_rbor killCell_lak killCell_rak killV_lrf killV_lpt killV_rpt frzV_lrf frzV_lpt frzV_rpt killCell_lrft killCell_lptt killCell_rptt killCell_lrfc killCell_lptc killCell_rptc argv_lak argv_rak argv_v argv_a argv_p argv_f argv_fz argv_bor argv_rf argv_pt argv_rc argv_own mayTurn_none argvs pcallOp firm refsTo_v refsTo_l refsTo_p refsTo_s refsTo_a refsTo_dead refsTo_nil refsTo_cons isOwn_lak ownFz_lak evSafe pskip plain pnewBlk fldAddr isOwn pput notOwn_fz notOwn_bor notOwn_own notOwn_rf notOwn_pt prt_fz prt_bor prt_own prt_rf prt_pt Go.Pur.freeze presM settles abin_and abin_or abin_andNot abin_mul abin_shr abin_shl abin_add abin_sub abin_eql abin_neq abin_lss abin_leq abin_gtr abin_geq keep7 sz3 by3 row3 zero3 sz4 by4 row4 zero4 sz5 by5 row5 zero5 sz9 by9 row9 shape9 zero9 sz22 by22 row22 shape22 zero22 sz24 by24 row24 zero24 parts24 field24_0 field24_1 sz27 by27 row27 zero27 parts27 field27_0 field27_1 sz28 by28 row28 zero28 sz32 by32 row32 shape32 zero32 sz46 by46 row46 shape46 zero46 sz54 by54 row54 shape54 zero54 parts54 sz56 by56 row56 zero56 parts56 field56_0 field56_1 field56_2 sz63 by63 row63 shape63 zero63 parts63 sz70 by70 row70 shape70 zero70 parts70 sz75 by75 row75 shape75 zero75 parts75 sz79 by79 row79 zero79 sz84 by84 row84 zero84 sz86 by86 row86 shape86 zero86 sz91 by91 row91 zero91 sz93 by93 row93 zero93 parts93 field93_0 sz97 by97 row97 zero97 sz100 by100 row100 zero100 sz102 by102 row102 zero102 sz105 by105 row105 zero105 parts105 field105_0 field105_1 field105_2 sz106 by106 row106 zero106 sz108 by108 row108 zero108 parts108 field108_0 field108_1 sz109 by109 row109 shape109 zero109 parts109 sz110 by110 row110 shape110 parts110 sz112 by112 row112 parts112 field112_0 field112_1 sz126 by126 row126 shape126 zero126 sz127 by127 row127 zero127 sz134 by134 row134 zero134 sz136 by136 row136 zero136 sz140 by140 row140 zero140 sz147 by147 row147 shape147 zero147 parts147 sz148 by148 row148 shape148 zero148 parts148 sz149 by149 row149 zero149 sz153 by153 row153 zero153 bs_size gAt gAt0 sAt sAt0 optPlain rows_len noMaker_eq kindOf vlOf abin_rem abin_quo mayTurn_none lowOf_none Go.Pur.partAt rows_nil rows_cons ble_add ble_add0 ble_same toPlain toPlain.go intIn2_0 intIn2_1 ble12 ble22 tv lv max_int min_int pplains ak_true ak_false apartP beq_add beq_add0 beq_add1 argv_s wok_none wok_low_iff lowOf_wok
attribute [local simp] ble_addc
def f7S (F : Nat) (p0a : Int) (p0b : Int) (p0c : Int) (p0d : Int) (p0e : Int) (p0f : Int) (p0g : Int) (p0h : Int) (p0i : Int) (p0j : Int) (p0k : Int) (p0l : Int) (p0m : Int) (p0n : Int) : Option (Bool) :=
  (madeS 4 10 p0a p0b [p0c, p0d, p0e, p0f, p0g, p0h, p0i, p0j, p0k, p0l, p0m, p0n]).bind fun x1 =>
  (bruS x1.1 x1.2).bind fun x3 =>
  (onS x1.2 (fewS x1.1 x1.2, chk x1.1 x1.2)).bind fun x4 =>
  (onS x1.2 (firS x1.1 x1.2, chk x1.1 x1.2)).bind fun x5 =>
  (onS x1.2 (cntS x1.1 x1.2, chk x1.1 x1.2)).bind fun x6 =>
  (onS x1.2 (refPlan true false x1.1 x1.2, chk x1.1 x1.2)).bind fun x7 =>
  (onS x1.2 (chk x1.1 x1.2)).bind fun x8 =>
  (some (decide (x8 = 0))).bind fun x9 =>
  (match x9 with
  | true => ((some (decide (x4.2 = 0))).bind fun x10 =>
  (match x10 with
  | true => ((some (decide (x5.2 = 0))).bind fun x11 =>
  (match x11 with
  | true => ((some (decide (x6.2 = 0))).bind fun x12 =>
  (match x12 with
  | true => ((some (decide (x7.2 = 0))).bind fun x13 =>
  (match x13 with
  | true => ((some (decide (x4.1 = x3.1))).bind fun x14 =>
  (match x14 with
  | true => ((onS x5.1 (decide (x5.1 = x3.2.1))).bind fun x15 =>
  (match x15 with
  | true => ((some (decide (x6.1 = x3.2.2))).bind fun x16 =>
  (match x16 with
  | true => ((f50S F x1.1 x1.2 x7.1).bind fun ((c17, l18), x19, b20) =>
  ((onS x1.2 (onS x7.1 (floorsOf x1.1 x1.2 x7.1).2)).bind id).bind fun x22 =>
  (match b20 with
  | true => ((some (decide (x19 = x3.1))).bind fun x23 =>
  (match x23 with
  | true => ((some (decide (x22.2 = 0))).bind fun x24 =>
  (match x24 with
  | true => ((some (decide (x22.1 = x3.1))).bind fun x25 =>
  (match x25 with
  | true => ((f18S F ).bind fun b26 =>
  some b26)
  | false => (some false)))
  | false => (some false)))
  | false => (some false)))
  | false => (some false)))
  | false => (some false)))
  | false => (some false)))
  | false => (some false)))
  | false => (some false)))
  | false => (some false)))
  | false => (some false)))
  | false => (some false)))
  | false => (some false))
theorem f7_is {p0a : Int} {p0b : Int} {p0c : Int} {p0d : Int} {p0e : Int} {p0f : Int} {p0g : Int} {p0h : Int} {p0i : Int} {p0j : Int} {p0k : Int} {p0l : Int} {p0m : Int} {p0n : Int} {hp : List (Option (List PV))} {F : Nat} {r : (Bool)}  (h : f7S F p0a p0b p0c p0d p0e p0f p0g p0h p0i p0j p0k p0l p0m p0n = some r) :
    E Tryd.prog Y0 7 [.a [kv .u8 p0a, kv .u8 p0b, kv .u8 p0c, kv .u8 p0d, kv .u8 p0e, kv .u8 p0f, kv .u8 p0g, kv .u8 p0h, kv .u8 p0i, kv .u8 p0j, kv .u8 p0k, kv .u8 p0l, kv .u8 p0m, kv .u8 p0n]] hp = some (.v (.bool r), hp, none) := by
  rw [E_bodyN 1 body7 rfl (by decide) rfl]
  simp only [Tryd.f7, Option.get_some]
  unfold f7S at h
  obtain ⟨x1, ex1, h⟩ := bind_ok h
  have ex1 : ∀ hp, E Tryd.prog Y0 48 [.a [kv .u8 p0a, kv .u8 p0b, kv .u8 p0c, kv .u8 p0d, kv .u8 p0e, kv .u8 p0f, kv .u8 p0g, kv .u8 p0h, kv .u8 p0i, kv .u8 p0j, kv .u8 p0k, kv .u8 p0l, kv .u8 p0m, kv .u8 p0n], iv 4, iv 10] hp = some (.a [iv x1.1, .l .fz .nz x1.2.length (x1.2.map iv)], hp, none) := fun hp => f48_is rfl ex1
  have q2 : spliceP 0 [iv x1.1, .l .fz .nz x1.2.length (x1.2.map iv)] [iv 0, .l .own .nz 0 []] = some [iv x1.1, .l .fz .nz x1.2.length (x1.2.map iv)] := rfl
  obtain ⟨x3, ex3, h⟩ := bind_ok h
  have ex3 : ∀ hp, E Tryd.prog Y0 49 [.a [iv x1.1, .l .fz .nz x1.2.length (x1.2.map iv)]] hp = some (.t [iv x3.1, .l .fz .nz x3.2.1.length (x3.2.1.map iv), iv x3.2.2], hp, none) := fun hp => f49_is ex3
  obtain ⟨x4, ex4, h⟩ := bind_ok h
  have ex4 : ∀ hp, E Tryd.prog Y0 33 [.a [iv x1.1, .l .fz .nz x1.2.length (x1.2.map iv)]] hp = some (.t [iv x4.1, iv x4.2], hp, none) := fun hp => f33_is ex4
  obtain ⟨x5, ex5, h⟩ := bind_ok h
  have ex5 : ∀ hp, E Tryd.prog Y0 35 [.a [iv x1.1, .l .fz .nz x1.2.length (x1.2.map iv)]] hp = some (.t [.l .fz .nz x5.1.length (x5.1.map iv), iv x5.2], hp, none) := fun hp => f35_is ex5
  obtain ⟨x6, ex6, h⟩ := bind_ok h
  have ex6 : ∀ hp, E Tryd.prog Y0 37 [.a [iv x1.1, .l .fz .nz x1.2.length (x1.2.map iv)]] hp = some (.t [iv x6.1, iv x6.2], hp, none) := fun hp => f37_is ex6
  obtain ⟨x7, ex7, h⟩ := bind_ok h
  have ex7 : ∀ hp, E Tryd.prog Y0 26 [.a [iv x1.1, .l .fz .nz x1.2.length (x1.2.map iv)]] hp = some (.t [.l .fz .nz x7.1.length (x7.1.map iv), iv x7.2], hp, none) := fun hp => f26_is ex7
  obtain ⟨x8, ex8, h⟩ := bind_ok h
  have ex8 : ∀ hp, E Tryd.prog Y0 24 [.a [iv x1.1, .l .fz .nz x1.2.length (x1.2.map iv)]] hp = some (iv x8, hp, none) := fun hp => f24_is  ex8
  obtain ⟨x9, ex9, h⟩ := bindT h
  cases x9
  case false =>
   obtain rfl := inj_ok h
   simp [ex1, q2, ex3, ex4, ex5, ex6, ex7, ex8, ex9]
  obtain ⟨x10, ex10, h⟩ := bindT h
  cases x10
  case false =>
   obtain rfl := inj_ok h
   simp [ex1, q2, ex3, ex4, ex5, ex6, ex7, ex8, ex9, ex10]
  obtain ⟨x11, ex11, h⟩ := bindT h
  cases x11
  case false =>
   obtain rfl := inj_ok h
   simp [ex1, q2, ex3, ex4, ex5, ex6, ex7, ex8, ex9, ex10, ex11]
  obtain ⟨x12, ex12, h⟩ := bindT h
  cases x12
  case false =>
   obtain rfl := inj_ok h
   simp [ex1, q2, ex3, ex4, ex5, ex6, ex7, ex8, ex9, ex10, ex11, ex12]
  obtain ⟨x13, ex13, h⟩ := bindT h
  cases x13
  case false =>
   obtain rfl := inj_ok h
   simp [ex1, q2, ex3, ex4, ex5, ex6, ex7, ex8, ex9, ex10, ex11, ex12, ex13]
  obtain ⟨x14, ex14, h⟩ := bindT h
  cases x14
  case false =>
   obtain rfl := inj_ok h
   simp [ex1, q2, ex3, ex4, ex5, ex6, ex7, ex8, ex9, ex10, ex11, ex12, ex13, ex14]
  obtain ⟨x15, ex15, h⟩ := bind_ok h
  have ex15 : ∀ hp, E Tryd.prog Y0 32 [.l .fz .nz x5.1.length (x5.1.map iv), .l .fz .nz x3.2.1.length (x3.2.1.map iv)] hp = some (.v (.bool x15), hp, none) := fun hp => f32_is (a0 := false) (c0 := .nz) (a1 := false) (c1 := .nz) ex15
  cases x15
  case false =>
   obtain rfl := inj_ok h
   simp [ex1, q2, ex3, ex4, ex5, ex6, ex7, ex8, ex9, ex10, ex11, ex12, ex13, ex14, ex15]
  obtain ⟨x16, ex16, h⟩ := bindT h
  cases x16
  case false =>
   obtain rfl := inj_ok h
   simp [ex1, q2, ex3, ex4, ex5, ex6, ex7, ex8, ex9, ex10, ex11, ex12, ex13, ex14, ex15, ex16]
  obtain ⟨⟨⟨c17, l18⟩, x19, b20⟩, e21, h⟩ := bind_ok h
  try dsimp only at h
  have e21 : ∀ hp, E Tryd.prog Y0 50 [.a [iv x1.1, .l .fz .nz x1.2.length (x1.2.map iv)], .l .fz .nz x7.1.length (x7.1.map iv)] hp = some (.t [.l .fz c17 l18.length (l18.map iv), iv x19, .v (.bool b20)], hp, none) := fun hp => f50_is (c0b := .nz) (a1 := false) (c1 := .nz) e21
  obtain ⟨x22, ex22, h⟩ := bind_ok h
  have ex22 : ∀ hp, E Tryd.prog Y0 19 [.a [iv x1.1, .l .fz .nz x1.2.length (x1.2.map iv)], .l .fz .nz x7.1.length (x7.1.map iv)] hp = some (.t [iv x22.1, iv x22.2], hp, none) := fun hp => f19_is (a1 := false) (c1 := .nz) ex22
  cases b20
  case false =>
   obtain rfl := inj_ok h
   simp [ex1, q2, ex3, ex4, ex5, ex6, ex7, ex8, ex9, ex10, ex11, ex12, ex13, ex14, ex15, ex16, e21, ex22]
  obtain ⟨x23, ex23, h⟩ := bindT h
  cases x23
  case false =>
   obtain rfl := inj_ok h
   simp [ex1, q2, ex3, ex4, ex5, ex6, ex7, ex8, ex9, ex10, ex11, ex12, ex13, ex14, ex15, ex16, e21, ex22, ex23]
  obtain ⟨x24, ex24, h⟩ := bindT h
  cases x24
  case false =>
   obtain rfl := inj_ok h
   simp [ex1, q2, ex3, ex4, ex5, ex6, ex7, ex8, ex9, ex10, ex11, ex12, ex13, ex14, ex15, ex16, e21, ex22, ex23, ex24]
  obtain ⟨x25, ex25, h⟩ := bindT h
  cases x25
  case false =>
   obtain rfl := inj_ok h
   simp [ex1, q2, ex3, ex4, ex5, ex6, ex7, ex8, ex9, ex10, ex11, ex12, ex13, ex14, ex15, ex16, e21, ex22, ex23, ex24, ex25]
  obtain ⟨b26, e27, h⟩ := bind_ok h
  have e27 : ∀ hp, E Tryd.prog Y0 18 [] hp = some (.v (.bool b26), hp, none) := fun hp => f18_is  e27
  obtain rfl := inj_ok h
  simp [ex1, q2, ex3, ex4, ex5, ex6, ex7, ex8, ex9, ex10, ex11, ex12, ex13, ex14, ex15, ex16, e21, ex22, ex23, ex24, ex25, e27]
end Go.Proofs.YtcdhajbhpnbdkaaDoor
