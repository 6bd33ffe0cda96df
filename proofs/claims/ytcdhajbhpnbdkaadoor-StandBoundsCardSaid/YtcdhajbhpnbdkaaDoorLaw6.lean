/-
  StandBounds
  Printed by wip/tools/walk.py. Conditions: none; definitions and lemmas.
-/
import Derived.Test.YtcdhajbhpnbdkaaDoorWorks4
set_option linter.unusedSimpArgs false
set_option linter.unusedVariables false
namespace Go.Proofs.YtcdhajbhpnbdkaaDoor
open Go.Abs Go.Pur
set_option maxRecDepth 100000
set_option maxHeartbeats 2000000
attribute [local simp] EK_region EK_seq EK_cond EK_block EK_blk EK_loop EK_exit EK.ex EK_ret EK_skip EK_nil EO_cons EO_nil EO1_true EO1_false EO2_some EO3_some EB_true EB_false pwanted poper pq pev Go.Pur.look pputT isAssign drOf pinit Tr.get_set lget pvOf_int pvOf_bool pvOf_str pvOf_nil rdv_ak notOwn_ak prt_ak loose_ak rdv_own rdv_fz rdv_bor rdv_rf rdv_pt rdv_v rdv_a rdv_t rdv_r rdv_p rdv_s rdv_f pbin plen pload ppart idxAddr pcond Nat.blt goInt_eq prun_not prun_neg mayLoad ER_ret ER_normal presL presOne moved stor okDrop settle_v settle_l settle_a settle_p settle_f noref_v noref_fz noref_a norefs_nil norefs_cons pclose given dropB Y0_keep pevParts stors pvCells pvCells.go vcells pfill reps zipParts ownFz pcells cellOK one psrcLen srcFits psrc takeP pgrow take getPl setPl mapL plEq elder isList lowP pevs frzs addP partAt ble_lim24 killV_v killV_a killV_t killV_f killV_i killV_p killV_s killV_un killV_dead killV_lfz killV_lbor killV_lown killV_rfz killV_rbor killV_lak killV_rak frzV_v frzV_a frzV_t frzV_f frzV_i frzV_p frzV_s frzV_un frzV_dead frzV_lfz frzV_lbor frzV_lown frzV_rfz frzV_rbor frzV_lak frzV_rak killCell_v killCell_a killCell_t killCell_f killCell_i killCell_p killCell_s killCell_un killCell_dead killCell_lfz killCell_lbor killCell_lown killCell_rfz killCell_rbor killCell_lak killCell_rak killV_lrf killV_lpt killV_rpt frzV_lrf frzV_lpt frzV_rpt killCell_lrft killCell_lptt killCell_rptt killCell_lrfc killCell_lptc killCell_rptc argv_lak argv_rak argv_v argv_a argv_p argv_f argv_fz argv_bor argv_rf argv_pt argv_rc argv_own mayTurn_none argvs pcallOp firm refsTo_v refsTo_l refsTo_p refsTo_s refsTo_a refsTo_dead refsTo_nil refsTo_cons isOwn_lak ownFz_lak evSafe pskip plain pnewBlk fldAddr isOwn pput notOwn_fz notOwn_bor notOwn_own notOwn_rf notOwn_pt prt_fz prt_bor prt_own prt_rf prt_pt Go.Pur.freeze presM settles abin_and abin_or abin_andNot abin_mul abin_shr abin_shl abin_add abin_sub abin_eql abin_neq abin_lss abin_leq abin_gtr abin_geq keep6 sz3 by3 row3 zero3 sz4 by4 row4 zero4 sz5 by5 row5 zero5 sz9 by9 row9 shape9 zero9 sz22 by22 row22 shape22 zero22 sz24 by24 row24 zero24 parts24 field24_0 field24_1 sz27 by27 row27 zero27 parts27 field27_0 field27_1 sz28 by28 row28 zero28 sz32 by32 row32 shape32 zero32 sz46 by46 row46 shape46 zero46 sz54 by54 row54 shape54 zero54 parts54 sz56 by56 row56 zero56 parts56 field56_0 field56_1 field56_2 sz63 by63 row63 shape63 zero63 parts63 sz70 by70 row70 shape70 zero70 parts70 sz75 by75 row75 shape75 zero75 parts75 sz79 by79 row79 zero79 sz84 by84 row84 zero84 sz86 by86 row86 shape86 zero86 sz91 by91 row91 zero91 sz93 by93 row93 zero93 parts93 field93_0 sz97 by97 row97 zero97 sz100 by100 row100 zero100 sz102 by102 row102 zero102 sz105 by105 row105 zero105 parts105 field105_0 field105_1 field105_2 sz106 by106 row106 zero106 sz108 by108 row108 zero108 parts108 field108_0 field108_1 sz109 by109 row109 shape109 zero109 parts109 sz110 by110 row110 shape110 parts110 sz112 by112 row112 parts112 field112_0 field112_1 sz126 by126 row126 shape126 zero126 sz127 by127 row127 zero127 sz134 by134 row134 zero134 sz136 by136 row136 zero136 sz140 by140 row140 zero140 sz147 by147 row147 shape147 zero147 parts147 sz148 by148 row148 shape148 zero148 parts148 sz149 by149 row149 zero149 sz153 by153 row153 zero153 bs_size gAt gAt0 sAt sAt0 optPlain rows_len noMaker_eq kindOf vlOf abin_rem abin_quo mayTurn_none lowOf_none Go.Pur.partAt rows_nil rows_cons ble_add ble_add0 ble_same toPlain toPlain.go intIn2_0 intIn2_1 ble12 ble22 tv lv max_int min_int pplains ak_true ak_false apartP beq_add beq_add0 beq_add1 argv_s wok_none wok_low_iff lowOf_wok
attribute [local simp] ble_addc
def f6S (F : Nat) (p0a : Int) (p0b : List Int) (p1 : Int) (p2 : List Int) : Option (Bool) :=
  (some (decide (40 < p0b.length ∨ 40 < p2.length))).bind fun x1 =>
  (match x1 with
  | true => ((f18S F ).bind fun b2 =>
  some b2)
  | false => ((f39S F p0a p0b).bind fun ((c5, l6), x7) =>
  (f40S F p0a p0b).bind fun ((c9, l10), x11) =>
  (f41S F p0a p0b p2).bind fun (x13, x14) =>
  (f42S F p0a p0b p2).bind fun (x16, x17) =>
  (f43S F p0a p0b).bind fun ((c19, l20), x21) =>
  (f44S F p0a p0b).bind fun ((c23, l24), x25) =>
  (f45S F l6 l10).bind fun b27 =>
  (match b27 with
  | true => ((some (decide (x7 = x11))).bind fun x29 =>
  (match x29 with
  | true => ((some (decide (x13 = x16))).bind fun x30 =>
  (match x30 with
  | true => ((some (decide (x14 = x17))).bind fun x31 =>
  (match x31 with
  | true => ((onS l20 (decide (l20 = l24))).bind fun x32 =>
  (match x32 with
  | true => ((some (decide (x21 = x25))).bind fun x33 =>
  (match x33 with
  | true => ((f46S F p0a p0b p1 p2).bind fun x34 =>
  (f47S F p0a p0b p1 p2).bind fun x36 =>
  (some (decide (x34 = x36))).bind fun x38 =>
  (match x38 with
  | true => ((f18S F ).bind fun b39 =>
  some b39)
  | false => (some false)))
  | false => (some false)))
  | false => (some false)))
  | false => (some false)))
  | false => (some false)))
  | false => (some false)))
  | false => (some false))))
theorem f6_is {p0a : Int} {c0b : Ck} {p0b : List Int} {p1 : Int} {a2 : Bool} {c2 : Ck} {p2 : List Int} {hp : List (Option (List PV))} {F : Nat} {r : (Bool)}  (h : f6S F p0a p0b p1 p2 = some r) :
    E Tryd.prog Y0 6 [.a [iv p0a, .l .fz c0b p0b.length (p0b.map iv)], iv p1, .l (ak a2) c2 p2.length (p2.map iv)] hp = some (.v (.bool r), hp, none) := by
  rw [E_bodyN 3 body6 rfl (by decide) rfl]
  simp only [Tryd.f6, Option.get_some]
  unfold f6S at h
  obtain ⟨x1, ex1, h⟩ := bind_ok h
  have ex1 : ∀ hp, E Tryd.prog Y0 17 [.a [iv p0a, .l .fz c0b p0b.length (p0b.map iv)], .l (ak a2) c2 p2.length (p2.map iv)] hp = some (.v (.bool x1), hp, none) := fun hp => f17_is (a1 := a2) (c1 := c2) ex1
  cases x1
  case true =>
   obtain ⟨b2, e3, h⟩ := bind_ok h
   have e3 : ∀ hp, E Tryd.prog Y0 18 [] hp = some (.v (.bool b2), hp, none) := fun hp => f18_is  e3
   obtain rfl := inj_ok h
   simp [ex1, e3]
  have q4 : spliceP 0 [iv p0a, .l .fz c0b p0b.length (p0b.map iv)] [iv 0, .l .own .nz 0 []] = some [iv p0a, .l .fz c0b p0b.length (p0b.map iv)] := rfl
  obtain ⟨⟨⟨c5, l6⟩, x7⟩, e8, h⟩ := bind_ok h
  try dsimp only at h
  have e8 : ∀ hp, E Tryd.prog Y0 39 [.a [iv p0a, .l .fz c0b p0b.length (p0b.map iv)]] hp = some (.t [.l .fz c5 l6.length (rows l6), iv x7], hp, none) := fun hp => f39_is (c0b := c0b) e8
  obtain ⟨⟨⟨c9, l10⟩, x11⟩, e12, h⟩ := bind_ok h
  try dsimp only at h
  have e12 : ∀ hp, E Tryd.prog Y0 40 [.a [iv p0a, .l .fz c0b p0b.length (p0b.map iv)]] hp = some (.t [.l .fz c9 l10.length (rows l10), iv x11], hp, none) := fun hp => f40_is (c0b := c0b) e12
  obtain ⟨⟨x13, x14⟩, e15, h⟩ := bind_ok h
  try dsimp only at h
  have e15 : ∀ hp, E Tryd.prog Y0 41 [.a [iv p0a, .l .fz c0b p0b.length (p0b.map iv)], .l (ak a2) c2 p2.length (p2.map iv)] hp = some (.t [iv x13, iv x14], hp, none) := fun hp => f41_is (c0b := c0b) (a1 := a2) (c1 := c2) e15
  obtain ⟨⟨x16, x17⟩, e18, h⟩ := bind_ok h
  try dsimp only at h
  have e18 : ∀ hp, E Tryd.prog Y0 42 [.a [iv p0a, .l .fz c0b p0b.length (p0b.map iv)], .l (ak a2) c2 p2.length (p2.map iv)] hp = some (.t [iv x16, iv x17], hp, none) := fun hp => f42_is (c0b := c0b) (a1 := a2) (c1 := c2) e18
  obtain ⟨⟨⟨c19, l20⟩, x21⟩, e22, h⟩ := bind_ok h
  try dsimp only at h
  have e22 : ∀ hp, E Tryd.prog Y0 43 [.a [iv p0a, .l .fz c0b p0b.length (p0b.map iv)]] hp = some (.t [.l .fz c19 l20.length (l20.map iv), iv x21], hp, none) := fun hp => f43_is (c0b := c0b) e22
  obtain ⟨⟨⟨c23, l24⟩, x25⟩, e26, h⟩ := bind_ok h
  try dsimp only at h
  have e26 : ∀ hp, E Tryd.prog Y0 44 [.a [iv p0a, .l .fz c0b p0b.length (p0b.map iv)]] hp = some (.t [.l .fz c23 l24.length (l24.map iv), iv x25], hp, none) := fun hp => f44_is (c0b := c0b) e26
  obtain ⟨b27, e28, h⟩ := bind_ok h
  have e28 : ∀ hp, E Tryd.prog Y0 45 [.l .fz c5 l6.length (rows l6), .l .fz c9 l10.length (rows l10)] hp = some (.v (.bool b27), hp, none) := fun hp => f45_is (a0 := false) (c0 := c5) (a1 := false) (c1 := c9) e28
  cases b27
  case false =>
   obtain rfl := inj_ok h
   simp [ex1, q4, e8, e12, e15, e18, e22, e26, e28]
  obtain ⟨x29, ex29, h⟩ := bindT h
  cases x29
  case false =>
   obtain rfl := inj_ok h
   simp [ex1, q4, e8, e12, e15, e18, e22, e26, e28, ex29]
  obtain ⟨x30, ex30, h⟩ := bindT h
  cases x30
  case false =>
   obtain rfl := inj_ok h
   simp [ex1, q4, e8, e12, e15, e18, e22, e26, e28, ex29, ex30]
  obtain ⟨x31, ex31, h⟩ := bindT h
  cases x31
  case false =>
   obtain rfl := inj_ok h
   simp [ex1, q4, e8, e12, e15, e18, e22, e26, e28, ex29, ex30, ex31]
  obtain ⟨x32, ex32, h⟩ := bind_ok h
  have ex32 : ∀ hp, E Tryd.prog Y0 32 [.l .fz c19 l20.length (l20.map iv), .l .fz c23 l24.length (l24.map iv)] hp = some (.v (.bool x32), hp, none) := fun hp => f32_is (a0 := false) (c0 := c19) (a1 := false) (c1 := c23) ex32
  cases x32
  case false =>
   obtain rfl := inj_ok h
   simp [ex1, q4, e8, e12, e15, e18, e22, e26, e28, ex29, ex30, ex31, ex32]
  obtain ⟨x33, ex33, h⟩ := bindT h
  cases x33
  case false =>
   obtain rfl := inj_ok h
   simp [ex1, q4, e8, e12, e15, e18, e22, e26, e28, ex29, ex30, ex31, ex32, ex33]
  obtain ⟨x34, e35, h⟩ := bind_ok h
  have e35 : ∀ hp, E Tryd.prog Y0 46 [.a [iv p0a, .l .fz c0b p0b.length (p0b.map iv)], iv p1, .l (ak a2) c2 p2.length (p2.map iv)] hp = some (iv x34, hp, none) := fun hp => f46_is (c0b := c0b) (a2 := a2) (c2 := c2) e35
  obtain ⟨x36, e37, h⟩ := bind_ok h
  have e37 : ∀ hp, E Tryd.prog Y0 47 [.a [iv p0a, .l .fz c0b p0b.length (p0b.map iv)], iv p1, .l (ak a2) c2 p2.length (p2.map iv)] hp = some (iv x36, hp, none) := fun hp => f47_is (c0b := c0b) (a2 := a2) (c2 := c2) e37
  obtain ⟨x38, ex38, h⟩ := bindT h
  cases x38
  case false =>
   obtain rfl := inj_ok h
   simp [ex1, q4, e8, e12, e15, e18, e22, e26, e28, ex29, ex30, ex31, ex32, ex33, e35, e37, ex38]
  obtain ⟨b39, e40, h⟩ := bind_ok h
  have e40 : ∀ hp, E Tryd.prog Y0 18 [] hp = some (.v (.bool b39), hp, none) := fun hp => f18_is  e40
  obtain rfl := inj_ok h
  simp [ex1, q4, e8, e12, e15, e18, e22, e26, e28, ex29, ex30, ex31, ex32, ex33, e35, e37, ex38, e40]
end Go.Proofs.YtcdhajbhpnbdkaaDoor
