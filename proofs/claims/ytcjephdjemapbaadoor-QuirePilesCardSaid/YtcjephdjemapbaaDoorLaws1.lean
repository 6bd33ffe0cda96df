/-
  laws
  Printed by wip/tools/walk.py. Conditions: none; definitions and lemmas.
-/
import Derived.Test.YtcjephdjemapbaaDoorWorks1
set_option linter.unusedSimpArgs false
set_option linter.unusedVariables false
namespace Go.Proofs.YtcjephdjemapbaaDoor
open Go.Abs Go.Pur
set_option maxRecDepth 100000
set_option maxHeartbeats 2000000
attribute [local simp] EK_region EK_seq EK_cond EK_block EK_blk EK_loop EK_exit EK.ex EK_ret EK_skip EK_nil EO_cons EO_nil EO1_true EO1_false EO2_some EO3_some EB_true EB_false pwanted poper pq pev Go.Pur.look pputT isAssign drOf pinit Tr.get_set lget pvOf_int pvOf_bool pvOf_str pvOf_nil rdv_ak notOwn_ak prt_ak loose_ak rdv_own rdv_fz rdv_bor rdv_rf rdv_pt rdv_v rdv_a rdv_t rdv_r rdv_p rdv_s rdv_f pbin plen pload ppart idxAddr pcond Nat.blt goInt_eq prun_not prun_neg mayLoad ER_ret ER_normal presL presOne moved stor okDrop settle_v settle_l settle_a settle_p settle_f noref_v noref_fz noref_a norefs_nil norefs_cons pclose given dropB Y0_keep pevParts stors pvCells pvCells.go vcells pfill reps zipParts ownFz pcells cellOK one psrcLen srcFits psrc takeP pgrow take getPl setPl mapL plEq elder isList lowP pevs frzs addP partAt ble_lim24 killV_v killV_a killV_t killV_f killV_i killV_p killV_s killV_un killV_dead killV_lfz killV_lbor killV_lown killV_rfz killV_rbor killV_lak killV_rak frzV_v frzV_a frzV_t frzV_f frzV_i frzV_p frzV_s frzV_un frzV_dead frzV_lfz frzV_lbor frzV_lown frzV_rfz frzV_rbor frzV_lak frzV_rak killCell_v killCell_a killCell_t killCell_f killCell_i killCell_p killCell_s killCell_un killCell_dead killCell_lfz killCell_lbor killCell_lown killCell_rfz killCell_rbor killCell_lak killCell_rak killV_lrf killV_lpt killV_rpt frzV_lrf frzV_lpt frzV_rpt killCell_lrft killCell_lptt killCell_rptt killCell_lrfc killCell_lptc killCell_rptc argv_lak argv_rak argv_v argv_a argv_p argv_f argv_fz argv_bor argv_rf argv_pt argv_rc argv_own mayTurn_none argvs pcallOp firm refsTo_v refsTo_l refsTo_p refsTo_s refsTo_a refsTo_dead refsTo_nil refsTo_cons isOwn_lak ownFz_lak evSafe pskip plain pnewBlk fldAddr isOwn pput notOwn_fz notOwn_bor notOwn_own notOwn_rf notOwn_pt prt_fz prt_bor prt_own prt_rf prt_pt Go.Pur.freeze presM settles abin_and abin_or abin_andNot abin_mul abin_shr abin_shl abin_add abin_sub abin_eql abin_neq abin_lss abin_leq abin_gtr abin_geq keep3 keep4 keep5 keep6 keep7 keep8 keep9 keep10 keep11 keep12 keep13 keep14 keep15 keep16 keep17 keep18 keep19 keep20 keep21 keep22 keep23 keep24 keep25 keep26 keep27 keep28 keep29 keep30 keep31 keep32 keep33 keep34 keep35 keep36 keep37 keep38 keep39 keep40 keep41 keep42 keep43 keep44 keep45 keep46 keep47 keep48 keep49 keep50 keep51 keep52 keep53 keep54 keep55 keep56 keep57 keep58 keep59 keep60 keep61 keep62 keep63 keep64 keep65 keep66 keep67 keep68 keep69 keep70 keep71 keep72 keep73 keep74 keep75 keep76 keep77 keep78 keep79 keep80 keep81 keep82 keep83 keep84 keep85 keep86 keep87 keep88 keep89 keep90 keep91 keep92 keep93 keep94 keep95 keep96 keep97 keep98 keep99 keep100 keep101 keep102 keep103 keep104 keep105 keep106 keep107 keep108 keep109 keep110 keep111 keep112 keep113 keep114 keep115 keep116 keep117 keep118 keep119 keep120 keep121 keep122 keep123 keep124 keep125 keep126 keep127 keep128 keep129 keep130 keep131 keep132 keep133 keep134 sz3 by3 row3 zero3 sz4 by4 row4 zero4 sz5 by5 row5 zero5 sz9 by9 row9 shape9 zero9 sz21 by21 row21 zero21 sz23 by23 row23 shape23 zero23 sz24 by24 row24 zero24 sz38 by38 row38 shape38 zero38 sz47 by47 row47 shape47 zero47 parts47 sz51 by51 row51 zero51 sz54 by54 row54 shape54 zero54 sz55 by55 row55 shape55 zero55 sz58 by58 row58 shape58 zero58 sz60 by60 row60 zero60 sz63 by63 row63 shape63 zero63 sz73 by73 row73 shape73 zero73 parts73 sz79 by79 row79 shape79 zero79 sz81 by81 row81 shape81 zero81 parts81 sz86 by86 row86 shape86 parts86 sz90 by90 row90 zero90 sz92 by92 row92 zero92 sz96 by96 row96 zero96 parts96 field96_0 field96_1 sz99 by99 row99 zero99 sz104 by104 row104 zero104 sz106 by106 row106 zero106 parts106 field106_0 field106_1 sz119 by119 row119 zero119 sz123 by123 row123 zero123 sz124 by124 row124 shape124 zero124 parts124 sz125 by125 row125 shape125 zero125 parts125 sz126 by126 row126 shape126 parts126 sz128 by128 row128 zero128 parts128 field128_0 field128_1 sz129 by129 row129 shape129 zero129 parts129 sz133 by133 row133 zero133 bs_size gAt gAt0 sAt sAt0 optPlain rows_len noMaker_eq kindOf vlOf abin_rem abin_quo mayTurn_none lowOf_none Go.Pur.partAt rows_nil rows_cons ble_add ble_add0 ble_same toPlain toPlain.go intIn2_0 intIn2_1 ble12 ble22 tv lv max_int min_int pplains ak_true ak_false apartP beq_add beq_add0 beq_add1 argv_s wok_none wok_low_iff lowOf_wok

def f3S (F : Nat) (p0 : List UInt8) : Option (Bool) :=
  (some ((p0.length : Int))).bind fun x1 =>
  (some (decide (100 < x1))).bind fun x2 =>
  (match x2 with
  | true => ((f17S F ).bind fun b3 =>
  some b3)
  | false => ((f18S F p0).bind fun ((c5, l6), x7) =>
  (f19S F p0).bind fun ((c9, l10), x11) =>
  (f20S F p0).bind fun ((c13, l14), (c15, l16), x17) =>
  (f21S F p0).bind fun ((c19, l20), (c21, l22), x23) =>
  (sameO l6 l10).bind fun x25 =>
  (match x25 with
  | true => ((some (decide (x7 = x11))).bind fun x26 =>
  (match x26 with
  | true => ((sameO l14 l20).bind fun x27 =>
  (match x27 with
  | true => ((sameO l16 l22).bind fun x28 =>
  (match x28 with
  | true => ((some (decide (x17 = x23))).bind fun x29 =>
  (match x29 with
  | true => ((f23S F p0).bind fun (s30, x31) =>
  (f24S F p0).bind fun (s33, x34) =>
  (f25S F p0).bind fun (x36, x37, x38) =>
  (f26S F p0).bind fun (x40, x41, x42) =>
  (some (decide (s30 = s33))).bind fun x44 =>
  (match x44 with
  | true => ((some (decide (x31 = x34))).bind fun x45 =>
  (match x45 with
  | true => ((some (decide (x36 = x40))).bind fun x46 =>
  (match x46 with
  | true => ((some (decide (x37 = x41))).bind fun x47 =>
  (match x47 with
  | true => ((some (decide (x38 = x42))).bind fun x48 =>
  (match x48 with
  | true => ((some (checkE p0)).bind fun x49 =>
  (f17S F ).bind fun b52 =>
  some b52)
  | false => (some false)))
  | false => (some false)))
  | false => (some false)))
  | false => (some false)))
  | false => (some false)))
  | false => (some false)))
  | false => (some false)))
  | false => (some false)))
  | false => (some false)))
  | false => (some false))))
theorem f3_is {p0 : List UInt8} {hp : List (Option (List PV))} {F : Nat} {r : (Bool)}  (h : f3S F p0 = some r) :
    E Tryd.prog Y0 3 [.v (.string (bs p0))] hp = some (.v (.bool r), hp, none) := by
  rw [E_bodyN 1 body3 rfl (by decide) rfl]
  simp only [Tryd.f3, Option.get_some]
  unfold f3S at h
  replace h := bindT h; obtain ⟨x1, ex1, h⟩ := h
  replace h := bindT h; obtain ⟨x2, ex2, h⟩ := h
  cases x2
  case true =>
   replace h := bind_ok h; obtain ⟨b3, e4, h⟩ := h
   have e4 : ∀ hp, E Tryd.prog Y0 17 [] hp = some (.v (.bool b3), hp, none) := fun hp => f17_is  e4
   obtain rfl := inj_ok h
   simp [ex1, ex2, e4]
  replace h := bind_ok h; obtain ⟨⟨⟨c5, l6⟩, x7⟩, e8, h⟩ := h
  try dsimp only at h
  have e8 : ∀ hp, E Tryd.prog Y0 18 [.v (.string (bs p0))] hp = some (.t [.l .fz c5 l6.length (l6.map iv), iv x7], hp, none) := fun hp => f18_is  e8
  replace h := bind_ok h; obtain ⟨⟨⟨c9, l10⟩, x11⟩, e12, h⟩ := h
  try dsimp only at h
  have e12 : ∀ hp, E Tryd.prog Y0 19 [.v (.string (bs p0))] hp = some (.t [.l .fz c9 l10.length (l10.map iv), iv x11], hp, none) := fun hp => f19_is  e12
  replace h := bind_ok h; obtain ⟨⟨⟨c13, l14⟩, ⟨c15, l16⟩, x17⟩, e18, h⟩ := h
  try dsimp only at h
  have e18 : ∀ hp, E Tryd.prog Y0 20 [.v (.string (bs p0))] hp = some (.t [.l .fz c13 l14.length (l14.map iv), .l .fz c15 l16.length (l16.map iv), iv x17], hp, none) := fun hp => f20_is  e18
  replace h := bind_ok h; obtain ⟨⟨⟨c19, l20⟩, ⟨c21, l22⟩, x23⟩, e24, h⟩ := h
  try dsimp only at h
  have e24 : ∀ hp, E Tryd.prog Y0 21 [.v (.string (bs p0))] hp = some (.t [.l .fz c19 l20.length (l20.map iv), .l .fz c21 l22.length (l22.map iv), iv x23], hp, none) := fun hp => f21_is  e24
  replace h := bind_ok h; obtain ⟨x25, ex25, h⟩ := h
  have ex25 : ∀ hp, E Tryd.prog Y0 22 [.l .fz c5 l6.length (l6.map iv), .l .fz c9 l10.length (l10.map iv)] hp = some (.v (.bool x25), hp, none) := fun hp => same22_is (a0 := false) (c0 := c5) (a1 := false) (c1 := c9) ex25
  cases x25
  case false =>
   obtain rfl := inj_ok h
   simp [ex1, ex2, e8, e12, e18, e24, ex25]
  replace h := bindT h; obtain ⟨x26, ex26, h⟩ := h
  cases x26
  case false =>
   obtain rfl := inj_ok h
   simp [ex1, ex2, e8, e12, e18, e24, ex25, ex26]
  replace h := bind_ok h; obtain ⟨x27, ex27, h⟩ := h
  have ex27 : ∀ hp, E Tryd.prog Y0 22 [.l .fz c13 l14.length (l14.map iv), .l .fz c19 l20.length (l20.map iv)] hp = some (.v (.bool x27), hp, none) := fun hp => same22_is (a0 := false) (c0 := c13) (a1 := false) (c1 := c19) ex27
  cases x27
  case false =>
   obtain rfl := inj_ok h
   simp [ex1, ex2, e8, e12, e18, e24, ex25, ex26, ex27]
  replace h := bind_ok h; obtain ⟨x28, ex28, h⟩ := h
  have ex28 : ∀ hp, E Tryd.prog Y0 22 [.l .fz c15 l16.length (l16.map iv), .l .fz c21 l22.length (l22.map iv)] hp = some (.v (.bool x28), hp, none) := fun hp => same22_is (a0 := false) (c0 := c15) (a1 := false) (c1 := c21) ex28
  cases x28
  case false =>
   obtain rfl := inj_ok h
   simp [ex1, ex2, e8, e12, e18, e24, ex25, ex26, ex27, ex28]
  replace h := bindT h; obtain ⟨x29, ex29, h⟩ := h
  cases x29
  case false =>
   obtain rfl := inj_ok h
   simp [ex1, ex2, e8, e12, e18, e24, ex25, ex26, ex27, ex28, ex29]
  replace h := bind_ok h; obtain ⟨⟨s30, x31⟩, e32, h⟩ := h
  try dsimp only at h
  have e32 : ∀ hp, E Tryd.prog Y0 23 [.v (.string (bs p0))] hp = some (.t [.v (.string (bs s30)), iv x31], hp, none) := fun hp => f23_is  e32
  replace h := bind_ok h; obtain ⟨⟨s33, x34⟩, e35, h⟩ := h
  try dsimp only at h
  have e35 : ∀ hp, E Tryd.prog Y0 24 [.v (.string (bs p0))] hp = some (.t [.v (.string (bs s33)), iv x34], hp, none) := fun hp => f24_is  e35
  replace h := bind_ok h; obtain ⟨⟨x36, x37, x38⟩, e39, h⟩ := h
  try dsimp only at h
  have e39 : ∀ hp, E Tryd.prog Y0 25 [.v (.string (bs p0))] hp = some (.t [iv x36, iv x37, iv x38], hp, none) := fun hp => f25_is  e39
  replace h := bind_ok h; obtain ⟨⟨x40, x41, x42⟩, e43, h⟩ := h
  try dsimp only at h
  have e43 : ∀ hp, E Tryd.prog Y0 26 [.v (.string (bs p0))] hp = some (.t [iv x40, iv x41, iv x42], hp, none) := fun hp => f26_is  e43
  replace h := bind_ok h; obtain ⟨x44, ex44, h⟩ := h
  have ex44p := inj_ok ex44
  have ex44 : decide (bs s30 = bs s33) = x44 := (decide_eq_decide.2 bs_eq).trans (inj_ok ex44)
  cases x44
  case false =>
   obtain rfl := inj_ok h
   simp [ex1, ex2, e8, e12, e18, e24, ex25, ex26, ex27, ex28, ex29, e32, e35, e39, e43, ex44, ex44p, abin_seql, abin_sneq]
  replace h := bindT h; obtain ⟨x45, ex45, h⟩ := h
  cases x45
  case false =>
   obtain rfl := inj_ok h
   simp [ex1, ex2, e8, e12, e18, e24, ex25, ex26, ex27, ex28, ex29, e32, e35, e39, e43, ex44, ex44p, abin_seql, abin_sneq, ex45]
  replace h := bindT h; obtain ⟨x46, ex46, h⟩ := h
  cases x46
  case false =>
   obtain rfl := inj_ok h
   simp [ex1, ex2, e8, e12, e18, e24, ex25, ex26, ex27, ex28, ex29, e32, e35, e39, e43, ex44, ex44p, abin_seql, abin_sneq, ex45, ex46]
  replace h := bindT h; obtain ⟨x47, ex47, h⟩ := h
  cases x47
  case false =>
   obtain rfl := inj_ok h
   simp [ex1, ex2, e8, e12, e18, e24, ex25, ex26, ex27, ex28, ex29, e32, e35, e39, e43, ex44, ex44p, abin_seql, abin_sneq, ex45, ex46, ex47]
  replace h := bindT h; obtain ⟨x48, ex48, h⟩ := h
  cases x48
  case false =>
   obtain rfl := inj_ok h
   simp [ex1, ex2, e8, e12, e18, e24, ex25, ex26, ex27, ex28, ex29, e32, e35, e39, e43, ex44, ex44p, abin_seql, abin_sneq, ex45, ex46, ex47, ex48]
  replace h := bindT h; obtain ⟨x49, ex49, h⟩ := h
  have q50 : ∀ hp, E Tryd.prog Y0 27 [.v (.string (bs p0))] hp = some (iv x49, hp, none) := fun hp => f27_is ex49
  have q51 : ∀ hp, E Tryd.prog Y0 28 [.v (.string (bs p0))] hp = some (iv x49, hp, none) := fun hp => f28_is ex49
  replace h := bind_ok h; obtain ⟨b52, e53, h⟩ := h
  have e53 : ∀ hp, E Tryd.prog Y0 17 [] hp = some (.v (.bool b52), hp, none) := fun hp => f17_is  e53
  obtain rfl := inj_ok h
  simp [ex1, ex2, e8, e12, e18, e24, ex25, ex26, ex27, ex28, ex29, e32, e35, e39, e43, ex44, ex44p, abin_seql, abin_sneq, ex45, ex46, ex47, ex48, ex49, q50, q51, e53]

def f4S (F : Nat) (p0 : List UInt8) (p1 : Int) (p2 : Int) : Option (Bool) :=
  (some ((p0.length : Int))).bind fun x1 =>
  (some (decide (100 < x1))).bind fun x2 =>
  (match x2 with
  | true => ((f17S F ).bind fun b3 =>
  some b3)
  | false => ((f29S F p0).bind fun (s5, x6) =>
  (f30S F p0).bind fun (s8, x9) =>
  (f31S F p0).bind fun (x11, x12, x13) =>
  (f32S F p0).bind fun (x15, x16, x17) =>
  (some (decide (s5 = s8))).bind fun x19 =>
  (match x19 with
  | true => ((some (decide (x6 = x9))).bind fun x20 =>
  (match x20 with
  | true => ((some (decide (x11 = x15))).bind fun x21 =>
  (match x21 with
  | true => ((some (decide (x12 = x16))).bind fun x22 =>
  (match x22 with
  | true => ((some (decide (x13 = x17))).bind fun x23 =>
  (match x23 with
  | true => ((f33S F p0 p1 p2).bind fun x24 =>
  (f34S F p0 p1 p2).bind fun x26 =>
  (some (decide (x24 = x26))).bind fun x28 =>
  (match x28 with
  | true => ((f17S F ).bind fun b29 =>
  some b29)
  | false => (some false)))
  | false => (some false)))
  | false => (some false)))
  | false => (some false)))
  | false => (some false)))
  | false => (some false))))
theorem f4_is {p0 : List UInt8} {p1 : Int} {p2 : Int} {hp : List (Option (List PV))} {F : Nat} {r : (Bool)}  (h : f4S F p0 p1 p2 = some r) :
    E Tryd.prog Y0 4 [.v (.string (bs p0)), iv p1, iv p2] hp = some (.v (.bool r), hp, none) := by
  rw [E_bodyN 3 body4 rfl (by decide) rfl]
  simp only [Tryd.f4, Option.get_some]
  unfold f4S at h
  replace h := bindT h; obtain ⟨x1, ex1, h⟩ := h
  replace h := bindT h; obtain ⟨x2, ex2, h⟩ := h
  cases x2
  case true =>
   replace h := bind_ok h; obtain ⟨b3, e4, h⟩ := h
   have e4 : ∀ hp, E Tryd.prog Y0 17 [] hp = some (.v (.bool b3), hp, none) := fun hp => f17_is  e4
   obtain rfl := inj_ok h
   simp [ex1, ex2, e4]
  replace h := bind_ok h; obtain ⟨⟨s5, x6⟩, e7, h⟩ := h
  try dsimp only at h
  have e7 : ∀ hp, E Tryd.prog Y0 29 [.v (.string (bs p0))] hp = some (.t [.v (.string (bs s5)), iv x6], hp, none) := fun hp => f29_is  e7
  replace h := bind_ok h; obtain ⟨⟨s8, x9⟩, e10, h⟩ := h
  try dsimp only at h
  have e10 : ∀ hp, E Tryd.prog Y0 30 [.v (.string (bs p0))] hp = some (.t [.v (.string (bs s8)), iv x9], hp, none) := fun hp => f30_is  e10
  replace h := bind_ok h; obtain ⟨⟨x11, x12, x13⟩, e14, h⟩ := h
  try dsimp only at h
  have e14 : ∀ hp, E Tryd.prog Y0 31 [.v (.string (bs p0))] hp = some (.t [iv x11, iv x12, iv x13], hp, none) := fun hp => f31_is  e14
  replace h := bind_ok h; obtain ⟨⟨x15, x16, x17⟩, e18, h⟩ := h
  try dsimp only at h
  have e18 : ∀ hp, E Tryd.prog Y0 32 [.v (.string (bs p0))] hp = some (.t [iv x15, iv x16, iv x17], hp, none) := fun hp => f32_is  e18
  replace h := bind_ok h; obtain ⟨x19, ex19, h⟩ := h
  have ex19p := inj_ok ex19
  have ex19 : decide (bs s5 = bs s8) = x19 := (decide_eq_decide.2 bs_eq).trans (inj_ok ex19)
  cases x19
  case false =>
   obtain rfl := inj_ok h
   simp [ex1, ex2, e7, e10, e14, e18, ex19, ex19p, abin_seql, abin_sneq]
  replace h := bindT h; obtain ⟨x20, ex20, h⟩ := h
  cases x20
  case false =>
   obtain rfl := inj_ok h
   simp [ex1, ex2, e7, e10, e14, e18, ex19, ex19p, abin_seql, abin_sneq, ex20]
  replace h := bindT h; obtain ⟨x21, ex21, h⟩ := h
  cases x21
  case false =>
   obtain rfl := inj_ok h
   simp [ex1, ex2, e7, e10, e14, e18, ex19, ex19p, abin_seql, abin_sneq, ex20, ex21]
  replace h := bindT h; obtain ⟨x22, ex22, h⟩ := h
  cases x22
  case false =>
   obtain rfl := inj_ok h
   simp [ex1, ex2, e7, e10, e14, e18, ex19, ex19p, abin_seql, abin_sneq, ex20, ex21, ex22]
  replace h := bindT h; obtain ⟨x23, ex23, h⟩ := h
  cases x23
  case false =>
   obtain rfl := inj_ok h
   simp [ex1, ex2, e7, e10, e14, e18, ex19, ex19p, abin_seql, abin_sneq, ex20, ex21, ex22, ex23]
  replace h := bind_ok h; obtain ⟨x24, e25, h⟩ := h
  have e25 : ∀ hp, E Tryd.prog Y0 33 [.v (.string (bs p0)), iv p1, iv p2] hp = some (iv x24, hp, none) := fun hp => f33_is  e25
  replace h := bind_ok h; obtain ⟨x26, e27, h⟩ := h
  have e27 : ∀ hp, E Tryd.prog Y0 34 [.v (.string (bs p0)), iv p1, iv p2] hp = some (iv x26, hp, none) := fun hp => f34_is  e27
  replace h := bindT h; obtain ⟨x28, ex28, h⟩ := h
  cases x28
  case false =>
   obtain rfl := inj_ok h
   simp [ex1, ex2, e7, e10, e14, e18, ex19, ex19p, abin_seql, abin_sneq, ex20, ex21, ex22, ex23, e25, e27, ex28]
  replace h := bind_ok h; obtain ⟨b29, e30, h⟩ := h
  have e30 : ∀ hp, E Tryd.prog Y0 17 [] hp = some (.v (.bool b29), hp, none) := fun hp => f17_is  e30
  obtain rfl := inj_ok h
  simp [ex1, ex2, e7, e10, e14, e18, ex19, ex19p, abin_seql, abin_sneq, ex20, ex21, ex22, ex23, e25, e27, ex28, e30]

def f5S (F : Nat) (p0 : List UInt8) : Option (Bool) :=
  (some ((p0.length : Int))).bind fun x1 =>
  (some (decide (100 < x1))).bind fun x2 =>
  (match x2 with
  | true => ((f17S F ).bind fun b3 =>
  some b3)
  | false => ((f35S F p0).bind fun ((c5, l6), x7) =>
  (f36S F p0).bind fun ((c9, l10), x11) =>
  (f37S F p0).bind fun (x13, x14, x15) =>
  (f38S F p0).bind fun (x17, x18, x19) =>
  (sameO l6 l10).bind fun x21 =>
  (match x21 with
  | true => ((some (decide (x7 = x11))).bind fun x22 =>
  (match x22 with
  | true => ((some (decide (x13 = x17))).bind fun x23 =>
  (match x23 with
  | true => ((some (decide (x14 = x18))).bind fun x24 =>
  (match x24 with
  | true => ((some (decide (x15 = x19))).bind fun x25 =>
  (match x25 with
  | true => ((f17S F ).bind fun b26 =>
  some b26)
  | false => (some false)))
  | false => (some false)))
  | false => (some false)))
  | false => (some false)))
  | false => (some false))))
theorem f5_is {p0 : List UInt8} {hp : List (Option (List PV))} {F : Nat} {r : (Bool)}  (h : f5S F p0 = some r) :
    E Tryd.prog Y0 5 [.v (.string (bs p0))] hp = some (.v (.bool r), hp, none) := by
  rw [E_bodyN 1 body5 rfl (by decide) rfl]
  simp only [Tryd.f5, Option.get_some]
  unfold f5S at h
  replace h := bindT h; obtain ⟨x1, ex1, h⟩ := h
  replace h := bindT h; obtain ⟨x2, ex2, h⟩ := h
  cases x2
  case true =>
   replace h := bind_ok h; obtain ⟨b3, e4, h⟩ := h
   have e4 : ∀ hp, E Tryd.prog Y0 17 [] hp = some (.v (.bool b3), hp, none) := fun hp => f17_is  e4
   obtain rfl := inj_ok h
   simp [ex1, ex2, e4]
  replace h := bind_ok h; obtain ⟨⟨⟨c5, l6⟩, x7⟩, e8, h⟩ := h
  try dsimp only at h
  have e8 : ∀ hp, E Tryd.prog Y0 35 [.v (.string (bs p0))] hp = some (.t [.l .fz c5 l6.length (rows l6), iv x7], hp, none) := fun hp => f35_is  e8
  replace h := bind_ok h; obtain ⟨⟨⟨c9, l10⟩, x11⟩, e12, h⟩ := h
  try dsimp only at h
  have e12 : ∀ hp, E Tryd.prog Y0 36 [.v (.string (bs p0))] hp = some (.t [.l .fz c9 l10.length (rows l10), iv x11], hp, none) := fun hp => f36_is  e12
  replace h := bind_ok h; obtain ⟨⟨x13, x14, x15⟩, e16, h⟩ := h
  try dsimp only at h
  have e16 : ∀ hp, E Tryd.prog Y0 37 [.v (.string (bs p0))] hp = some (.t [iv x13, iv x14, iv x15], hp, none) := fun hp => f37_is  e16
  replace h := bind_ok h; obtain ⟨⟨x17, x18, x19⟩, e20, h⟩ := h
  try dsimp only at h
  have e20 : ∀ hp, E Tryd.prog Y0 38 [.v (.string (bs p0))] hp = some (.t [iv x17, iv x18, iv x19], hp, none) := fun hp => f38_is  e20
  replace h := bind_ok h; obtain ⟨x21, ex21, h⟩ := h
  have ex21 : ∀ hp, E Tryd.prog Y0 39 [.l .fz c5 l6.length (rows l6), .l .fz c9 l10.length (rows l10)] hp = some (.v (.bool x21), hp, none) := fun hp => alike_is (a0 := false) (c0 := c5) (a1 := false) (c1 := c9) ex21
  cases x21
  case false =>
   obtain rfl := inj_ok h
   simp [ex1, ex2, e8, e12, e16, e20, ex21]
  replace h := bindT h; obtain ⟨x22, ex22, h⟩ := h
  cases x22
  case false =>
   obtain rfl := inj_ok h
   simp [ex1, ex2, e8, e12, e16, e20, ex21, ex22]
  replace h := bindT h; obtain ⟨x23, ex23, h⟩ := h
  cases x23
  case false =>
   obtain rfl := inj_ok h
   simp [ex1, ex2, e8, e12, e16, e20, ex21, ex22, ex23]
  replace h := bindT h; obtain ⟨x24, ex24, h⟩ := h
  cases x24
  case false =>
   obtain rfl := inj_ok h
   simp [ex1, ex2, e8, e12, e16, e20, ex21, ex22, ex23, ex24]
  replace h := bindT h; obtain ⟨x25, ex25, h⟩ := h
  cases x25
  case false =>
   obtain rfl := inj_ok h
   simp [ex1, ex2, e8, e12, e16, e20, ex21, ex22, ex23, ex24, ex25]
  replace h := bind_ok h; obtain ⟨b26, e27, h⟩ := h
  have e27 : ∀ hp, E Tryd.prog Y0 17 [] hp = some (.v (.bool b26), hp, none) := fun hp => f17_is  e27
  obtain rfl := inj_ok h
  simp [ex1, ex2, e8, e12, e16, e20, ex21, ex22, ex23, ex24, ex25, e27]

def f6S (F : Nat) (p0 : List Int) : Option (Bool) :=
  (some ((p0.length : Int))).bind fun x1 =>
  (some (decide (100 < x1))).bind fun x2 =>
  (match x2 with
  | true => ((f17S F ).bind fun b3 =>
  some b3)
  | false => ((f40S F p0).bind fun (s5, x6) =>
  (f41S F p0).bind fun (s8, x9) =>
  (some (decide (s5 = s8))).bind fun x11 =>
  (match x11 with
  | true => ((some (decide (x6 = x9))).bind fun x12 =>
  (match x12 with
  | true => ((f17S F ).bind fun b13 =>
  some b13)
  | false => (some false)))
  | false => (some false))))
theorem f6_is {a0 : Bool} {c0 : Ck} {p0 : List Int} {hp : List (Option (List PV))} {F : Nat} {r : (Bool)}  (h : f6S F p0 = some r) :
    E Tryd.prog Y0 6 [.l (ak a0) c0 p0.length (p0.map iv)] hp = some (.v (.bool r), hp, none) := by
  rw [E_bodyN 1 body6 rfl (by decide) rfl]
  simp only [Tryd.f6, Option.get_some]
  unfold f6S at h
  replace h := bindT h; obtain ⟨x1, ex1, h⟩ := h
  replace h := bindT h; obtain ⟨x2, ex2, h⟩ := h
  cases x2
  case true =>
   replace h := bind_ok h; obtain ⟨b3, e4, h⟩ := h
   have e4 : ∀ hp, E Tryd.prog Y0 17 [] hp = some (.v (.bool b3), hp, none) := fun hp => f17_is  e4
   obtain rfl := inj_ok h
   simp [ex1, ex2, e4]
  replace h := bind_ok h; obtain ⟨⟨s5, x6⟩, e7, h⟩ := h
  try dsimp only at h
  have e7 : ∀ hp, E Tryd.prog Y0 40 [.l (ak a0) c0 p0.length (p0.map iv)] hp = some (.t [.v (.string (bs s5)), iv x6], hp, none) := fun hp => f40_is (a0 := a0) (c0 := c0) e7
  replace h := bind_ok h; obtain ⟨⟨s8, x9⟩, e10, h⟩ := h
  try dsimp only at h
  have e10 : ∀ hp, E Tryd.prog Y0 41 [.l (ak a0) c0 p0.length (p0.map iv)] hp = some (.t [.v (.string (bs s8)), iv x9], hp, none) := fun hp => f41_is (a0 := a0) (c0 := c0) e10
  replace h := bind_ok h; obtain ⟨x11, ex11, h⟩ := h
  have ex11p := inj_ok ex11
  have ex11 : decide (bs s5 = bs s8) = x11 := (decide_eq_decide.2 bs_eq).trans (inj_ok ex11)
  cases x11
  case false =>
   obtain rfl := inj_ok h
   simp [ex1, ex2, e7, e10, ex11, ex11p, abin_seql, abin_sneq]
  replace h := bindT h; obtain ⟨x12, ex12, h⟩ := h
  cases x12
  case false =>
   obtain rfl := inj_ok h
   simp [ex1, ex2, e7, e10, ex11, ex11p, abin_seql, abin_sneq, ex12]
  replace h := bind_ok h; obtain ⟨b13, e14, h⟩ := h
  have e14 : ∀ hp, E Tryd.prog Y0 17 [] hp = some (.v (.bool b13), hp, none) := fun hp => f17_is  e14
  obtain rfl := inj_ok h
  simp [ex1, ex2, e7, e10, ex11, ex11p, abin_seql, abin_sneq, ex12, e14]
end Go.Proofs.YtcjephdjemapbaaDoor
