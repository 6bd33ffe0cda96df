/-
  the chapter's examples
  Printed by wip/tools/walk.py. Conditions: none; definitions and lemmas.
  All folds of so many letters; a test of all of them,part by part.
  The reference's strip,folded: what is tested of it.
  Tables: numbers of creases,all folds,pairs of creases.
  Walks and lanes: the two ways of computing them answer alike.
  QuireCreases: folds read off creases,and creases that clash,are as stated.
  QuirePiles: folds read off piles are as stated.
  QuirePiles: folds read off piles are as stated.
  Lists of truth values; the folds that numbers stand for.
  QuireTurned: the plain part: o and u exchanged,and squares exchanged.
  QuireTurned in the model: a pile is a row of the call's own; it is reversed in place,and squares are exchanged.
  QuireTurned: o and u exchanged,and squares exchanged
  Conditions: the rows' own (the tables of math/bits are as the text lays them).
-/
import Derived.Deep.DeepCutAuto
import Derived.Deep.DeepMust
import Derived.Deep.LoopGhost
import Derived.Deep.MidRow
import Derived.Deep.OwnRows
import Derived.Deep.RegionHeld3
import Derived.Handy
import Derived.Lib.OthersKept
import Derived.Lib.OwnBridge
import Derived.Maps.AppendAt
import Derived.OwnWalk
import Derived.Shelf.RegionOpenPlain
import Derived.Sort.AtCall
import Derived.Sort.OwnSorted
import Derived.Sort.WalkB12
import Derived.WalkKit
import Derived.Test.YtcjephdjemapbaaDoorRef3
import Derived.Test.YtcjephdjemapbaaDoorPart4
set_option linter.unusedSimpArgs false
set_option linter.unusedVariables false
namespace Go.Proofs.YtcjephdjemapbaaDoor
open Go.Abs Go.Pur
set_option maxRecDepth 100000
set_option maxHeartbeats 2000000
attribute [local simp] Go.Pur.EK_region Go.Pur.EK_seq Go.Pur.EK_cond Go.Pur.EK_block Go.Pur.EK_blk Go.Pur.EK_loop Go.Pur.EK_exit EK.ex Go.Pur.EK_ret Go.Pur.EK_skip Go.Pur.EK_nil Go.Pur.EO_cons Go.Pur.EO_nil Go.Pur.EO1_true Go.Pur.EO1_false Go.Pur.EO2_some Go.Pur.EO3_some Go.Pur.EB_true Go.Pur.EB_false Go.Pur.pwanted Go.Pur.poper Go.Pur.pq Go.Pur.pev Go.Pur.look Go.Pur.pputT Go.Pur.isAssign Go.Pur.drOf Go.Pur.pinit Go.Abs.Tr.get_set Go.Pur.lget Go.Pur.pvOf_int Go.Pur.pvOf_bool Go.Pur.pvOf_str Go.Pur.pvOf_nil Go.Pur.rdv_ak Go.Pur.notOwn_ak Go.Pur.prt_ak Go.Pur.loose_ak Go.Pur.rdv_own Go.Pur.rdv_fz Go.Pur.rdv_bor Go.Pur.rdv_rf Go.Pur.rdv_pt Go.Pur.rdv_v Go.Pur.rdv_a Go.Pur.rdv_t Go.Pur.rdv_r Go.Pur.rdv_p Go.Pur.rdv_s Go.Pur.rdv_f Go.Pur.pbin Go.Pur.plen Go.Pur.pload Go.Pur.ppart Go.Pur.idxAddr Go.Pur.pcond Nat.blt Go.Pur.goInt_eq Go.Pur.prun_not Go.Pur.prun_neg Go.Pur.mayLoad Go.Pur.ER_ret Go.Pur.ER_normal Go.Pur.presL Go.Pur.presOne Go.Pur.moved Go.Pur.stor Go.Pur.okDrop Go.Pur.settle_v Go.Pur.settle_l Go.Pur.settle_a Go.Pur.settle_p Go.Pur.settle_f Go.Pur.noref_v Go.Pur.noref_fz Go.Pur.noref_a Go.Pur.norefs_nil Go.Pur.norefs_cons Go.Pur.pclose Go.Pur.given Go.Pur.dropB Y0_keep Go.Pur.pevParts Go.Pur.stors Go.Pur.pvCells pvCells.go Go.Abs.vcells Go.Pur.pfill Go.Pur.reps Go.Pur.zipParts Go.Pur.ownFz Go.Pur.pcells Go.Pur.cellOK Go.Pur.one Go.Pur.psrcLen Go.Pur.srcFits Go.Pur.psrc Go.Pur.takeP Go.Pur.pgrow Go.Pur.take Go.Pur.getPl Go.Pur.setPl Go.Pur.mapL Go.Pur.plEq Go.Pur.elder Go.Pur.isList Go.Pur.lowP Go.Pur.pevs Go.Pur.frzs Go.Pur.addP Go.Pur.partAt Go.Pur.ble_lim24 Go.Pur.killV_v Go.Pur.killV_a Go.Pur.killV_t Go.Pur.killV_f Go.Pur.killV_i Go.Pur.killV_p Go.Pur.killV_s Go.Pur.killV_un Go.Pur.killV_dead Go.Pur.killV_lfz Go.Pur.killV_lbor Go.Pur.killV_lown Go.Pur.killV_rfz Go.Pur.killV_rbor Go.Pur.killV_lak Go.Pur.killV_rak Go.Pur.frzV_v Go.Pur.frzV_a Go.Pur.frzV_t Go.Pur.frzV_f Go.Pur.frzV_i Go.Pur.frzV_p Go.Pur.frzV_s Go.Pur.frzV_un Go.Pur.frzV_dead Go.Pur.frzV_lfz Go.Pur.frzV_lbor Go.Pur.frzV_lown Go.Pur.frzV_rfz Go.Pur.frzV_rbor Go.Pur.frzV_lak Go.Pur.frzV_rak Go.Pur.killCell_v Go.Pur.killCell_a Go.Pur.killCell_t Go.Pur.killCell_f Go.Pur.killCell_i Go.Pur.killCell_p Go.Pur.killCell_s Go.Pur.killCell_un Go.Pur.killCell_dead Go.Pur.killCell_lfz Go.Pur.killCell_lbor Go.Pur.killCell_lown Go.Pur.killCell_rfz Go.Pur.killCell_rbor Go.Pur.killCell_lak Go.Pur.killCell_rak Go.Pur.killV_lrf Go.Pur.killV_lpt Go.Pur.killV_rpt Go.Pur.frzV_lrf Go.Pur.frzV_lpt Go.Pur.frzV_rpt Go.Pur.killCell_lrft Go.Pur.killCell_lptt Go.Pur.killCell_rptt Go.Pur.killCell_lrfc Go.Pur.killCell_lptc Go.Pur.killCell_rptc Go.Pur.argv_lak Go.Pur.argv_rak Go.Pur.argv_v Go.Pur.argv_a Go.Pur.argv_p Go.Pur.argv_f Go.Pur.argv_fz Go.Pur.argv_bor Go.Pur.argv_rf Go.Pur.argv_pt Go.Pur.argv_rc Go.Pur.argv_own Go.Pur.mayTurn_none Go.Pur.argvs Go.Pur.pcallOp Go.Pur.firm Go.Pur.refsTo_v Go.Pur.refsTo_l Go.Pur.refsTo_p Go.Pur.refsTo_s Go.Pur.refsTo_a Go.Pur.refsTo_dead Go.Pur.refsTo_nil Go.Pur.refsTo_cons Go.Pur.isOwn_lak Go.Pur.ownFz_lak Go.Pur.evSafe Go.Pur.pskip Go.Abs.plain Go.Pur.pnewBlk Go.Pur.fldAddr Go.Pur.isOwn Go.Pur.pput Go.Pur.notOwn_fz Go.Pur.notOwn_bor Go.Pur.notOwn_own Go.Pur.notOwn_rf Go.Pur.notOwn_pt Go.Pur.prt_fz Go.Pur.prt_bor Go.Pur.prt_own Go.Pur.prt_rf Go.Pur.prt_pt Go.Pur.freeze Go.Pur.presM Go.Pur.settles Go.Pur.abin_and Go.Pur.abin_or Go.Pur.abin_andNot Go.Pur.abin_mul Go.Pur.abin_shr Go.Pur.abin_shl Go.Pur.abin_add Go.Pur.abin_sub Go.Pur.abin_eql Go.Pur.abin_neq Go.Pur.abin_lss Go.Pur.abin_leq Go.Pur.abin_gtr Go.Pur.abin_geq Go.Pur.hows Go.Pur.pcallIn Y0_how Y0_part howOf partOf Go.Pur.rdv_mown Go.Pur.rdv_mfz Go.Pur.rdv_mbor Go.Pur.rdv_mrf Go.Pur.killV_mown Go.Pur.killV_mfz Go.Pur.killV_mbor Go.Pur.killV_mrf Go.Pur.frzV_mown Go.Pur.frzV_mfz Go.Pur.frzV_mbor Go.Pur.frzV_mrf Go.Pur.killCell_mown Go.Pur.killCell_mfz Go.Pur.killCell_mbor Go.Pur.killCell_mrf Go.Pur.argv_mfz Go.Pur.argv_mbor Go.Pur.argv_mrf Go.Pur.settle_m Go.Pur.kls_v Go.Pur.kls_l Go.Pur.kls_a Go.Pur.kls_t Go.Pur.kls_r Go.Pur.kls_p Go.Pur.kls_s Go.Pur.kls_f Go.Pur.kls_i Go.Pur.kls_it Go.Pur.kls_un Go.Pur.kls_dead Go.Pur.kls_mown Go.Pur.kls_mrf Go.Pur.kls_mbor Go.Pur.kls_mfz Go.Pur.fzOf Go.Pur.takable Go.Pur.mapHere Go.Pur.mapOwn Go.Pur.mapTo Go.Pur.flat Go.Pur.toPlain toPlain.go Go.Pur.ofFlat Go.Pur.ofPair Go.Pur.mapEs Go.Pur.plook Go.Abs.lookRes Y0_mv mvOf Go.Pur.mvBlk Go.Pur.premv Y0_fzm fzmOf Go.Pur.poperX Go.Pur.pconv Go.Pur.mvOp keep17 sz3 by3 row3 zero3 sz4 by4 row4 zero4 sz5 by5 row5 zero5 sz9 by9 row9 shape9 zero9 sz21 by21 row21 zero21 sz23 by23 row23 shape23 zero23 sz24 by24 row24 zero24 sz38 by38 row38 shape38 zero38 sz47 by47 row47 shape47 zero47 parts47 sz51 by51 row51 zero51 sz54 by54 row54 shape54 zero54 sz55 by55 row55 shape55 zero55 sz58 by58 row58 shape58 zero58 sz60 by60 row60 zero60 sz63 by63 row63 shape63 zero63 sz73 by73 row73 shape73 zero73 parts73 sz79 by79 row79 shape79 zero79 sz81 by81 row81 shape81 zero81 parts81 sz86 by86 row86 shape86 parts86 sz90 by90 row90 zero90 sz92 by92 row92 zero92 sz96 by96 row96 zero96 parts96 field96_0 field96_1 sz99 by99 row99 zero99 sz104 by104 row104 zero104 sz106 by106 row106 zero106 parts106 field106_0 field106_1 sz119 by119 row119 zero119 sz123 by123 row123 zero123 sz124 by124 row124 shape124 zero124 parts124 sz125 by125 row125 shape125 zero125 parts125 sz126 by126 row126 shape126 parts126 sz128 by128 row128 zero128 parts128 field128_0 field128_1 sz129 by129 row129 shape129 zero129 parts129 sz133 by133 row133 zero133 Go.Pur.bs_size Go.Pur.gAt Go.Pur.gAt0 Go.Pur.sAt Go.Pur.sAt0 Go.Pur.optPlain Go.Pur.rows_len Go.Pur.noMaker_eq Go.Abs.kindOf Go.Pur.vlOf Go.Pur.abin_rem Go.Pur.abin_quo Go.Pur.mayTurn_none Go.Pur.lowOf_none Go.Pur.partAt Go.Pur.rows_nil Go.Pur.rows_cons Go.Pur.ble_add Go.Pur.ble_add0 Go.Pur.ble_same Go.Pur.toPlain toPlain.go Go.Pur.intIn2_0 Go.Pur.intIn2_1 Go.Pur.ble12 Go.Pur.ble22 Go.Pur.tv Go.Pur.lv Go.Pur.max_int Go.Pur.min_int Go.Pur.pplains Go.Pur.ak_true Go.Pur.ak_false Go.Pur.apartP Go.Pur.beq_add Go.Pur.beq_add0 Go.Pur.beq_add1 Go.Pur.argv_s Go.Pur.wok_none Go.Pur.wok_low_iff Go.Pur.lowOf_wok
def f17S (F : Nat) : Option (Bool) :=
  (f18S F [111,117]).bind fun ((c1,l2),x3) =>
  (f20S F [111,111]).bind fun ((c5,l6),(c7,l8),x9) =>
  (f23S F [117,111]).bind fun (s11,x12) =>
  (f25S F [111,111]).bind fun (x14,x15,x16) =>
  (f29S F [104,118,118]).bind fun (s18,x19) =>
  (f47S F .full [3,0,1,2]).bind fun (c21,l22) =>
  (f40S F l22).bind fun (s24,x25) =>
  (f35S F [118,118,104]).bind fun ((c27,l28),x29) =>
  (some (decide (x3 = 0))).bind fun x31 =>
  (match x31 with
  | true => ((some (decide (x9 = 0))).bind fun x32 =>
  (match x32 with
  | true => ((some (decide (x12 = 0))).bind fun x33 =>
  (match x33 with
  | true => ((some (decide (x16 = 0))).bind fun x34 =>
  (match x34 with
  | true => ((some (decide (x19 = 0))).bind fun x35 =>
  (match x35 with
  | true => ((some (decide (x25 = 0))).bind fun x36 =>
  (match x36 with
  | true => ((some (decide (x29 = 0))).bind fun x37 =>
  (match x37 with
  | true => ((f31S F [118,118,118]).bind fun (x38,x39,x40) =>
  (f37S F [118,118,118,118]).bind fun (x42,x43,x44) =>
  (f29S F [118,118,118]).bind fun (s46,x47) =>
  (f37S F [118,118,104]).bind fun (x49,x50,x51) =>
  (f47S F .full [0,1,2,3]).bind fun (c53,l54) =>
  (f40S F l54).bind fun (s56,x57) =>
  (some (decide (x40 = 0))).bind fun x59 =>
  (match x59 with
  | true => ((some (decide (x44 = 0))).bind fun x60 =>
  (match x60 with
  | true => ((some (decide (x47 = 12))).bind fun x61 =>
  (match x61 with
  | true => ((some (decide (x51 = 13))).bind fun x62 =>
  (match x62 with
  | true => ((some (decide (x57 = 12))).bind fun x63 =>
  (match x63 with
  | true => ((sameO l2 l22).bind fun x64 =>
  (match x64 with
  | true => ((f47S F .full [7,2,3,6]).bind fun (c65,l66) =>
  (sameO l6 l66).bind fun x68 =>
  (match x68 with
  | true => ((f47S F .full [8,1,4,5]).bind fun (c69,l70) =>
  (sameO l8 l70).bind fun x72 =>
  (match x72 with
  | true => ((some (decide (s11 = [118,104,104]))).bind fun x73 =>
  (match x73 with
  | true => ((some (decide (x14 = 0))).bind fun x74 =>
  (match x74 with
  | true => ((some (decide (x15 = 2))).bind fun x75 =>
  (match x75 with
  | true => ((some (decide (s18 = [111,117]))).bind fun x76 =>
  (match x76 with
  | true => ((some (decide (s24 = [111,117]))).bind fun x77 =>
  (match x77 with
  | true => ((f48S F [0,0,1,0,1,1,0,1,0,2]).bind fun (c78,l79) =>
  (sameO l28 l79).bind fun x81 =>
  (match x81 with
  | true => ((some (decide (x38 = 0))).bind fun x82 =>
  (match x82 with
  | true => ((some (decide (x39 = 2))).bind fun x83 =>
  (match x83 with
  | true => ((some (decide (x42 = 0))).bind fun x84 =>
  (match x84 with
  | true => ((some (decide (x43 = 4))).bind fun x85 =>
  (match x85 with
  | true => ((f33S F [118,118,118] 0 2).bind fun x86 =>
  (some (decide (x86 = 0))).bind fun x88 =>
  (match x88 with
  | true => ((f33S F [118,118,118] 0 1).bind fun x89 =>
  (some (decide (x89 = 14))).bind fun x91 =>
  some x91)
  | false => (some false)))
  | false => (some false)))
  | false => (some false)))
  | false => (some false)))
  | false => (some false)))
  | false => (some false)))
  | false => (some false)))
  | false => (some false)))
  | false => (some false)))
  | false => (some false)))
  | false => (some false)))
  | false => (some false)))
  | false => (some false)))
  | false => (some false)))
  | false => (some false)))
  | false => (some false)))
  | false => (some false)))
  | false => (some false)))
  | false => (some false)))
  | false => (some false)))
  | false => (some false)))
  | false => (some false)))
  | false => (some false)))
  | false => (some false)))
  | false => (some false)))
  | false => (some false))
theorem f17_is  {hp : List (Option (List PV))} {F : Nat} {r : (Bool)}  (h : f17S F  = some r) :
    E Tryd.prog Y0 17 [] hp = some (.v (.bool r),hp,none) := by
  rw [E_bodyN 0 body17 rfl (by decide) rfl]
  simp only [Tryd.f17,Option.get_some]
  unfold f17S at h
  obtain ⟨⟨⟨c1,l2⟩,x3⟩,e4,h⟩ := bind_ok h
  try dsimp only at h
  have e4 : ∀ hp,E Tryd.prog Y0 18 [.v (.string (bs [111,117]))] hp = some (.t [.l .fz c1 l2.length (l2.map iv),iv x3],hp,none) := fun hp => f18_is  e4
  obtain ⟨⟨⟨c5,l6⟩,⟨c7,l8⟩,x9⟩,e10,h⟩ := bind_ok h
  try dsimp only at h
  have e10 : ∀ hp,E Tryd.prog Y0 20 [.v (.string (bs [111,111]))] hp = some (.t [.l .fz c5 l6.length (l6.map iv),.l .fz c7 l8.length (l8.map iv),iv x9],hp,none) := fun hp => f20_is  e10
  obtain ⟨⟨s11,x12⟩,e13,h⟩ := bind_ok h
  try dsimp only at h
  have e13 : ∀ hp,E Tryd.prog Y0 23 [.v (.string (bs [117,111]))] hp = some (.t [.v (.string (bs s11)),iv x12],hp,none) := fun hp => f23_is  e13
  obtain ⟨⟨x14,x15,x16⟩,e17,h⟩ := bind_ok h
  try dsimp only at h
  have e17 : ∀ hp,E Tryd.prog Y0 25 [.v (.string (bs [111,111]))] hp = some (.t [iv x14,iv x15,iv x16],hp,none) := fun hp => f25_is  e17
  obtain ⟨⟨s18,x19⟩,e20,h⟩ := bind_ok h
  try dsimp only at h
  have e20 : ∀ hp,E Tryd.prog Y0 29 [.v (.string (bs [104,118,118]))] hp = some (.t [.v (.string (bs s18)),iv x19],hp,none) := fun hp => f29_is  e20
  obtain ⟨⟨c21,l22⟩,e23,h⟩ := bind_ok h
  try dsimp only at h
  have e23 : ∀ hp,E Tryd.prog Y0 47 [.l .fz .full 4 [iv 3,iv 0,iv 1,iv 2]] hp = some (.l .fz c21 l22.length (l22.map iv),hp,none) := fun hp => f47_is (c0 := .full) e23
  obtain ⟨⟨s24,x25⟩,e26,h⟩ := bind_ok h
  try dsimp only at h
  have e26 : ∀ hp,E Tryd.prog Y0 40 [.l .fz c21 l22.length (l22.map iv)] hp = some (.t [.v (.string (bs s24)),iv x25],hp,none) := fun hp => f40_is (a0 := false) (c0 := c21) e26
  obtain ⟨⟨⟨c27,l28⟩,x29⟩,e30,h⟩ := bind_ok h
  try dsimp only at h
  have e30 : ∀ hp,E Tryd.prog Y0 35 [.v (.string (bs [118,118,104]))] hp = some (.t [.l .fz c27 l28.length (rows l28),iv x29],hp,none) := fun hp => f35_is  e30
  obtain ⟨x31,ex31,h⟩ := bindT h
  cases x31
  case false =>
   obtain rfl := inj_ok h
   simp [e4,e10,e13,e17,e20,e23,e26,e30,ex31]
  obtain ⟨x32,ex32,h⟩ := bindT h
  cases x32
  case false =>
   obtain rfl := inj_ok h
   simp [e4,e10,e13,e17,e20,e23,e26,e30,ex31,ex32]
  obtain ⟨x33,ex33,h⟩ := bindT h
  cases x33
  case false =>
   obtain rfl := inj_ok h
   simp [e4,e10,e13,e17,e20,e23,e26,e30,ex31,ex32,ex33]
  obtain ⟨x34,ex34,h⟩ := bindT h
  cases x34
  case false =>
   obtain rfl := inj_ok h
   simp [e4,e10,e13,e17,e20,e23,e26,e30,ex31,ex32,ex33,ex34]
  obtain ⟨x35,ex35,h⟩ := bindT h
  cases x35
  case false =>
   obtain rfl := inj_ok h
   simp [e4,e10,e13,e17,e20,e23,e26,e30,ex31,ex32,ex33,ex34,ex35]
  obtain ⟨x36,ex36,h⟩ := bindT h
  cases x36
  case false =>
   obtain rfl := inj_ok h
   simp [e4,e10,e13,e17,e20,e23,e26,e30,ex31,ex32,ex33,ex34,ex35,ex36]
  obtain ⟨x37,ex37,h⟩ := bindT h
  cases x37
  case false =>
   obtain rfl := inj_ok h
   simp [e4,e10,e13,e17,e20,e23,e26,e30,ex31,ex32,ex33,ex34,ex35,ex36,ex37]
  obtain ⟨⟨x38,x39,x40⟩,e41,h⟩ := bind_ok h
  try dsimp only at h
  have e41 : ∀ hp,E Tryd.prog Y0 31 [.v (.string (bs [118,118,118]))] hp = some (.t [iv x38,iv x39,iv x40],hp,none) := fun hp => f31_is  e41
  obtain ⟨⟨x42,x43,x44⟩,e45,h⟩ := bind_ok h
  try dsimp only at h
  have e45 : ∀ hp,E Tryd.prog Y0 37 [.v (.string (bs [118,118,118,118]))] hp = some (.t [iv x42,iv x43,iv x44],hp,none) := fun hp => f37_is  e45
  obtain ⟨⟨s46,x47⟩,e48,h⟩ := bind_ok h
  try dsimp only at h
  have e48 : ∀ hp,E Tryd.prog Y0 29 [.v (.string (bs [118,118,118]))] hp = some (.t [.v (.string (bs s46)),iv x47],hp,none) := fun hp => f29_is  e48
  obtain ⟨⟨x49,x50,x51⟩,e52,h⟩ := bind_ok h
  try dsimp only at h
  have e52 : ∀ hp,E Tryd.prog Y0 37 [.v (.string (bs [118,118,104]))] hp = some (.t [iv x49,iv x50,iv x51],hp,none) := fun hp => f37_is  e52
  obtain ⟨⟨c53,l54⟩,e55,h⟩ := bind_ok h
  try dsimp only at h
  have e55 : ∀ hp,E Tryd.prog Y0 47 [.l .fz .full 4 [iv 0,iv 1,iv 2,iv 3]] hp = some (.l .fz c53 l54.length (l54.map iv),hp,none) := fun hp => f47_is (c0 := .full) e55
  obtain ⟨⟨s56,x57⟩,e58,h⟩ := bind_ok h
  try dsimp only at h
  have e58 : ∀ hp,E Tryd.prog Y0 40 [.l .fz c53 l54.length (l54.map iv)] hp = some (.t [.v (.string (bs s56)),iv x57],hp,none) := fun hp => f40_is (a0 := false) (c0 := c53) e58
  obtain ⟨x59,ex59,h⟩ := bindT h
  cases x59
  case false =>
   obtain rfl := inj_ok h
   simp [e4,e10,e13,e17,e20,e23,e26,e30,ex31,ex32,ex33,ex34,ex35,ex36,ex37,e41,e45,e48,e52,e55,e58,ex59]
  obtain ⟨x60,ex60,h⟩ := bindT h
  cases x60
  case false =>
   obtain rfl := inj_ok h
   simp [e4,e10,e13,e17,e20,e23,e26,e30,ex31,ex32,ex33,ex34,ex35,ex36,ex37,e41,e45,e48,e52,e55,e58,ex59,ex60]
  obtain ⟨x61,ex61,h⟩ := bindT h
  cases x61
  case false =>
   obtain rfl := inj_ok h
   simp [e4,e10,e13,e17,e20,e23,e26,e30,ex31,ex32,ex33,ex34,ex35,ex36,ex37,e41,e45,e48,e52,e55,e58,ex59,ex60,ex61]
  obtain ⟨x62,ex62,h⟩ := bindT h
  cases x62
  case false =>
   obtain rfl := inj_ok h
   simp [e4,e10,e13,e17,e20,e23,e26,e30,ex31,ex32,ex33,ex34,ex35,ex36,ex37,e41,e45,e48,e52,e55,e58,ex59,ex60,ex61,ex62]
  obtain ⟨x63,ex63,h⟩ := bindT h
  cases x63
  case false =>
   obtain rfl := inj_ok h
   simp [e4,e10,e13,e17,e20,e23,e26,e30,ex31,ex32,ex33,ex34,ex35,ex36,ex37,e41,e45,e48,e52,e55,e58,ex59,ex60,ex61,ex62,ex63]
  obtain ⟨x64,ex64,h⟩ := bind_ok h
  have ex64 : ∀ hp,E Tryd.prog Y0 22 [.l .fz c1 l2.length (l2.map iv),.l .fz c21 l22.length (l22.map iv)] hp = some (.v (.bool x64),hp,none) := fun hp => same22_is (a0 := false) (c0 := c1) (a1 := false) (c1 := c21) ex64
  cases x64
  case false =>
   obtain rfl := inj_ok h
   simp [e4,e10,e13,e17,e20,e23,e26,e30,ex31,ex32,ex33,ex34,ex35,ex36,ex37,e41,e45,e48,e52,e55,e58,ex59,ex60,ex61,ex62,ex63,ex64]
  obtain ⟨⟨c65,l66⟩,e67,h⟩ := bind_ok h
  try dsimp only at h
  have e67 : ∀ hp,E Tryd.prog Y0 47 [.l .fz .full 4 [iv 7,iv 2,iv 3,iv 6]] hp = some (.l .fz c65 l66.length (l66.map iv),hp,none) := fun hp => f47_is (c0 := .full) e67
  obtain ⟨x68,ex68,h⟩ := bind_ok h
  have ex68 : ∀ hp,E Tryd.prog Y0 22 [.l .fz c5 l6.length (l6.map iv),.l .fz c65 l66.length (l66.map iv)] hp = some (.v (.bool x68),hp,none) := fun hp => same22_is (a0 := false) (c0 := c5) (a1 := false) (c1 := c65) ex68
  cases x68
  case false =>
   obtain rfl := inj_ok h
   simp [e4,e10,e13,e17,e20,e23,e26,e30,ex31,ex32,ex33,ex34,ex35,ex36,ex37,e41,e45,e48,e52,e55,e58,ex59,ex60,ex61,ex62,ex63,ex64,e67,ex68]
  obtain ⟨⟨c69,l70⟩,e71,h⟩ := bind_ok h
  try dsimp only at h
  have e71 : ∀ hp,E Tryd.prog Y0 47 [.l .fz .full 4 [iv 8,iv 1,iv 4,iv 5]] hp = some (.l .fz c69 l70.length (l70.map iv),hp,none) := fun hp => f47_is (c0 := .full) e71
  obtain ⟨x72,ex72,h⟩ := bind_ok h
  have ex72 : ∀ hp,E Tryd.prog Y0 22 [.l .fz c7 l8.length (l8.map iv),.l .fz c69 l70.length (l70.map iv)] hp = some (.v (.bool x72),hp,none) := fun hp => same22_is (a0 := false) (c0 := c7) (a1 := false) (c1 := c69) ex72
  cases x72
  case false =>
   obtain rfl := inj_ok h
   simp [e4,e10,e13,e17,e20,e23,e26,e30,ex31,ex32,ex33,ex34,ex35,ex36,ex37,e41,e45,e48,e52,e55,e58,ex59,ex60,ex61,ex62,ex63,ex64,e67,ex68,e71,ex72]
  obtain ⟨x73,ex73,h⟩ := bind_ok h
  have ex73p := inj_ok ex73
  have ex73 : decide (bs s11 = bs [118,104,104]) = x73 := (decide_eq_decide.2 bs_eq).trans (inj_ok ex73)
  cases x73
  case false =>
   obtain rfl := inj_ok h
   simp [e4,e10,e13,e17,e20,e23,e26,e30,ex31,ex32,ex33,ex34,ex35,ex36,ex37,e41,e45,e48,e52,e55,e58,ex59,ex60,ex61,ex62,ex63,ex64,e67,ex68,e71,ex72,ex73,ex73p,abin_seql,abin_sneq]
  obtain ⟨x74,ex74,h⟩ := bindT h
  cases x74
  case false =>
   obtain rfl := inj_ok h
   simp [e4,e10,e13,e17,e20,e23,e26,e30,ex31,ex32,ex33,ex34,ex35,ex36,ex37,e41,e45,e48,e52,e55,e58,ex59,ex60,ex61,ex62,ex63,ex64,e67,ex68,e71,ex72,ex73,ex73p,abin_seql,abin_sneq,ex74]
  obtain ⟨x75,ex75,h⟩ := bindT h
  cases x75
  case false =>
   obtain rfl := inj_ok h
   simp [e4,e10,e13,e17,e20,e23,e26,e30,ex31,ex32,ex33,ex34,ex35,ex36,ex37,e41,e45,e48,e52,e55,e58,ex59,ex60,ex61,ex62,ex63,ex64,e67,ex68,e71,ex72,ex73,ex73p,abin_seql,abin_sneq,ex74,ex75]
  obtain ⟨x76,ex76,h⟩ := bind_ok h
  have ex76p := inj_ok ex76
  have ex76 : decide (bs s18 = bs [111,117]) = x76 := (decide_eq_decide.2 bs_eq).trans (inj_ok ex76)
  cases x76
  case false =>
   obtain rfl := inj_ok h
   simp [e4,e10,e13,e17,e20,e23,e26,e30,ex31,ex32,ex33,ex34,ex35,ex36,ex37,e41,e45,e48,e52,e55,e58,ex59,ex60,ex61,ex62,ex63,ex64,e67,ex68,e71,ex72,ex73,ex73p,abin_seql,abin_sneq,ex74,ex75,ex76,ex76p]
  obtain ⟨x77,ex77,h⟩ := bind_ok h
  have ex77p := inj_ok ex77
  have ex77 : decide (bs s24 = bs [111,117]) = x77 := (decide_eq_decide.2 bs_eq).trans (inj_ok ex77)
  cases x77
  case false =>
   obtain rfl := inj_ok h
   simp [e4,e10,e13,e17,e20,e23,e26,e30,ex31,ex32,ex33,ex34,ex35,ex36,ex37,e41,e45,e48,e52,e55,e58,ex59,ex60,ex61,ex62,ex63,ex64,e67,ex68,e71,ex72,ex73,ex73p,abin_seql,abin_sneq,ex74,ex75,ex76,ex76p,ex77,ex77p]
  obtain ⟨⟨c78,l79⟩,e80,h⟩ := bind_ok h
  try dsimp only at h
  have e80 : ∀ hp,E Tryd.prog Y0 48 [.l .fz .full 10 [iv 0,iv 0,iv 1,iv 0,iv 1,iv 1,iv 0,iv 1,iv 0,iv 2]] hp = some (.l .own c78 l79.length (rows l79),hp,none) := fun hp => f48_is (a0 := false) (c0 := .full) e80
  obtain ⟨x81,ex81,h⟩ := bind_ok h
  have ex81 : ∀ hp,E Tryd.prog Y0 39 [.l .fz c27 l28.length (rows l28),.l .fz c78 l79.length (rows l79)] hp = some (.v (.bool x81),hp,none) := fun hp => alike_is (a0 := false) (c0 := c27) (a1 := false) (c1 := c78) ex81
  cases x81
  case false =>
   obtain rfl := inj_ok h
   simp [e4,e10,e13,e17,e20,e23,e26,e30,ex31,ex32,ex33,ex34,ex35,ex36,ex37,e41,e45,e48,e52,e55,e58,ex59,ex60,ex61,ex62,ex63,ex64,e67,ex68,e71,ex72,ex73,ex73p,abin_seql,abin_sneq,ex74,ex75,ex76,ex76p,ex77,ex77p,e80,ex81]
  obtain ⟨x82,ex82,h⟩ := bindT h
  cases x82
  case false =>
   obtain rfl := inj_ok h
   simp [e4,e10,e13,e17,e20,e23,e26,e30,ex31,ex32,ex33,ex34,ex35,ex36,ex37,e41,e45,e48,e52,e55,e58,ex59,ex60,ex61,ex62,ex63,ex64,e67,ex68,e71,ex72,ex73,ex73p,abin_seql,abin_sneq,ex74,ex75,ex76,ex76p,ex77,ex77p,e80,ex81,ex82]
  obtain ⟨x83,ex83,h⟩ := bindT h
  cases x83
  case false =>
   obtain rfl := inj_ok h
   simp [e4,e10,e13,e17,e20,e23,e26,e30,ex31,ex32,ex33,ex34,ex35,ex36,ex37,e41,e45,e48,e52,e55,e58,ex59,ex60,ex61,ex62,ex63,ex64,e67,ex68,e71,ex72,ex73,ex73p,abin_seql,abin_sneq,ex74,ex75,ex76,ex76p,ex77,ex77p,e80,ex81,ex82,ex83]
  obtain ⟨x84,ex84,h⟩ := bindT h
  cases x84
  case false =>
   obtain rfl := inj_ok h
   simp [e4,e10,e13,e17,e20,e23,e26,e30,ex31,ex32,ex33,ex34,ex35,ex36,ex37,e41,e45,e48,e52,e55,e58,ex59,ex60,ex61,ex62,ex63,ex64,e67,ex68,e71,ex72,ex73,ex73p,abin_seql,abin_sneq,ex74,ex75,ex76,ex76p,ex77,ex77p,e80,ex81,ex82,ex83,ex84]
  obtain ⟨x85,ex85,h⟩ := bindT h
  cases x85
  case false =>
   obtain rfl := inj_ok h
   simp [e4,e10,e13,e17,e20,e23,e26,e30,ex31,ex32,ex33,ex34,ex35,ex36,ex37,e41,e45,e48,e52,e55,e58,ex59,ex60,ex61,ex62,ex63,ex64,e67,ex68,e71,ex72,ex73,ex73p,abin_seql,abin_sneq,ex74,ex75,ex76,ex76p,ex77,ex77p,e80,ex81,ex82,ex83,ex84,ex85]
  obtain ⟨x86,e87,h⟩ := bind_ok h
  have e87 : ∀ hp,E Tryd.prog Y0 33 [.v (.string (bs [118,118,118])),iv 0,iv 2] hp = some (iv x86,hp,none) := fun hp => f33_is  e87
  obtain ⟨x88,ex88,h⟩ := bindT h
  cases x88
  case false =>
   obtain rfl := inj_ok h
   simp [e4,e10,e13,e17,e20,e23,e26,e30,ex31,ex32,ex33,ex34,ex35,ex36,ex37,e41,e45,e48,e52,e55,e58,ex59,ex60,ex61,ex62,ex63,ex64,e67,ex68,e71,ex72,ex73,ex73p,abin_seql,abin_sneq,ex74,ex75,ex76,ex76p,ex77,ex77p,e80,ex81,ex82,ex83,ex84,ex85,e87,ex88]
  obtain ⟨x89,e90,h⟩ := bind_ok h
  have e90 : ∀ hp,E Tryd.prog Y0 33 [.v (.string (bs [118,118,118])),iv 0,iv 1] hp = some (iv x89,hp,none) := fun hp => f33_is  e90
  obtain ⟨x91,ex91,h⟩ := bindT h
  obtain rfl := inj_ok h
  simp [e4,e10,e13,e17,e20,e23,e26,e30,ex31,ex32,ex33,ex34,ex35,ex36,ex37,e41,e45,e48,e52,e55,e58,ex59,ex60,ex61,ex62,ex63,ex64,e67,ex68,e71,ex72,ex73,ex73p,abin_seql,abin_sneq,ex74,ex75,ex76,ex76p,ex77,ex77p,e80,ex81,ex82,ex83,ex84,ex85,e87,ex88,e90,ex91]
end Go.Proofs.YtcjephdjemapbaaDoor
set_option linter.unusedSimpArgs false
set_option linter.unusedVariables false
namespace Go.Proofs.YtcjephdjemapbaaDoor
open Go.Abs Go.Pur
set_option maxRecDepth 100000
def fuel : Nat := 100
def strs : Nat → List (List UInt8)
 | 0 => [[]]
 | k + 1 => (strs k).flatMap fun r => [111 :: r,117 :: r]
theorem mem_strs : ∀ {l : List UInt8},(∀ c ∈ l,c = 111 ∨ c = 117) → l ∈ strs l.length
 | [],_ => by simp [strs]
 | c :: r,h => by
  refine List.mem_flatMap.2 ⟨r,mem_strs fun c hc => h c (List.mem_cons_of_mem _ hc), ?_⟩
  rcases h c (by simp) with rfl | rfl <;> simp
end Go.Proofs.YtcjephdjemapbaaDoor
set_option linter.unusedSimpArgs false
set_option linter.unusedVariables false
namespace Go.Proofs.YtcjephdjemapbaaDoor
open Go.Abs Go.Pur
set_option maxRecDepth 100000
def beqS : List UInt8 → List UInt8 → Bool
 | [],[] => true
 | a :: l,b :: m => match Nat.beq a.toNat b.toNat with
  | true => beqS l m
  | false => false
 | _,_ => false
theorem beqS_ok : ∀ {l m : List UInt8},beqS l m = true → l = m
 | [],[],_ => rfl
 | a :: l,b :: m,h => by
  unfold beqS at h
  cases hb : Nat.beq a.toNat b.toNat with
  | false => simp [hb] at h
  | true =>
   simp [hb] at h
   rw [UInt8.toNat_inj.1 (Nat.eq_of_beq_eq_true hb),beqS_ok h]
 | [],_ :: _,h => by cases h
 | _ :: _,[],h => by cases h
end Go.Proofs.YtcjephdjemapbaaDoor
set_option linter.unusedSimpArgs false
set_option linter.unusedVariables false
namespace Go.Proofs.YtcjephdjemapbaaDoor
open Go.Abs Go.Pur
set_option maxRecDepth 100000
def allS : Nat → List (List UInt8)
 | 0 => [[]]
 | k + 1 => (allS k).flatMap fun r => [r ++ [111],r ++ [117]]
def beqLS : List (List UInt8) → List (List UInt8) → Bool
 | [],[] => true
 | a :: l,b :: m => match beqS a b with
  | true => beqLS l m
  | false => false
 | _,_ => false
theorem beqLS_ok : ∀ {l m : List (List UInt8)},beqLS l m = true → l = m
 | [],[],_ => rfl
 | a :: l,b :: m,h => by
  unfold beqLS at h
  cases hb : beqS a b with
  | false => simp [hb] at h
  | true =>
   simp [hb] at h
   rw [beqS_ok hb,beqLS_ok h]
 | [],_ :: _,h => by cases h
 | _ :: _,[],h => by cases h
def rdU (l : List UInt8) (k f : Nat) : UInt8 := if (l.getD (2 ^ (k - 1 - f) - 1) 0).toNat = 118 then 111 else 117
def rdF (l : List UInt8) (k : Nat) : List UInt8 := (List.range k).map (rdU l k)
def okA (k : Nat) : Bool := (match f64S fuel fuel (k : Int) with
  | some (_,L) => beqLS L (allS k)
  | none => false) && (allS k).all (fun y => decide (checkE y = 0) && Nat.beq y.length k && beqS (rdF (creasesL y) k) y) && (strs k).all fun s => (allS k).any (beqS s)
theorem tabA : (List.range 7).all okA = true := by kernel_rfl
end Go.Proofs.YtcjephdjemapbaaDoor
set_option linter.unusedSimpArgs false
set_option linter.unusedVariables false
namespace Go.Proofs.YtcjephdjemapbaaDoor
open Go.Abs Go.Pur
set_option maxRecDepth 100000
theorem works_true : f17S fuel = some true := by kernel_rfl
theorem app1_at {α : Type} {l : List α} {v : α} (h : l.length ≤ 1000000) : app1 l v = some (l ++ [v]) := by
 unfold app1
 rw [show Nat.ble l.length 1000000 = true from ble_true h]
end Go.Proofs.YtcjephdjemapbaaDoor
set_option linter.unusedSimpArgs false
set_option linter.unusedVariables false
namespace Go.Proofs.YtcjephdjemapbaaDoor
open Go.Abs Go.Pur
set_option maxRecDepth 100000
theorem all_ok {k : Nat} (hk : k ≤ 6) : (∃ c,f64S fuel fuel (k : Int) = some (c,allS k)) ∧ (∀ y ∈ allS k,checkE y = 0 ∧ y.length = k ∧ rdF (creasesL y) k = y) ∧ ∀ s ∈ strs k,s ∈ allS k := by
 have t := List.all_eq_true.1 tabA k (List.mem_range.2 (by omega))
 unfold okA at t
 simp only [Bool.and_eq_true] at t
 obtain ⟨⟨t1,t2⟩,t3⟩ := t
 refine ⟨?_,fun y hy => ?_,fun s hs => ?_⟩
 ·cases e : f64S fuel fuel (k : Int) with
  | none => rw [e] at t1; cases t1
  | some cl =>
   obtain ⟨c,L⟩ := cl
   rw [e] at t1
   exact ⟨c,by rw [beqLS_ok t1]⟩
 ·have := List.all_eq_true.1 t2 y hy
  simp only [Bool.and_eq_true,decide_eq_true_eq] at this
  exact ⟨this.1.1,Nat.eq_of_beq_eq_true this.1.2,beqS_ok this.2⟩
 ·obtain ⟨y,hy,e⟩ := List.any_eq_true.1 (List.all_eq_true.1 t3 s hs)
  rw [beqS_ok e]; exact hy
theorem len_strs : ∀ {k : Nat} {s : List UInt8},s.length = k → (∀ c ∈ s,c = 111 ∨ c = 117) → s ∈ strs k := fun h1 h2 => h1 ▸ mem_strs h2
theorem take_set {α : Type} {l : List α} {j : Nat} {v : α} (h : j < l.length) : (l.set j v).take (j + 1) = l.take j ++ [v] := by
 rw [List.take_add_one,List.take_set_of_le (Nat.le_refl _),List.getElem?_set_self (by simpa using h)]
 rfl
theorem mkN_at {n : Nat} (h : n ≤ 1000000) : mkN (n : Int) = some n := by
 show (match Nat.ble n 1000000 with | true => some n | false => none) = _
 rw [ble_true h]
theorem gN_at {n : Nat} (h : n ≤ 1000000) : gN n = some () := by
 unfold gN
 rw [show Nat.ble n 1000000 = true from ble_true h]
def cl (l : List UInt8) (i j : Nat) : Bool := (f66S fuel l i j).getD false
section
variable {l : List UInt8} {K : Unit → Option (Int × Int × Int)}
end
end Go.Proofs.YtcjephdjemapbaaDoor
set_option linter.unusedSimpArgs false
set_option linter.unusedVariables false
namespace Go.Proofs.YtcjephdjemapbaaDoor
open Go.Abs Go.Pur
set_option maxRecDepth 100000
theorem andU {a b : Nat} (ha : a < 2 ^ 64) (hb : b < 2 ^ 64) : andI .u64 (a : Int) (b : Int) = ((a &&& b : Nat) : Int) := by
 have h : a &&& b < 2 ^ 64 := Nat.and_lt_two_pow _ hb
 unfold andI
 have e : (BitVec.ofInt IntKind.u64.bits (a : Int) &&& BitVec.ofInt IntKind.u64.bits (b : Int)).toNat = a &&& b := by
  rw [BitVec.toNat_and]
  simp only [BitVec.toNat_ofInt,IntKind.bits]
  congr 1 <;> omega
 rw [e]
 exact wrapUC (by omega)
theorem orU {a b : Nat} (ha : a < 2 ^ 64) (hb : b < 2 ^ 64) : orI .u64 (a : Int) (b : Int) = ((a ||| b : Nat) : Int) := by
 have h : a ||| b < 2 ^ 64 := Nat.or_lt_two_pow ha hb
 unfold orI
 have e : (BitVec.ofInt IntKind.u64.bits (a : Int) ||| BitVec.ofInt IntKind.u64.bits (b : Int)).toNat = a ||| b := by
  rw [BitVec.toNat_or]
  simp only [BitVec.toNat_ofInt,IntKind.bits]
  congr 1 <;> omega
 rw [e]
 exact wrapUC (by omega)
theorem shrU {a s : Nat} (hs : s < 64) : shrO .u64 (a : Int) (s : Int) = some ((a / 2 ^ s : Nat) : Int) := by
 show some (shrI .u64 (a : Int) (s : Int)) = _
 unfold shrI
 have e : min ((s : Nat) : Int).toNat IntKind.u64.bits = s := by simp [IntKind.bits]; omega
 rw [e]
 congr 1
 have e2 : (2 : Int) ^ s = ((2 ^ s : Nat) : Int) := by simp
 rw [e2,Int.fdiv_eq_ediv_of_nonneg _ (Int.natCast_nonneg _)]
 rfl
theorem shlU {s : Nat} (hs : s < 64) : shlO .u64 1 (s : Int) = some ((2 ^ s : Nat) : Int) := by
 have : (List.range 64).all (fun s => decide (shlI .u64 1 (s : Nat) = ((2 ^ s : Nat) : Int))) = true := by kernel_rfl
 have := List.all_eq_true.1 this s (List.mem_range.2 hs)
 simp only [decide_eq_true_eq] at this
 show some (shlI .u64 1 (s : Int)) = _
 rw [this]
def chk (n : Nat) : List Int → List Int → Int
 | [],_ => 0
 | y :: r,seen => if y < 0 then 2 else if (n : Int) ≤ y then 2 else if y ∈ seen then 6 else chk n r (seen ++ [y])
section
variable {F : Nat} {p : List Int} {K : Unit → Option (List UInt8 × Int)}
theorem l40 (hp : p.length ≤ 64) : ∀ (n j M : Nat),j ≤ p.length → p.length - j < n → M < 2 ^ 64 → (∀ t : Nat,t < 64 → M.testBit t = decide ((t : Int) ∈ p.take j)) →
  f40_L0 F p (p.length : Int) K n ((M : Int),(j : Int)) = if chk p.length (p.drop j) (p.take j) = 0 then K () else some ([],chk p.length (p.drop j) (p.take j)) := by
 intro n
 induction n with
 | zero => intro j M _ h; omega
 | succ n ih =>
  intro j M hj hn hM hb
  rw [f40_L0]
  by_cases h : j < p.length
  ·have h1 : decide ((j : Int) < (p.length : Int)) = true := decide_eq_true (by omega)
   have w := wrap_nat (show j < 1000000000000 by omega)
   have t2 : p.take (j + 1) = p.take j ++ [p[j]] := by rw [List.take_add_one,List.getElem?_eq_getElem h]; rfl
   rw [drop_at h,chk]
   have q := fun M' h2 h3 => ih (j + 1) M' (by omega) (by omega) h2 h3
   rw [t2] at q
   simp only [Option.bind_some,h1,gI_at h]
   generalize p[j] = y at q
   by_cases a : y < 0
   ·simp [a]
   ·by_cases b : (p.length : Int) ≤ y
    ·simp [a,b]
    ·obtain ⟨t,rfl⟩ := Int.eq_ofNat_of_zero_le (show 0 ≤ y by omega)
     have ht : t < 64 := by omega
     have e1 : andI .u64 ((M / 2 ^ t : Nat) : Int) 1 = ((M / 2 ^ t % 2 : Nat) : Int) := by
      have := andU (a := M / 2 ^ t) (b := 1) (Nat.lt_of_le_of_lt (Nat.div_le_self _ _) hM) (by decide)
      rw [Nat.and_one_is_mod] at this
      exact this
     have e2 : decide (((M / 2 ^ t % 2 : Nat) : Int) = 1) = M.testBit t := by
      rw [Nat.testBit_eq_decide_div_mod_eq]
      exact decide_eq_decide.2 (by omega)
     rw [if_neg a,if_neg b]
     simp only [decide_eq_false a,decide_eq_false b,Option.bind_some,shrU ht,e1,e2,shlU ht,w]
     rw [hb t ht]
     by_cases c : ((t : Nat) : Int) ∈ p.take j
     ·rw [if_pos c,decide_eq_true c]
      rfl
     ·rw [if_neg c,decide_eq_false c]
      have p1 : 2 ^ t < 2 ^ 64 := Nat.pow_lt_pow_right (by decide) ht
      have e3 := orU hM p1
      simp only [e3]
      refine q (M ||| 2 ^ t) (Nat.or_lt_two_pow hM p1) fun s hs => ?_
      rw [Nat.testBit_or,hb s hs,Nat.testBit_two_pow]
      simp only [List.mem_append,List.mem_singleton]
      by_cases d : ((s : Nat) : Int) ∈ p.take j
      ·simp [d]
      ·by_cases e : t = s
       ·subst e; simp
       ·have e' : ¬ ((s : Nat) : Int) = (t : Nat) := fun w => e (by omega)
        simp [d,e,e']
  ·have h1 : decide ((j : Int) < (p.length : Int)) = false := decide_eq_false (by omega)
   simp only [Option.bind_some,h1,List.drop_of_length_le (by omega : p.length ≤ j),chk]
   simp
end
def pairMin : List Int → List Int
 | a :: b :: r => min a b :: pairMin r
 | _ => []
def idxG : List Int → Int → Int
 | [],_ => -1
 | y :: r,j => if 0 = y then j else idxG r (j + 1)
def maxG (x : Int) (l : List Int) : Int := l.foldl max x
theorem f68_eq {F : Nat} {l : List Int} (hl : l.length < F) (hb : l.length < 1000000000) : f68S F l 0 = some (idxG l 0) := by
 have key : ∀ (n j : Nat),j ≤ l.length → l.length - j < n → f68_L0 F l 0 (l.length : Int) (fun _ => some (-1)) n (j : Int) = some (idxG (l.drop j) (j : Int)) := by
  intro n
  induction n with
  | zero => intro j _ h; omega
  | succ n ih =>
   intro j hj hn
   rw [f68_L0]
   by_cases h : j < l.length
   ·have h1 : decide ((j : Int) < (l.length : Int)) = true := decide_eq_true (by omega)
    have w := wrap_nat (show j < 1000000000000 by omega)
    have q := ih (j + 1) (by omega) (by omega)
    rw [drop_at h,idxG]
    simp only [Option.bind_some,h1,gI_at h,w,q]
    by_cases e : (0 : Int) = l[j]
    ·rw [if_pos e,decide_eq_true e]
    ·rw [if_neg e,decide_eq_false e]
     rfl
   ·have h1 : decide ((j : Int) < (l.length : Int)) = false := decide_eq_false (by omega)
    simp only [Option.bind_some,h1,List.drop_of_length_le (by omega : l.length ≤ j),idxG]
 have := key F 0 (by omega) (by omega)
 unfold f68S
 rw [Option.bind_some]
 exact this
theorem f68b_eq {F : Nat} {l : List Int} (hl : l.length < F) (hb : l.length < 1000000000) : f68bS F l 0 = some (idxG l 0) := by
 have key : ∀ (n j : Nat),j ≤ l.length → l.length - j < n → f68b_L0 F l 0 (l.length : Int) (fun _ => some (-1)) n (j : Int) = some (idxG (l.drop j) (j : Int)) := by
  intro n
  induction n with
  | zero => intro j _ h; omega
  | succ n ih =>
   intro j hj hn
   rw [f68b_L0]
   by_cases h : j < l.length
   ·have h1 : decide ((j : Int) < (l.length : Int)) = true := decide_eq_true (by omega)
    have w := wrap_nat (show j < 1000000000000 by omega)
    have q := ih (j + 1) (by omega) (by omega)
    rw [drop_at h,idxG]
    simp only [Option.bind_some,h1,gI_at h,w,q]
    by_cases e : (0 : Int) = l[j]
    ·rw [if_pos e,decide_eq_true e]
    ·rw [if_neg e,decide_eq_false e]
     rfl
   ·have h1 : decide ((j : Int) < (l.length : Int)) = false := decide_eq_false (by omega)
    simp only [Option.bind_some,h1,List.drop_of_length_le (by omega : l.length ≤ j),idxG]
 have := key F 0 (by omega) (by omega)
 unfold f68bS
 rw [Option.bind_some]
 exact this
theorem f69_eq {F : Nat} {a : Int} {l : List Int} (hl : l.length + 1 < F) (hb : l.length < 1000000000) : f69S F (a :: l) = some (maxG a l) := by
 have key : ∀ (n j : Nat) (x : Int),1 ≤ j → j ≤ l.length + 1 → l.length + 1 - j < n → f69_L0 F (a :: l) (fun v => some v) n (x,(j : Int)) = some (maxG x ((a :: l).drop j)) := by
  intro n
  induction n with
  | zero => intro j x _ _ h; omega
  | succ n ih =>
   intro j x h0 hj hn
   rw [f69_L0]
   by_cases h : j < (a :: l).length
   ·have h1 : decide ((j : Int) < ((a :: l).length : Int)) = true := decide_eq_true (by omega)
    have w := wrap_nat (show j < 1000000000000 by omega)
    have h' : j < l.length + 1 := h
    have q := ih (j + 1) (max x (a :: l)[j]) (by omega) (by omega) (by omega)
    rw [drop_at h]
    simp only [Option.bind_some,h1,gI_at h,w,q]
    rfl
   ·have h1 : decide ((j : Int) < ((a :: l).length : Int)) = false := decide_eq_false (by omega)
    simp only [Option.bind_some,h1]
    rw [List.drop_of_length_le (by omega)]
    rfl
 have q := key F 1 a (by omega) (by omega) (by omega)
 unfold f69S
 have h1 : decide (((a :: l).length : Int) < 1) = false := decide_eq_false (by simp; omega)
 have h2 : gI (a :: l) 0 = some a := rfl
 rw [Option.bind_some,Option.bind_some,h1]
 dsimp only
 rw [h2,Option.bind_some]
 exact q
theorem pq1 {F : Nat} {p : List Int} {K : List Int × List Int → Option (List UInt8 × Int)} (hv : p.length ≤ 64) : ∀ (n i : Nat) (acc : List Int),i ≤ p.length → (p.length - i) % 2 = 0 → p.length - i < n → acc.length ≤ 64 + i → f40_L1 F p K n (acc,(i : Int),p) = K (acc ++ pairMin (p.drop i),p) := by
 intro n
 induction n with
 | zero => intro i acc _ _ h; omega
 | succ n ih =>
  intro i acc hi he hn ha
  rw [f40_L1]
  by_cases h : i < p.length
  ·have h2 : i + 1 < p.length := by omega
   have h1 : decide ((i : Int) < (p.length : Int)) = true := decide_eq_true (by omega)
   have w := wrap_nat (show i < 1000000000000 by omega)
   have w2 : IntKind.i64.wrap ((i : Int) + 2) = ((i + 2 : Nat) : Int) := by rw [wrap64 (by omega) (by omega)]; omega
   rw [drop_at h,drop_at h2,pairMin]
   have q := ih (i + 2) (acc ++ [min p[i] p[i + 1]]) (by omega) (by omega) (by omega) (by simp; omega)
   simp only [Option.bind_some,h1,gI_at h,w,gI_at h2,w2,app1_at (show acc.length ≤ 1000000 by omega)]
   rw [q,List.append_assoc]
   rfl
  ·have h1 : decide ((i : Int) < (p.length : Int)) = false := decide_eq_false (by omega)
   simp only [Option.bind_some,h1,List.drop_of_length_le (by omega : p.length ≤ i),pairMin,List.append_nil]
theorem pq5 {F : Nat} {p : List Int} {K : List Int × List Int → Option (List UInt8 × Int)} (hv : p.length ≤ 64) : ∀ (n i : Nat) (acc : List Int),i ≤ p.length → (p.length - i) % 2 = 0 → p.length - i < n → acc.length ≤ 64 + i → f40_L5 F p K n (acc,(i : Int),p) = K (acc ++ pairMin (p.drop i),p) := by
 intro n
 induction n with
 | zero => intro i acc _ _ h; omega
 | succ n ih =>
  intro i acc hi he hn ha
  rw [f40_L5]
  by_cases h : i < p.length
  ·have h2 : i + 1 < p.length := by omega
   have h1 : decide ((i : Int) < (p.length : Int)) = true := decide_eq_true (by omega)
   have w := wrap_nat (show i < 1000000000000 by omega)
   have w2 : IntKind.i64.wrap ((i : Int) + 2) = ((i + 2 : Nat) : Int) := by rw [wrap64 (by omega) (by omega)]; omega
   rw [drop_at h,drop_at h2,pairMin]
   have q := ih (i + 2) (acc ++ [min p[i] p[i + 1]]) (by omega) (by omega) (by omega) (by simp; omega)
   simp only [Option.bind_some,h1,gI_at h,w,gI_at h2,w2,app1_at (show acc.length ≤ 1000000 by omega)]
   rw [q,List.append_assoc]
   rfl
  ·have h1 : decide ((i : Int) < (p.length : Int)) = false := decide_eq_false (by omega)
   simp only [Option.bind_some,h1,List.drop_of_length_le (by omega : p.length ≤ i),pairMin,List.append_nil]
theorem pq3 {F : Nat} {v : List Int} {K : List Int × List Int → Option (List UInt8 × Int)} {m : List Int} (hv : v.length ≤ 64) : ∀ (n i : Nat) (acc : List Int),i ≤ v.length → (v.length - i) % 2 = 0 → v.length - i < n → acc.length ≤ 64 + i → f40_L3 F v K n (acc,(i : Int),m) = K (acc ++ pairMin (v.drop i),m) := by
 intro n
 induction n with
 | zero => intro i acc _ _ h; omega
 | succ n ih =>
  intro i acc hi he hn ha
  rw [f40_L3]
  by_cases h : i < v.length
  ·have h2 : i + 1 < v.length := by omega
   have h1 : decide ((i : Int) < (v.length : Int)) = true := decide_eq_true (by omega)
   have w := wrap_nat (show i < 1000000000000 by omega)
   have w2 : IntKind.i64.wrap ((i : Int) + 2) = ((i + 2 : Nat) : Int) := by rw [wrap64 (by omega) (by omega)]; omega
   rw [drop_at h,drop_at h2,pairMin]
   have q := ih (i + 2) (acc ++ [min v[i] v[i + 1]]) (by omega) (by omega) (by omega) (by simp; omega)
   simp only [Option.bind_some,h1,gI_at h,w,gI_at h2,w2,app1_at (show acc.length ≤ 1000000 by omega)]
   rw [q,List.append_assoc]
   rfl
  ·have h1 : decide ((i : Int) < (v.length : Int)) = false := decide_eq_false (by omega)
   simp only [Option.bind_some,h1,List.drop_of_length_le (by omega : v.length ≤ i),pairMin,List.append_nil]
theorem pq4 {F : Nat} {v : List Int} {K : List Int × List Int → Option (List UInt8 × Int)} {m : List Int} (hv : v.length ≤ 64) : ∀ (n i : Nat) (acc : List Int),i ≤ v.length → (v.length - i) % 2 = 0 → v.length - i < n → acc.length ≤ 64 + i → f40_L4 F v K n (acc,(i : Int),m) = K (acc ++ pairMin (v.drop i),m) := by
 intro n
 induction n with
 | zero => intro i acc _ _ h; omega
 | succ n ih =>
  intro i acc hi he hn ha
  rw [f40_L4]
  by_cases h : i < v.length
  ·have h2 : i + 1 < v.length := by omega
   have h1 : decide ((i : Int) < (v.length : Int)) = true := decide_eq_true (by omega)
   have w := wrap_nat (show i < 1000000000000 by omega)
   have w2 : IntKind.i64.wrap ((i : Int) + 2) = ((i + 2 : Nat) : Int) := by rw [wrap64 (by omega) (by omega)]; omega
   rw [drop_at h,drop_at h2,pairMin]
   have q := ih (i + 2) (acc ++ [min v[i] v[i + 1]]) (by omega) (by omega) (by omega) (by simp; omega)
   simp only [Option.bind_some,h1,gI_at h,w,gI_at h2,w2,app1_at (show acc.length ≤ 1000000 by omega)]
   rw [q,List.append_assoc]
   rfl
  ·have h1 : decide ((i : Int) < (v.length : Int)) = false := decide_eq_false (by omega)
   simp only [Option.bind_some,h1,List.drop_of_length_le (by omega : v.length ≤ i),pairMin,List.append_nil]
theorem pq7 {F : Nat} {v : List Int} {K : List Int × List Int → Option (List UInt8 × Int)} {m : List Int} (hv : v.length ≤ 64) : ∀ (n i : Nat) (acc : List Int),i ≤ v.length → (v.length - i) % 2 = 0 → v.length - i < n → acc.length ≤ 64 + i → f40_L7 F v K n (acc,(i : Int),m) = K (acc ++ pairMin (v.drop i),m) := by
 intro n
 induction n with
 | zero => intro i acc _ _ h; omega
 | succ n ih =>
  intro i acc hi he hn ha
  rw [f40_L7]
  by_cases h : i < v.length
  ·have h2 : i + 1 < v.length := by omega
   have h1 : decide ((i : Int) < (v.length : Int)) = true := decide_eq_true (by omega)
   have w := wrap_nat (show i < 1000000000000 by omega)
   have w2 : IntKind.i64.wrap ((i : Int) + 2) = ((i + 2 : Nat) : Int) := by rw [wrap64 (by omega) (by omega)]; omega
   rw [drop_at h,drop_at h2,pairMin]
   have q := ih (i + 2) (acc ++ [min v[i] v[i + 1]]) (by omega) (by omega) (by omega) (by simp; omega)
   simp only [Option.bind_some,h1,gI_at h,w,gI_at h2,w2,app1_at (show acc.length ≤ 1000000 by omega)]
   rw [q,List.append_assoc]
   rfl
  ·have h1 : decide ((i : Int) < (v.length : Int)) = false := decide_eq_false (by omega)
   simp only [Option.bind_some,h1,List.drop_of_length_le (by omega : v.length ≤ i),pairMin,List.append_nil]
theorem pq8 {F : Nat} {v : List Int} {K : List Int × List Int → Option (List UInt8 × Int)} {m : List Int} (hv : v.length ≤ 64) : ∀ (n i : Nat) (acc : List Int),i ≤ v.length → (v.length - i) % 2 = 0 → v.length - i < n → acc.length ≤ 64 + i → f40_L8 F v K n (acc,(i : Int),m) = K (acc ++ pairMin (v.drop i),m) := by
 intro n
 induction n with
 | zero => intro i acc _ _ h; omega
 | succ n ih =>
  intro i acc hi he hn ha
  rw [f40_L8]
  by_cases h : i < v.length
  ·have h2 : i + 1 < v.length := by omega
   have h1 : decide ((i : Int) < (v.length : Int)) = true := decide_eq_true (by omega)
   have w := wrap_nat (show i < 1000000000000 by omega)
   have w2 : IntKind.i64.wrap ((i : Int) + 2) = ((i + 2 : Nat) : Int) := by rw [wrap64 (by omega) (by omega)]; omega
   rw [drop_at h,drop_at h2,pairMin]
   have q := ih (i + 2) (acc ++ [min v[i] v[i + 1]]) (by omega) (by omega) (by omega) (by simp; omega)
   simp only [Option.bind_some,h1,gI_at h,w,gI_at h2,w2,app1_at (show acc.length ≤ 1000000 by omega)]
   rw [q,List.append_assoc]
   rfl
  ·have h1 : decide ((i : Int) < (v.length : Int)) = false := decide_eq_false (by omega)
   simp only [Option.bind_some,h1,List.drop_of_length_le (by omega : v.length ≤ i),pairMin,List.append_nil]
theorem pz1 {F : Nat} {p : List Int} {K : List Int × List Int → Option (List UInt8 × Int)} (hv : p.length ≤ 64) (he : p.length % 2 = 0) (hF : 70 ≤ F) : f40_L1 F p K F ([],0,p) = K (pairMin p,p) := pq1 hv F 0 [] (by omega) (by omega) (by omega) (by simp)
theorem pz5 {F : Nat} {p : List Int} {K : List Int × List Int → Option (List UInt8 × Int)} (hv : p.length ≤ 64) (he : p.length % 2 = 0) (hF : 70 ≤ F) : f40_L5 F p K F ([],0,p) = K (pairMin p,p) := pq5 hv F 0 [] (by omega) (by omega) (by omega) (by simp)
theorem pz3 {F : Nat} {v m : List Int} {K : List Int × List Int → Option (List UInt8 × Int)} (hv : v.length ≤ 64) (he : v.length % 2 = 0) (hF : 70 ≤ F) : f40_L3 F v K F ([],0,m) = K (pairMin v,m) := pq3 hv F 0 [] (by omega) (by omega) (by omega) (by simp)
theorem pz4 {F : Nat} {v m : List Int} {K : List Int × List Int → Option (List UInt8 × Int)} (hv : v.length ≤ 64) (he : v.length % 2 = 0) (hF : 70 ≤ F) : f40_L4 F v K F ([],0,m) = K (pairMin v,m) := pq4 hv F 0 [] (by omega) (by omega) (by omega) (by simp)
theorem pz7 {F : Nat} {v m : List Int} {K : List Int × List Int → Option (List UInt8 × Int)} (hv : v.length ≤ 64) (he : v.length % 2 = 0) (hF : 70 ≤ F) : f40_L7 F v K F ([],0,m) = K (pairMin v,m) := pq7 hv F 0 [] (by omega) (by omega) (by omega) (by simp)
theorem pz8 {F : Nat} {v m : List Int} {K : List Int × List Int → Option (List UInt8 × Int)} (hv : v.length ≤ 64) (he : v.length % 2 = 0) (hF : 70 ≤ F) : f40_L8 F v K F ([],0,m) = K (pairMin v,m) := pq8 hv F 0 [] (by omega) (by omega) (by omega) (by simp)
theorem pairMin_len : ∀ {l : List Int} {h : Nat},l.length = 2 * h → (pairMin l).length = h
 | [],h,e => by
  have : h = 0 := by simp only [List.length_nil] at e; omega
  subst this; rfl
 | [a],h,e => by simp at e; omega
 | a :: b :: r,h,e => by
  simp only [List.length_cons] at e
  rw [pairMin,List.length_cons,pairMin_len (h := h - 1) (by omega)]
  omega
def maxOf : List Int → Int
 | [] => 0
 | a :: l => maxG a l
def rd : Nat → List Int → Option (List Int)
 | 0,_ => some []
 | j + 1,v => if idxG (pairMin v) 0 < 0 then none else if ((pairMin v).length : Int) ≤ maxOf (pairMin v) then none else (rd j (pairMin v)).map fun cs => (if (idxG v 0).tmod 2 = 1 then 111 else 117) :: cs
theorem rd_len : ∀ {j : Nat} {v cs : List Int},rd j v = some cs → cs.length = j
 | 0,_,_,h => by cases h; rfl
 | j + 1,v,cs,h => by
  rw [rd] at h
  split at h
  ·cases h
  ·split at h
   ·cases h
   ·cases e : rd j (pairMin v) with
    | none => rw [e] at h; cases h
    | some ds =>
     rw [e] at h
     cases h
     rw [List.length_cons,rd_len e]
theorem f69_at {F : Nat} {w : List Int} (h0 : w ≠ []) (hw : w.length ≤ 64) (hF : 70 ≤ F) : f69S F w = some (maxOf w) := by
 cases w with
 | nil => exact absurd rfl h0
 | cons a l => exact f69_eq (by simp at hw; omega) (by simp at hw; omega)
theorem pr2 {F : Nat} {K : List Int × List Int → Option (List UInt8 × Int)} {m : List Int} (hF : 70 ≤ F) : ∀ (n j : Nat) (acc v : List Int),v.length = 2 ^ j → j ≤ 6 → j < n → acc.length + j ≤ 10 → f40_L2 F K n (acc,v,m) = match rd j v with
   | some cs => K (acc ++ cs,m)
   | none => some ([],12) := by
 intro n
 induction n with
 | zero => intro j acc v _ _ h; omega
 | succ n ih =>
  intro j acc v hv hj hn ha
  rw [f40_L2]
  have h64 : 2 ^ j ≤ 64 := Nat.pow_le_pow_right (n := 2) (by decide) hj
  cases j with
  | zero =>
   have h1 : decide ((1 : Int) < (v.length : Int)) = false := decide_eq_false (by rw [hv]; decide)
   simp only [Option.bind_some,h1,rd,List.append_nil]
  | succ j =>
   have hp : 2 ^ (j + 1) = 2 * 2 ^ j := by rw [Nat.pow_succ]; omega
   have h1p : 1 ≤ 2 ^ j := Nat.one_le_two_pow
   have h1 : decide ((1 : Int) < (v.length : Int)) = true := decide_eq_true (by omega)
   have hw : (pairMin v).length = 2 ^ j := pairMin_len (by omega)
   have hne : pairMin v ≠ [] := fun e => by rw [e] at hw; simp at hw; omega
   have i1 := f68_eq (F := F) (l := v) (by omega) (by omega)
   have i2 := f68_eq (F := F) (l := pairMin v) (by omega) (by omega)
   have i3 := f69_at (F := F) hne (by omega) hF
   have q := fun c => ih j (acc ++ [c]) (pairMin v) hw (by omega) (by omega) (by simp; omega)
   rw [rd]
   rw [Option.bind_some,Option.bind_some,h1]
   dsimp only
   rw [i1,Option.bind_some,Option.bind_some,Option.bind_some]
   by_cases c : (idxG v 0).tmod 2 = 1
   ·rw [decide_eq_true c,if_pos c]
    dsimp only
    rw [app1_at (show acc.length ≤ 1000000 by omega),Option.bind_some]
    rw [pz3 (by omega) (by omega) hF]
    dsimp only
    rw [i2,Option.bind_some,Option.bind_some]
    by_cases d : idxG (pairMin v) 0 < 0
    ·rw [decide_eq_true d,if_pos d]
    ·rw [decide_eq_false d,if_neg d]
     dsimp only
     rw [i3,Option.bind_some,Option.bind_some,Option.bind_some]
     by_cases e : ((pairMin v).length : Int) ≤ maxOf (pairMin v)
     ·rw [decide_eq_true e,if_pos e]
     ·rw [decide_eq_false e,if_neg e]
      dsimp only
      rw [q]
      cases rd j (pairMin v) with
      | none => rfl
      | some cs => simp only [Option.map_some,List.append_assoc,List.singleton_append]
   ·rw [decide_eq_false c,if_neg c]
    dsimp only
    rw [app1_at (show acc.length ≤ 1000000 by omega),Option.bind_some]
    rw [pz4 (by omega) (by omega) hF]
    dsimp only
    rw [i2,Option.bind_some,Option.bind_some]
    by_cases d : idxG (pairMin v) 0 < 0
    ·rw [decide_eq_true d,if_pos d]
    ·rw [decide_eq_false d,if_neg d]
     dsimp only
     rw [i3,Option.bind_some,Option.bind_some,Option.bind_some]
     by_cases e : ((pairMin v).length : Int) ≤ maxOf (pairMin v)
     ·rw [decide_eq_true e,if_pos e]
     ·rw [decide_eq_false e,if_neg e]
      dsimp only
      rw [q]
      cases rd j (pairMin v) with
      | none => rfl
      | some cs => simp only [Option.map_some,List.append_assoc,List.singleton_append]
theorem pr6 {F : Nat} {K : List Int × List Int → Option (List UInt8 × Int)} {m : List Int} (hF : 70 ≤ F) : ∀ (n j : Nat) (acc v : List Int),v.length = 2 ^ j → j ≤ 6 → j < n → acc.length + j ≤ 10 → f40_L6 F K n (acc,v,m) = match rd j v with
   | some cs => K (acc ++ cs,m)
   | none => some ([],12) := by
 intro n
 induction n with
 | zero => intro j acc v _ _ h; omega
 | succ n ih =>
  intro j acc v hv hj hn ha
  rw [f40_L6]
  have h64 : 2 ^ j ≤ 64 := Nat.pow_le_pow_right (n := 2) (by decide) hj
  cases j with
  | zero =>
   have h1 : decide ((1 : Int) < (v.length : Int)) = false := decide_eq_false (by rw [hv]; decide)
   simp only [Option.bind_some,h1,rd,List.append_nil]
  | succ j =>
   have hp : 2 ^ (j + 1) = 2 * 2 ^ j := by rw [Nat.pow_succ]; omega
   have h1p : 1 ≤ 2 ^ j := Nat.one_le_two_pow
   have h1 : decide ((1 : Int) < (v.length : Int)) = true := decide_eq_true (by omega)
   have hw : (pairMin v).length = 2 ^ j := pairMin_len (by omega)
   have hne : pairMin v ≠ [] := fun e => by rw [e] at hw; simp at hw; omega
   have i1 := f68_eq (F := F) (l := v) (by omega) (by omega)
   have i2 := f68_eq (F := F) (l := pairMin v) (by omega) (by omega)
   have i3 := f69_at (F := F) hne (by omega) hF
   have q := fun c => ih j (acc ++ [c]) (pairMin v) hw (by omega) (by omega) (by simp; omega)
   rw [rd]
   rw [Option.bind_some,Option.bind_some,h1]
   dsimp only
   rw [i1,Option.bind_some,Option.bind_some,Option.bind_some]
   by_cases c : (idxG v 0).tmod 2 = 1
   ·rw [decide_eq_true c,if_pos c]
    dsimp only
    rw [app1_at (show acc.length ≤ 1000000 by omega),Option.bind_some]
    rw [pz7 (by omega) (by omega) hF]
    dsimp only
    rw [i2,Option.bind_some,Option.bind_some]
    by_cases d : idxG (pairMin v) 0 < 0
    ·rw [decide_eq_true d,if_pos d]
    ·rw [decide_eq_false d,if_neg d]
     dsimp only
     rw [i3,Option.bind_some,Option.bind_some,Option.bind_some]
     by_cases e : ((pairMin v).length : Int) ≤ maxOf (pairMin v)
     ·rw [decide_eq_true e,if_pos e]
     ·rw [decide_eq_false e,if_neg e]
      dsimp only
      rw [q]
      cases rd j (pairMin v) with
      | none => rfl
      | some cs => simp only [Option.map_some,List.append_assoc,List.singleton_append]
   ·rw [decide_eq_false c,if_neg c]
    dsimp only
    rw [app1_at (show acc.length ≤ 1000000 by omega),Option.bind_some]
    rw [pz8 (by omega) (by omega) hF]
    dsimp only
    rw [i2,Option.bind_some,Option.bind_some]
    by_cases d : idxG (pairMin v) 0 < 0
    ·rw [decide_eq_true d,if_pos d]
    ·rw [decide_eq_false d,if_neg d]
     dsimp only
     rw [i3,Option.bind_some,Option.bind_some,Option.bind_some]
     by_cases e : ((pairMin v).length : Int) ≤ maxOf (pairMin v)
     ·rw [decide_eq_true e,if_pos e]
     ·rw [decide_eq_false e,if_neg e]
      dsimp only
      rw [q]
      cases rd j (pairMin v) with
      | none => rfl
      | some cs => simp only [Option.map_some,List.append_assoc,List.singleton_append]
def readL (k : Nat) (p : List Int) : List UInt8 × Int := match rd k p with
 | none => ([],12)
 | some cs => if pileL (bytesN cs) = p then (bytesN cs,0) else ([],12)
def pilesL (p : List Int) (k : Nat) : List UInt8 × Int := if chk p.length p [] = 0 then readL k p else ([],chk p.length p [])
theorem copy_at {p : List Int} {n : Nat} (hn : p.length = n) (h0 : n ≠ 0) : copyO (List.replicate n (0 : Int)) p = some p := by
 unfold copyO
 rw [List.length_replicate,hn,beqT rfl,beqF h0]
theorem fin_ok {F : Nat} {k : Nat} {p cs : List Int} (hk : k ≤ 6) (hp : p.length = 2 ^ k) (hr : rd k p = some cs) :
  ((some (bytesN cs)).bind fun x102 =>
    (pileO x102).bind fun x103 =>
    (sameO x103.2 p).bind fun x104 =>
    (match x104 with
    | true => ((some (bytesN cs)).bind fun x105 =>
    some (x105,(0 : Int)))
    | false => (some ([],12)))) = some (readL k p) := by
 have hl : (bytesN cs).length = k := by simp [bytesN,rd_len hr]
 have h64 : 2 ^ k ≤ 64 := Nat.pow_le_pow_right (n := 2) (by decide) hk
 have e1 : pileO (bytesN cs) = some (pileC (bytesN cs),pileL (bytesN cs)) := by unfold pileO; rw [if_pos (by omega)]
 have e2 : sameO (pileL (bytesN cs)) p = some (decide (pileL (bytesN cs) = p)) := by
  unfold sameO
  rw [ble_true (show (pileL (bytesN cs)).length ≤ 1000000 by rw [pileL_len,hl]; omega)]
 unfold readL
 rw [hr,Option.bind_some,e1,Option.bind_some,e2,Option.bind_some]
 by_cases e : pileL (bytesN cs) = p
 ·rw [decide_eq_true e]
  simp only [e,if_true]
  rfl
 ·rw [decide_eq_false e]
  simp only [e,if_false]
theorem l40z {F : Nat} {p : List Int} {K : Unit → Option (List UInt8 × Int)} (hp : p.length ≤ 64) (hF : 70 ≤ F) : f40_L0 F p (p.length : Int) K F (0,0) = if chk p.length p [] = 0 then K () else some ([],chk p.length p []) := by
 have := l40 (F := F) (p := p) (K := K) hp F 0 0 (by omega) (by omega) (by decide) (fun t _ => by simp)
 exact this
theorem f40_ok {F k : Nat} {p : List Int} (hF : 70 ≤ F) (hk : k ≤ 6) (hp : p.length = 2 ^ k) (h4 : andI .i64 (p.length : Int) (IntKind.i64.wrap ((p.length : Int) - 1)) = 0) : f40S F p = some (pilesL p k) := by
 have h64 : 2 ^ k ≤ 64 := Nat.pow_le_pow_right (n := 2) (by decide) hk
 have h1 : 1 ≤ 2 ^ k := Nat.one_le_two_pow
 unfold f40S pilesL
 rw [Option.bind_some,Option.bind_some,decide_eq_false (show ¬ (64 : Int) < p.length by omega)]
 dsimp only
 rw [Option.bind_some,decide_eq_false (show ¬ (p.length : Int) = 0 by omega)]
 dsimp only
 rw [Option.bind_some,Option.bind_some,h4,Option.bind_some,decide_eq_true rfl]
 dsimp only
 rw [l40z (by omega) hF]
 by_cases hc : chk p.length p [] = 0
 ·rw [if_pos hc,if_pos hc]
  rw [mkN_at (show p.length ≤ 1000000 by omega),Option.bind_some,gN_at (show p.length ≤ 1000000 by omega),Option.bind_some,Option.bind_some,copy_at rfl (by omega),Option.bind_some,Option.bind_some,Option.bind_some]
  cases k with
  | zero =>
   rw [decide_eq_false (show ¬ (1 : Int) < p.length by omega)]
   dsimp only
   exact fin_ok (F := F) (k := 0) (cs := []) (by omega) hp rfl
  | succ j =>
   have hp2 : 2 ^ (j + 1) = 2 * 2 ^ j := by rw [Nat.pow_succ]; omega
   have h1p : 1 ≤ 2 ^ j := Nat.one_le_two_pow
   have hw : (pairMin p).length = 2 ^ j := pairMin_len (by omega)
   have hne : pairMin p ≠ [] := fun e => by rw [e] at hw; simp at hw; omega
   have i1 := f68b_eq (F := F) (l := p) (by omega) (by omega)
   have i2 := f68_eq (F := F) (l := pairMin p) (by omega) (by omega)
   have i3 := f69_at (F := F) hne (by omega) hF
   have fin := fun {cs} => fin_ok (F := F) (k := j + 1) (p := p) (cs := cs) hk hp
   unfold readL
   rw [decide_eq_true (show (1 : Int) < p.length by omega)]
   dsimp only
   rw [i1,Option.bind_some,Option.bind_some,Option.bind_some]
   by_cases c : (idxG p 0).tmod 2 = 1
   ·have ee : readL (j + 1) p = readL (j + 1) p := rfl
    have fin1 : ∀ cs,rd j (pairMin p) = some cs → rd (j + 1) p = (if idxG (pairMin p) 0 < 0 then none else if ((pairMin p).length : Int) ≤ maxOf (pairMin p) then none else some (111 :: cs)) := fun cs g => by rw [rd,g,if_pos c]; rfl
    rw [decide_eq_true c]
    dsimp only
    rw [pz1 (by omega) (by omega) hF]
    dsimp only
    rw [i2,Option.bind_some,Option.bind_some]
    by_cases d : idxG (pairMin p) 0 < 0
    ·rw [decide_eq_true d,rd,if_pos d]
    ·rw [decide_eq_false d]
     dsimp only
     rw [i3,Option.bind_some,Option.bind_some,Option.bind_some]
     by_cases e : ((pairMin p).length : Int) ≤ maxOf (pairMin p)
     ·rw [decide_eq_true e,rd,if_neg d,if_pos e]
     ·rw [decide_eq_false e]
      dsimp only
      rw [pr2 hF F j [111] (pairMin p) hw (by omega) (by omega) (by simp; omega)]
      cases g : rd j (pairMin p) with
      | none => rw [rd,if_neg d,if_neg e,g]; rfl
      | some cs =>
       have r := fin1 cs g
       rw [if_neg d,if_neg e] at r
       exact fin r
   ·have fin1 : ∀ cs,rd j (pairMin p) = some cs → rd (j + 1) p = (if idxG (pairMin p) 0 < 0 then none else if ((pairMin p).length : Int) ≤ maxOf (pairMin p) then none else some (117 :: cs)) := fun cs g => by rw [rd,g,if_neg c]; rfl
    rw [decide_eq_false c]
    dsimp only
    rw [pz5 (by omega) (by omega) hF]
    dsimp only
    rw [i2,Option.bind_some,Option.bind_some]
    by_cases d : idxG (pairMin p) 0 < 0
    ·rw [decide_eq_true d,rd,if_pos d]
    ·rw [decide_eq_false d]
     dsimp only
     rw [i3,Option.bind_some,Option.bind_some,Option.bind_some]
     by_cases e : ((pairMin p).length : Int) ≤ maxOf (pairMin p)
     ·rw [decide_eq_true e,rd,if_neg d,if_pos e]
     ·rw [decide_eq_false e]
      dsimp only
      rw [pr6 hF F j [117] (pairMin p) hw (by omega) (by omega) (by simp; omega)]
      cases g : rd j (pairMin p) with
      | none => rw [rd,if_neg d,if_neg e,g]; rfl
      | some cs =>
       have r := fin1 cs g
       rw [if_neg d,if_neg e] at r
       exact fin r
 ·rw [if_neg hc,if_neg hc]
end Go.Proofs.YtcjephdjemapbaaDoor
set_option linter.unusedSimpArgs false
set_option linter.unusedVariables false
namespace Go.Proofs.YtcjephdjemapbaaDoor
open Go.Abs Go.Pur
set_option maxRecDepth 100000
def okB (k : Nat) : Bool := (allS k).all fun y => match rd k (pileL y) with
 | some cs => beqS (bytesN cs) y
 | none => false
theorem tabB : (List.range 7).all okB = true := by kernel_rfl
theorem rd_pile {k : Nat} (hk : k ≤ 6) {y : List UInt8} (hy : y ∈ allS k) : ∃ cs,rd k (pileL y) = some cs ∧ bytesN cs = y := by
 have t := List.all_eq_true.1 tabB k (List.mem_range.2 (by omega))
 have t := List.all_eq_true.1 t y hy
 cases e : rd k (pileL y) with
 | none => simp [e] at t
 | some cs =>
  rw [e] at t
  exact ⟨cs,rfl,beqS_ok t⟩
theorem rd_mem : ∀ {j : Nat} {v cs : List Int},rd j v = some cs → ∀ c ∈ cs,c = 111 ∨ c = 117
 | 0,_,_,h,c,hc => by cases h; simp at hc
 | j + 1,v,cs,h,c,hc => by
  rw [rd] at h
  split at h
  ·cases h
  ·split at h
   ·cases h
   ·cases e : rd j (pairMin v) with
    | none => rw [e] at h; cases h
    | some ds =>
     rw [e] at h
     cases h
     rcases List.mem_cons.1 hc with rfl | hc
     ·split
      ·exact .inl rfl
      ·exact .inr rfl
     ·exact rd_mem e c hc
end Go.Proofs.YtcjephdjemapbaaDoor
set_option linter.unusedSimpArgs false
set_option linter.unusedVariables false
namespace Go.Pur
end Go.Pur
namespace Go.Proofs.YtcjephdjemapbaaDoor
open Go.Abs Go.Pur
set_option maxRecDepth 100000
def foldedL (k y : Nat) : List UInt8 := (List.range k).map fun i => if y.testBit i then 117 else 111
theorem lettersB_eq {k y : Nat} : lettersB 111 117 k y = bs (foldedL k y) := rfl
def foldedO (m y : Int) : Option (List UInt8) := match m,y with
 | .ofNat m,.ofNat y => match Nat.blt m 256,Nat.blt y 256 with
  | true,true => some (foldedL (m % 7) y)
  | _,_ => none
 | _,_ => none
theorem f42_is {p0 p1 : Int} {hp : List (Option (List PV))} {r : List UInt8} (h : foldedO p0 p1 = some r) : E Tryd.prog Y0 42 [kv .u8 p0,kv .u8 p1] hp = some (.v (.string (bs r)),hp,none) := by
 cases p0 with
 | negSucc k => cases h
 | ofNat m =>
  cases p1 with
  | negSucc k => cases h
  | ofNat y =>
   unfold foldedO at h
   cases hm : Nat.blt m 256 with
   | false => simp [hm] at h
   | true =>
    cases hy : Nat.blt y 256 with
    | false => simp [hm,hy] at h
    | true =>
     simp [hm,hy] at h
     subst h
     rw [← lettersB_eq]
     exact folded_is (Nat.le_of_ble_eq_true hm) (Nat.le_of_ble_eq_true hy)
theorem foldedO_at {m y : Nat} (hm : m < 256) (hy : y < 256) : foldedO (m : Int) (y : Int) = some (foldedL (m % 7) y) := by
 show (match Nat.blt m 256,Nat.blt y 256 with | true,true => some (foldedL (m % 7) y) | _,_ => none) = _
 rw [blt_true hm,blt_true hy]
end Go.Proofs.YtcjephdjemapbaaDoor
set_option linter.unusedSimpArgs false
set_option linter.unusedVariables false
namespace Go.Proofs.YtcjephdjemapbaaDoor
open Go.Abs Go.Pur
set_option maxRecDepth 100000
def nodupI : List Int → Bool
 | [] => true
 | y :: r => !(r.any fun z => z == y) && nodupI r
theorem nodupI_ok : ∀ {l : List Int},nodupI l = true → l.Nodup
 | [],_ => List.nodup_nil
 | y :: r,h => by
  unfold nodupI at h
  simp only [Bool.and_eq_true,Bool.not_eq_true',List.any_eq_false,beq_iff_eq] at h
  exact List.nodup_cons.2 ⟨fun hm => h.1 y hm rfl,nodupI_ok h.2⟩
def eqI (l m : List Int) : Bool := decide (l = m)
def okT (k : Nat) : Bool := (allS k).all fun y => nodupI (pileL y) && eqI (pileL (y.map (exL 111 117))).reverse (pileL y) && beqS ((creasesL y).map (exL 118 104)) (creasesL (y.map (exL 111 117))) && (allS k).any (beqS (y.map (exL 111 117)))
theorem tabT : (List.range 7).all okT = true := by kernel_rfl
def okFT (k : Nat) : Bool := (List.range (2 ^ k)).all fun y => (allS k).any (beqS (foldedL k y))
theorem tabFT : (List.range 7).all okFT = true := by kernel_rfl
theorem beqS_mem {l : List UInt8} {L : List (List UInt8)} (h : L.any (beqS l) = true) : l ∈ L := by
 obtain ⟨x,hx,h2⟩ := List.any_eq_true.1 h
 rw [beqS_ok h2]; exact hx
theorem turned_ok {k : Nat} (hk : k ≤ 6) {y : List UInt8} (hy : y ∈ allS k) : (pileL y).Nodup ∧ (pileL (y.map (exL 111 117))).reverse = pileL y ∧ (creasesL y).map (exL 118 104) = creasesL (y.map (exL 111 117)) ∧ y.map (exL 111 117) ∈ allS k := by
 have t := List.all_eq_true.1 tabT k (List.mem_range.2 (by omega))
 have t := List.all_eq_true.1 t y hy
 simp only [Bool.and_eq_true] at t
 exact ⟨nodupI_ok t.1.1.1,of_decide_eq_true t.1.1.2,beqS_ok t.1.2,beqS_mem t.2⟩
theorem foldedL_mod {k y : Nat} : foldedL k (y % 2 ^ k) = foldedL k y := by
 unfold foldedL
 refine List.map_congr_left fun i hi => ?_
 rw [Nat.testBit_mod_two_pow]
 simp [List.mem_range.1 hi]
theorem folded_mem {k y : Nat} (hk : k ≤ 6) : foldedL k y ∈ allS k := by
 rw [← foldedL_mod]
 have t := List.all_eq_true.1 tabFT k (List.mem_range.2 (by omega))
 exact beqS_mem (List.all_eq_true.1 t _ (List.mem_range.2 (Nat.mod_lt _ (Nat.two_pow_pos k))))
theorem chk_zero {n : Nat} : ∀ {p seen : List Int},(∀ x ∈ p,0 ≤ x ∧ x < n) → p.Nodup → (∀ x ∈ p,x ∉ seen) → chk n p seen = 0
 | [],_,_,_,_ => rfl
 | y :: r,seen,h1,h2,h3 => by
  obtain ⟨a,b⟩ := h1 y List.mem_cons_self
  obtain ⟨c,d⟩ := List.nodup_cons.1 h2
  rw [chk,if_neg (by omega),if_neg (by omega),if_neg (h3 y List.mem_cons_self)]
  refine chk_zero (fun x hx => h1 x (List.mem_cons_of_mem _ hx)) d fun x hx hm => ?_
  rcases List.mem_append.1 hm with hm | hm
  ·exact h3 x (List.mem_cons_of_mem _ hx) hm
  ·rw [List.mem_singleton.1 hm] at hx
   exact c hx
def swapL (l : List Int) (i j : Nat) : List Int := (l.set i (l.getD j 0)).set j (l.getD i 0)
theorem swapL_len {l : List Int} {i j : Nat} : (swapL l i j).length = l.length := by simp [swapL]
theorem swapL_perm {l : List Int} {i j : Nat} (hi : i < l.length) (hj : j < l.length) : (swapL l i j).Perm l := by
 have h := Array.swap_perm (xs := l.toArray) (i := i) (j := j) (by simpa using hi) (by simpa using hj)
 have e : (l.toArray.swap i j (by simpa using hi) (by simpa using hj)).toList = swapL l i j := by
  rw [Array.swap_def]
  simp [swapL,List.getD_eq_getElem?_getD,List.getElem?_eq_getElem hi,List.getElem?_eq_getElem hj]
 have h2 := h.toList
 rw [e] at h2
 simpa using h2
theorem swapL_ne {l : List Int} {i j : Nat} (hi : i < l.length) (hj : j < l.length) (hij : i ≠ j) (hn : l.Nodup) : swapL l i j ≠ l := fun e => by
 have h : (swapL l i j)[j]? = l[j]? := by rw [e]
 unfold swapL at h
 rw [List.getElem?_set_self (by simpa using hj),List.getElem?_eq_getElem hj,List.getD_eq_getElem?_getD,List.getElem?_eq_getElem hi] at h
 simp only [Option.getD_some,Option.some.injEq] at h
 exact hij ((List.getElem_inj hn).1 h)
theorem bad_ok {k : Nat} (hk : k ≤ 6) {y : List UInt8} (hy : y ∈ allS k) {i j : Nat} (hi : i < 2 ^ k) (hj : j < 2 ^ k) (hij : i ≠ j) {F : Nat} (hF : 70 ≤ F) (h4 : IntKind.i64.wrap ((2 ^ k : Nat) : Int) = ((2 ^ k : Nat) : Int)) :
  (∃ z,pilesL (swapL (pileL y) i j) k = (z,0) ∧ z ∈ allS k ∧ z ≠ y ∧ pileL z = swapL (pileL y) i j) ∨ (pilesL (swapL (pileL y) i j) k = ([],12) ∧ ∀ z ∈ allS k,pileL z ≠ swapL (pileL y) i j) := by
 obtain ⟨hn,_⟩ := turned_ok hk hy
 obtain ⟨_,a2,a3⟩ := all_ok hk
 have hyl := (a2 y hy).2.1
 have hl : (pileL y).length = 2 ^ k := by rw [pileL_len,hyl]
 have hp := swapL_perm (l := pileL y) (i := i) (j := j) (by omega) (by omega)
 have hz : chk (swapL (pileL y) i j).length (swapL (pileL y) i j) [] = 0 := chk_zero (fun x hx => by
  have h1 := pileL_range y x (hp.mem_iff.1 hx)
  rw [swapL_len,hl,← hyl]
  refine ⟨h1.1, ?_⟩
  have h2 := h1.2
  have e : (2 : Int) ^ y.length = ((2 ^ y.length : Nat) : Int) := by simp
  rw [e] at h2
  exact h2) (hp.nodup_iff.2 hn) (fun x _ h => by cases h)
 unfold pilesL
 rw [if_pos hz]
 unfold readL
 cases g : rd k (swapL (pileL y) i j) with
 | none =>
  refine .inr ⟨rfl,fun z hz he => ?_⟩
  obtain ⟨cs,h1,_⟩ := rd_pile hk hz
  rw [he,g] at h1
  cases h1
 | some cs =>
  dsimp only
  have hm : bytesN cs ∈ allS k := by
   refine a3 _ (len_strs (by simp [bytesN,rd_len g]) fun c hc => ?_)
   obtain ⟨z,hz,rfl⟩ := List.mem_map.1 hc
   rcases rd_mem g z hz with rfl | rfl
   ·exact .inl rfl
   ·exact .inr rfl
  by_cases he : pileL (bytesN cs) = swapL (pileL y) i j
  ·rw [if_pos he]
   refine .inl ⟨_,rfl,hm,fun e => ?_,he⟩
   rw [e] at he
   exact swapL_ne (by omega) (by omega) hij hn he.symm
  ·rw [if_neg he]
   refine .inr ⟨rfl,fun z hz hp => ?_⟩
   obtain ⟨cs',h1,h2⟩ := rd_pile hk hz
   rw [hp,g] at h1
   cases h1
   rw [h2] at he
   exact he hp
end Go.Proofs.YtcjephdjemapbaaDoor
set_option linter.unusedSimpArgs false
set_option linter.unusedVariables false
namespace Go.Proofs.YtcjephdjemapbaaDoor
open Go.RowKit Go.Abs Go.Pur Go.Lib Go.Sort
set_option maxRecDepth 1000000
set_option maxHeartbeats 8000000
theorem hidT {p : Prop} (h : p) : Hid p := h
def Tbs (W : World) : Prop := ∀ (i : Nat) (B : Blk) (L : Abs.Loc),tabs[i]? = some B → tabLocs[i]? = some L → Lies W B L
theorem Tbs.of {W : World} (h : laidMetH Tryd.prog laidList W) (hS : W.ShapedOpen Tryd.prog) : Tbs W := fun i B L hB hL => by
 obtain ⟨h1,h2⟩ := tabs_lie h
 match i,hB,hL with
 | 0,hB,hL => cases hB; cases hL; exact h1
 | 1,hB,hL => cases hB; cases hL; exact h2
 | 2,hB,hL => cases hB; cases hL; exact lies_bare 126 hS (by rw [nglob]; decide) z2.2
 | 3,hB,hL => cases hB; cases hL; exact lies_bare 129 hS (by rw [nglob]; decide) z3.2
 | 4,hB,hL => cases hB; cases hL; exact lies_bare 3 hS (by rw [nglob]; decide) z4.2
 | i + 5,hB,hL => simp [tabs] at hB
theorem Tbs.size {W : World} (h : Tbs W) : 4 < W.heap.size := (h 4 _ _ rfl rfl).2.2.1
theorem Tbs.below {W W' : World} {n : Nat} (h : Tbs W) (hn : 4 < n) (hb : Below n W W') : Tbs W' := fun i B L hB hL => by
 have hl : L.b < n := by
  match i,hL with
  | 0,hL => cases hL; exact Nat.lt_of_le_of_lt (Nat.zero_le 4) hn
  | 1,hL => cases hL; exact Nat.lt_of_le_of_lt (by decide : 1 ≤ 4) hn
  | 2,hL => cases hL; exact Nat.lt_of_le_of_lt (by decide : 2 ≤ 4) hn
  | 3,hL => cases hL; exact Nat.lt_of_le_of_lt (by decide : 3 ≤ 4) hn
  | 4,hL => cases hL; exact hn
  | i + 5,hL => simp [tabLocs] at hL
 exact Go.Pur.Lies.below (h i B L hB hL) hl hb
theorem pureQ {W : World} (hT : Tbs W) {f : FuncId} {us : List PV} {vs : List Value} {rs : List Value} {hp' : List (Option (List PV))} {wl : Option Nat} (hrs : rs.all okP = true) (hA : ArgsIn W vs us) (hE : E Tryd.prog Y0 f us [] = some (pPack (rs.map .v),hp',wl)) :
  Calls Tryd.prog f vs.toArray W fun e W' => e = .returned (packed rs) ∧ Below W.heap.size W W' :=
 pure_calls mix ok ext_ok (G := tabs) (GL := tabLocs) (by simp [tabs]) rfl tabs_wr hT (fun g hg => by
  rw [nglob] at hg
  match g,hg with
  | 0,_ => rfl
  | 1,_ => rfl
  | 2,_ => rfl
  | 3,_ => rfl
  | 4,_ => rfl) grOf hrs hA hE
theorem argT {W : World} (w : List UInt8) : ArgIn W (.string ⟨w.toArray⟩) (.v (.string (bs w))) := .one _ _ (.plain _ rfl (fun _ _ e => by cases e))
theorem own_belowT {w w' : World} {B e n N : Nat} {v : Value} {xs : List Value} (h : w.ownsRow B e 1 v n xs) (hb : Below N w w') (hN : w.heap.size ≤ N) : w'.ownsRow B e 1 v n xs := by
 refine ⟨h.1,h.2.imp (fun h => h) ?_⟩
 rintro ⟨g,cap,cur,h1,h2,h3,h4⟩
 exact ⟨g,cap,cur,h1,h2,(hb.block g (Nat.lt_of_lt_of_le (Array.getElem?_eq_some_iff.1 h3).1 hN)).trans h3,h4⟩
theorem own_geT {w : World} {B e n : Nat} {v : Value} {xs : List Value} {g : Nat} (h : w.ownsRow B e 1 v n xs) (hg : v.ownBlock = some g) : B ≤ g := by
 rcases h.2 with ⟨e1,_⟩ | ⟨g',cap,cur,rfl,hb,_⟩
 ·rw [e1] at hg; cases hg
 ·cases hg; exact hb
theorem own_someT {w : World} {B e n : Nat} {v : Value} {xs : List Value} (h : w.ownsRow B e 1 v n xs) (hn : n ≠ 0) : ∃ g cap cur,v = .slice (some ⟨g,0,none⟩) n cap ∧ B ≤ g ∧ w.heap[g]? = some (.cells cur e (0,0)) ∧ n ≤ cap ∧ cap ≤ maxLen := by
 rcases h.2 with ⟨_,e0⟩ | ⟨g,cap,cur,h1,h2,h3,h4,h5,_⟩
 ·exact absurd e0 hn
 ·exact ⟨g,cap,cur,h1,h2,h3,h4,h5⟩
abbrev encZ : Int → Value := .int .i64
theorem pair_at {c : UInt8} {r : List UInt8} {s : Int} {n : Nat} {b : Bool} (h : (!(((⟨(c :: r).toArray⟩ : ByteArray).data[0]!.toNat : Int) == 111) == (s % 2 == 0)) = b) : pairOf c n s = if b then [s,2 * n - 1 - s] else [2 * n - 1 - s,s] := by
 subst h
 have e : (⟨(c :: r).toArray⟩ : ByteArray).data[0]! = c := by simp
 rw [e]
 unfold pairOf
 have e2 : ((c.toNat : Int) == 111) = (c == 111) := by
  rw [Bool.eq_iff_iff,beq_iff_eq,beq_iff_eq]
  constructor
  ·intro h; exact UInt8.toNat_inj.1 (by have : (111 : UInt8).toNat = 111 := rfl; omega)
  ·rintro rfl; rfl
 rw [e2]
 have e3 : ((c == 111) != (s % 2 == 0)) = (!(c == 111) == (s % 2 == 0)) := by cases (c == 111) <;> cases (s % 2 == 0) <;> rfl
 rw [e3]
theorem two_new (w : World) (x y : Value) (t : TypeId) : ∀ (j : Nat) v,([x,y] : List Value)[j]? = some v → (w.alloc (.cells #[x,y] t)).cell? ((⟨w.heap.size,0,none⟩ : Addr).add j) = some v := fun j v h => by
 have e : (w.alloc (.cells #[x,y] t)).heap[w.heap.size]? = some (.cells #[x,y] t) := heap_alloc_new w _
 rw [Addr.add_lit,Nat.zero_add]
 simp only [World.cell?,e]
 match j,h with
 | 0,h => simpa using h
 | 1,h => simpa using h
theorem pile55 : ∀ (l : List UInt8) (w : World),l.length ≤ 6 → Calls Tryd.prog 55 #[.string ⟨l.toArray⟩] w fun e w' => ∃ v,e = .returned v ∧ w'.ownsRow w.heap.size 3 1 v (pileL l).length ((pileL l).map encZ) ∧ Below w.heap.size w w'
 | [],w,_ => by
  go_enter Tryd.func55,Tryd.ntmps55
  go_wp2
  go_ret
  exact ⟨_,rfl,⟨rfl,.inr ⟨w.heap.size,1,#[.int .i64 0],rfl,Nat.le_refl _,heap_alloc_new _ _,Nat.le_refl _,by decide,rfl,rfl⟩⟩,(Below.refl _ _).alloc (Nat.le_refl _) _⟩
 | c :: r,w,hl => by
  have mixed : Tryd.prog.follows .mixedOrders = true := by kernel_rfl
  have HI : Hid (∀ W,Calls Tryd.prog 55 #[.string ⟨r.toArray⟩] W fun e w' => ∃ v,e = .returned v ∧ w'.ownsRow W.heap.size 3 1 v (pileL r).length ((pileL r).map encZ) ∧ Below W.heap.size W w') :=
   hidT fun W => pile55 r W (by simp at hl; omega)
  have hx : (⟨(c :: r).toArray⟩ : ByteArray).extract 1 (r.length + 1) = ⟨r.toArray⟩ := by
   apply ByteArray.ext
   apply Array.ext'
   simp [ByteArray.data_extract]
  obtain ⟨N,hN⟩ : ∃ N,(pileL r).length = N := ⟨_,rfl⟩
  have hN64 : 1 ≤ N ∧ N ≤ 32 := by
   have h1 := pileL_len r
   have h2 : 2 ^ r.length ≤ 2 ^ 5 := Nat.pow_le_pow_right (by decide) (by simp at hl; omega)
   have h3 := Nat.two_pow_pos r.length
   omega
  rw [hN] at HI
  have hrg : ∀ s ∈ pileL r,0 ≤ s ∧ s < (N : Int) := fun s hs => by
   have h1 := pileL_range r s hs
   have h2 := pileL_len r
   have e : (2 : Int) ^ r.length = ((2 ^ r.length : Nat) : Int) := by simp
   rw [e,← h2,hN] at h1
   exact h1
  have Hrg := hidT hrg
  have HX := hidT hx
  clear hrg hx
  obtain ⟨i0,hi0,hz0,hz1',hz2⟩ := info_parts (show (Tryd.prog.info? 3).map (fun i => (i.zero,i.size,i.bytes)) = some (some (.int .i64 0),1,8) by kernel_rfl)
  go_enter Tryd.func55,Tryd.ntmps55
  go_wp2_with (first | (go_at_call 55; rw [HX.out]; refine (HI.out _).mono ?_; rintro e wa ⟨v,rfl,hown,hb⟩; obtain ⟨g,cap,cur,rfl,hBg,hbg,hn1,hn2⟩ := own_someT hown (by omega); have Hown := hidT hown; have Hb := hidT hb; have Hbg := hidT hbg; clear hown hb hbg hn1 hn2) |
   (at_make; refine wpList_make_own wa rfl _ _ 23 rfl wa.heap.size 3 i0 (.int .i64 0) 1 Tryd.underlying23 hi0 hz0 hz1' _ _ (2 * (N : Int)) (2 * N) rfl rfl (by omega) (by rw [hz2]; omega) (by unfold maxLen; omega) (Nat.le_refl _) ?_; rintro wb hob hgb; have Hob := hidT hob; have Hgb := hidT hgb; clear hob hgb))
  have hbB : Below wa.heap.size wa wb := ((Below.refl _ _).grown Hgb.out (Nat.le_refl _) (fun k hk => by cases hk))
  have HbB := hidT hbB
  clear hbB
  go_loopg [5,28] (N + 1) (fun gk s5 s28 wx => ∃ i : Nat,s28 = .int .i64 (i : Int) ∧ i ≤ N ∧ N < i + gk ∧ wx.ownsRow wa.heap.size 3 1 s5 (2 * i) ((((pileL r).take i).flatMap (pairOf c N)).map encZ) ∧ Below wa.heap.size wa wx)
  case atStart => exact ⟨0,rfl,by omega,by omega,Hob.out,HbB.out⟩
  case round =>
   clear Hob Hgb HbB
   obtain ⟨i,rfl,hi,hg,hown,hb⟩ := hrel
   by_cases hlt : i < N
   ·obtain ⟨g',rfl⟩ : ∃ g',gk = g' + 1 := ⟨gk - 1,by omega⟩
    obtain ⟨s,hs⟩ : ∃ s,(pileL r)[i]? = some s := ⟨_,List.getElem?_eq_getElem (by omega)⟩
    have hsr := Hrg.out s (List.mem_of_getElem? hs)
    have hcell : wr.cell? ⟨g,i,none⟩ = some (.int .i64 s) := by
     have h1 := Hown.out.cells rfl i (encZ s) (by rw [List.getElem?_map,hs]; rfl)
     rw [Addr.add_lit,Nat.zero_add] at h1
     exact (hb.cell (World.block_lt_of_cell? wa _ h1)).trans h1
    have hzr : wa.heap.size ≤ wr.heap.size := hb.size
    have Ho := hidT hown
    have Hbx := hidT hb
    have hi1 : (0 : Int) ≤ (i : Int) := by omega
    have hi2 : (i : Int) < (N : Int) := by omega
    clear hown hb
    go_upto_region 13 with fail
    ·rename_i hsel
     have hpr : pairOf c N s = [s,2 * (N : Int) - 1 - s] := pair_at (b := true) (r := r) (by first | exact hsel | (simpa using hsel))
     have hrk := Ho.out.alloc (.cells #[.int .i64 (s),.int .i64 (2 * (N : Int) - 1 - s)] 47)
     have Hrk := hidT hrk
     have Hpr := hidT hpr
     clear hsel hrk hpr
     go_wp2_with (first | (at_builtin; refine wpList_append_own _ rfl _ _ 23 rfl wa.heap.size 3 i0 (.int .i64 0) 1 8 Tryd.underlying23 hi0 hz0 hz1' hz2 rfl (by decide) u5 _ _ rfl Hrk.out ⟨wr.heap.size,0,none⟩ 2 2 [.int .i64 (s),.int .i64 (2 * (N : Int) - 1 - s)] rfl rfl ?c1 ?c2 ?c3 ?c4 ?c5 ?_))
     case c1 => exact two_new _ _ _ _
     case c2 => exact fun u hu => by rcases List.mem_cons.1 hu with rfl | hu; rfl; rw [List.mem_singleton.1 hu]; rfl
     case c3 => unfold maxLen; omega
     case c4 => omega
     case c5 => simp; omega
     rintro v4 w4 hown4 hg4 -
     have hown5 : w4.ownsRow wa.heap.size 3 1 v4 (2 * (i + 1)) ((((pileL r).take (i + 1)).flatMap (pairOf c N)).map encZ) := by
      have : (((pileL r).take (i + 1)).flatMap (pairOf c N)).map encZ = (((pileL r).take i).flatMap (pairOf c N)).map encZ ++ [.int .i64 (s),.int .i64 (2 * (N : Int) - 1 - s)] := by
       rw [List.take_add_one,hs,List.flatMap_append,List.map_append]
       simp [Hpr.out]
      rw [this,show 2 * (i + 1) = 2 * i + 2 by omega]
      exact hown4
     have hb5 : Below wa.heap.size wa w4 := (Hbx.out.alloc hzr _).grown hg4 (by simp; omega) (fun g hk => own_geT Ho.out hk)
     have Hown5 := hidT hown5
     have Hb5 := hidT hb5
     have HJ := hidT (show (i : Int) + 1 = ((i + 1 : Nat) : Int) by omega)
     clear hown4 hg4 hown5 hb5 Hrk Hpr Ho Hbx
     go_wp2_with fail
     go_roundg g'
     case measure => omega
     case rel => exact ⟨i + 1,by rw [← HJ.out],by omega,by omega,Hown5.out,Hb5.out⟩
    ·rename_i hsel
     have hpr : pairOf c N s = [2 * (N : Int) - 1 - s,s] := pair_at (b := false) (r := r) (by first | exact hsel | (simpa using hsel))
     have hrk := Ho.out.alloc (.cells #[.int .i64 (2 * (N : Int) - 1 - s),.int .i64 (s)] 47)
     have Hrk := hidT hrk
     have Hpr := hidT hpr
     clear hsel hrk hpr
     go_wp2_with (first | (at_builtin; refine wpList_append_own _ rfl _ _ 23 rfl wa.heap.size 3 i0 (.int .i64 0) 1 8 Tryd.underlying23 hi0 hz0 hz1' hz2 rfl (by decide) u5 _ _ rfl Hrk.out ⟨wr.heap.size,0,none⟩ 2 2 [.int .i64 (2 * (N : Int) - 1 - s),.int .i64 (s)] rfl rfl ?c1 ?c2 ?c3 ?c4 ?c5 ?_))
     case c1 => exact two_new _ _ _ _
     case c2 => exact fun u hu => by rcases List.mem_cons.1 hu with rfl | hu; rfl; rw [List.mem_singleton.1 hu]; rfl
     case c3 => unfold maxLen; omega
     case c4 => omega
     case c5 => simp; omega
     rintro v4 w4 hown4 hg4 -
     have hown5 : w4.ownsRow wa.heap.size 3 1 v4 (2 * (i + 1)) ((((pileL r).take (i + 1)).flatMap (pairOf c N)).map encZ) := by
      have : (((pileL r).take (i + 1)).flatMap (pairOf c N)).map encZ = (((pileL r).take i).flatMap (pairOf c N)).map encZ ++ [.int .i64 (2 * (N : Int) - 1 - s),.int .i64 (s)] := by
       rw [List.take_add_one,hs,List.flatMap_append,List.map_append]
       simp [Hpr.out]
      rw [this,show 2 * (i + 1) = 2 * i + 2 by omega]
      exact hown4
     have hb5 : Below wa.heap.size wa w4 := (Hbx.out.alloc hzr _).grown hg4 (by simp; omega) (fun g hk => own_geT Ho.out hk)
     have Hown5 := hidT hown5
     have Hb5 := hidT hb5
     have HJ := hidT (show (i : Int) + 1 = ((i + 1 : Nat) : Int) by omega)
     clear hown4 hg4 hown5 hb5 Hrk Hpr Ho Hbx
     go_wp2_with fail
     go_roundg g'
     case measure => omega
     case rel => exact ⟨i + 1,by rw [← HJ.out],by omega,by omega,Hown5.out,Hb5.out⟩
   ·obtain rfl : i = N := by omega
    rw [List.take_of_length_le (by omega)] at hown
    have hlen : (pileL (c :: r)).length = 2 * i := by rw [pileL,flat_len (fun a => pairOf_len),hN]
    have hown2 : wr.ownsRow w.heap.size 3 1 u5 (pileL (c :: r)).length ((pileL (c :: r)).map encZ) := by
     rw [hlen]
     have e : pileL (c :: r) = (pileL r).flatMap (pairOf c i) := by rw [pileL,hN]
     rw [e]
     exact ⟨hown.1,hown.2.imp (fun h => h) fun ⟨g1,c1,u1,h1,h2,h3⟩ => ⟨g1,c1,u1,h1,Nat.le_trans Hb.out.size h2,h3⟩⟩
    have hb2 : Below w.heap.size w wr := Hb.out.trans (hb.mono Hb.out.size)
    have Hown2 := hidT hown2
    have Hb2 := hidT hb2
    clear hown hb hown2 hb2
    go_wp2_with fail
    go_ret
    exact ⟨_,rfl,Hown2.out,Hb2.out⟩
theorem pile18 (l : List UInt8) (w : World) (hT : Tbs w) (hc : checkE l = 0) : Calls Tryd.prog 18 #[.string ⟨l.toArray⟩] w fun e w' => ∃ v,e = .returned (.tuple #[v,.int .i64 0]) ∧ w'.ownsRow w.heap.size 3 1 v (pileL l).length ((pileL l).map encZ) ∧ Below w.heap.size w w' := by
 have H27 : Hid (Calls Tryd.prog 27 #[.string ⟨l.toArray⟩] w fun e W' => e = .returned (.int .i64 0) ∧ Below w.heap.size w W') := hidT (pureQ hT (f := 27) (vs := [.string ⟨l.toArray⟩]) (rs := [.int .i64 0]) rfl (.cons _ _ _ _ (argT l) .nil) (by have h := check_is (l := l) (hp := []); rw [hc] at h; exact h))
 have H55 : Hid (∀ W,Calls Tryd.prog 55 #[.string ⟨l.toArray⟩] W fun e w' => ∃ v,e = .returned v ∧ w'.ownsRow W.heap.size 3 1 v (pileL l).length ((pileL l).map encZ) ∧ Below W.heap.size W w') := hidT fun W => pile55 l W (check_len hc)
 go_enter Tryd.func18,Tryd.ntmps18
 go_wp2_with (first | (go_at_call 27; refine H27.out.mono ?_; rintro e wa ⟨rfl,ba⟩; have Ba := hidT ba; clear ba) | (go_at_call 55; refine (H55.out _).mono ?_; rintro e wb ⟨v,rfl,ob,bb⟩; have Ob := hidT ob; have Bb := hidT bb; clear ob bb))
 go_ret2
 exact ⟨_,rfl,⟨Ob.out.1,Ob.out.2.imp (fun h => h) fun ⟨g1,c1,u1,h1,h2,h3⟩ => ⟨g1,c1,u1,h1,Nat.le_trans Ba.out.size h2,h3⟩⟩,Ba.out.trans (Bb.out.mono Ba.out.size)⟩
theorem arg8 {W : World} (x : Nat) : ArgIn W (.int .u8 (x : Int)) (kv .u8 (x : Int)) := .one _ _ (.plain _ rfl (fun _ _ e => by cases e))
theorem argRow {W : World} {B : Nat} {v : Value} {zs : List Int} (h : W.ownsRow B 3 1 v zs.length (zs.map encZ)) (hn : zs ≠ []) (hl : zs.length ≤ 1000) : ArgIn W v (.l (ak false) .any zs.length (zs.map iv)) := by
 obtain ⟨g,cap,cur,rfl,_,_,h1,h2⟩ := own_someT h (by simpa using hn)
 have h3 := CellIn.slice (W := W) ⟨g,0,none⟩ zs.length cap (zs.map encZ) h1 (Nat.lt_of_le_of_lt hl (by decide)) (fun e => by simpa using e) (fun _ e => hn (by simpa using e)) (fun k v hv => by
  have h4 := h.cells rfl k v hv
  refine ⟨h4, ?_⟩
  rw [List.getElem?_map] at hv
  obtain ⟨z,_,rfl⟩ := Option.map_eq_some_iff.1 hv
  exact ⟨rfl,fun _ _ e => by cases e⟩)
 have e : (zs.map encZ).map PV.v = zs.map iv := by rw [List.map_map]; rfl
 rw [e] at h3
 exact .one _ _ h3
theorem same_calls {W : World} (hT : Tbs W) {B1 B2 : Nat} {v1 v2 : Value} {l1 l2 : List Int} (h1 : W.ownsRow B1 3 1 v1 l1.length (l1.map encZ)) (h2 : W.ownsRow B2 3 1 v2 l2.length (l2.map encZ)) (n1 : l1 ≠ []) (n2 : l2 ≠ []) (s1 : l1.length ≤ 1000) (s2 : l2.length ≤ 1000) :
  Calls Tryd.prog 22 #[v1,v2] W fun e W' => e = .returned (.bool (decide (l1 = l2))) ∧ Below W.heap.size W W' :=
 pureQ hT (f := 22) (vs := [v1,v2]) (rs := [.bool (decide (l1 = l2))]) rfl (.cons _ _ _ _ (argRow h1 n1 s1) (.cons _ _ _ _ (argRow h2 n2 s2) .nil)) (same22_is (hp := []) (by unfold sameO; rw [Nat.ble_eq_true_of_le (by omega)]))
theorem rev_calls (zs : List Int) (g cap base : Nat) (W : World) (ho : W.ownsRow base 3 1 (.slice (some ⟨g,0,none⟩) zs.length cap) zs.length (zs.map encZ)) (hl : zs.length ≤ 1000) :
  Calls Tryd.prog 52 #[.slice (some ⟨g,0,none⟩) zs.length cap] W fun e W' => e = .returned (.tuple #[]) ∧ W'.ownsRow base 3 1 (.slice (some ⟨g,0,none⟩) zs.length cap) zs.length (zs.reverse.map encZ) ∧ W.grownBy W' (some g) := by
 obtain ⟨g',cap',e0,hb,hlt,hn,hm,hl2,hH⟩ := holds_of_ownsRow ho (by simp)
 injection e0 with e1 e2 e3
 injection e1 with e1
 injection e1 with e1 _ _
 subst e1; subst e3
 refine (AnyE.slices_Reverse Tryd.revInt encZ (fun _ => rfl) g 0 cap zs W hH (by omega)).mono fun e W' ⟨q1,q,q2⟩ => ?_
 subst q2
 have hw : (putRow encZ (Sort.ahead W q) g 0 zs.reverse.toArray).ownsRow base 3 1 (.slice (some ⟨g,0,none⟩) zs.length cap) zs.length ((zs.reverse.take zs.length).map encZ) := ownsRow_putRow ho (by simp) (by simp)
 rw [List.take_of_length_le (by simp)] at hw
 refine ⟨q1,hw,rfl,rfl,rfl,by simp [putRow,mapBlock,Sort.ahead],fun j hj hne => ?_⟩
 have hgj : g ≠ j := fun e => hne (by rw [e])
 simp [putRow,mapBlock,Sort.ahead,Array.getElem?_modify,hgj]
theorem swp_list {l : List Int} {i j : Nat} (hi : i < l.toArray.size) (hj : j < l.toArray.size) : swp l.toArray i j = (swapL l i j).toArray := by
 have hi' : i < l.length := by simpa using hi
 have hj' : j < l.length := by simpa using hj
 unfold swp swapL
 simp [getElem!_pos,hi',hj',List.getD_eq_getElem?_getD]
theorem wrap64T {z : Nat} (h : z ≤ 1000) : IntKind.i64.wrap (z : Int) = (z : Int) := by
 simp [IntKind.wrap,IntKind.bits,IntKind.signed]
 omega
theorem and_pow {k : Nat} (hk : k ≤ 6) : andI .i64 ((2 ^ k : Nat) : Int) (IntKind.i64.wrap (((2 ^ k : Nat) : Int) - 1)) = 0 := by
 match k,hk with
 | 0,_ => rfl
 | 1,_ => rfl
 | 2,_ => rfl
 | 3,_ => rfl
 | 4,_ => rfl
 | 5,_ => rfl
 | 6,_ => rfl
theorem wrap_u8T (c : UInt8) : RowKit.wrap64 (c.toNat : Int) = (c.toNat : Int) := by
 unfold RowKit.wrap64
 have := UInt8.toNat_lt c
 omega
def PostT (w : World) (e : Ending) (w' : World) : Prop := e = .returned (.bool true) ∧ Below w.heap.size w w'
theorem turned_calls (many y one two : UInt8) (w : World) (hT : Tbs w) :
  Calls Tryd.prog 16 #[.int .u8 many.toNat,.int .u8 y.toNat,.int .u8 one.toNat,.int .u8 two.toNat] w fun e w' => PostT w e w' := by
 have mixed : Tryd.prog.follows .mixedOrders = true := by kernel_rfl
 obtain ⟨n,hn,hn6⟩ : ∃ n : Nat,many.toNat % 7 = n ∧ n ≤ 6 := ⟨_,rfl,by have := Nat.mod_lt many.toNat (show 0 < 7 by omega); omega⟩
 obtain ⟨s,hs⟩ : ∃ s,foldedL n y.toNat = s := ⟨_,rfl⟩
 have hsm : s ∈ allS n := by rw [← hs]; exact folded_mem hn6
 obtain ⟨t,ht⟩ : ∃ t,s.map (exL 111 117) = t := ⟨_,rfl⟩
 obtain ⟨t1,t2,t3,t4⟩ := turned_ok hn6 hsm
 rw [ht] at t2 t3 t4
 have a2 := (all_ok hn6).2.1
 have sc := (a2 s hsm).1
 have sl := (a2 s hsm).2.1
 have tc := (a2 t t4).1
 have tl := (a2 t t4).2.1
 have hpow : 1 ≤ 2 ^ n ∧ 2 ^ n ≤ 64 := ⟨Nat.one_le_two_pow,Nat.pow_le_pow_right (n := 2) (by decide) hn6⟩
 have hAl : (pileL s).length = 2 ^ n := by rw [pileL_len,sl]
 have hBl : (pileL t).length = 2 ^ n := by rw [pileL_len,tl]
 have HT : Hid (∀ W,Below w.heap.size w W → Tbs W) := hidT fun W hW => hT.below hT.size hW
 have H42 : Hid (∀ W,Below w.heap.size w W → ∀ a b : Nat,a < 256 → b < 256 → Calls Tryd.prog 42 #[.int .u8 (a : Int),.int .u8 (b : Int)] W fun e W' => e = .returned (.string ⟨(foldedL (a % 7) b).toArray⟩) ∧ Below W.heap.size W W') :=
  hidT fun W hW a b ha hb => pureQ (HT.out W hW) (f := 42) (vs := [.int .u8 (a : Int),.int .u8 (b : Int)]) (rs := [.string ⟨(foldedL (a % 7) b).toArray⟩]) rfl (.cons _ _ _ _ (arg8 _) (.cons _ _ _ _ (arg8 _) .nil)) (f42_is (hp := []) (foldedO_at ha hb))
 have hs128 : ∀ c ∈ s,c.toNat < 128 := fun c hc => by
  rw [← hs] at hc
  unfold foldedL at hc
  obtain ⟨i,_,rfl⟩ := List.mem_map.1 hc
  split <;> decide
 have hc128 : ∀ c ∈ creasesL s,c.toNat < 128 := fun c hc => by
  unfold creasesL at hc
  obtain ⟨i,_,rfl⟩ := List.mem_map.1 hc
  unfold kindL
  split <;> decide
 have hcl : (creasesL s).length ≤ 1000 := by
  unfold creasesL
  rw [List.length_map,List.length_range,sl]
  omega
 have H54s : Hid (∀ W,Calls Tryd.prog 54 #[.string ⟨s.toArray⟩,.int .i32 111,.int .i32 117] W fun e w' => e = .returned (.string ⟨t.toArray⟩) ∧ Below W.heap.size W w') := hidT fun W => by
  have h := exch_calls ⟨s.toArray⟩ 111 117 W (by show s.toArray.size ≤ 1000; simp; omega) (by decide) (by decide) (by simpa using hs128)
  have e : (ByteArray.mk s.toArray).data.toList.map (exL 111 117) = t := by rw [← ht]
  rw [e] at h
  exact h
 have H54c : Hid (∀ W,Calls Tryd.prog 54 #[.string ⟨(creasesL s).toArray⟩,.int .i32 118,.int .i32 104] W fun e w' => e = .returned (.string ⟨(creasesL t).toArray⟩) ∧ Below W.heap.size W w') := hidT fun W => by
  have h := exch_calls ⟨(creasesL s).toArray⟩ 118 104 W (by show (creasesL s).toArray.size ≤ 1000; simpa using hcl) (by decide) (by decide) (by simpa using hc128)
  have e : (ByteArray.mk (creasesL s).toArray).data.toList.map (exL 118 104) = creasesL t := by rw [← t3]
  rw [e] at h
  exact h
 have H23 : Hid (∀ W,Below w.heap.size w W → ∀ z,checkE z = 0 → Calls Tryd.prog 23 #[.string ⟨z.toArray⟩] W fun e w' => e = .returned (.tuple #[.string ⟨(creasesL z).toArray⟩,.int .i64 0]) ∧ Below W.heap.size W w') := hidT fun W hW z hz =>
  pureQ (HT.out W hW) (f := 23) (vs := [.string ⟨z.toArray⟩]) (rs := [.string ⟨(creasesL z).toArray⟩,.int .i64 0]) rfl (.cons _ _ _ _ (argT z) .nil) (f23_is (F := 100) (r := (creasesL z,0)) (hp := []) (by
   unfold f23S
   rw [hz,Option.bind_some,Option.bind_some,decide_eq_true rfl]
   dsimp only
   unfold creasesO
   rw [if_pos (check_len hz)]
   rfl))
 have H23s : Hid (∀ W,Below w.heap.size w W → Calls Tryd.prog 23 #[.string ⟨s.toArray⟩] W fun e w' => e = .returned (.tuple #[.string ⟨(creasesL s).toArray⟩,.int .i64 0]) ∧ Below W.heap.size W w') := hidT fun W hW => H23.out W hW s sc
 have H23t : Hid (∀ W,Below w.heap.size w W → Calls Tryd.prog 23 #[.string ⟨t.toArray⟩] W fun e w' => e = .returned (.tuple #[.string ⟨(creasesL t).toArray⟩,.int .i64 0]) ∧ Below W.heap.size W w') := hidT fun W hW => H23.out W hW t tc
 clear H23 t3 hc128 hcl
 generalize (creasesL s).toArray = cs at H54c H23s
 generalize (creasesL t).toArray = ct at H54c H23t
 have H17 : Hid (∀ W,Below w.heap.size w W → Calls Tryd.prog 17 #[] W fun e w' => e = .returned (.bool true) ∧ Below W.heap.size W w') := hidT fun W hW =>
  pureQ (HT.out W hW) (f := 17) (vs := []) (rs := [.bool true]) rfl .nil (f17_is (hp := []) works_true)
 have H18 : Hid (∀ W,Below w.heap.size w W → ∀ z,checkE z = 0 → Calls Tryd.prog 18 #[.string ⟨z.toArray⟩] W fun e w' => ∃ g cap,e = .returned (.tuple #[.slice (some ⟨g,0,none⟩) (2 ^ z.length) cap,.int .i64 0]) ∧ w'.ownsRow W.heap.size 3 1 (.slice (some ⟨g,0,none⟩) (2 ^ z.length) cap) (pileL z).length ((pileL z).map encZ) ∧ W.heap.size ≤ g ∧ Below W.heap.size W w') := hidT fun W hW z hz => by
  refine (pile18 z W (HT.out W hW) hz).mono fun e w' ⟨v,h1,h2,h3⟩ => ?_
  obtain ⟨g,cap,cur,rfl,q1,_⟩ := own_someT h2 (by rw [pileL_len]; exact Nat.ne_of_gt (Nat.two_pow_pos _))
  rw [pileL_len] at h1 ⊢
  rw [pileL_len] at h2
  exact ⟨g,cap,h1,h2,q1,h3⟩
 have H18s : Hid (∀ W,Below w.heap.size w W → Calls Tryd.prog 18 #[.string ⟨s.toArray⟩] W fun e w' => ∃ g cap,e = .returned (.tuple #[.slice (some ⟨g,0,none⟩) (2 ^ n) cap,.int .i64 0]) ∧ w'.ownsRow W.heap.size 3 1 (.slice (some ⟨g,0,none⟩) (2 ^ n) cap) (pileL s).length ((pileL s).map encZ) ∧ W.heap.size ≤ g ∧ Below W.heap.size W w') := hidT fun W hW => by
  have h := H18.out W hW s sc
  rw [sl] at h
  exact h
 have H18t : Hid (∀ W,Below w.heap.size w W → Calls Tryd.prog 18 #[.string ⟨t.toArray⟩] W fun e w' => ∃ g cap,e = .returned (.tuple #[.slice (some ⟨g,0,none⟩) (2 ^ n) cap,.int .i64 0]) ∧ w'.ownsRow W.heap.size 3 1 (.slice (some ⟨g,0,none⟩) (2 ^ n) cap) (pileL t).length ((pileL t).map encZ) ∧ W.heap.size ≤ g ∧ Below W.heap.size W w') := hidT fun W hW => by
  have h := H18.out W hW t tc
  rw [tl] at h
  exact h
 have H42a : Hid (Calls Tryd.prog 42 #[.int .u8 many.toNat,.int .u8 y.toNat] w fun e W' => e = .returned (.string ⟨s.toArray⟩) ∧ Below w.heap.size w W') := by
  have h := H42.out w (Below.refl _ _) many.toNat y.toNat (UInt8.toNat_lt many) (UInt8.toNat_lt y)
  rw [hn,hs] at h
  exact hidT h
 have Hsc := hidT sc
 have Htc := hidT tc
 have Ht1 := hidT t1
 have Ht2 := hidT t2
 have Hsm := hidT hsm
 have Ha2 := hidT a2
 have hsl : s.length = n := sl
 obtain ⟨P,hP⟩ : ∃ P : Nat,2 ^ n = P := ⟨_,rfl⟩
 rw [hP] at H18s H18t hAl hBl hpow
 have Hn := hidT hn
 have HPn := hidT hP
 clear hn hP
 clear hs128 sc tc t1 t2 t4 ht hs hsm a2 hT sl tl
 go_enter Tryd.func16,Tryd.ntmps16
 go_upto_region 7 with (first | (go_at_call 42; refine H42a.out.mono ?_; rintro e w1 ⟨rfl,b1⟩; have B1 := hidT b1; clear b1) | (go_at_call 54; refine (H54s.out _).mono ?_; rintro e w2 ⟨rfl,b2⟩; have B2 := hidT (B1.out.trans (b2.mono B1.out.size)); clear b2) |
  (go_at_call_has 18 s; refine (H18s.out _ B2.out).mono ?_; rintro e w3 ⟨g,cap,rfl,oa,hg,b3⟩; have Oa := hidT oa; have B3s := hidT b3; have B3 := hidT (B2.out.trans (b3.mono B2.out.size)); clear oa b3) |
  (go_at_call_has 18 t; refine (H18t.out _ B3.out).mono ?_; rintro e w4 ⟨g2,cap2,rfl,ob,hg2,b4⟩; have Ob := hidT ob; have B4s := hidT b4; have B4 := hidT (B3.out.trans (b4.mono B3.out.size)); clear ob b4) |
  (go_at_call_has 23 s; refine (H23s.out _ B4.out).mono ?_; rintro e w5 ⟨rfl,b5⟩; have B5s := hidT b5; have B5 := hidT (B4.out.trans (b5.mono B4.out.size)); clear b5) |
  (go_at_call_has 23 t; refine (H23t.out _ B5.out).mono ?_; rintro e w6 ⟨rfl,b6⟩; have B6s := hidT b6; have B6 := hidT (B5.out.trans (b6.mono B5.out.size)); clear b6))
 clear H18s H18t H42a H54s
 go_cut [80] (fun s80 wx => s80 = .bool false ∧ Below w6.heap.size w6 wx)
 case first =>
  have hcases : n = 0 ∨ n = 1 ∨ n = 2 ∨ n = 3 ∨ n = 4 ∨ n = 5 ∨ n = 6 := by omega
  have hPn := HPn.out
  clear Ht1 Ht2 Ha2 H17 H18 H42 H23s H23t Oa Ob Hsm B3s B4s B5s B6s HT hAl hBl hpow
  rcases hcases with rfl | rfl | rfl | rfl | rfl | rfl | rfl
  all_goals (subst hPn; go_wp2_with (go_at_call 54; refine (H54c.out _).mono ?_; rintro e w7 ⟨rfl,b7⟩; have B7s := hidT b7; clear b7))
  all_goals go_meet
  all_goals exact ⟨rfl,B7s.out⟩
 case rest =>
  obtain ⟨rfl,b7⟩ := hcut
  have oa7 := own_belowT (own_belowT (own_belowT (own_belowT Oa.out B4s.out (Nat.le_refl _)) B5s.out (Nat.le_refl _)) B6s.out (Nat.le_refl _)) b7 (Nat.le_refl _)
  have ob7 := own_belowT (own_belowT (own_belowT Ob.out B5s.out (Nat.le_refl _)) B6s.out (Nat.le_refl _)) b7 (Nat.le_refl _)
  have B7 := hidT (B6.out.trans (b7.mono B6.out.size))
  have hgl : g < w3.heap.size := by
   obtain ⟨g',cap',e0,_,hlt,_⟩ := holds_of_ownsRow Oa.out (by simp)
   injection e0 with e1
   injection e1 with e1
   injection e1 with e1 _ _
   omega
  rw [hBl] at ob7
  have hrev := rev_calls (pileL t) g2 cap2 w3.heap.size wc (by rw [hBl]; exact ob7) (by omega)
  rw [hBl] at hrev
  have hz2 : w.heap.size ≤ w2.heap.size := B2.out.size
  have hz3 : w.heap.size ≤ w3.heap.size := B3.out.size
  have Hrev := hidT hrev
  have Oa7 := hidT oa7
  have hne : ∀ l : List Int,l.length = P → l ≠ [] := fun l hl e => by rw [e] at hl; simp at hl; omega
  have Hne := hidT hne
  clear hrev oa7 ob7 Oa Ob B5s B6s B4s B3s b7 H23s H23t H54c B1 B2 B3 B4 B5 hne
  go_upto_region 10 with (go_at_call 52; refine Hrev.out.mono ?_; rintro e w8 ⟨rfl,ob8,hg8⟩)
  have oa8 := Oa7.out.kept hg8 (.inr (fun e => by injection e with e; simp only [] at e; omega))
  have b8 : Below w.heap.size w w8 := B7.out.grown hg8 B7.out.size (fun k hk => by cases hk; omega)
  have hsm := same_calls (HT.out _ b8) oa8 (l2 := (pileL t).reverse) (by rw [List.length_reverse,hBl]; exact ob8) (Hne.out _ hAl) (Hne.out _ (by rw [List.length_reverse,hBl])) (by omega) (by rw [List.length_reverse]; omega)
  rw [Ht2.out,decide_eq_true rfl] at hsm
  have Hsame := hidT hsm
  have Oa8 := hidT oa8
  have B8 := hidT b8
  clear hsm oa8 b8 ob8 hg8 Hrev Oa7
  go_upto_region 12 with (go_at_call 22; refine Hsame.out.mono ?_; rintro e w9 ⟨rfl,b9⟩)
  have Oa9 := hidT (own_belowT Oa8.out b9 (Nat.le_refl _))
  have B9 := hidT (B8.out.trans (b9.mono B8.out.size))
  clear b9 Hsame Oa8
  obtain ⟨x,hx,hxP⟩ : ∃ x : Nat,one.toNat % P = x ∧ x < P := ⟨_,rfl,Nat.mod_lt _ (by omega)⟩
  obtain ⟨z,hz,hzP⟩ : ∃ z : Nat,two.toNat % P = z ∧ z < P := ⟨_,rfl,Nat.mod_lt _ (by omega)⟩
  have hmx : (RowKit.wrap64 (one.toNat : Int)).tmod (P : Int) = (x : Int) := by
   rw [wrap_u8T,Int.tmod_eq_emod_of_nonneg (by omega),← hx]
   simp
  have hmz : (RowKit.wrap64 (two.toNat : Int)).tmod (P : Int) = (z : Int) := by
   rw [wrap_u8T,Int.tmod_eq_emod_of_nonneg (by omega),← hz]
   simp
  have Hmx := hidT hmx
  have Hmz := hidT hmz
  clear hmx hmz hx hz
  go_cut [19,20] (fun s19 s20 wx => s19 = .int .i64 (x : Int) ∧ s20 = .int .i64 (z : Int) ∧ Below w9.heap.size w9 wx)
  case first =>
   have hPz : ¬ ((P : Int) = 0) := by omega
   clear Oa9 B9 Ha2 Hne H17 H18 H42 Ht1 Ht2 HT
   go_region
   all_goals (go_wp2_with fail)
   go_meet
   exact ⟨by rw [Hmx.out],by rw [Hmz.out],(Below.refl _ _).drew⟩
  case rest =>
   obtain ⟨rfl,rfl,b10⟩ := hcut
   have Oa10 := hidT (own_belowT Oa9.out b10 (Nat.le_refl _))
   have B10 := hidT (B9.out.trans (b10.mono B9.out.size))
   obtain ⟨w10,hw10⟩ : ∃ w10,w10 = wc := ⟨_,rfl⟩
   subst hw10
   clear b10 Oa9 B9 Hmx Hmz
   by_cases hxz : x = z
   ·subst hxz
    go_wp2_with (go_at_call 17; refine (H17.out _ B10.out).mono ?_; rintro e w11 ⟨rfl,b11⟩)
    go_ret
    exact ⟨rfl,B10.out.trans (b11.mono B10.out.size)⟩
   ·have hxz2 : ¬ ((x : Int) = (z : Int)) := by omega
    have hcl := Any.slices_Clone_int Tryd.lays15c g 0 P cap (pileL s) w10 (by omega) (by omega) (fun j hj => by
     have h1 := Oa10.out.cells rfl j (encZ ((pileL s).getD j 0)) (by rw [List.getElem?_map,List.getD_eq_getElem?_getD,List.getElem?_eq_getElem hj]; rfl)
     rw [Addr.add_lit] at h1
     exact h1)
    have hcl2 : Calls Tryd.prog 51 #[.slice (some ⟨g,0,none⟩) P cap] w10 fun e w' => ∃ g3 cap3,e = .returned (.slice (some ⟨g3,0,none⟩) P cap3) ∧ w10.heap.size ≤ g3 ∧ w'.ownsRow w10.heap.size 3 1 (.slice (some ⟨g3,0,none⟩) P cap3) P ((pileL s).map encZ) ∧ Below w10.heap.size w10 w' := by
     refine hcl.mono fun e w' ⟨v',h1,h2,h3,h4⟩ => ?_
     have h2' : w'.ownsRow w10.heap.size 3 1 v' P (((pileL s).take P).map encZ) := h2
     rw [List.take_of_length_le (by omega)] at h2'
     obtain ⟨g3,cap3,cur3,rfl,q1,_⟩ := own_someT h2' (by omega)
     exact ⟨g3,cap3,h1,q1,h2',h4⟩
    have Hcl := hidT hcl2
    clear hcl hcl2
    go_upto_region 16 with (go_at_call 51; refine Hcl.out.mono ?_; rintro e w11 ⟨g3,cap3,rfl,hg3,oc,b11⟩)
    have B11 := hidT (B10.out.trans (b11.mono B10.out.size))
    have hz10 : w.heap.size ≤ w10.heap.size := B10.out.size
    obtain ⟨g3',cap3',e0,_,hlt3,_,_,_,hH⟩ := holds_of_ownsRow oc (by simp)
    injection e0 with e1 e2 e3
    injection e1 with e1
    injection e1 with e1 _ _
    subst e1; subst e3
    have hx2 : x < (pileL s).toArray.size := by simpa [hAl] using hxP
    have hz2' : z < (pileL s).toArray.size := by simpa [hAl] using hzP
    obtain ⟨ci,fi⟩ := hH x hx2
    obtain ⟨cj,fj⟩ := hH z hz2'
    rw [Nat.zero_add] at ci fi cj fj
    have hsw := swap_world (α := Int) encZ hx2 hz2' (putRow_self encZ w11 g3 0 (pileL s).toArray hH).symm (n := 0) rfl rfl
    have esw : swp (pileL s).toArray x z = (swapL (pileL s) x z).toArray := swp_list hx2 hz2'
    rw [esw,Nat.zero_add,Nat.zero_add] at hsw
    have hown := ownsRow_putRow (q := 1) (k := P) (ys := swapL (pileL s) x z) oc (by rw [swapL_len,hAl]) (by omega)
    rw [List.take_of_length_le (by rw [swapL_len]; omega)] at hown
    have hgr : w11.grownBy (putRow encZ (Sort.ahead w11 1) g3 0 (swapL (pileL s) x z).toArray) (some g3) := by
     refine ⟨rfl,rfl,rfl,by simp [putRow,mapBlock,Sort.ahead],fun j hj hne => ?_⟩
     have hgj : g3 ≠ j := fun e => hne (by rw [e])
     simp [putRow,mapBlock,Sort.ahead,Array.getElem?_modify,hgj]
     rfl
    have b12 := B11.out.grown hgr B11.out.size (fun k hk => by cases hk; omega)
    have Hsw := hidT hsw
    have Hown := hidT hown
    have B12 := hidT b12
    have hx1 : (0 : Int) ≤ (x : Int) := by omega
    have hx3 : (x : Int) < (P : Int) := by omega
    have hz1' : (0 : Int) ≤ (z : Int) := by omega
    have hz3 : (z : Int) < (P : Int) := by omega
    clear hsw hown hgr b12 b11 oc hH esw Hcl
    go_cut [115] (fun s115 wx => Below w.heap.size w wx ∧ wx.ownsRow w10.heap.size 3 1 (.slice (some ⟨g3,0,none⟩) P cap3) P ((swapL (pileL s) x z).map encZ))
    case first =>
     clear Ht1 Ht2 Ha2 H17 H18 H42 Hsm HT Oa10 B10 B11 Hne
     go_region_o
     go_wp2_with fail
     have e1 : (pileL s).toArray[z]! = (pileL s)[z]'(by simpa using hz2') := by simp [getElem!_pos,show z < (pileL s).length by simpa using hz2']
     have e2 : (pileL s).toArray[x]! = (pileL s)[x]'(by simpa using hx2) := by simp [getElem!_pos,show x < (pileL s).length by simpa using hx2]
     have h := Hsw.out
     rw [e1,e2] at h
     go_meet
     have key : ∀ W,W = putRow encZ (Sort.ahead w11 (0 + 1)) g3 0 (swapL (pileL s) x z).toArray → Below w.heap.size w W ∧ W.ownsRow w10.heap.size 3 1 (.slice (some ⟨g3,0,none⟩) P cap3) P ((swapL (pileL s) x z).map encZ) := by
      rintro W rfl
      exact ⟨B12.out,Hown.out⟩
     exact key _ h
    case rest =>
     obtain ⟨w12,hw12⟩ : ∃ w12,w12 = wc := ⟨_,rfl⟩
     subst hw12
     obtain ⟨b13,oc⟩ := hcut
     have B13 := hidT b13
     obtain ⟨bad,hbad⟩ : ∃ bad,swapL (pileL s) x z = bad := ⟨_,rfl⟩
     have hbl : bad.length = P := by rw [← hbad,swapL_len,hAl]
     have hP2 := HPn.out
     have hbk := bad_ok (k := n) hn6 Hsm.out (i := x) (j := z) (by omega) (by omega) hxz (F := 100) (by omega) (by rw [hP2,wrap64T (by omega)])
     rw [hbad] at hbk oc
     have oc' : w12.ownsRow w10.heap.size 3 1 (.slice (some ⟨g3,0,none⟩) P cap3) bad.length (bad.map encZ) := by rw [hbl]; exact oc
     have harg := argRow oc' (Hne.out _ hbl) (by omega)
     have h4 : andI .i64 (bad.length : Int) (IntKind.i64.wrap ((bad.length : Int) - 1)) = 0 := by
      rw [hbl,← hP2]
      exact and_pow hn6
     have h40 := f40_ok (F := 100) (k := n) (p := bad) (by omega) hn6 (by rw [hbl,hP2]) h4
     have H40 : Hid (Calls Tryd.prog 40 #[.slice (some ⟨g3,0,none⟩) P cap3] w12 fun e w' => e = .returned (.tuple #[.string ⟨(pilesL bad n).1.toArray⟩,.int .i64 (pilesL bad n).2]) ∧ Below w12.heap.size w12 w') :=
      hidT (pureQ (HT.out _ b13) (f := 40) (vs := [.slice (some ⟨g3,0,none⟩) P cap3]) (rs := [.string ⟨(pilesL bad n).1.toArray⟩,.int .i64 (pilesL bad n).2]) rfl (.cons _ _ _ _ harg .nil) (f40_is (a0 := false) (c0 := .any) (hp := []) h40))
     have Oc := hidT oc'
     clear oc oc' harg h4 h40 hbad b13 Hsw Hown B12 ci fi cj fj hx2 hz2' B11 Oa10 B10
     rcases hbk with ⟨zz,hzz,hzm,hzs,hzp⟩ | ⟨hno,hnone⟩
     ·rw [hzz] at H40
      have hzc := (Ha2.out zz hzm).1
      have hzl := (Ha2.out zz hzm).2.1
      have H18z : Hid (∀ W,Below w.heap.size w W → Calls Tryd.prog 18 #[.string ⟨zz.toArray⟩] W fun e w' => ∃ g cap,e = .returned (.tuple #[.slice (some ⟨g,0,none⟩) P cap,.int .i64 0]) ∧ w'.ownsRow W.heap.size 3 1 (.slice (some ⟨g,0,none⟩) P cap) bad.length (bad.map encZ) ∧ W.heap.size ≤ g ∧ Below W.heap.size W w') := hidT fun W hW => by
       have h := H18.out W hW zz hzc
       rw [hzl,hP2,hzp] at h
       exact h
      have hne2 : ¬ ((⟨zz.toArray⟩ : ByteArray) = ⟨s.toArray⟩) := fun e => hzs (by injection e with e; exact List.toArray_inj e)
      clear H18 H42 hzz hzm hzp hzc hzl Ha2
      go_upto_region 20 with (first | (go_at_call 40; refine H40.out.mono ?_; rintro e w13 ⟨rfl,b14⟩; have B14 := hidT (B13.out.trans (b14.mono B13.out.size)); have Oc2 := hidT (own_belowT Oc.out b14 (Nat.le_refl _)); clear b14) | (go_at_call 18; refine (H18z.out _ B14.out).mono ?_; rintro e w14 ⟨g5,cap5,rfl,od,hg5,b15⟩; have B15 := hidT (B14.out.trans (b15.mono B14.out.size)); have Oc3 := hidT (own_belowT Oc2.out b15 (Nat.le_refl _)); have Od := hidT od; clear od b15))
      have hsm2 := same_calls (HT.out _ B15.out) (l1 := bad) (l2 := bad) Od.out Oc3.out (Hne.out _ hbl) (Hne.out _ hbl) (by omega) (by omega)
      rw [decide_eq_true rfl] at hsm2
      have Hsm2 := hidT hsm2
      clear hsm2 Od Oc3
      go_wp2_with (first | (go_at_call 22; refine Hsm2.out.mono ?_; rintro e w15 ⟨rfl,b16⟩; have B16 := hidT (B15.out.trans (b16.mono B15.out.size)); clear b16) | (go_at_call 17; refine (H17.out _ B16.out).mono ?_; rintro e w16 ⟨rfl,b17⟩))
      go_ret
      refine ⟨?_,B16.out.trans (b17.mono B16.out.size)⟩
      show Ending.returned (Value.bool (!(zz == s))) = _
      simp [hzs]
     ·rw [hno] at H40
      have Hnone := hidT hnone
      clear hno hnone
      go_upto_region 21 with (go_at_call 40; refine H40.out.mono ?_; rintro e w13 ⟨rfl,b14⟩; have B14 := hidT (B13.out.trans (b14.mono B13.out.size)); have Oc2 := hidT (own_belowT Oc.out b14 (Nat.le_refl _)); clear b14)
      go_cut [146,147] (fun s146 s147 wx => s146 = .int .i64 (P : Int) ∧ s147 = .int .i64 0 ∧ Below w13.heap.size w13 wx)
      case first =>
       have hcases : n = 0 ∨ n = 1 ∨ n = 2 ∨ n = 3 ∨ n = 4 ∨ n = 5 ∨ n = 6 := by omega
       clear Ht1 Ht2 Ha2 H17 H18 H42 Hsm HT B13 B14 Hne Oc2 Oc H40 Hnone hAl hBl hpow hxP hzP hbl hx1 hx3 hz1' hz3
       rcases hcases with rfl | rfl | rfl | rfl | rfl | rfl | rfl
       all_goals (subst hP2; go_wp2_with fail)
       all_goals go_meet
       all_goals exact ⟨rfl,rfl,Below.refl _ _⟩
      case rest =>
       obtain ⟨rfl,rfl,b15⟩ := hcut
       have B15 := hidT b15
       clear b15
       obtain ⟨w14,hw14⟩ : ∃ w14,w14 = wc := ⟨_,rfl⟩
       subst hw14
       have hz13 : w.heap.size ≤ w13.heap.size := B14.out.size
       go_wp2_with fail
       go_loopg [147] (P + 1) (fun gk s147 wx => ∃ i : Nat,s147 = .int .i64 (i : Int) ∧ i ≤ P ∧ P < i + gk ∧ Below w13.heap.size w13 wx)
       case atStart => exact ⟨0,rfl,by omega,by omega,B15.out⟩
       case round =>
        clear B15
        obtain ⟨i,rfl,hi,hgk,hb⟩ := hrel
        have hbw : Below w.heap.size w wr := B14.out.trans (hb.mono hz13)
        have Hb := hidT hb
        have Hbw := hidT hbw
        clear hb hbw
        by_cases hlt : i < P
        ·obtain ⟨g',rfl⟩ : ∃ g',gk = g' + 1 := ⟨gk - 1,by omega⟩
         have hi2 : (i : Int) < (P : Int) := by omega
         have h42 := H42.out wr Hbw.out n i (by omega) (by omega)
         rw [Nat.mod_eq_of_lt (show n < 7 by omega)] at h42
         obtain ⟨f,hf⟩ : ∃ f,foldedL n i = f := ⟨_,rfl⟩
         have hfm : f ∈ allS n := by rw [← hf]; exact folded_mem hn6
         rw [hf] at h42
         have hfc := (Ha2.out f hfm).1
         have hfl := (Ha2.out f hfm).2.1
         have hfp : (pileL f).length = P := by rw [pileL_len,hfl,hP2]
         have H18f : Hid (∀ W,Below w.heap.size w W → Calls Tryd.prog 18 #[.string ⟨f.toArray⟩] W fun e w' => ∃ g cap,e = .returned (.tuple #[.slice (some ⟨g,0,none⟩) P cap,.int .i64 0]) ∧ w'.ownsRow W.heap.size 3 1 (.slice (some ⟨g,0,none⟩) P cap) (pileL f).length ((pileL f).map encZ) ∧ W.heap.size ≤ g ∧ Below W.heap.size W w') := hidT fun W hW => by
          have h := H18.out W hW f hfc
          rw [hfl,hP2] at h
          exact h
         have hS22 : ∀ (W : World) (v : Value) (B : Nat),Below w13.heap.size w13 W → W.ownsRow B 3 1 v (pileL f).length ((pileL f).map encZ) → Calls Tryd.prog 22 #[v,.slice (some ⟨g3,0,none⟩) P cap3] W fun e W' => e = .returned (.bool false) ∧ Below W.heap.size W W' := fun W v B hW ho => by
          have h := same_calls (HT.out _ (B14.out.trans (hW.mono hz13))) ho (own_belowT Oc2.out hW (Nat.le_refl _)) (Hne.out _ hfp) (Hne.out _ hbl) (by omega) (by omega)
          rw [decide_eq_false (Hnone.out f hfm)] at h
          exact h
         have HS22 := hidT hS22
         have Hh42 := hidT h42
         have HJ := hidT (show (i : Int) + 1 = ((i + 1 : Nat) : Int) by omega)
         clear h42 hS22 hfc hfl hfp hfm hf H42 H18 Ha2 H40 Ht1 Ht2 Hsm
         go_wp2_with (first | (go_at_call 42; refine Hh42.out.mono ?_; rintro e w20 ⟨rfl,b20⟩; have Bw20 := hidT (Hbw.out.trans (b20.mono Hbw.out.size)); have Bx20 := hidT (Hb.out.trans (b20.mono Hb.out.size)); clear b20) |
          (go_at_call 18; refine (H18f.out _ Bw20.out).mono ?_; rintro e w21 ⟨g7,cap7,rfl,oe,hg7,b21⟩; have Oe := hidT oe; have Bx21 := hidT (Bx20.out.trans (b21.mono Bx20.out.size)); clear oe b21) |
          (go_at_call 22; refine (HS22.out _ _ _ Bx21.out Oe.out).mono ?_; rintro e w22 ⟨rfl,b22⟩; have Bx22 := hidT (Bx21.out.trans (b22.mono Bx21.out.size)); clear b22))
         go_roundg g'
         case measure => omega
         case rel => exact ⟨i + 1,by rw [← HJ.out],by omega,by omega,Bx22.out⟩
        ·obtain rfl : i = P := by omega
         go_wp2_with (go_at_call 17; refine (H17.out _ Hbw.out).mono ?_; rintro e w16 ⟨rfl,b17⟩)
         go_ret
         exact ⟨rfl,Hbw.out.trans (b17.mono Hbw.out.size)⟩
end Go.Proofs.YtcjephdjemapbaaDoor
set_option linter.unusedSimpArgs false
set_option linter.unusedVariables false
set_option linter.unusedSectionVars false
namespace Go.Proofs.YtcjephdjemapbaaDoor
open Go.Abs Go.Pur Go.ChangeShapes Go.WideShapes Go.ChangeAt Go.RowKit
namespace QuireTurnedCard
set_option maxRecDepth 100000
theorem contract (H : Type) (enc : TypeId × Value → H) (W : World) (base : Nat) (args : Array Value) (ds gs : List (DataW H)) (before : List MemPlace)
  (hval0 : ∀ (j : Nat) t v,Tryd.f16.params[j]? = some t → args[j]? = some v → Value.okWide Tryd.prog W .any base t v)
  (hW : DataW.Whole enc Tryd.prog Tryd.f16.params.toList Rows.quireTurnedSpec.vars false W args.toList ds gs before) (hL : laidMetH Tryd.prog Rows.quireTurnedRow.laid W) (hS : W.ShapedOpen Tryd.prog) :
  Calls Tryd.prog 16 args W fun e W' => ∃ v,e = .returned v ∧ Rows.quireTurnedSpec.post enc Tryd.prog Tryd.f16 false true false false W args v W' := by
 have hval := hval0
 have hW' := hW
 obtain ⟨p,q,hA0,hV,rfl,hfz,hnd⟩ := hW
 have hA : DataW.TrodAll enc Tryd.prog W 0 (fun _ => true) true Tryd.f16.params.toList args.toList ds p := hA0
 rw [Tryd.params16] at hA hval
 obtain ⟨v0,v1,v2,v3,d0,d1,d2,d3,p0,p1,p2,p3,rfl,rfl,rfl,h0,h1,h2,h3⟩ := trodAll_four hA
 obtain ⟨rfl,rfl⟩ := trodVars_none hV
 clear hA0 hval0
 simp only [List.append_nil] at hW'
 have hlt : ∀ x ∈ p0 ++ (p1 ++ (p2 ++ p3)),x.block < W.heap.size := fun x hx => by simpa using hW'.lt x (by simpa using hx)
 obtain ⟨n0,rfl⟩ := val_u8 (hval 0 5 v0 rfl rfl) h0
 obtain ⟨n1,rfl⟩ := val_u8 (hval 1 5 v1 rfl rfl) h1
 obtain ⟨n2,rfl⟩ := val_u8 (hval 2 5 v2 rfl rfl) h2
 obtain ⟨n3,rfl⟩ := val_u8 (hval 3 5 v3 rfl rfl) h3
 refine (turned_calls n0 n1 n2 n3 W (Tbs.of hL hS)).mono fun e W' ⟨he,hb⟩ => ?_
 subst he
 have hok : Value.okWide Tryd.prog W' .any 0 4 (.bool true) := okWide_bool_mk Tryd.underlying4 true
 exact ⟨_,rfl,post_below (pa := p0 ++ (p1 ++ (p2 ++ p3))) (pv := []) hW' (fun _ _ _ => trodAll_cons_mk (shut_bool Tryd.underlying4 _) trodAll_mk0) (fun sp hsp => trodAll_mk4
   (WideElems.Trod_stays laidOut (by kernel_rfl) (of_decide_eq_true (by kernel_rfl)) h0 (fun x hx => hb.same (hlt x (by simp [hx]))) (fun x hx => hsp x (by simp [hx])))
   (WideElems.Trod_stays laidOut (by kernel_rfl) (of_decide_eq_true (by kernel_rfl)) h1 (fun x hx => hb.same (hlt x (by simp [hx]))) (fun x hx => hsp x (by simp [hx])))
   (WideElems.Trod_stays laidOut (by kernel_rfl) (of_decide_eq_true (by kernel_rfl)) h2 (fun x hx => hb.same (hlt x (by simp [hx]))) (fun x hx => hsp x (by simp [hx])))
   (WideElems.Trod_stays laidOut (by kernel_rfl) (of_decide_eq_true (by kernel_rfl)) h3 (fun x hx => hb.same (hlt x (by simp [hx]))) (fun x hx => hsp x (by simp [hx])))) (fun _ _ => rfl) (by simp)
  hb (ok_one (by kernel_rfl) rfl hok)⟩
def wit : Array Value := #[.int .u8 0,.int .u8 0,.int .u8 0,.int .u8 0]
theorem laid_met (os : Os) : laidMet Tryd.prog Rows.quireTurnedRow.laid ((laidWorld os).forCall (fun _ _ => 0) ⟨#[],wit,[]⟩).memory :=
 laidMet_of_run' 80 (by kernel_rfl) (by kernel_rfl)
theorem reads (os : Os) {H : Type} (enc : TypeId × Value → H) : ∃ places,DataW.whole enc Tryd.prog ((laidWorld os).forCall (fun _ _ => 0) ⟨#[],wit,[]⟩).memory Tryd.f16.params.toList Rows.quireTurnedSpec.vars false wit.toList 80 = some ([.lit (.int .u8 0),.lit (.int .u8 0),.lit (.int .u8 0),.lit (.int .u8 0)],[],places) :=
 ⟨[],by kernel_rfl⟩
theorem lifted (os : Os) (started : os.Started) (H : Type) (enc : TypeId × Value → H) (F : Stop.Interp) :
  ReturnsInHanded {} Tryd.checked os 16 .any ((OpenSpec.ofChange Rows.quireTurnedSpec).preRow enc Tryd.prog Tryd.f16 Rows.quireTurnedRow.domain false Rows.quireTurnedRow.laid) (((OpenSpec.ofChange Rows.quireTurnedSpec).at F).post enc Tryd.prog Tryd.f16 false true false false) := by
 obtain ⟨places,hx⟩ := reads os enc
 refine returnsInHanded_of_row (C := Tryd.checked) (s := OpenSpec.ofChange Rows.quireTurnedSpec) own started (by kernel_rfl) Tryd.func16
  (witness_row_at (enc := enc) (C := Tryd.checked) false (laidWorld os) wit rfl (by kernel_rfl) (by kernel_rfl) (by kernel_rfl)
   (OpenSpec.preRow_of_cond 80 hx (by kernel_rfl) (fun k hk => by cases hk) (by kernel_rfl) (laid_met os))) ?_
 intro W base args ds gs before hval hW _ _ _ hL hS _
 exact contract H enc W base args ds gs before hval hW hL hS
theorem said : Rows.QuireTurnedSaid :=
 OpenClaim.holds_of_cond 16 Tryd.f16 rfl rfl rfl rfl rfl rfl rfl ⟨rfl,rfl,rfl,rfl,rfl⟩ rfl rfl rfl rfl rfl (by kernel_rfl) Tryd.func16 (by kernel_rfl)
  (of_decide_eq_true (by kernel_rfl)) (by unfold Func.isWrapper; first | (rw [if_pos (by decide +kernel)]; kernel_rfl) | (rw [if_neg (by decide +kernel)]; exact ⟨rfl,rfl⟩))
  (fun os started H enc _ F => by rw [OpenClaim.pre_eq_preRow]; exact lifted os started H enc F)
theorem plainLooks (f : FuncId) (fn : Func) (hf : Tryd.pinned.checked.prog.funcNamed "headword/headwordlaw03.QuireTurned" = some f) (hfn : Tryd.pinned.checked.prog.funcs[f]? = some fn) :
  false = Tryd.pinned.checked.prog.looks [] ∧ ∀ (j : Nat) t,fn.params[j]? = some t → Tryd.pinned.checked.prog.wantsStandIn t = false := by
 obtain rfl : f = 16 := Option.some.inj ((show Tryd.prog.funcNamed "headword/headwordlaw03.QuireTurned" = some 16 by kernel_rfl).symm.trans hf) |>.symm
 obtain rfl : fn = Tryd.f16 := (Option.some.inj (Tryd.func16.symm.trans hfn)).symm
 refine ⟨by kernel_rfl,fun j t ht => ?_⟩
 rw [Tryd.params16] at ht
 match j,ht with
 | 0,ht => obtain rfl : 5 = t := Option.some.inj ht; exact (show Tryd.prog.wantsStandIn 5 = false by kernel_rfl)
 | 1,ht => obtain rfl : 5 = t := Option.some.inj ht; exact (show Tryd.prog.wantsStandIn 5 = false by kernel_rfl)
 | 2,ht => obtain rfl : 5 = t := Option.some.inj ht; exact (show Tryd.prog.wantsStandIn 5 = false by kernel_rfl)
 | 3,ht => obtain rfl : 5 = t := Option.some.inj ht; exact (show Tryd.prog.wantsStandIn 5 = false by kernel_rfl)
end QuireTurnedCard
theorem quireTurned_card : Rows.QuireTurnedCardSaid :=
 Claim7.holds_tied_plain_at .later [] _ _ _ _ QuireTurnedCard.said (fun _ h => by cases h) (by kernel_rfl) (fun _ h => by cases h) quireTurned_row_tie rfl ⟨rfl,rfl⟩ (by kernel_rfl) rfl QuireTurnedCard.plainLooks (by kernel_rfl)
end Go.Proofs.YtcjephdjemapbaaDoor
