/-
  law 9
  Printed by wip/tools/walk.py. Conditions: none; definitions and lemmas.
-/
import Derived.Test.YtcjephdjemapbaaDoorCreased
set_option linter.unusedSimpArgs false
set_option linter.unusedVariables false
namespace Go.Proofs.YtcjephdjemapbaaDoor
open Go.Abs Go.Pur
set_option maxRecDepth 100000
set_option maxHeartbeats 2000000
attribute [local simp] EK_region EK_seq EK_cond EK_block EK_blk EK_loop EK_exit EK.ex EK_ret EK_skip EK_nil EO_cons EO_nil EO1_true EO1_false EO2_some EO3_some EB_true EB_false pwanted poper pq pev Go.Pur.look pputT isAssign drOf pinit Tr.get_set lget pvOf_int pvOf_bool pvOf_str pvOf_nil rdv_ak notOwn_ak prt_ak loose_ak rdv_own rdv_fz rdv_bor rdv_rf rdv_pt rdv_v rdv_a rdv_t rdv_r rdv_p rdv_s rdv_f pbin plen pload ppart idxAddr pcond Nat.blt goInt_eq prun_not prun_neg mayLoad ER_ret ER_normal presL presOne moved stor okDrop settle_v settle_l settle_a settle_p settle_f noref_v noref_fz noref_a norefs_nil norefs_cons pclose given dropB Y0_keep pevParts stors pvCells pvCells.go vcells pfill reps zipParts ownFz pcells cellOK one psrcLen srcFits psrc takeP pgrow take getPl setPl mapL plEq elder isList lowP pevs frzs addP partAt ble_lim24 killV_v killV_a killV_t killV_f killV_i killV_p killV_s killV_un killV_dead killV_lfz killV_lbor killV_lown killV_rfz killV_rbor killV_lak killV_rak frzV_v frzV_a frzV_t frzV_f frzV_i frzV_p frzV_s frzV_un frzV_dead frzV_lfz frzV_lbor frzV_lown frzV_rfz frzV_rbor frzV_lak frzV_rak killCell_v killCell_a killCell_t killCell_f killCell_i killCell_p killCell_s killCell_un killCell_dead killCell_lfz killCell_lbor killCell_lown killCell_rfz killCell_rbor killCell_lak killCell_rak killV_lrf killV_lpt killV_rpt frzV_lrf frzV_lpt frzV_rpt killCell_lrft killCell_lptt killCell_rptt killCell_lrfc killCell_lptc killCell_rptc argv_lak argv_rak argv_v argv_a argv_p argv_f argv_fz argv_bor argv_rf argv_pt argv_rc argv_own mayTurn_none argvs pcallOp firm refsTo_v refsTo_l refsTo_p refsTo_s refsTo_a refsTo_dead refsTo_nil refsTo_cons isOwn_lak ownFz_lak evSafe pskip plain pnewBlk fldAddr isOwn pput notOwn_fz notOwn_bor notOwn_own notOwn_rf notOwn_pt prt_fz prt_bor prt_own prt_rf prt_pt Go.Pur.freeze presM settles abin_and abin_or abin_andNot abin_mul abin_shr abin_shl abin_add abin_sub abin_eql abin_neq abin_lss abin_leq abin_gtr abin_geq keep3 keep4 keep5 keep6 keep7 keep8 keep9 keep10 keep11 keep12 keep13 keep14 keep15 keep16 keep17 keep18 keep19 keep20 keep21 keep22 keep23 keep24 keep25 keep26 keep27 keep28 keep29 keep30 keep31 keep32 keep33 keep34 keep35 keep36 keep37 keep38 keep39 keep40 keep41 keep42 keep43 keep44 keep45 keep46 keep47 keep48 keep49 keep50 keep51 keep52 keep53 keep54 keep55 keep56 keep57 keep58 keep59 keep60 keep61 keep62 keep63 keep64 keep65 keep66 keep67 keep68 keep69 keep70 keep71 keep72 keep73 keep74 keep75 keep76 keep77 keep78 keep79 keep80 keep81 keep82 keep83 keep84 keep85 keep86 keep87 keep88 keep89 keep90 keep91 keep92 keep93 keep94 keep95 keep96 keep97 keep98 keep99 keep100 keep101 keep102 keep103 keep104 keep105 keep106 keep107 keep108 keep109 keep110 keep111 keep112 keep113 keep114 keep115 keep116 keep117 keep118 keep119 keep120 keep121 keep122 keep123 keep124 keep125 keep126 keep127 keep128 keep129 keep130 keep131 keep132 keep133 keep134 sz3 by3 row3 zero3 sz4 by4 row4 zero4 sz5 by5 row5 zero5 sz9 by9 row9 shape9 zero9 sz21 by21 row21 zero21 sz23 by23 row23 shape23 zero23 sz24 by24 row24 zero24 sz38 by38 row38 shape38 zero38 sz47 by47 row47 shape47 zero47 parts47 sz51 by51 row51 zero51 sz54 by54 row54 shape54 zero54 sz55 by55 row55 shape55 zero55 sz58 by58 row58 shape58 zero58 sz60 by60 row60 zero60 sz63 by63 row63 shape63 zero63 sz73 by73 row73 shape73 zero73 parts73 sz79 by79 row79 shape79 zero79 sz81 by81 row81 shape81 zero81 parts81 sz86 by86 row86 shape86 parts86 sz90 by90 row90 zero90 sz92 by92 row92 zero92 sz96 by96 row96 zero96 parts96 field96_0 field96_1 sz99 by99 row99 zero99 sz104 by104 row104 zero104 sz106 by106 row106 zero106 parts106 field106_0 field106_1 sz119 by119 row119 zero119 sz123 by123 row123 zero123 sz124 by124 row124 shape124 zero124 parts124 sz125 by125 row125 shape125 zero125 parts125 sz126 by126 row126 shape126 parts126 sz128 by128 row128 zero128 parts128 field128_0 field128_1 sz129 by129 row129 shape129 zero129 parts129 sz133 by133 row133 zero133 bs_size gAt gAt0 sAt sAt0 optPlain rows_len noMaker_eq kindOf vlOf abin_rem abin_quo mayTurn_none lowOf_none Go.Pur.partAt rows_nil rows_cons ble_add ble_add0 ble_same toPlain toPlain.go intIn2_0 intIn2_1 ble12 ble22 tv lv max_int min_int pplains ak_true ak_false apartP beq_add beq_add0 beq_add1 argv_s wok_none wok_low_iff lowOf_wok
theorem conv_5_3Law9 {z : Int} : prunP Tryd.prog (convert 5 3 (.int .u8 z)) = some (.int .i64 (IntKind.i64.wrap z)) := by kernel_rfl
theorem conv_3_5Law9 {z : Int} : prunP Tryd.prog (convert 3 5 (.int .i64 z)) = some (.int .u8 (IntKind.u8.wrap z)) := by kernel_rfl
def f9_L0 (F : Nat) (x2 : Int) (x5 : List UInt8) (x6 : Int) (K : List UInt8 × Bool → Option (Bool)) : Nat → List UInt8 × Bool × Int → Option (Bool)
  | 0, _ => none
  | n + 1, (v7, b8, v9) => (some (decide (v9 < x6))).bind fun x10 =>
    (match x10 with
    | true => ((some (IntKind.u8.wrap x2)).bind fun x11 =>
    (some (IntKind.u8.wrap v9)).bind fun x12 =>
    (foldedO x11 x12).bind fun x13 =>
    (f23S F x13).bind fun (s14, x15) =>
    (some (decide (x15 = 0))).bind fun x17 =>
    (match x17 with
    | true => ((some (decide (s14 = x5))).bind fun x18 =>
    (match x18 with
    | true => ((match b8 with
    | true => (some false)
    | false => ((some (IntKind.i64.wrap (v9 + 1))).bind fun x19 =>
    f9_L0 F x2 x5 x6 K n (x13, true, x19))))
    | false => ((some (IntKind.i64.wrap (v9 + 1))).bind fun x20 =>
    f9_L0 F x2 x5 x6 K n (v7, b8, x20))))
    | false => (some false)))
    | false => (K (v7, b8)))
def f9S (F : Nat) (p0 : Int) (p1 : Int) : Option (Bool) :=
  (some (IntKind.i64.wrap p0)).bind fun x1 =>
  (some (Int.tmod x1 5)).bind fun x2 =>
  (shlO .u8 1 x2).bind fun x3 =>
  (some (IntKind.u8.wrap (x3 - 1))).bind fun x4 =>
  (creasedO x4 p1).bind fun x5 =>
  (shlO .i64 1 x2).bind fun x6 =>
  f9_L0 F x2 x5 x6 (fun (v21, b22) =>
    (f29S F x5).bind fun (s23, x24) =>
    (f31S F x5).bind fun (x26, x27, x28) =>
    (match b22 with
    | true => ((some (decide (x24 = 0))).bind fun x30 =>
    (match x30 with
    | true => ((some (decide (s23 = v21))).bind fun x31 =>
    (match x31 with
    | true => ((some (decide (x28 = 13))).bind fun x32 =>
    (match x32 with
    | true => ((f17S F ).bind fun b33 =>
    some b33)
    | false => (some false)))
    | false => (some false)))
    | false => (some false)))
    | false => ((some (decide (x24 = 12))).bind fun x35 =>
    (match x35 with
    | true => ((some (decide (s23 = []))).bind fun x36 =>
    (match x36 with
    | true => ((some (decide (x28 = 0))).bind fun x37 =>
    (match x37 with
    | true => ((f17S F ).bind fun b38 =>
    some b38)
    | false => (some false)))
    | false => (some false)))
    | false => (some false))))) F ([], false, 0)
theorem f9_is {p0 : Int} {p1 : Int} {hp : List (Option (List PV))} {F : Nat} {r : (Bool)}  (h : f9S F p0 p1 = some r) :
    E Tryd.prog Y0 9 [kv .u8 p0, kv .u64 p1] hp = some (.v (.bool r), hp, none) := by
  rw [E_bodyN 2 body9 rfl (by decide) rfl]
  simp only [Tryd.f9, Option.get_some]
  unfold f9S at h
  replace h := bindT h; obtain ⟨x1, ex1, h⟩ := h
  replace h := bindT h; obtain ⟨x2, ex2, h⟩ := h
  replace h := bind_ok h; obtain ⟨x3, ex3, h⟩ := h
  obtain ⟨ex3a, ex3⟩ := shlO_ok ex3
  replace h := bindT h; obtain ⟨x4, ex4, h⟩ := h
  replace h := bind_ok h; obtain ⟨x5, ex5, h⟩ := h
  have ex5 : ∀ hp, E Tryd.prog Y0 46 [kv .u8 x4, kv .u64 p1] hp = some (.v (.string (bs x5)), hp, none) := fun hp => f46_is ex5
  replace h := bind_ok h; obtain ⟨x6, ex6, h⟩ := h
  obtain ⟨ex6a, ex6⟩ := shlO_ok ex6
  simp [conv_5_3Law9, ex1, ex2, ex3, ex3a, ex4, ex5, ex6, ex6a]
  have hL0 := h; clear h
  refine loopS (S := f9_L0 F x2 x5 x6) (fun (v7, b8, v9) σ => ∃ (ts : Tr PV) (w : Option Nat), wok hp.length w ∧ σ = ⟨[], ts, hp, w⟩ ∧ ts.get 5 = some (iv x2) ∧ ts.get 6 = some (.v (.string (bs x5))) ∧ ts.get 7 = some (.v (.string (bs v7))) ∧ ts.get 8 = some (.v (.bool b8)) ∧ ts.get 27 = some (iv x6) ∧ ts.get 28 = some (iv v9) ∧ True) (fun (v21, b22) σ => ∃ (ts : Tr PV) (w : Option Nat), wok hp.length w ∧ σ = ⟨[], ts, hp, w⟩ ∧ ts.get 6 = some (.v (.string (bs x5))) ∧ ts.get 7 = some (.v (.string (bs v21))) ∧ ts.get 8 = some (.v (.bool b22)) ∧ True) (fun _ => rfl) hL0 ?_ ?_ ?_
  · exact ⟨_, _, by simp, rfl, by simp [conv_5_3Law9, ex1, ex2, ex3, ex3a, ex4, ex5, ex6, ex6a]⟩
  · rintro ⟨v21, b22⟩ σ ⟨ts, w, hw, rfl, g6, g7, g8, -⟩ h
    clear hL0
    try dsimp only at h
    replace h := bind_ok h; obtain ⟨⟨s23, x24⟩, e25, h⟩ := h
    try dsimp only at h
    have e25 : ∀ hp, E Tryd.prog Y0 29 [.v (.string (bs x5))] hp = some (.t [.v (.string (bs s23)), iv x24], hp, none) := fun hp => f29_is  e25
    replace h := bind_ok h; obtain ⟨⟨x26, x27, x28⟩, e29, h⟩ := h
    try dsimp only at h
    have e29 : ∀ hp, E Tryd.prog Y0 31 [.v (.string (bs x5))] hp = some (.t [iv x26, iv x27, iv x28], hp, none) := fun hp => f31_is  e29
    cases b22
    case true =>
     replace h := bindT h; obtain ⟨x30, ex30, h⟩ := h
     cases x30
     case false =>
      obtain rfl := inj_ok h
      simp [g6, g7, g8, e25, e29, ex30, hw]
     replace h := bind_ok h; obtain ⟨x31, ex31, h⟩ := h
     have ex31p := inj_ok ex31
     have ex31 : decide (bs s23 = bs v21) = x31 := (decide_eq_decide.2 bs_eq).trans (inj_ok ex31)
     cases x31
     case false =>
      obtain rfl := inj_ok h
      simp [g6, g7, g8, e25, e29, ex30, ex31, ex31p, abin_seql, abin_sneq, hw]
     replace h := bindT h; obtain ⟨x32, ex32, h⟩ := h
     cases x32
     case false =>
      obtain rfl := inj_ok h
      simp [g6, g7, g8, e25, e29, ex30, ex31, ex31p, abin_seql, abin_sneq, ex32, hw]
     replace h := bind_ok h; obtain ⟨b33, e34, h⟩ := h
     have e34 : ∀ hp, E Tryd.prog Y0 17 [] hp = some (.v (.bool b33), hp, none) := fun hp => f17_is  e34
     obtain rfl := inj_ok h
     simp [g6, g7, g8, e25, e29, ex30, ex31, ex31p, abin_seql, abin_sneq, ex32, e34, hw]
    replace h := bindT h; obtain ⟨x35, ex35, h⟩ := h
    cases x35
    case false =>
     obtain rfl := inj_ok h
     simp [g6, g7, g8, e25, e29, ex35, hw]
    replace h := bind_ok h; obtain ⟨x36, ex36, h⟩ := h
    have ex36p := inj_ok ex36
    have ex36 : decide (bs s23 = bs []) = x36 := (decide_eq_decide.2 bs_eq).trans (inj_ok ex36)
    cases x36
    case false =>
     obtain rfl := inj_ok h
     simp [g6, g7, g8, e25, e29, ex35, ex36, ex36p, abin_seql, abin_sneq, hw]
    replace h := bindT h; obtain ⟨x37, ex37, h⟩ := h
    cases x37
    case false =>
     obtain rfl := inj_ok h
     simp [g6, g7, g8, e25, e29, ex35, ex36, ex36p, abin_seql, abin_sneq, ex37, hw]
    replace h := bind_ok h; obtain ⟨b38, e39, h⟩ := h
    have e39 : ∀ hp, E Tryd.prog Y0 17 [] hp = some (.v (.bool b38), hp, none) := fun hp => f17_is  e39
    obtain rfl := inj_ok h
    simp [g6, g7, g8, e25, e29, ex35, ex36, ex36p, abin_seql, abin_sneq, ex37, e39, hw]
  · rintro k n ⟨v7, b8, v9⟩ σ ⟨ts, w, hw, rfl, g5, g6, g7, g8, g27, g28, -⟩ h ih ex
    clear hL0
    rw [f9_L0] at h
    replace h := bindT h; obtain ⟨x10, ex10, h⟩ := h
    cases x10
    case false =>
     simp [g5, g6, g7, g8, g27, g28, ex10]
     refine ex (v7, b8) _ ?_ h
     exact ⟨_, _, by simp [hw], rfl, by simp [g5, g6, g7, g8, g27, g28, ex10]⟩
    replace h := bindT h; obtain ⟨x11, ex11, h⟩ := h
    replace h := bindT h; obtain ⟨x12, ex12, h⟩ := h
    replace h := bind_ok h; obtain ⟨x13, ex13, h⟩ := h
    have ex13 : ∀ hp, E Tryd.prog Y0 42 [kv .u8 x11, kv .u8 x12] hp = some (.v (.string (bs x13)), hp, none) := fun hp => f42_is ex13
    replace h := bind_ok h; obtain ⟨⟨s14, x15⟩, e16, h⟩ := h
    try dsimp only at h
    have e16 : ∀ hp, E Tryd.prog Y0 23 [.v (.string (bs x13))] hp = some (.t [.v (.string (bs s14)), iv x15], hp, none) := fun hp => f23_is  e16
    replace h := bindT h; obtain ⟨x17, ex17, h⟩ := h
    cases x17
    case false =>
     obtain rfl := inj_ok h
     simp [g5, g6, g7, g8, g27, g28, ex10, conv_3_5Law9, ex11, ex12, ex13, e16, ex17, hw]
    replace h := bind_ok h; obtain ⟨x18, ex18, h⟩ := h
    have ex18p := inj_ok ex18
    have ex18 : decide (bs s14 = bs x5) = x18 := (decide_eq_decide.2 bs_eq).trans (inj_ok ex18)
    cases x18
    case false =>
     replace h := bindT h; obtain ⟨x20, ex20, h⟩ := h
     simp [g5, g6, g7, g8, g27, g28, ex10, conv_3_5Law9, ex11, ex12, ex13, e16, ex17, ex18, ex18p, abin_seql, abin_sneq, ex20]
     refine ih (v7, b8, x20) _ ?_ h
     exact ⟨_, _, by simp [hw], rfl, by simp [g5, g6, g7, g8, g27, g28, ex10, conv_3_5Law9, ex11, ex12, ex13, e16, ex17, ex18, ex18p, abin_seql, abin_sneq, ex20]⟩
    cases b8
    case true =>
     obtain rfl := inj_ok h
     simp [g5, g6, g7, g8, g27, g28, ex10, conv_3_5Law9, ex11, ex12, ex13, e16, ex17, ex18, ex18p, abin_seql, abin_sneq, hw]
    replace h := bindT h; obtain ⟨x19, ex19, h⟩ := h
    simp [g5, g6, g7, g8, g27, g28, ex10, conv_3_5Law9, ex11, ex12, ex13, e16, ex17, ex18, ex18p, abin_seql, abin_sneq, ex19]
    refine ih (x13, true, x19) _ ?_ h
    exact ⟨_, _, by simp [hw], rfl, by simp [g5, g6, g7, g8, g27, g28, ex10, conv_3_5Law9, ex11, ex12, ex13, e16, ex17, ex18, ex18p, abin_seql, abin_sneq, ex19]⟩
end Go.Proofs.YtcjephdjemapbaaDoor
