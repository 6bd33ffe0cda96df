/-
  StandRoom
  Printed by wip/tools/walk.py. Conditions: none; definitions and lemmas.
-/
import Derived.Test.YtcdhajbhpnbdkaaDoorOut1
set_option linter.unusedSimpArgs false
set_option linter.unusedVariables false
namespace Go.Proofs.YtcdhajbhpnbdkaaDoor
open Go.Abs Go.Pur
set_option maxRecDepth 100000
set_option maxHeartbeats 2000000
attribute [local simp] EK_region EK_seq EK_cond EK_block EK_blk EK_loop EK_exit EK.ex EK_ret EK_skip EK_nil EO_cons EO_nil EO1_true EO1_false EO2_some EO3_some EB_true EB_false pwanted poper pq pev Go.Pur.look pputT isAssign drOf pinit Tr.get_set lget pvOf_int pvOf_bool pvOf_str pvOf_nil rdv_ak notOwn_ak prt_ak loose_ak rdv_own rdv_fz rdv_bor rdv_rf rdv_pt rdv_v rdv_a rdv_t rdv_r rdv_p rdv_s rdv_f pbin plen pload ppart idxAddr pcond Nat.blt goInt_eq prun_not prun_neg mayLoad ER_ret ER_normal presL presOne moved stor okDrop settle_v settle_l settle_a settle_p settle_f noref_v noref_fz noref_a norefs_nil norefs_cons pclose given dropB Y0_keep pevParts stors pvCells pvCells.go vcells pfill reps zipParts ownFz pcells cellOK one psrcLen srcFits psrc takeP pgrow take getPl setPl mapL plEq elder isList lowP pevs frzs addP partAt ble_lim24 killV_v killV_a killV_t killV_f killV_i killV_p killV_s killV_un killV_dead killV_lfz killV_lbor killV_lown killV_rfz killV_rbor killV_lak killV_rak frzV_v frzV_a frzV_t frzV_f frzV_i frzV_p frzV_s frzV_un frzV_dead frzV_lfz frzV_lbor frzV_lown frzV_rfz frzV_rbor frzV_lak frzV_rak killCell_v killCell_a killCell_t killCell_f killCell_i killCell_p killCell_s killCell_un killCell_dead killCell_lfz killCell_lbor killCell_lown killCell_rfz killCell_rbor killCell_lak killCell_rak killV_lrf killV_lpt killV_rpt frzV_lrf frzV_lpt frzV_rpt killCell_lrft killCell_lptt killCell_rptt killCell_lrfc killCell_lptc killCell_rptc argv_lak argv_rak argv_v argv_a argv_p argv_f argv_fz argv_bor argv_rf argv_pt argv_rc argv_own mayTurn_none argvs pcallOp firm refsTo_v refsTo_l refsTo_p refsTo_s refsTo_a refsTo_dead refsTo_nil refsTo_cons isOwn_lak ownFz_lak evSafe pskip plain pnewBlk fldAddr isOwn pput notOwn_fz notOwn_bor notOwn_own notOwn_rf notOwn_pt prt_fz prt_bor prt_own prt_rf prt_pt Go.Pur.freeze presM settles abin_and abin_or abin_andNot abin_mul abin_shr abin_shl abin_add abin_sub abin_eql abin_neq abin_lss abin_leq abin_gtr abin_geq keep10 sz3 by3 row3 zero3 sz4 by4 row4 zero4 sz5 by5 row5 zero5 sz9 by9 row9 shape9 zero9 sz22 by22 row22 shape22 zero22 sz24 by24 row24 zero24 parts24 field24_0 field24_1 sz27 by27 row27 zero27 parts27 field27_0 field27_1 sz28 by28 row28 zero28 sz32 by32 row32 shape32 zero32 sz46 by46 row46 shape46 zero46 sz54 by54 row54 shape54 zero54 parts54 sz56 by56 row56 zero56 parts56 field56_0 field56_1 field56_2 sz63 by63 row63 shape63 zero63 parts63 sz70 by70 row70 shape70 zero70 parts70 sz75 by75 row75 shape75 zero75 parts75 sz79 by79 row79 zero79 sz84 by84 row84 zero84 sz86 by86 row86 shape86 zero86 sz91 by91 row91 zero91 sz93 by93 row93 zero93 parts93 field93_0 sz97 by97 row97 zero97 sz100 by100 row100 zero100 sz102 by102 row102 zero102 sz105 by105 row105 zero105 parts105 field105_0 field105_1 field105_2 sz106 by106 row106 zero106 sz108 by108 row108 zero108 parts108 field108_0 field108_1 sz109 by109 row109 shape109 zero109 parts109 sz110 by110 row110 shape110 parts110 sz112 by112 row112 parts112 field112_0 field112_1 sz126 by126 row126 shape126 zero126 sz127 by127 row127 zero127 sz134 by134 row134 zero134 sz136 by136 row136 zero136 sz140 by140 row140 zero140 sz147 by147 row147 shape147 zero147 parts147 sz148 by148 row148 shape148 zero148 parts148 sz149 by149 row149 zero149 sz153 by153 row153 zero153 bs_size gAt gAt0 sAt sAt0 optPlain rows_len noMaker_eq kindOf vlOf abin_rem abin_quo mayTurn_none lowOf_none Go.Pur.partAt rows_nil rows_cons ble_add ble_add0 ble_same toPlain toPlain.go intIn2_0 intIn2_1 ble12 ble22 tv lv max_int min_int pplains ak_true ak_false apartP beq_add beq_add0 beq_add1 argv_s wok_none wok_low_iff lowOf_wok
attribute [local simp] ble_addc
def f10_L0 (F : Nat) (l15 : List Int) (l20 : List Int) (x25 : Int) (K : Unit → Option (Bool)) : Nat → Int → Option (Bool)
  | 0, _ => none
  | n + 1, v26 => (some (decide (v26 < x25))).bind fun x27 =>
    (match x27 with
    | true => ((gI l15 v26).bind fun y28 =>
    (gI l20 v26).bind fun y29 =>
    (some (andNotI .i64 y28 y29)).bind fun x30 =>
    (some (decide (x30 = 0))).bind fun x31 =>
    (match x31 with
    | true => ((some (IntKind.i64.wrap (v26 + 1))).bind fun x32 =>
    f10_L0 F l15 l20 x25 K n x32)
    | false => (some false)))
    | false => (K ()))
def f10S (F : Nat) (p0a : Int) (p0b : Int) (p0c : Int) (p0d : Int) (p0e : Int) (p0f : Int) (p0g : Int) (p0h : Int) (p0i : Int) (p0j : Int) (p0k : Int) (p0l : Int) (p0m : Int) (p0n : Int) : Option (Bool) :=
  (madeS 4 12 p0a p0b [p0c, p0d, p0e, p0f, p0g, p0h, p0i, p0j, p0k, p0l, p0m, p0n]).bind fun x1 =>
  (some (IntKind.i64.wrap (x1.1 + 1))).bind fun x3 =>
  (onS x1.2 (fewS x1.1 x1.2, chk x1.1 x1.2)).bind fun x5 =>
  (onS x1.2 (fewS x3 x1.2, chk x3 x1.2)).bind fun x6 =>
  (onS x1.2 (refPlan false true x1.1 x1.2, chk x1.1 x1.2)).bind fun x7 =>
  (onS x1.2 (refPlan false true x3 x1.2, chk x3 x1.2)).bind fun x8 =>
  (some (decide (x5.2 = 0))).bind fun x9 =>
  (match x9 with
  | true => ((some (decide (x6.2 = 0))).bind fun x10 =>
  (match x10 with
  | true => ((some (decide (x7.2 = 0))).bind fun x11 =>
  (match x11 with
  | true => ((some (decide (x8.2 = 0))).bind fun x12 =>
  (match x12 with
  | true => ((some (decide (x5.1 < x6.1))).bind fun x13 =>
  (match x13 with
  | true => (some false)
  | false => ((f50S F x1.1 x1.2 x7.1).bind fun ((c14, l15), x16, b17) =>
  (f50S F x3 x1.2 x8.1).bind fun ((c19, l20), x21, b22) =>
  (match b17 with
  | true => ((match b22 with
  | true => ((some (decide (x16 < x21))).bind fun x24 =>
  (match x24 with
  | true => (some false)
  | false => ((some ((l15.length : Int))).bind fun x25 =>
  f10_L0 F l15 l20 x25 (fun _ =>
    (f56S F 3).bind fun (x33, (c34, l35)) =>
    (onS l35 (refPlan false false x33 l35, chk x33 l35)).bind fun x37 =>
    (f56S F 4).bind fun (x38, (c39, l40)) =>
    (onS l40 (refPlan false false x38 l40, chk x38 l40)).bind fun x42 =>
    (f50S F x33 l35 x37.1).bind fun ((c43, l44), x45, b46) =>
    (f50S F x38 l40 x42.1).bind fun ((c48, l49), x50, b51) =>
    (some (decide (x37.2 = 0))).bind fun x53 =>
    (match x53 with
    | true => ((some (decide (x42.2 = 0))).bind fun x54 =>
    (match x54 with
    | true => ((match b46 with
    | true => ((match b51 with
    | true => ((some (decide (x45 = 9))).bind fun x55 =>
    (match x55 with
    | true => ((some (decide (x50 = 10))).bind fun x56 =>
    (match x56 with
    | true => ((f18S F ).bind fun b57 =>
    some b57)
    | false => (some false)))
    | false => (some false)))
    | false => (some false)))
    | false => (some false)))
    | false => (some false)))
    | false => (some false))) F 0)))
  | false => (some false)))
  | false => (some false)))))
  | false => (some false)))
  | false => (some false)))
  | false => (some false)))
  | false => (some false))
theorem f10_is {p0a : Int} {p0b : Int} {p0c : Int} {p0d : Int} {p0e : Int} {p0f : Int} {p0g : Int} {p0h : Int} {p0i : Int} {p0j : Int} {p0k : Int} {p0l : Int} {p0m : Int} {p0n : Int} {hp : List (Option (List PV))} {F : Nat} {r : (Bool)}  (h : f10S F p0a p0b p0c p0d p0e p0f p0g p0h p0i p0j p0k p0l p0m p0n = some r) :
    E Tryd.prog Y0 10 [.a [kv .u8 p0a, kv .u8 p0b, kv .u8 p0c, kv .u8 p0d, kv .u8 p0e, kv .u8 p0f, kv .u8 p0g, kv .u8 p0h, kv .u8 p0i, kv .u8 p0j, kv .u8 p0k, kv .u8 p0l, kv .u8 p0m, kv .u8 p0n]] hp = some (.v (.bool r), hp, none) := by
  rw [E_bodyN 1 body10 rfl (by decide) rfl]
  simp only [Tryd.f10, Option.get_some]
  unfold f10S at h
  obtain ⟨x1, ex1, h⟩ := bind_ok h
  have ex1 : ∀ hp, E Tryd.prog Y0 48 [.a [kv .u8 p0a, kv .u8 p0b, kv .u8 p0c, kv .u8 p0d, kv .u8 p0e, kv .u8 p0f, kv .u8 p0g, kv .u8 p0h, kv .u8 p0i, kv .u8 p0j, kv .u8 p0k, kv .u8 p0l, kv .u8 p0m, kv .u8 p0n], iv 4, iv 12] hp = some (.a [iv x1.1, .l .fz .nz x1.2.length (x1.2.map iv)], hp, none) := fun hp => f48_is rfl ex1
  have q2 : spliceP 0 [iv x1.1, .l .fz .nz x1.2.length (x1.2.map iv)] [iv 0, .l .own .nz 0 []] = some [iv x1.1, .l .fz .nz x1.2.length (x1.2.map iv)] := rfl
  obtain ⟨x3, ex3, h⟩ := bindT h
  have q4 : spliceP 0 [iv x3, .l .fz .nz x1.2.length (x1.2.map iv)] [iv 0, .l .own .nz 0 []] = some [iv x3, .l .fz .nz x1.2.length (x1.2.map iv)] := rfl
  obtain ⟨x5, ex5, h⟩ := bind_ok h
  have ex5 : ∀ hp, E Tryd.prog Y0 33 [.a [iv x1.1, .l .fz .nz x1.2.length (x1.2.map iv)]] hp = some (.t [iv x5.1, iv x5.2], hp, none) := fun hp => f33_is ex5
  obtain ⟨x6, ex6, h⟩ := bind_ok h
  have ex6 : ∀ hp, E Tryd.prog Y0 33 [.a [iv x3, .l .fz .nz x1.2.length (x1.2.map iv)]] hp = some (.t [iv x6.1, iv x6.2], hp, none) := fun hp => f33_is ex6
  obtain ⟨x7, ex7, h⟩ := bind_ok h
  have ex7 : ∀ hp, E Tryd.prog Y0 30 [.a [iv x1.1, .l .fz .nz x1.2.length (x1.2.map iv)]] hp = some (.t [.l .fz .nz x7.1.length (x7.1.map iv), iv x7.2], hp, none) := fun hp => f30_is ex7
  obtain ⟨x8, ex8, h⟩ := bind_ok h
  have ex8 : ∀ hp, E Tryd.prog Y0 30 [.a [iv x3, .l .fz .nz x1.2.length (x1.2.map iv)]] hp = some (.t [.l .fz .nz x8.1.length (x8.1.map iv), iv x8.2], hp, none) := fun hp => f30_is ex8
  obtain ⟨x9, ex9, h⟩ := bindT h
  cases x9
  case false =>
   obtain rfl := inj_ok h
   simp [ex1, q2, ex3, q4, ex5, ex6, ex7, ex8, ex9]
  obtain ⟨x10, ex10, h⟩ := bindT h
  cases x10
  case false =>
   obtain rfl := inj_ok h
   simp [ex1, q2, ex3, q4, ex5, ex6, ex7, ex8, ex9, ex10]
  obtain ⟨x11, ex11, h⟩ := bindT h
  cases x11
  case false =>
   obtain rfl := inj_ok h
   simp [ex1, q2, ex3, q4, ex5, ex6, ex7, ex8, ex9, ex10, ex11]
  obtain ⟨x12, ex12, h⟩ := bindT h
  cases x12
  case false =>
   obtain rfl := inj_ok h
   simp [ex1, q2, ex3, q4, ex5, ex6, ex7, ex8, ex9, ex10, ex11, ex12]
  obtain ⟨x13, ex13, h⟩ := bindT h
  cases x13
  case true =>
   obtain rfl := inj_ok h
   simp [ex1, q2, ex3, q4, ex5, ex6, ex7, ex8, ex9, ex10, ex11, ex12, ex13]
  obtain ⟨⟨⟨c14, l15⟩, x16, b17⟩, e18, h⟩ := bind_ok h
  try dsimp only at h
  have e18 : ∀ hp, E Tryd.prog Y0 50 [.a [iv x1.1, .l .fz .nz x1.2.length (x1.2.map iv)], .l .fz .nz x7.1.length (x7.1.map iv)] hp = some (.t [.l .fz c14 l15.length (l15.map iv), iv x16, .v (.bool b17)], hp, none) := fun hp => f50_is (c0b := .nz) (a1 := false) (c1 := .nz) e18
  obtain ⟨⟨⟨c19, l20⟩, x21, b22⟩, e23, h⟩ := bind_ok h
  try dsimp only at h
  have e23 : ∀ hp, E Tryd.prog Y0 50 [.a [iv x3, .l .fz .nz x1.2.length (x1.2.map iv)], .l .fz .nz x8.1.length (x8.1.map iv)] hp = some (.t [.l .fz c19 l20.length (l20.map iv), iv x21, .v (.bool b22)], hp, none) := fun hp => f50_is (c0b := .nz) (a1 := false) (c1 := .nz) e23
  cases b17
  case false =>
   obtain rfl := inj_ok h
   simp [ex1, q2, ex3, q4, ex5, ex6, ex7, ex8, ex9, ex10, ex11, ex12, ex13, e18, e23]
  cases b22
  case false =>
   obtain rfl := inj_ok h
   simp [ex1, q2, ex3, q4, ex5, ex6, ex7, ex8, ex9, ex10, ex11, ex12, ex13, e18, e23]
  obtain ⟨x24, ex24, h⟩ := bindT h
  cases x24
  case true =>
   obtain rfl := inj_ok h
   simp [ex1, q2, ex3, q4, ex5, ex6, ex7, ex8, ex9, ex10, ex11, ex12, ex13, e18, e23, ex24]
  obtain ⟨x25, ex25, h⟩ := bindT h
  simp [ex1, q2, ex3, q4, ex5, ex6, ex7, ex8, ex9, ex10, ex11, ex12, ex13, e18, e23, ex24, ex25]
  have hL0 := h; clear h
  refine loopS (S := f10_L0 F l15 l20 x25) (fun v26 σ => ∃ (ts : Tr PV) (w : Option Nat), wok hp.length w ∧ σ = ⟨[], ts, hp ++ [some [kv .u8 p0a, kv .u8 p0b, kv .u8 p0c, kv .u8 p0d, kv .u8 p0e, kv .u8 p0f, kv .u8 p0g, kv .u8 p0h, kv .u8 p0i, kv .u8 p0j, kv .u8 p0k, kv .u8 p0l, kv .u8 p0m, kv .u8 p0n], some [iv x1.1, .l .fz .nz x1.2.length (x1.2.map iv)], some [iv x3, .l .fz .nz x1.2.length (x1.2.map iv)]], w⟩ ∧ ts.get 13 = some (.l .fz c14 l15.length (l15.map iv)) ∧ ts.get 16 = some (.l .fz c19 l20.length (l20.map iv)) ∧ ts.get 99 = some (iv x25) ∧ ts.get 100 = some (iv v26) ∧ True) (fun _ σ => ∃ (ts : Tr PV) (w : Option Nat), wok hp.length w ∧ σ = ⟨[], ts, hp ++ [some [kv .u8 p0a, kv .u8 p0b, kv .u8 p0c, kv .u8 p0d, kv .u8 p0e, kv .u8 p0f, kv .u8 p0g, kv .u8 p0h, kv .u8 p0i, kv .u8 p0j, kv .u8 p0k, kv .u8 p0l, kv .u8 p0m, kv .u8 p0n], some [iv x1.1, .l .fz .nz x1.2.length (x1.2.map iv)], some [iv x3, .l .fz .nz x1.2.length (x1.2.map iv)]], w⟩ ∧ True) (fun _ => rfl) hL0 ?_ ?_ ?_
  · exact ⟨_, _, by simp, rfl, by simp [ex1, q2, ex3, q4, ex5, ex6, ex7, ex8, ex9, ex10, ex11, ex12, ex13, e18, e23, ex24, ex25]⟩
  · rintro ⟨⟩ σ ⟨ts, w, hw, rfl, -⟩ h
    clear hL0
    try dsimp only at h
    obtain ⟨⟨x33, ⟨c34, l35⟩⟩, e36, h⟩ := bind_ok h
    try dsimp only at h
    have e36 : ∀ hp, E Tryd.prog Y0 56 [iv 3] hp = some (.a [iv x33, .l .fz c34 l35.length (l35.map iv)], hp, none) := fun hp => f56_is  e36
    obtain ⟨x37, ex37, h⟩ := bind_ok h
    have ex37 : ∀ hp, E Tryd.prog Y0 28 [.a [iv x33, .l .fz c34 l35.length (l35.map iv)]] hp = some (.t [.l .fz .nz x37.1.length (x37.1.map iv), iv x37.2], hp, none) := fun hp => f28_is ex37
    obtain ⟨⟨x38, ⟨c39, l40⟩⟩, e41, h⟩ := bind_ok h
    try dsimp only at h
    have e41 : ∀ hp, E Tryd.prog Y0 56 [iv 4] hp = some (.a [iv x38, .l .fz c39 l40.length (l40.map iv)], hp, none) := fun hp => f56_is  e41
    obtain ⟨x42, ex42, h⟩ := bind_ok h
    have ex42 : ∀ hp, E Tryd.prog Y0 28 [.a [iv x38, .l .fz c39 l40.length (l40.map iv)]] hp = some (.t [.l .fz .nz x42.1.length (x42.1.map iv), iv x42.2], hp, none) := fun hp => f28_is ex42
    obtain ⟨⟨⟨c43, l44⟩, x45, b46⟩, e47, h⟩ := bind_ok h
    try dsimp only at h
    have e47 : ∀ hp, E Tryd.prog Y0 50 [.a [iv x33, .l .fz c34 l35.length (l35.map iv)], .l .fz .nz x37.1.length (x37.1.map iv)] hp = some (.t [.l .fz c43 l44.length (l44.map iv), iv x45, .v (.bool b46)], hp, none) := fun hp => f50_is (c0b := c34) (a1 := false) (c1 := .nz) e47
    obtain ⟨⟨⟨c48, l49⟩, x50, b51⟩, e52, h⟩ := bind_ok h
    try dsimp only at h
    have e52 : ∀ hp, E Tryd.prog Y0 50 [.a [iv x38, .l .fz c39 l40.length (l40.map iv)], .l .fz .nz x42.1.length (x42.1.map iv)] hp = some (.t [.l .fz c48 l49.length (l49.map iv), iv x50, .v (.bool b51)], hp, none) := fun hp => f50_is (c0b := c39) (a1 := false) (c1 := .nz) e52
    obtain ⟨x53, ex53, h⟩ := bindT h
    cases x53
    case false =>
     obtain rfl := inj_ok h
     simp [e36, ex37, e41, ex42, e47, e52, ex53, hw]
    obtain ⟨x54, ex54, h⟩ := bindT h
    cases x54
    case false =>
     obtain rfl := inj_ok h
     simp [e36, ex37, e41, ex42, e47, e52, ex53, ex54, hw]
    cases b46
    case false =>
     obtain rfl := inj_ok h
     simp [e36, ex37, e41, ex42, e47, e52, ex53, ex54, hw]
    cases b51
    case false =>
     obtain rfl := inj_ok h
     simp [e36, ex37, e41, ex42, e47, e52, ex53, ex54, hw]
    obtain ⟨x55, ex55, h⟩ := bindT h
    cases x55
    case false =>
     obtain rfl := inj_ok h
     simp [e36, ex37, e41, ex42, e47, e52, ex53, ex54, ex55, hw]
    obtain ⟨x56, ex56, h⟩ := bindT h
    cases x56
    case false =>
     obtain rfl := inj_ok h
     simp [e36, ex37, e41, ex42, e47, e52, ex53, ex54, ex55, ex56, hw]
    obtain ⟨b57, e58, h⟩ := bind_ok h
    have e58 : ∀ hp, E Tryd.prog Y0 18 [] hp = some (.v (.bool b57), hp, none) := fun hp => f18_is  e58
    obtain rfl := inj_ok h
    simp [e36, ex37, e41, ex42, e47, e52, ex53, ex54, ex55, ex56, e58, hw]
  · rintro k n v26 σ ⟨ts, w, hw, rfl, g13, g16, g99, g100, -⟩ h ih ex
    clear hL0
    rw [f10_L0] at h
    obtain ⟨x27, ex27, h⟩ := bindT h
    cases x27
    case false =>
     simp [g13, g16, g99, g100, ex27]
     refine ex () _ ?_ h
     exact ⟨_, _, by simp [hw], rfl, by simp [g13, g16, g99, g100, ex27]⟩
    obtain ⟨y28, ey28, h⟩ := bind_ok h
    obtain ⟨ey28a, ey28e, ey28b, ey28c, ey28g⟩ := gI_ok rfl ey28
    obtain ⟨y29, ey29, h⟩ := bind_ok h
    obtain ⟨ey29a, ey29e, ey29b, ey29c, ey29g⟩ := gI_ok rfl ey29
    obtain ⟨x30, ex30, h⟩ := bindT h
    obtain ⟨x31, ex31, h⟩ := bindT h
    cases x31
    case false =>
     obtain rfl := inj_ok h
     simp [g13, g16, g99, g100, ex27, ey28a, ey28b, ey28c, ey29a, ey29b, ey29c, ex30, ex31, hw]
    obtain ⟨x32, ex32, h⟩ := bindT h
    simp [g13, g16, g99, g100, ex27, ey28a, ey28b, ey28c, ey29a, ey29b, ey29c, ex30, ex31, ex32]
    refine ih x32 _ ?_ h
    exact ⟨_, _, by simp [hw], rfl, by simp [g13, g16, g99, g100, ex27, ey28a, ey28b, ey28c, ey29a, ey29b, ey29c, ex30, ex31, ex32]⟩
end Go.Proofs.YtcdhajbhpnbdkaaDoor
