/-
  StandBound: the walk.
  Printed by wip/tools/walk.py. Conditions: none; definitions and lemmas.
-/
import Derived.Test.YtcdhajbhpnbdkaaDoorOut1
import Derived.Test.YtcdhajbhpnbdkaaDoorOut2
import Derived.Test.YtcdhajbhpnbdkaaDoorPurI
import Derived.Test.YtcdhajbhpnbdkaaDoorPutWalk
set_option linter.unusedSimpArgs false
set_option linter.unusedVariables false
namespace Go.Proofs.YtcdhajbhpnbdkaaDoor
open Go.Abs Go.Pur
set_option maxRecDepth 100000
set_option maxHeartbeats 2000000
attribute [local simp] EK_region EK_seq EK_cond EK_block EK_blk EK_loop EK_exit EK.ex EK_ret EK_skip EK_nil EO_cons EO_nil EO1_true EO1_false EO2_some EO3_some EB_true EB_false pwanted poper pq pev Go.Pur.look pputT isAssign drOf pinit Tr.get_set lget pvOf_int pvOf_bool pvOf_str pvOf_nil rdv_ak notOwn_ak prt_ak loose_ak rdv_own rdv_fz rdv_bor rdv_rf rdv_pt rdv_v rdv_a rdv_t rdv_r rdv_p rdv_s rdv_f pbin plen pload ppart idxAddr pcond Nat.blt goInt_eq prun_not prun_neg mayLoad ER_ret ER_normal presL presOne moved stor okDrop settle_v settle_l settle_a settle_p settle_f noref_v noref_fz noref_a norefs_nil norefs_cons pclose given dropB Y0_keep pevParts stors pvCells pvCells.go vcells pfill reps zipParts ownFz pcells cellOK one psrcLen srcFits psrc takeP pgrow take getPl setPl mapL plEq elder isList lowP pevs frzs addP partAt ble_lim24 killV_v killV_a killV_t killV_f killV_i killV_p killV_s killV_un killV_dead killV_lfz killV_lbor killV_lown killV_rfz killV_rbor killV_lak killV_rak frzV_v frzV_a frzV_t frzV_f frzV_i frzV_p frzV_s frzV_un frzV_dead frzV_lfz frzV_lbor frzV_lown frzV_rfz frzV_rbor frzV_lak frzV_rak killCell_v killCell_a killCell_t killCell_f killCell_i killCell_p killCell_s killCell_un killCell_dead killCell_lfz killCell_lbor killCell_lown killCell_rfz killCell_rbor killCell_lak killCell_rak killV_lrf killV_lpt killV_rpt frzV_lrf frzV_lpt frzV_rpt killCell_lrft killCell_lptt killCell_rptt killCell_lrfc killCell_lptc killCell_rptc argv_lak argv_rak argv_v argv_a argv_p argv_f argv_fz argv_bor argv_rf argv_pt argv_rc argv_own mayTurn_none argvs pcallOp firm refsTo_v refsTo_l refsTo_p refsTo_s refsTo_a refsTo_dead refsTo_nil refsTo_cons isOwn_lak ownFz_lak evSafe pskip plain pnewBlk fldAddr isOwn pput notOwn_fz notOwn_bor notOwn_own notOwn_rf notOwn_pt prt_fz prt_bor prt_own prt_rf prt_pt Go.Pur.freeze presM settles abin_and abin_or abin_andNot abin_mul abin_shr abin_shl abin_add abin_sub abin_eql abin_neq abin_lss abin_leq abin_gtr abin_geq keep9 sz3 by3 row3 zero3 sz4 by4 row4 zero4 sz5 by5 row5 zero5 sz9 by9 row9 shape9 zero9 sz22 by22 row22 shape22 zero22 sz24 by24 row24 zero24 parts24 field24_0 field24_1 sz27 by27 row27 zero27 parts27 field27_0 field27_1 sz28 by28 row28 zero28 sz32 by32 row32 shape32 zero32 sz46 by46 row46 shape46 zero46 sz54 by54 row54 shape54 zero54 parts54 sz56 by56 row56 zero56 parts56 field56_0 field56_1 field56_2 sz63 by63 row63 shape63 zero63 parts63 sz70 by70 row70 shape70 zero70 parts70 sz75 by75 row75 shape75 zero75 parts75 sz79 by79 row79 zero79 sz84 by84 row84 zero84 sz86 by86 row86 shape86 zero86 sz91 by91 row91 zero91 sz93 by93 row93 zero93 parts93 field93_0 sz97 by97 row97 zero97 sz100 by100 row100 zero100 sz102 by102 row102 zero102 sz105 by105 row105 zero105 parts105 field105_0 field105_1 field105_2 sz106 by106 row106 zero106 sz108 by108 row108 zero108 parts108 field108_0 field108_1 sz109 by109 row109 shape109 zero109 parts109 sz110 by110 row110 shape110 parts110 sz112 by112 row112 parts112 field112_0 field112_1 sz126 by126 row126 shape126 zero126 sz127 by127 row127 zero127 sz134 by134 row134 zero134 sz136 by136 row136 zero136 sz140 by140 row140 zero140 sz147 by147 row147 shape147 zero147 parts147 sz148 by148 row148 shape148 zero148 parts148 sz149 by149 row149 zero149 sz153 by153 row153 zero153 bs_size gAt gAt0 sAt sAt0 optPlain rows_len noMaker_eq kindOf vlOf abin_rem abin_quo mayTurn_none lowOf_none Go.Pur.partAt rows_nil rows_cons ble_add ble_add0 ble_same toPlain toPlain.go intIn2_0 intIn2_1 ble12 ble22 tv lv max_int min_int pplains ak_true ak_false apartP beq_add beq_add0 beq_add1 argv_s wok_none wok_low_iff lowOf_wok
attribute [local simp] ble_addc
def f9_L0 (F : Nat) (x1 : (Int × List Int)) (x3 : (Int × List Int × Int)) (x5 : Int) (K : Ck × List Int × Bool → Option (Bool)) : Nat → Ck × List Int × Bool × Int → Option (Bool)
  | 0, _ => none
  | n + 1, (c6, v7, b8, v9) => (some (decide (v9 < x5))).bind fun x10 =>
    (match x10 with
    | true => ((f51S F v9).bind fun (c11, l12) =>
    (f53S F x1.1 x1.2 v9).bind fun x14 =>
    (f41S F x1.1 x1.2 l12).bind fun (x16, x17) =>
    (some (decide (x17 = 0))).bind fun x19 =>
    (match x19 with
    | true => ((some (decide (x16 = x14))).bind fun x20 =>
    (match x20 with
    | true => ((some (decide (x3.1 < x14))).bind fun x21 =>
    (match x21 with
    | true => (some false)
    | false => ((some (decide (x14 = x3.1))).bind fun x22 =>
    (match x22 with
    | true => ((match b8 with
    | true => ((some ((l12.length : Int))).bind fun x23 =>
    (some ((v7.length : Int))).bind fun x24 =>
    (some (decide (x23 < x24))).bind fun x25 =>
    (match x25 with
    | true => ((some (IntKind.i64.wrap (v9 + 1))).bind fun x26 =>
    f9_L0 F x1 x3 x5 K n (c11, l12, true, x26))
    | false => ((some (decide (x23 = x24))).bind fun x27 =>
    (match x27 with
    | true => ((f54S F l12 v7).bind fun x28 =>
    (some (decide (x28 < 0))).bind fun x30 =>
    (match x30 with
    | true => ((some (IntKind.i64.wrap (v9 + 1))).bind fun x31 =>
    f9_L0 F x1 x3 x5 K n (c11, l12, true, x31))
    | false => ((some (IntKind.i64.wrap (v9 + 1))).bind fun x32 =>
    f9_L0 F x1 x3 x5 K n (c6, v7, true, x32))))
    | false => ((some (IntKind.i64.wrap (v9 + 1))).bind fun x33 =>
    f9_L0 F x1 x3 x5 K n (c6, v7, true, x33))))))
    | false => ((some (IntKind.i64.wrap (v9 + 1))).bind fun x34 =>
    f9_L0 F x1 x3 x5 K n (c11, l12, true, x34))))
    | false => ((some (IntKind.i64.wrap (v9 + 1))).bind fun x35 =>
    f9_L0 F x1 x3 x5 K n (c6, v7, b8, x35))))))
    | false => (some false)))
    | false => (some false)))
    | false => (K (c6, v7, b8)))
def f9S (F : Nat) (p0a : Int) (p0b : Int) (p0c : Int) (p0d : Int) (p0e : Int) (p0f : Int) (p0g : Int) (p0h : Int) (p0i : Int) (p0j : Int) (p0k : Int) (p0l : Int) (p0m : Int) (p0n : Int) : Option (Bool) :=
  (madeS 4 9 p0a p0b [p0c, p0d, p0e, p0f, p0g, p0h, p0i, p0j, p0k, p0l, p0m, p0n]).bind fun x1 =>
  (bruS x1.1 x1.2).bind fun x3 =>
  (some ((x1.2.length : Int))).bind fun x4 =>
  (shlO .i64 1 x4).bind fun x5 =>
  f9_L0 F x1 x3 x5 (fun (c36, v37, b38) =>
    (f43S F x1.1 x1.2).bind fun ((c39, l40), x41) =>
    (f39S F x1.1 x1.2).bind fun ((c43, l44), x45) =>
    (match b38 with
    | true => ((some (decide (x41 = 0))).bind fun x47 =>
    (match x47 with
    | true => ((some (decide (x45 = 0))).bind fun x48 =>
    (match x48 with
    | true => ((onS l40 (decide (l40 = v37))).bind fun x49 =>
    (match x49 with
    | true => ((f55S F x1.1 x1.2).bind fun (c50, l51) =>
    (f45S F l44 l51).bind fun b53 =>
    (match b53 with
    | true => ((f46S F x1.1 x1.2 x3.1 v37).bind fun x55 =>
    (some (decide (x55 = 0))).bind fun x57 =>
    (match x57 with
    | true => ((some (IntKind.i64.wrap (x3.1 + 1))).bind fun x58 =>
    (f46S F x1.1 x1.2 x58 v37).bind fun x59 =>
    (some (decide (x59 = 14))).bind fun x61 =>
    (match x61 with
    | true => ((f18S F ).bind fun b62 =>
    some b62)
    | false => (some false)))
    | false => (some false)))
    | false => (some false)))
    | false => (some false)))
    | false => (some false)))
    | false => (some false)))
    | false => (some false))) F (.nz, [], false, 0)
theorem f9_is {p0a : Int} {p0b : Int} {p0c : Int} {p0d : Int} {p0e : Int} {p0f : Int} {p0g : Int} {p0h : Int} {p0i : Int} {p0j : Int} {p0k : Int} {p0l : Int} {p0m : Int} {p0n : Int} {hp : List (Option (List PV))} {F : Nat} {r : (Bool)}  (h : f9S F p0a p0b p0c p0d p0e p0f p0g p0h p0i p0j p0k p0l p0m p0n = some r) :
    E Tryd.prog Y0 9 [.a [kv .u8 p0a, kv .u8 p0b, kv .u8 p0c, kv .u8 p0d, kv .u8 p0e, kv .u8 p0f, kv .u8 p0g, kv .u8 p0h, kv .u8 p0i, kv .u8 p0j, kv .u8 p0k, kv .u8 p0l, kv .u8 p0m, kv .u8 p0n]] hp = some (.v (.bool r), hp, none) := by
  rw [E_bodyN 1 body9 rfl (by decide) rfl]
  simp only [Tryd.f9, Option.get_some]
  unfold f9S at h
  obtain ⟨x1, ex1, h⟩ := bind_ok h
  have ex1 : ∀ hp, E Tryd.prog Y0 48 [.a [kv .u8 p0a, kv .u8 p0b, kv .u8 p0c, kv .u8 p0d, kv .u8 p0e, kv .u8 p0f, kv .u8 p0g, kv .u8 p0h, kv .u8 p0i, kv .u8 p0j, kv .u8 p0k, kv .u8 p0l, kv .u8 p0m, kv .u8 p0n], iv 4, iv 9] hp = some (.a [iv x1.1, .l .fz .nz x1.2.length (x1.2.map iv)], hp, none) := fun hp => f48_is rfl ex1
  have q2 : spliceP 0 [iv x1.1, .l .fz .nz x1.2.length (x1.2.map iv)] [iv 0, .l .own .nz 0 []] = some [iv x1.1, .l .fz .nz x1.2.length (x1.2.map iv)] := rfl
  obtain ⟨x3, ex3, h⟩ := bind_ok h
  have ex3 : ∀ hp, E Tryd.prog Y0 49 [.a [iv x1.1, .l .fz .nz x1.2.length (x1.2.map iv)]] hp = some (.t [iv x3.1, .l .fz .nz x3.2.1.length (x3.2.1.map iv), iv x3.2.2], hp, none) := fun hp => f49_is ex3
  obtain ⟨x4, ex4, h⟩ := bindT h
  obtain ⟨x5, ex5, h⟩ := bind_ok h
  obtain ⟨ex5a, ex5⟩ := shlO_ok ex5
  simp [ex1, q2, ex3, ex4, ex5, ex5a]
  have hL0 := h; clear h
  refine loopS (S := f9_L0 F x1 x3 x5) (fun (c6, v7, b8, v9) σ => ∃ (ts : Tr PV) (w : Option Nat), wok hp.length w ∧ σ = ⟨[], ts, hp ++ [some [kv .u8 p0a, kv .u8 p0b, kv .u8 p0c, kv .u8 p0d, kv .u8 p0e, kv .u8 p0f, kv .u8 p0g, kv .u8 p0h, kv .u8 p0i, kv .u8 p0j, kv .u8 p0k, kv .u8 p0l, kv .u8 p0m, kv .u8 p0n], some [iv x1.1, .l .fz .nz x1.2.length (x1.2.map iv)]], w⟩ ∧ ts.get 3 = some (.p (hp.length + 1) 0) ∧ ts.get 4 = some (iv x3.1) ∧ ts.get 7 = some (.l .own c6 v7.length (v7.map iv)) ∧ ts.get 8 = some (.v (.bool b8)) ∧ ts.get 29 = some (iv x5) ∧ ts.get 30 = some (iv v9) ∧ True) (fun (c36, v37, b38) σ => ∃ (ts : Tr PV) (w : Option Nat), wok hp.length w ∧ σ = ⟨[], ts, hp ++ [some [kv .u8 p0a, kv .u8 p0b, kv .u8 p0c, kv .u8 p0d, kv .u8 p0e, kv .u8 p0f, kv .u8 p0g, kv .u8 p0h, kv .u8 p0i, kv .u8 p0j, kv .u8 p0k, kv .u8 p0l, kv .u8 p0m, kv .u8 p0n], some [iv x1.1, .l .fz .nz x1.2.length (x1.2.map iv)]], w⟩ ∧ ts.get 3 = some (.p (hp.length + 1) 0) ∧ ts.get 4 = some (iv x3.1) ∧ ts.get 7 = some (.l .own c36 v37.length (v37.map iv)) ∧ ts.get 8 = some (.v (.bool b38)) ∧ True) (fun _ => rfl) hL0 ?_ ?_ ?_
  · exact ⟨_, _, by simp, rfl, by simp [ex1, q2, ex3, ex4, ex5, ex5a]⟩
  · rintro ⟨c36, v37, b38⟩ σ ⟨ts, w, hw, rfl, g3, g4, g7, g8, -⟩ h
    clear hL0
    try dsimp only at h
    obtain ⟨⟨⟨c39, l40⟩, x41⟩, e42, h⟩ := bind_ok h
    try dsimp only at h
    have e42 : ∀ hp, E Tryd.prog Y0 43 [.a [iv x1.1, .l .fz .nz x1.2.length (x1.2.map iv)]] hp = some (.t [.l .fz c39 l40.length (l40.map iv), iv x41], hp, none) := fun hp => f43_is (c0b := .nz) e42
    obtain ⟨⟨⟨c43, l44⟩, x45⟩, e46, h⟩ := bind_ok h
    try dsimp only at h
    have e46 : ∀ hp, E Tryd.prog Y0 39 [.a [iv x1.1, .l .fz .nz x1.2.length (x1.2.map iv)]] hp = some (.t [.l .fz c43 l44.length (rows l44), iv x45], hp, none) := fun hp => f39_is (c0b := .nz) e46
    cases b38
    case false =>
     obtain rfl := inj_ok h
     simp [g3, g4, g7, g8, e42, e46, hw]
    obtain ⟨x47, ex47, h⟩ := bindT h
    cases x47
    case false =>
     obtain rfl := inj_ok h
     simp [g3, g4, g7, g8, e42, e46, ex47, hw]
    obtain ⟨x48, ex48, h⟩ := bindT h
    cases x48
    case false =>
     obtain rfl := inj_ok h
     simp [g3, g4, g7, g8, e42, e46, ex47, ex48, hw]
    obtain ⟨x49, ex49, h⟩ := bind_ok h
    have ex49 : ∀ hp, E Tryd.prog Y0 32 [.l .fz c39 l40.length (l40.map iv), .l .bor c36 v37.length (v37.map iv)] hp = some (.v (.bool x49), hp, none) := fun hp => f32_is (a0 := false) (c0 := c39) (a1 := true) (c1 := c36) ex49
    cases x49
    case false =>
     obtain rfl := inj_ok h
     simp [g3, g4, g7, g8, e42, e46, ex47, ex48, ex49, hw]
    obtain ⟨⟨c50, l51⟩, e52, h⟩ := bind_ok h
    try dsimp only at h
    have e52 : ∀ hp, E Tryd.prog Y0 55 [.a [iv x1.1, .l .fz .nz x1.2.length (x1.2.map iv)]] hp = some (.l .own c50 l51.length (rows l51), hp, none) := fun hp => f55_is (c0b := .nz) e52
    obtain ⟨b53, e54, h⟩ := bind_ok h
    have e54 : ∀ hp, E Tryd.prog Y0 45 [.l .fz c43 l44.length (rows l44), .l .fz c50 l51.length (rows l51)] hp = some (.v (.bool b53), hp, none) := fun hp => f45_is (a0 := false) (c0 := c43) (a1 := false) (c1 := c50) e54
    cases b53
    case false =>
     obtain rfl := inj_ok h
     simp [g3, g4, g7, g8, e42, e46, ex47, ex48, ex49, e52, e54, hw]
    obtain ⟨x55, e56, h⟩ := bind_ok h
    have e56 : ∀ hp, E Tryd.prog Y0 46 [.a [iv x1.1, .l .fz .nz x1.2.length (x1.2.map iv)], iv x3.1, .l .bor c36 v37.length (v37.map iv)] hp = some (iv x55, hp, none) := fun hp => f46_is (c0b := .nz) (a2 := true) (c2 := c36) e56
    obtain ⟨x57, ex57, h⟩ := bindT h
    cases x57
    case false =>
     obtain rfl := inj_ok h
     simp [g3, g4, g7, g8, e42, e46, ex47, ex48, ex49, e52, e54, e56, ex57, hw]
    obtain ⟨x58, ex58, h⟩ := bindT h
    obtain ⟨x59, e60, h⟩ := bind_ok h
    have e60 : ∀ hp, E Tryd.prog Y0 46 [.a [iv x1.1, .l .fz .nz x1.2.length (x1.2.map iv)], iv x58, .l .bor c36 v37.length (v37.map iv)] hp = some (iv x59, hp, none) := fun hp => f46_is (c0b := .nz) (a2 := true) (c2 := c36) e60
    obtain ⟨x61, ex61, h⟩ := bindT h
    cases x61
    case false =>
     obtain rfl := inj_ok h
     simp [g3, g4, g7, g8, e42, e46, ex47, ex48, ex49, e52, e54, e56, ex57, ex58, e60, ex61, hw]
    obtain ⟨b62, e63, h⟩ := bind_ok h
    have e63 : ∀ hp, E Tryd.prog Y0 18 [] hp = some (.v (.bool b62), hp, none) := fun hp => f18_is  e63
    obtain rfl := inj_ok h
    simp [g3, g4, g7, g8, e42, e46, ex47, ex48, ex49, e52, e54, e56, ex57, ex58, e60, ex61, e63, hw]
  · rintro k n ⟨c6, v7, b8, v9⟩ σ ⟨ts, w, hw, rfl, g3, g4, g7, g8, g29, g30, -⟩ h ih ex
    clear hL0
    rw [f9_L0.eq_def] at h; dsimp only at h
    obtain ⟨x10, ex10, h⟩ := bindT h
    cases x10
    case false =>
     simp [g3, g4, g7, g8, g29, g30, ex10]
     refine ex (c6, v7, b8) _ ?_ h
     exact ⟨_, _, by simp [hw], rfl, by simp [g3, g4, g7, g8, g29, g30, ex10]⟩
    obtain ⟨⟨c11, l12⟩, e13, h⟩ := bind_ok h
    try dsimp only at h
    have e13 : ∀ hp, E Tryd.prog Y0 51 [iv v9] hp = some (.l .own c11 l12.length (l12.map iv), hp, none) := fun hp => f51_is  e13
    obtain ⟨x14, e15, h⟩ := bind_ok h
    have e15 : ∀ hp, E Tryd.prog Y0 53 [.a [iv x1.1, .l .fz .nz x1.2.length (x1.2.map iv)], iv v9] hp = some (iv x14, hp, none) := fun hp => f53_is (c0b := .nz) e15
    obtain ⟨⟨x16, x17⟩, e18, h⟩ := bind_ok h
    try dsimp only at h
    have e18 : ∀ hp, E Tryd.prog Y0 41 [.a [iv x1.1, .l .fz .nz x1.2.length (x1.2.map iv)], .l .bor c11 l12.length (l12.map iv)] hp = some (.t [iv x16, iv x17], hp, none) := fun hp => f41_is (c0b := .nz) (a1 := true) (c1 := c11) e18
    obtain ⟨x19, ex19, h⟩ := bindT h
    cases x19
    case false =>
     obtain rfl := inj_ok h
     simp [g3, g4, g7, g8, g29, g30, ex10, e13, e15, e18, ex19, hw]
    obtain ⟨x20, ex20, h⟩ := bindT h
    cases x20
    case false =>
     obtain rfl := inj_ok h
     simp [g3, g4, g7, g8, g29, g30, ex10, e13, e15, e18, ex19, ex20, hw]
    obtain ⟨x21, ex21, h⟩ := bindT h
    cases x21
    case true =>
     obtain rfl := inj_ok h
     simp [g3, g4, g7, g8, g29, g30, ex10, e13, e15, e18, ex19, ex20, ex21, hw]
    obtain ⟨x22, ex22, h⟩ := bindT h
    cases x22
    case false =>
     obtain ⟨x35, ex35, h⟩ := bindT h
     simp [g3, g4, g7, g8, g29, g30, ex10, e13, e15, e18, ex19, ex20, ex21, ex22, ex35]
     refine ih (c6, v7, b8, x35) _ ?_ h
     exact ⟨_, _, by simp [hw], rfl, by simp [g3, g4, g7, g8, g29, g30, ex10, e13, e15, e18, ex19, ex20, ex21, ex22, ex35]⟩
    cases b8
    case false =>
     obtain ⟨x34, ex34, h⟩ := bindT h
     simp [g3, g4, g7, g8, g29, g30, ex10, e13, e15, e18, ex19, ex20, ex21, ex22, ex34]
     refine ih (c11, l12, true, x34) _ ?_ h
     exact ⟨_, _, by simp [hw], rfl, by simp [g3, g4, g7, g8, g29, g30, ex10, e13, e15, e18, ex19, ex20, ex21, ex22, ex34]⟩
    obtain ⟨x23, ex23, h⟩ := bindT h
    obtain ⟨x24, ex24, h⟩ := bindT h
    obtain ⟨x25, ex25, h⟩ := bindT h
    cases x25
    case true =>
     obtain ⟨x26, ex26, h⟩ := bindT h
     simp [g3, g4, g7, g8, g29, g30, ex10, e13, e15, e18, ex19, ex20, ex21, ex22, ex23, ex24, ex25, ex26]
     refine ih (c11, l12, true, x26) _ ?_ h
     exact ⟨_, _, by simp [hw], rfl, by simp [g3, g4, g7, g8, g29, g30, ex10, e13, e15, e18, ex19, ex20, ex21, ex22, ex23, ex24, ex25, ex26]⟩
    obtain ⟨x27, ex27, h⟩ := bindT h
    cases x27
    case false =>
     obtain ⟨x33, ex33, h⟩ := bindT h
     simp [g3, g4, g7, g8, g29, g30, ex10, e13, e15, e18, ex19, ex20, ex21, ex22, ex23, ex24, ex25, ex27, ex33]
     refine ih (c6, v7, true, x33) _ ?_ h
     exact ⟨_, _, by simp [hw], rfl, by simp [g3, g4, g7, g8, g29, g30, ex10, e13, e15, e18, ex19, ex20, ex21, ex22, ex23, ex24, ex25, ex27, ex33]⟩
    obtain ⟨x28, e29, h⟩ := bind_ok h
    have e29 : ∀ hp, E Tryd.prog Y0 54 [.l .bor c11 l12.length (l12.map iv), .l .bor c6 v7.length (v7.map iv)] hp = some (iv x28, hp, none) := fun hp => f54_is (a0 := true) (c0 := c11) (a1 := true) (c1 := c6) e29
    obtain ⟨x30, ex30, h⟩ := bindT h
    cases x30
    case true =>
     obtain ⟨x31, ex31, h⟩ := bindT h
     simp [g3, g4, g7, g8, g29, g30, ex10, e13, e15, e18, ex19, ex20, ex21, ex22, ex23, ex24, ex25, ex27, e29, ex30, ex31]
     refine ih (c11, l12, true, x31) _ ?_ h
     exact ⟨_, _, by simp [hw], rfl, by simp [g3, g4, g7, g8, g29, g30, ex10, e13, e15, e18, ex19, ex20, ex21, ex22, ex23, ex24, ex25, ex27, e29, ex30, ex31]⟩
    obtain ⟨x32, ex32, h⟩ := bindT h
    simp [g3, g4, g7, g8, g29, g30, ex10, e13, e15, e18, ex19, ex20, ex21, ex22, ex23, ex24, ex25, ex27, e29, ex30, ex32]
    refine ih (c6, v7, true, x32) _ ?_ h
    exact ⟨_, _, by simp [hw], rfl, by simp [g3, g4, g7, g8, g29, g30, ex10, e13, e15, e18, ex19, ex20, ex21, ex22, ex23, ex24, ex25, ex27, e29, ex30, ex32]⟩
end Go.Proofs.YtcdhajbhpnbdkaaDoor
