/-
  choose, plans
  Printed by wip/tools/walk.py. Conditions: none; definitions and lemmas.
-/
import Derived.Test.YtcdhajbhpnbdkaaDoorBounds1
set_option linter.unusedSimpArgs false
set_option linter.unusedVariables false
namespace Go.Proofs.YtcdhajbhpnbdkaaDoor
open Go.Abs Go.Pur
set_option maxRecDepth 100000
set_option maxHeartbeats 2000000
attribute [local simp] EK_region EK_seq EK_cond EK_block EK_blk EK_loop EK_exit EK.ex EK_ret EK_skip EK_nil EO_cons EO_nil EO1_true EO1_false EO2_some EO3_some EB_true EB_false pwanted poper pq pev Go.Pur.look pputT isAssign drOf pinit Tr.get_set lget pvOf_int pvOf_bool pvOf_str pvOf_nil rdv_ak notOwn_ak prt_ak loose_ak rdv_own rdv_fz rdv_bor rdv_rf rdv_pt rdv_v rdv_a rdv_t rdv_r rdv_p rdv_s rdv_f pbin plen pload ppart idxAddr pcond Nat.blt goInt_eq prun_not prun_neg mayLoad ER_ret ER_normal presL presOne moved stor okDrop settle_v settle_l settle_a settle_p settle_f noref_v noref_fz noref_a norefs_nil norefs_cons pclose given dropB Y0_keep pevParts stors pvCells pvCells.go vcells pfill reps zipParts ownFz pcells cellOK one psrcLen srcFits psrc takeP pgrow take getPl setPl mapL plEq elder isList lowP pevs frzs addP partAt ble_lim24 killV_v killV_a killV_t killV_f killV_i killV_p killV_s killV_un killV_dead killV_lfz killV_lbor killV_lown killV_rfz killV_rbor killV_lak killV_rak frzV_v frzV_a frzV_t frzV_f frzV_i frzV_p frzV_s frzV_un frzV_dead frzV_lfz frzV_lbor frzV_lown frzV_rfz frzV_rbor frzV_lak frzV_rak killCell_v killCell_a killCell_t killCell_f killCell_i killCell_p killCell_s killCell_un killCell_dead killCell_lfz killCell_lbor killCell_lown killCell_rfz killCell_rbor killCell_lak killCell_rak killV_lrf killV_lpt killV_rpt frzV_lrf frzV_lpt frzV_rpt killCell_lrft killCell_lptt killCell_rptt killCell_lrfc killCell_lptc killCell_rptc argv_lak argv_rak argv_v argv_a argv_p argv_f argv_fz argv_bor argv_rf argv_pt argv_rc argv_own mayTurn_none argvs pcallOp firm refsTo_v refsTo_l refsTo_p refsTo_s refsTo_a refsTo_dead refsTo_nil refsTo_cons isOwn_lak ownFz_lak evSafe pskip plain pnewBlk fldAddr isOwn pput notOwn_fz notOwn_bor notOwn_own notOwn_rf notOwn_pt prt_fz prt_bor prt_own prt_rf prt_pt Go.Pur.freeze presM settles abin_and abin_or abin_andNot abin_mul abin_shr abin_shl abin_add abin_sub abin_eql abin_neq abin_lss abin_leq abin_gtr abin_geq keep83 keep101 sz3 by3 row3 zero3 sz4 by4 row4 zero4 sz5 by5 row5 zero5 sz9 by9 row9 shape9 zero9 sz22 by22 row22 shape22 zero22 sz24 by24 row24 zero24 parts24 field24_0 field24_1 sz27 by27 row27 zero27 parts27 field27_0 field27_1 sz28 by28 row28 zero28 sz32 by32 row32 shape32 zero32 sz46 by46 row46 shape46 zero46 sz54 by54 row54 shape54 zero54 parts54 sz56 by56 row56 zero56 parts56 field56_0 field56_1 field56_2 sz63 by63 row63 shape63 zero63 parts63 sz70 by70 row70 shape70 zero70 parts70 sz75 by75 row75 shape75 zero75 parts75 sz79 by79 row79 zero79 sz84 by84 row84 zero84 sz86 by86 row86 shape86 zero86 sz91 by91 row91 zero91 sz93 by93 row93 zero93 parts93 field93_0 sz97 by97 row97 zero97 sz100 by100 row100 zero100 sz102 by102 row102 zero102 sz105 by105 row105 zero105 parts105 field105_0 field105_1 field105_2 sz106 by106 row106 zero106 sz108 by108 row108 zero108 parts108 field108_0 field108_1 sz109 by109 row109 shape109 zero109 parts109 sz110 by110 row110 shape110 parts110 sz112 by112 row112 parts112 field112_0 field112_1 sz126 by126 row126 shape126 zero126 sz127 by127 row127 zero127 sz134 by134 row134 zero134 sz136 by136 row136 zero136 sz140 by140 row140 zero140 sz147 by147 row147 shape147 zero147 parts147 sz148 by148 row148 shape148 zero148 parts148 sz149 by149 row149 zero149 sz153 by153 row153 zero153 bs_size gAt gAt0 sAt sAt0 optPlain rows_len noMaker_eq kindOf vlOf abin_rem abin_quo mayTurn_none lowOf_none Go.Pur.partAt rows_nil rows_cons ble_add ble_add0 ble_same toPlain toPlain.go intIn2_0 intIn2_1 ble12 ble22 tv lv max_int min_int pplains ak_true ak_false apartP beq_add beq_add0 beq_add1 argv_s wok_none wok_low_iff lowOf_wok
attribute [local simp] ble_addc
def f101_L0 (F : Nat) (R : Int → Int → Ck → List Int → Option ((Ck × List (Ck × List Int)))) (p0 : Int) (p1 : Int) (p2 : List Int) (K : List (Ck × List Int) → Option ((Ck × List (Ck × List Int)))) : Nat → List (Ck × List Int) × Int → Option ((Ck × List (Ck × List Int)))
  | 0, _ => none
  | n + 1, (v7, v8) => (some (IntKind.i64.wrap (p0 - p1))).bind fun x9 =>
    (some ((p2.length : Int))).bind fun x10 =>
    (some (IntKind.i64.wrap (x9 + x10))).bind fun x11 =>
    (some (decide (v8 ≤ x11))).bind fun x12 =>
    (match x12 with
    | true => ((some (p2.isEmpty)).bind fun x13 =>
    (match x13 with
    | true => ((R p0 p1 .nz [v8]).bind fun (c14, l15) =>
    (appL v7 l15).bind fun x17 =>
    (some (IntKind.i64.wrap (v8 + 1))).bind fun x18 =>
    f101_L0 F R p0 p1 p2 K n (x17, x18))
    | false => ((neL p2).bind fun x19 =>
    (app1 p2 v8).bind fun x20 =>
    (R p0 p1 .nz x20).bind fun (c21, l22) =>
    (appL v7 l22).bind fun x24 =>
    (some (IntKind.i64.wrap (v8 + 1))).bind fun x25 =>
    f101_L0 F R p0 p1 p2 K n (x24, x25))))
    | false => (K v7))
def f101_L1 (F : Nat) (R : Int → Int → Ck → List Int → Option ((Ck × List (Ck × List Int)))) (p0 : Int) (p1 : Int) (p2 : List Int) (K : List (Ck × List Int) → Option ((Ck × List (Ck × List Int)))) : Nat → List (Ck × List Int) × Int → Option ((Ck × List (Ck × List Int)))
  | 0, _ => none
  | n + 1, (v27, v28) => (some (IntKind.i64.wrap (p0 - p1))).bind fun x29 =>
    (some ((p2.length : Int))).bind fun x30 =>
    (some (IntKind.i64.wrap (x29 + x30))).bind fun x31 =>
    (some (decide (v28 ≤ x31))).bind fun x32 =>
    (match x32 with
    | true => ((some (p2.isEmpty)).bind fun x33 =>
    (match x33 with
    | true => ((R p0 p1 .nz [v28]).bind fun (c34, l35) =>
    (appL v27 l35).bind fun x37 =>
    (some (IntKind.i64.wrap (v28 + 1))).bind fun x38 =>
    f101_L1 F R p0 p1 p2 K n (x37, x38))
    | false => ((neL p2).bind fun x39 =>
    (app1 p2 v28).bind fun x40 =>
    (R p0 p1 .nz x40).bind fun (c41, l42) =>
    (appL v27 l42).bind fun x44 =>
    (some (IntKind.i64.wrap (v28 + 1))).bind fun x45 =>
    f101_L1 F R p0 p1 p2 K n (x44, x45))))
    | false => (K v27))
def f101S (F : Nat) : Nat → Int → Int → Ck → List Int → Option ((Ck × List (Ck × List Int)))
  | 0, _, _, _, _ => none
  | D + 1, p0, p1, c2, p2 =>
    (some ((p2.length : Int))).bind fun x1 =>
    (some (decide (x1 = p1))).bind fun x2 =>
    (match x2 with
    | true => (some (.full, [(c2, p2)]))
    | false => ((some (decide (0 < x1))).bind fun x3 =>
    (match x3 with
    | true => ((some (IntKind.i64.wrap (x1 - 1))).bind fun x4 =>
    (gI p2 x4).bind fun y5 =>
    (some (IntKind.i64.wrap (y5 + 1))).bind fun x6 =>
    f101_L0 F (f101S F D) p0 p1 p2 (fun v26 =>
      some (.nz, v26)) F ([], x6))
    | false => (f101_L1 F (f101S F D) p0 p1 p2 (fun v46 =>
      some (.nz, v46)) F ([], 0)))))
theorem f101_is {F D : Nat} {p0 : Int} {p1 : Int} {c2 : Ck} {p2 : List Int} {hp : List (Option (List PV))} {r : ((Ck × List (Ck × List Int)))} (h : f101S F D p0 p1 c2 p2 = some r) :
    E Tryd.prog Y0 101 [iv p0, iv p1, .l .fz c2 p2.length (p2.map iv)] hp = some (.l (vlOf r.1) r.1 r.2.length (r.2.map lv), hp, none) := by
  induction D generalizing p0 p1 c2 p2 hp r with
  | zero => cases h
  | succ D ihD =>
  rw [E_bodyN 3 body101 rfl (by decide) rfl]
  simp only [Tryd.f101, Option.get_some]
  rw [f101S] at h
  replace h := bindT h; obtain ⟨x1, ex1, h⟩ := h
  replace h := bindT h; obtain ⟨x2, ex2, h⟩ := h
  cases x2
  case true =>
   obtain rfl := inj_ok h
   simp [ex1, ex2]
  replace h := bindT h; obtain ⟨x3, ex3, h⟩ := h
  cases x3
  case false =>
   simp [ex1, ex2, ex3]
   have hL1 := h; clear h
   refine loopS (S := f101_L1 F (f101S F D) p0 p1 p2) (fun (v27, v28) σ => ∃ (ts : Tr PV) (w : Option Nat), wok hp.length w ∧ σ = ⟨[], ts, hp, w⟩ ∧ ts.get 0 = some (iv p0) ∧ ts.get 1 = some (iv p1) ∧ ts.get 2 = some (.l .fz c2 p2.length (p2.map iv)) ∧ ts.get 8 = some (.l .own .nz v27.length (v27.map lv)) ∧ ts.get 9 = some (iv v28) ∧ True) (fun v46 σ => ∃ (ts : Tr PV) (w : Option Nat), wok hp.length w ∧ σ = ⟨[], ts, hp, w⟩ ∧ ts.get 8 = some (.l .own .nz v46.length (v46.map lv)) ∧ True) (fun _ => rfl) hL1 ?_ ?_ ?_
   · exact ⟨_, _, by simp, rfl, by simp [ex1, ex2, ex3]⟩
   · rintro v46 σ ⟨ts, w, hw, rfl, g8, -⟩ h
     clear hL1
     try dsimp only at h
     obtain rfl := inj_ok h
     simp [g8, hw]
   · rintro k n ⟨v27, v28⟩ σ ⟨ts, w, hw, rfl, g0, g1, g2, g8, g9, -⟩ h ih ex
     clear hL1
     rw [f101_L1] at h
     replace h := bindT h; obtain ⟨x29, ex29, h⟩ := h
     replace h := bindT h; obtain ⟨x30, ex30, h⟩ := h
     replace h := bindT h; obtain ⟨x31, ex31, h⟩ := h
     replace h := bindT h; obtain ⟨x32, ex32, h⟩ := h
     cases x32
     case false =>
      simp [g0, g1, g2, g8, g9, ex29, ex30, ex31, ex32]
      refine ex v27 _ ?_ h
      exact ⟨_, _, by simp [hw], rfl, by simp [g0, g1, g2, g8, g9, ex29, ex30, ex31, ex32]⟩
     replace h := bindT h; obtain ⟨x33, ex33, h⟩ := h
     cases x33
     case true =>
      obtain rfl := List.isEmpty_iff.1 ex33
      obtain rfl : (0 : Int) = x30 := ex30
      try simp only [Int.add_zero, Int.sub_zero] at ex31
      have lim10 : Nat.ble 10 limit = true := ble_true (by unfold limit; omega)
      replace h := bind_ok h; obtain ⟨⟨c34, l35⟩, e36, h⟩ := h
      try dsimp only at h
      have e36 : ∀ hp, E Tryd.prog Y0 101 [iv p0, iv p1, .l .fz .nz 1 [iv v28]] hp = some (.l (vlOf c34) c34 l35.length (l35.map lv), hp, none) := fun hp => ihD (c2 := .nz) e36
      cases c34 with
      | full =>
        replace h := bind_ok h; obtain ⟨x37, ex37, h⟩ := h
        obtain ⟨ex37a, ex37b, ex37c, ex37d, ex37f, ex37q⟩ := appL_ok lv ex37
        have ex37c := ex37c 26 (by decide)
        replace h := bindT h; obtain ⟨x38, ex38, h⟩ := h
        simp [g0, g1, g2, g8, g9, ex29, ex31, ex32, lim10, e36, ex37a, ex37b, ex37c, ex37d, ex37f, ex38]
        refine ih (x37, x38) _ ?_ h
        exact ⟨_, _, by simp [hw], rfl, by simp [g0, g1, g2, g8, g9, ex29, ex31, ex32, lim10, e36, ex37a, ex37b, ex37c, ex37d, ex37f, ex38]⟩
      | nz =>
        replace h := bind_ok h; obtain ⟨x37, ex37, h⟩ := h
        obtain ⟨ex37a, ex37b, ex37c, ex37d, ex37f, ex37q⟩ := appL_ok lv ex37
        have ex37c := ex37c 26 (by decide)
        replace h := bindT h; obtain ⟨x38, ex38, h⟩ := h
        simp [g0, g1, g2, g8, g9, ex29, ex31, ex32, lim10, e36, ex37a, ex37b, ex37c, ex37d, ex37f, ex38]
        refine ih (x37, x38) _ ?_ h
        exact ⟨_, _, by simp [hw], rfl, by simp [g0, g1, g2, g8, g9, ex29, ex31, ex32, lim10, e36, ex37a, ex37b, ex37c, ex37d, ex37f, ex38]⟩
      | any =>
        replace h := bind_ok h; obtain ⟨x37, ex37, h⟩ := h
        obtain ⟨ex37a, ex37b, ex37c, ex37d, ex37f, ex37q⟩ := appL_ok lv ex37
        have ex37c := ex37c 26 (by decide)
        replace h := bindT h; obtain ⟨x38, ex38, h⟩ := h
        simp [g0, g1, g2, g8, g9, ex29, ex31, ex32, lim10, e36, ex37a, ex37b, ex37c, ex37d, ex37f, ex38]
        refine ih (x37, x38) _ ?_ h
        exact ⟨_, _, by simp [hw], rfl, by simp [g0, g1, g2, g8, g9, ex29, ex31, ex32, lim10, e36, ex37a, ex37b, ex37c, ex37d, ex37f, ex38]⟩
     replace h := bind_ok h; obtain ⟨x39, ex39, h⟩ := h
     obtain ⟨ex39a, ex39c, ex39f⟩ := neL_ok iv ex39
     have ex39c := ex39c 10 (by decide)
     replace h := bind_ok h; obtain ⟨x40, ex40, h⟩ := h
     obtain ⟨ex40a, ex40b, ex40c, ex40q⟩ := app1_ok iv ex40
     have ex40b := ex40b 10 (by decide)
     replace h := bind_ok h; obtain ⟨⟨c41, l42⟩, e43, h⟩ := h
     try dsimp only at h
     have e43 : ∀ hp, E Tryd.prog Y0 101 [iv p0, iv p1, .l .fz .nz x40.length (x40.map iv)] hp = some (.l (vlOf c41) c41 l42.length (l42.map lv), hp, none) := fun hp => ihD (c2 := .nz) e43
     cases c41 with
     | full =>
       replace h := bind_ok h; obtain ⟨x44, ex44, h⟩ := h
       obtain ⟨ex44a, ex44b, ex44c, ex44d, ex44f, ex44q⟩ := appL_ok lv ex44
       have ex44c := ex44c 26 (by decide)
       replace h := bindT h; obtain ⟨x45, ex45, h⟩ := h
       simp [g0, g1, g2, g8, g9, ex29, ex30, ex31, ex32, ex33, ex39a, ex39c, ex39f, ex40a, ex40b, ex40c, e43, ex44a, ex44b, ex44c, ex44d, ex44f, ex45]
       refine ih (x44, x45) _ ?_ h
       exact ⟨_, _, by simp [hw], rfl, by simp [g0, g1, g2, g8, g9, ex29, ex30, ex31, ex32, ex33, ex39a, ex39c, ex39f, ex40a, ex40b, ex40c, e43, ex44a, ex44b, ex44c, ex44d, ex44f, ex45]⟩
     | nz =>
       replace h := bind_ok h; obtain ⟨x44, ex44, h⟩ := h
       obtain ⟨ex44a, ex44b, ex44c, ex44d, ex44f, ex44q⟩ := appL_ok lv ex44
       have ex44c := ex44c 26 (by decide)
       replace h := bindT h; obtain ⟨x45, ex45, h⟩ := h
       simp [g0, g1, g2, g8, g9, ex29, ex30, ex31, ex32, ex33, ex39a, ex39c, ex39f, ex40a, ex40b, ex40c, e43, ex44a, ex44b, ex44c, ex44d, ex44f, ex45]
       refine ih (x44, x45) _ ?_ h
       exact ⟨_, _, by simp [hw], rfl, by simp [g0, g1, g2, g8, g9, ex29, ex30, ex31, ex32, ex33, ex39a, ex39c, ex39f, ex40a, ex40b, ex40c, e43, ex44a, ex44b, ex44c, ex44d, ex44f, ex45]⟩
     | any =>
       replace h := bind_ok h; obtain ⟨x44, ex44, h⟩ := h
       obtain ⟨ex44a, ex44b, ex44c, ex44d, ex44f, ex44q⟩ := appL_ok lv ex44
       have ex44c := ex44c 26 (by decide)
       replace h := bindT h; obtain ⟨x45, ex45, h⟩ := h
       simp [g0, g1, g2, g8, g9, ex29, ex30, ex31, ex32, ex33, ex39a, ex39c, ex39f, ex40a, ex40b, ex40c, e43, ex44a, ex44b, ex44c, ex44d, ex44f, ex45]
       refine ih (x44, x45) _ ?_ h
       exact ⟨_, _, by simp [hw], rfl, by simp [g0, g1, g2, g8, g9, ex29, ex30, ex31, ex32, ex33, ex39a, ex39c, ex39f, ex40a, ex40b, ex40c, e43, ex44a, ex44b, ex44c, ex44d, ex44f, ex45]⟩
  replace h := bindT h; obtain ⟨x4, ex4, h⟩ := h
  replace h := bind_ok h; obtain ⟨y5, ey5, h⟩ := h
  obtain ⟨ey5a, ey5e, ey5b, ey5c, ey5g⟩ := gI_ok rfl ey5
  replace h := bindT h; obtain ⟨x6, ex6, h⟩ := h
  simp [ex1, ex2, ex3, ex4, ey5a, ey5b, ey5c, ex6]
  have hL0 := h; clear h
  refine loopS (S := f101_L0 F (f101S F D) p0 p1 p2) (fun (v7, v8) σ => ∃ (ts : Tr PV) (w : Option Nat), wok hp.length w ∧ σ = ⟨[], ts, hp, w⟩ ∧ ts.get 0 = some (iv p0) ∧ ts.get 1 = some (iv p1) ∧ ts.get 2 = some (.l .fz c2 p2.length (p2.map iv)) ∧ ts.get 8 = some (.l .own .nz v7.length (v7.map lv)) ∧ ts.get 9 = some (iv v8) ∧ True) (fun v26 σ => ∃ (ts : Tr PV) (w : Option Nat), wok hp.length w ∧ σ = ⟨[], ts, hp, w⟩ ∧ ts.get 8 = some (.l .own .nz v26.length (v26.map lv)) ∧ True) (fun _ => rfl) hL0 ?_ ?_ ?_
  · exact ⟨_, _, by simp, rfl, by simp [ex1, ex2, ex3, ex4, ey5a, ey5b, ey5c, ex6]⟩
  · rintro v26 σ ⟨ts, w, hw, rfl, g8, -⟩ h
    clear hL0
    try dsimp only at h
    obtain rfl := inj_ok h
    simp [g8, hw]
  · rintro k n ⟨v7, v8⟩ σ ⟨ts, w, hw, rfl, g0, g1, g2, g8, g9, -⟩ h ih ex
    clear hL0
    rw [f101_L0] at h
    replace h := bindT h; obtain ⟨x9, ex9, h⟩ := h
    replace h := bindT h; obtain ⟨x10, ex10, h⟩ := h
    replace h := bindT h; obtain ⟨x11, ex11, h⟩ := h
    replace h := bindT h; obtain ⟨x12, ex12, h⟩ := h
    cases x12
    case false =>
     simp [g0, g1, g2, g8, g9, ex9, ex10, ex11, ex12]
     refine ex v7 _ ?_ h
     exact ⟨_, _, by simp [hw], rfl, by simp [g0, g1, g2, g8, g9, ex9, ex10, ex11, ex12]⟩
    replace h := bindT h; obtain ⟨x13, ex13, h⟩ := h
    cases x13
    case true =>
     obtain rfl := List.isEmpty_iff.1 ex13
     obtain rfl : (0 : Int) = x10 := ex10
     try simp only [Int.add_zero, Int.sub_zero] at ex11
     have lim10 : Nat.ble 10 limit = true := ble_true (by unfold limit; omega)
     replace h := bind_ok h; obtain ⟨⟨c14, l15⟩, e16, h⟩ := h
     try dsimp only at h
     have e16 : ∀ hp, E Tryd.prog Y0 101 [iv p0, iv p1, .l .fz .nz 1 [iv v8]] hp = some (.l (vlOf c14) c14 l15.length (l15.map lv), hp, none) := fun hp => ihD (c2 := .nz) e16
     cases c14 with
     | full =>
       replace h := bind_ok h; obtain ⟨x17, ex17, h⟩ := h
       obtain ⟨ex17a, ex17b, ex17c, ex17d, ex17f, ex17q⟩ := appL_ok lv ex17
       have ex17c := ex17c 26 (by decide)
       replace h := bindT h; obtain ⟨x18, ex18, h⟩ := h
       simp [g0, g1, g2, g8, g9, ex9, ex11, ex12, lim10, e16, ex17a, ex17b, ex17c, ex17d, ex17f, ex18]
       refine ih (x17, x18) _ ?_ h
       exact ⟨_, _, by simp [hw], rfl, by simp [g0, g1, g2, g8, g9, ex9, ex11, ex12, lim10, e16, ex17a, ex17b, ex17c, ex17d, ex17f, ex18]⟩
     | nz =>
       replace h := bind_ok h; obtain ⟨x17, ex17, h⟩ := h
       obtain ⟨ex17a, ex17b, ex17c, ex17d, ex17f, ex17q⟩ := appL_ok lv ex17
       have ex17c := ex17c 26 (by decide)
       replace h := bindT h; obtain ⟨x18, ex18, h⟩ := h
       simp [g0, g1, g2, g8, g9, ex9, ex11, ex12, lim10, e16, ex17a, ex17b, ex17c, ex17d, ex17f, ex18]
       refine ih (x17, x18) _ ?_ h
       exact ⟨_, _, by simp [hw], rfl, by simp [g0, g1, g2, g8, g9, ex9, ex11, ex12, lim10, e16, ex17a, ex17b, ex17c, ex17d, ex17f, ex18]⟩
     | any =>
       replace h := bind_ok h; obtain ⟨x17, ex17, h⟩ := h
       obtain ⟨ex17a, ex17b, ex17c, ex17d, ex17f, ex17q⟩ := appL_ok lv ex17
       have ex17c := ex17c 26 (by decide)
       replace h := bindT h; obtain ⟨x18, ex18, h⟩ := h
       simp [g0, g1, g2, g8, g9, ex9, ex11, ex12, lim10, e16, ex17a, ex17b, ex17c, ex17d, ex17f, ex18]
       refine ih (x17, x18) _ ?_ h
       exact ⟨_, _, by simp [hw], rfl, by simp [g0, g1, g2, g8, g9, ex9, ex11, ex12, lim10, e16, ex17a, ex17b, ex17c, ex17d, ex17f, ex18]⟩
    replace h := bind_ok h; obtain ⟨x19, ex19, h⟩ := h
    obtain ⟨ex19a, ex19c, ex19f⟩ := neL_ok iv ex19
    have ex19c := ex19c 10 (by decide)
    replace h := bind_ok h; obtain ⟨x20, ex20, h⟩ := h
    obtain ⟨ex20a, ex20b, ex20c, ex20q⟩ := app1_ok iv ex20
    have ex20b := ex20b 10 (by decide)
    replace h := bind_ok h; obtain ⟨⟨c21, l22⟩, e23, h⟩ := h
    try dsimp only at h
    have e23 : ∀ hp, E Tryd.prog Y0 101 [iv p0, iv p1, .l .fz .nz x20.length (x20.map iv)] hp = some (.l (vlOf c21) c21 l22.length (l22.map lv), hp, none) := fun hp => ihD (c2 := .nz) e23
    cases c21 with
    | full =>
      replace h := bind_ok h; obtain ⟨x24, ex24, h⟩ := h
      obtain ⟨ex24a, ex24b, ex24c, ex24d, ex24f, ex24q⟩ := appL_ok lv ex24
      have ex24c := ex24c 26 (by decide)
      replace h := bindT h; obtain ⟨x25, ex25, h⟩ := h
      simp [g0, g1, g2, g8, g9, ex9, ex10, ex11, ex12, ex13, ex19a, ex19c, ex19f, ex20a, ex20b, ex20c, e23, ex24a, ex24b, ex24c, ex24d, ex24f, ex25]
      refine ih (x24, x25) _ ?_ h
      exact ⟨_, _, by simp [hw], rfl, by simp [g0, g1, g2, g8, g9, ex9, ex10, ex11, ex12, ex13, ex19a, ex19c, ex19f, ex20a, ex20b, ex20c, e23, ex24a, ex24b, ex24c, ex24d, ex24f, ex25]⟩
    | nz =>
      replace h := bind_ok h; obtain ⟨x24, ex24, h⟩ := h
      obtain ⟨ex24a, ex24b, ex24c, ex24d, ex24f, ex24q⟩ := appL_ok lv ex24
      have ex24c := ex24c 26 (by decide)
      replace h := bindT h; obtain ⟨x25, ex25, h⟩ := h
      simp [g0, g1, g2, g8, g9, ex9, ex10, ex11, ex12, ex13, ex19a, ex19c, ex19f, ex20a, ex20b, ex20c, e23, ex24a, ex24b, ex24c, ex24d, ex24f, ex25]
      refine ih (x24, x25) _ ?_ h
      exact ⟨_, _, by simp [hw], rfl, by simp [g0, g1, g2, g8, g9, ex9, ex10, ex11, ex12, ex13, ex19a, ex19c, ex19f, ex20a, ex20b, ex20c, e23, ex24a, ex24b, ex24c, ex24d, ex24f, ex25]⟩
    | any =>
      replace h := bind_ok h; obtain ⟨x24, ex24, h⟩ := h
      obtain ⟨ex24a, ex24b, ex24c, ex24d, ex24f, ex24q⟩ := appL_ok lv ex24
      have ex24c := ex24c 26 (by decide)
      replace h := bindT h; obtain ⟨x25, ex25, h⟩ := h
      simp [g0, g1, g2, g8, g9, ex9, ex10, ex11, ex12, ex13, ex19a, ex19c, ex19f, ex20a, ex20b, ex20c, e23, ex24a, ex24b, ex24c, ex24d, ex24f, ex25]
      refine ih (x24, x25) _ ?_ h
      exact ⟨_, _, by simp [hw], rfl, by simp [g0, g1, g2, g8, g9, ex9, ex10, ex11, ex12, ex13, ex19a, ex19c, ex19f, ex20a, ex20b, ex20c, e23, ex24a, ex24b, ex24c, ex24d, ex24f, ex25]⟩
def f83_L0 (F : Nat) (R : Int → List Int → Ck → List Int → List Int → Int → Option ((Ck × List (Ck × List Int)))) (p0a : Int) (p0b : List Int) (p1 : List Int) (p2 : List Int) (p3 : Int) (y5 : Int) (K : List (Ck × List Int) → Option ((Ck × List (Ck × List Int)))) : Nat → List (Ck × List Int) × Int → Option ((Ck × List (Ck × List Int)))
  | 0, _ => none
  | n + 1, (v27, v28) => (some (decide (v28 < 6))).bind fun x29 =>
    (match x29 with
    | true => ((onS p2 (decide (v28 ∈ p2))).bind fun x30 =>
    (match x30 with
    | true => ((neL p1).bind fun x31 =>
    (app1 p1 v28).bind fun x32 =>
    (onS p2 (wo p2 v28)).bind fun x33 =>
    (onS x33 (wo x33 y5 ++ [y5])).bind fun x34 =>
    (some (IntKind.i64.wrap (p3 - 1))).bind fun x35 =>
    (R p0a p0b .nz x32 x34 x35).bind fun (c36, l37) =>
    (some (l37.isEmpty)).bind fun x39 =>
    (match x39 with
    | true => ((some (IntKind.i64.wrap (v28 + 1))).bind fun x40 =>
    f83_L0 F R p0a p0b p1 p2 p3 y5 K n (v27, x40))
    | false => ((appL v27 l37).bind fun x41 =>
    (some (IntKind.i64.wrap (v28 + 1))).bind fun x42 =>
    f83_L0 F R p0a p0b p1 p2 p3 y5 K n (x41, x42))))
    | false => ((some (IntKind.i64.wrap (v28 + 1))).bind fun x43 =>
    f83_L0 F R p0a p0b p1 p2 p3 y5 K n (v27, x43))))
    | false => (K v27))
def f83S (F : Nat) : Nat → Int → List Int → Ck → List Int → List Int → Int → Option ((Ck × List (Ck × List Int)))
  | 0, _, _, _, _, _, _ => none
  | D + 1, p0a, p0b, c1, p1, p2, p3 =>
    (some ((p1.length : Int))).bind fun x1 =>
    (some (decide (p3 < 0))).bind fun x2 =>
    (match x2 with
    | true => (some (.nz, []))
    | false => ((some ((p0b.length : Int))).bind fun x3 =>
    (some (decide (x1 = x3))).bind fun x4 =>
    (match x4 with
    | true => (some (.full, [(c1, p1)]))
    | false => ((gI p0b x1).bind fun y5 =>
    (onS p2 (decide (y5 ∈ p2))).bind fun x6 =>
    (match x6 with
    | true => ((neL p1).bind fun x7 =>
    (app1 p1 (-1)).bind fun x8 =>
    (f83S F D p0a p0b .nz x8 p2 p3).bind fun (c9, l10) =>
    some (c9, l10))
    | false => ((some ((p2.length : Int))).bind fun x12 =>
    (some (decide (x12 < p0a))).bind fun x13 =>
    (match x13 with
    | true => ((some (p1.isEmpty)).bind fun x14 =>
    (match x14 with
    | true => ((onS p2 (wo p2 y5 ++ [y5])).bind fun x15 =>
    (some (IntKind.i64.wrap (p3 - 1))).bind fun x16 =>
    (f83S F D p0a p0b .nz [(-1)] x15 x16).bind fun (c17, l18) =>
    some (c17, l18))
    | false => ((neL p1).bind fun x20 =>
    (app1 p1 (-1)).bind fun x21 =>
    (onS p2 (wo p2 y5 ++ [y5])).bind fun x22 =>
    (some (IntKind.i64.wrap (p3 - 1))).bind fun x23 =>
    (f83S F D p0a p0b .nz x21 x22 x23).bind fun (c24, l25) =>
    some (c24, l25))))
    | false => (f83_L0 F (f83S F D) p0a p0b p1 p2 p3 y5 (fun v44 =>
      some (.nz, v44)) F ([], 0)))))))))
theorem f83_is {F D : Nat} {p0a : Int} {c0b : Ck} {p0b : List Int} {c1 : Ck} {p1 : List Int} {a2 : Bool} {c2 : Ck} {p2 : List Int} {p3 : Int} {hp : List (Option (List PV))} {r : ((Ck × List (Ck × List Int)))} (h : f83S F D p0a p0b c1 p1 p2 p3 = some r) :
    E Tryd.prog Y0 83 [.a [iv p0a, .l .fz c0b p0b.length (p0b.map iv)], .l .fz c1 p1.length (p1.map iv), .l (ak a2) c2 p2.length (p2.map iv), iv p3] hp = some (.l (vlOf r.1) r.1 r.2.length (r.2.map lv), hp, none) := by
  induction D generalizing p0a c0b p0b c1 p1 a2 c2 p2 p3 hp r with
  | zero => cases h
  | succ D ihD =>
  rw [E_bodyN 4 body83 rfl (by decide) rfl]
  simp only [Tryd.f83, Option.get_some]
  rw [f83S] at h
  replace h := bindT h; obtain ⟨x1, ex1, h⟩ := h
  replace h := bindT h; obtain ⟨x2, ex2, h⟩ := h
  cases x2
  case true =>
   obtain rfl := inj_ok h
   simp [ex1, ex2]
  replace h := bindT h; obtain ⟨x3, ex3, h⟩ := h
  replace h := bindT h; obtain ⟨x4, ex4, h⟩ := h
  cases x4
  case true =>
   obtain rfl := inj_ok h
   simp [ex1, ex2, ex3, ex4]
  replace h := bind_ok h; obtain ⟨y5, ey5, h⟩ := h
  obtain ⟨ey5a, ey5e, ey5b, ey5c, ey5g⟩ := gI_ok rfl ey5
  replace h := bind_ok h; obtain ⟨x6, ex6, h⟩ := h
  have ex6 : ∀ hp, E Tryd.prog Y0 69 [.l (ak a2) c2 p2.length (p2.map iv), iv y5] hp = some (.v (.bool x6), hp, none) := fun hp => f69_is (a0 := a2) (c0 := c2) ex6
  cases x6
  case true =>
   replace h := bind_ok h; obtain ⟨x7, ex7, h⟩ := h
   obtain ⟨ex7a, ex7c, ex7f⟩ := neL_ok iv ex7
   have ex7c := ex7c 10 (by decide)
   replace h := bind_ok h; obtain ⟨x8, ex8, h⟩ := h
   obtain ⟨ex8a, ex8b, ex8c, ex8q⟩ := app1_ok iv ex8
   have ex8b := ex8b 10 (by decide)
   replace h := bind_ok h; obtain ⟨⟨c9, l10⟩, e11, h⟩ := h
   try dsimp only at h
   have e11 : ∀ hp, E Tryd.prog Y0 83 [.a [iv p0a, .l .fz c0b p0b.length (p0b.map iv)], .l .fz .nz x8.length (x8.map iv), .l (ak a2) c2 p2.length (p2.map iv), iv p3] hp = some (.l (vlOf c9) c9 l10.length (l10.map lv), hp, none) := fun hp => ihD (c0b := c0b) (c1 := .nz) (a2 := a2) (c2 := c2) e11
   cases c9 with
   | full =>
     obtain rfl := inj_ok h
     simp [ex1, ex2, ex3, ex4, ey5a, ey5b, ey5c, ex6, ex7a, ex7c, ex7f, ex8a, ex8b, ex8c, e11]
   | nz =>
     obtain rfl := inj_ok h
     simp [ex1, ex2, ex3, ex4, ey5a, ey5b, ey5c, ex6, ex7a, ex7c, ex7f, ex8a, ex8b, ex8c, e11]
   | any =>
     obtain rfl := inj_ok h
     simp [ex1, ex2, ex3, ex4, ey5a, ey5b, ey5c, ex6, ex7a, ex7c, ex7f, ex8a, ex8b, ex8c, e11]
  replace h := bindT h; obtain ⟨x12, ex12, h⟩ := h
  replace h := bindT h; obtain ⟨x13, ex13, h⟩ := h
  cases x13
  case true =>
   replace h := bindT h; obtain ⟨x14, ex14, h⟩ := h
   cases x14
   case true =>
    obtain rfl := List.isEmpty_iff.1 ex14
    obtain rfl : (0 : Int) = x1 := ex1
    try simp only [Int.toNat_zero, Nat.zero_add] at ey5a ey5b ey5c
    have lim10 : Nat.ble 10 limit = true := ble_true (by unfold limit; omega)
    replace h := bind_ok h; obtain ⟨x15, ex15, h⟩ := h
    have ex15 : ∀ hp, E Tryd.prog Y0 97 [.l (ak a2) c2 p2.length (p2.map iv), iv y5] hp = some (.l .own .nz x15.length (x15.map iv), hp, none) := fun hp => f97_is (a0 := a2) (c0 := c2) ex15
    replace h := bindT h; obtain ⟨x16, ex16, h⟩ := h
    replace h := bind_ok h; obtain ⟨⟨c17, l18⟩, e19, h⟩ := h
    try dsimp only at h
    have e19 : ∀ hp, E Tryd.prog Y0 83 [.a [iv p0a, .l .fz c0b p0b.length (p0b.map iv)], .l .fz .nz 1 [iv (-1)], .l .fz .nz x15.length (x15.map iv), iv x16] hp = some (.l (vlOf c17) c17 l18.length (l18.map lv), hp, none) := fun hp => ihD (c0b := c0b) (c1 := .nz) (a2 := false) (c2 := .nz) e19
    cases c17 with
    | full =>
      obtain rfl := inj_ok h
      simp [ex2, ex3, ex4, ey5a, ey5b, ey5c, ex6, ex12, ex13, lim10, ex15, ex16, e19]
    | nz =>
      obtain rfl := inj_ok h
      simp [ex2, ex3, ex4, ey5a, ey5b, ey5c, ex6, ex12, ex13, lim10, ex15, ex16, e19]
    | any =>
      obtain rfl := inj_ok h
      simp [ex2, ex3, ex4, ey5a, ey5b, ey5c, ex6, ex12, ex13, lim10, ex15, ex16, e19]
   replace h := bind_ok h; obtain ⟨x20, ex20, h⟩ := h
   obtain ⟨ex20a, ex20c, ex20f⟩ := neL_ok iv ex20
   have ex20c := ex20c 10 (by decide)
   replace h := bind_ok h; obtain ⟨x21, ex21, h⟩ := h
   obtain ⟨ex21a, ex21b, ex21c, ex21q⟩ := app1_ok iv ex21
   have ex21b := ex21b 10 (by decide)
   replace h := bind_ok h; obtain ⟨x22, ex22, h⟩ := h
   have ex22 : ∀ hp, E Tryd.prog Y0 97 [.l (ak a2) c2 p2.length (p2.map iv), iv y5] hp = some (.l .own .nz x22.length (x22.map iv), hp, none) := fun hp => f97_is (a0 := a2) (c0 := c2) ex22
   replace h := bindT h; obtain ⟨x23, ex23, h⟩ := h
   replace h := bind_ok h; obtain ⟨⟨c24, l25⟩, e26, h⟩ := h
   try dsimp only at h
   have e26 : ∀ hp, E Tryd.prog Y0 83 [.a [iv p0a, .l .fz c0b p0b.length (p0b.map iv)], .l .fz .nz x21.length (x21.map iv), .l .fz .nz x22.length (x22.map iv), iv x23] hp = some (.l (vlOf c24) c24 l25.length (l25.map lv), hp, none) := fun hp => ihD (c0b := c0b) (c1 := .nz) (a2 := false) (c2 := .nz) e26
   cases c24 with
   | full =>
     obtain rfl := inj_ok h
     simp [ex1, ex2, ex3, ex4, ey5a, ey5b, ey5c, ex6, ex12, ex13, ex14, ex20a, ex20c, ex20f, ex21a, ex21b, ex21c, ex22, ex23, e26]
   | nz =>
     obtain rfl := inj_ok h
     simp [ex1, ex2, ex3, ex4, ey5a, ey5b, ey5c, ex6, ex12, ex13, ex14, ex20a, ex20c, ex20f, ex21a, ex21b, ex21c, ex22, ex23, e26]
   | any =>
     obtain rfl := inj_ok h
     simp [ex1, ex2, ex3, ex4, ey5a, ey5b, ey5c, ex6, ex12, ex13, ex14, ex20a, ex20c, ex20f, ex21a, ex21b, ex21c, ex22, ex23, e26]
  simp [ex1, ex2, ex3, ex4, ey5a, ey5b, ey5c, ex6, ex12, ex13]
  have hL0 := h; clear h
  refine loopS (S := f83_L0 F (f83S F D) p0a p0b p1 p2 p3 y5) (fun (v27, v28) σ => ∃ (ts : Tr PV) (w : Option Nat), wok hp.length w ∧ σ = ⟨[], ts, hp ++ [some [iv p0a, .l .fz c0b p0b.length (p0b.map iv)]], w⟩ ∧ ts.get 1 = some (.l .fz c1 p1.length (p1.map iv)) ∧ ts.get 2 = some (.l (ak a2) c2 p2.length (p2.map iv)) ∧ ts.get 3 = some (iv p3) ∧ ts.get 4 = some (.p hp.length 0) ∧ ts.get 10 = some (iv y5) ∧ ts.get 11 = some (.l .own .nz v27.length (v27.map lv)) ∧ ts.get 12 = some (iv v28) ∧ True) (fun v44 σ => ∃ (ts : Tr PV) (w : Option Nat), wok hp.length w ∧ σ = ⟨[], ts, hp ++ [some [iv p0a, .l .fz c0b p0b.length (p0b.map iv)]], w⟩ ∧ ts.get 11 = some (.l .own .nz v44.length (v44.map lv)) ∧ True) (fun _ => rfl) hL0 ?_ ?_ ?_
  · exact ⟨_, _, by simp, rfl, by simp [ex1, ex2, ex3, ex4, ey5a, ey5b, ey5c, ex6, ex12, ex13]⟩
  · rintro v44 σ ⟨ts, w, hw, rfl, g11, -⟩ h
    clear hL0
    try dsimp only at h
    obtain rfl := inj_ok h
    simp [g11, hw]
  · rintro k n ⟨v27, v28⟩ σ ⟨ts, w, hw, rfl, g1, g2, g3, g4, g10, g11, g12, -⟩ h ih ex
    clear hL0
    rw [f83_L0] at h
    replace h := bindT h; obtain ⟨x29, ex29, h⟩ := h
    cases x29
    case false =>
     simp [g1, g2, g3, g4, g10, g11, g12, ex29]
     refine ex v27 _ ?_ h
     exact ⟨_, _, by simp [hw], rfl, by simp [g1, g2, g3, g4, g10, g11, g12, ex29]⟩
    replace h := bind_ok h; obtain ⟨x30, ex30, h⟩ := h
    have ex30 : ∀ hp, E Tryd.prog Y0 69 [.l (ak a2) c2 p2.length (p2.map iv), iv v28] hp = some (.v (.bool x30), hp, none) := fun hp => f69_is (a0 := a2) (c0 := c2) ex30
    cases x30
    case false =>
     replace h := bindT h; obtain ⟨x43, ex43, h⟩ := h
     simp [g1, g2, g3, g4, g10, g11, g12, ex29, ex30, ex43]
     refine ih (v27, x43) _ ?_ h
     exact ⟨_, _, by simp [hw], rfl, by simp [g1, g2, g3, g4, g10, g11, g12, ex29, ex30, ex43]⟩
    replace h := bind_ok h; obtain ⟨x31, ex31, h⟩ := h
    obtain ⟨ex31a, ex31c, ex31f⟩ := neL_ok iv ex31
    have ex31c := ex31c 10 (by decide)
    replace h := bind_ok h; obtain ⟨x32, ex32, h⟩ := h
    obtain ⟨ex32a, ex32b, ex32c, ex32q⟩ := app1_ok iv ex32
    have ex32b := ex32b 10 (by decide)
    replace h := bind_ok h; obtain ⟨x33, ex33, h⟩ := h
    have ex33 : ∀ hp, E Tryd.prog Y0 96 [.l (ak a2) c2 p2.length (p2.map iv), iv v28] hp = some (.l .own .nz x33.length (x33.map iv), hp, none) := fun hp => f96_is (a0 := a2) (c0 := c2) ex33
    replace h := bind_ok h; obtain ⟨x34, ex34, h⟩ := h
    have ex34 : ∀ hp, E Tryd.prog Y0 97 [.l .fz .nz x33.length (x33.map iv), iv y5] hp = some (.l .own .nz x34.length (x34.map iv), hp, none) := fun hp => f97_is (a0 := false) (c0 := .nz) ex34
    replace h := bindT h; obtain ⟨x35, ex35, h⟩ := h
    replace h := bind_ok h; obtain ⟨⟨c36, l37⟩, e38, h⟩ := h
    try dsimp only at h
    have e38 : ∀ hp, E Tryd.prog Y0 83 [.a [iv p0a, .l .fz c0b p0b.length (p0b.map iv)], .l .fz .nz x32.length (x32.map iv), .l .fz .nz x34.length (x34.map iv), iv x35] hp = some (.l (vlOf c36) c36 l37.length (l37.map lv), hp, none) := fun hp => ihD (c0b := c0b) (c1 := .nz) (a2 := false) (c2 := .nz) e38
    cases c36 with
    | full =>
      replace h := bindT h; obtain ⟨x39, ex39, h⟩ := h
      cases x39
      case true =>
       obtain rfl := List.isEmpty_iff.1 ex39
       replace h := bindT h; obtain ⟨x40, ex40, h⟩ := h
       simp [g1, g2, g3, g4, g10, g11, g12, ex29, ex30, ex31a, ex31c, ex31f, ex32a, ex32b, ex32c, ex33, ex34, ex35, e38, ex40]
       refine ih (v27, x40) _ ?_ h
       exact ⟨_, _, by simp [hw], rfl, by simp [g1, g2, g3, g4, g10, g11, g12, ex29, ex30, ex31a, ex31c, ex31f, ex32a, ex32b, ex32c, ex33, ex34, ex35, e38, ex40]⟩
      replace h := bind_ok h; obtain ⟨x41, ex41, h⟩ := h
      obtain ⟨ex41a, ex41b, ex41c, ex41d, ex41f, ex41q⟩ := appL_ok lv ex41
      have ex41c := ex41c 26 (by decide)
      replace h := bindT h; obtain ⟨x42, ex42, h⟩ := h
      simp [g1, g2, g3, g4, g10, g11, g12, ex29, ex30, ex31a, ex31c, ex31f, ex32a, ex32b, ex32c, ex33, ex34, ex35, e38, ex39, ex41a, ex41b, ex41c, ex41d, ex41f, ex42]
      all_goals try (generalize hmt : mayTurn _ = mb; obtain rfl : mb = true := hmt.symm.trans (by kernel_rfl); clear hmt)
      all_goals try simp [g1, g2, g3, g4, g10, g11, g12, ex29, ex30, ex31a, ex31c, ex31f, ex32a, ex32b, ex32c, ex33, ex34, ex35, e38, ex39, ex41a, ex41b, ex41c, ex41d, ex41f, ex42]
      refine ih (x41, x42) _ ?_ h
      exact ⟨_, _, by simp [hw], rfl, by simp [g1, g2, g3, g4, g10, g11, g12, ex29, ex30, ex31a, ex31c, ex31f, ex32a, ex32b, ex32c, ex33, ex34, ex35, e38, ex39, ex41a, ex41b, ex41c, ex41d, ex41f, ex42]⟩
    | nz =>
      replace h := bindT h; obtain ⟨x39, ex39, h⟩ := h
      cases x39
      case true =>
       obtain rfl := List.isEmpty_iff.1 ex39
       replace h := bindT h; obtain ⟨x40, ex40, h⟩ := h
       simp [g1, g2, g3, g4, g10, g11, g12, ex29, ex30, ex31a, ex31c, ex31f, ex32a, ex32b, ex32c, ex33, ex34, ex35, e38, ex40]
       refine ih (v27, x40) _ ?_ h
       exact ⟨_, _, by simp [hw], rfl, by simp [g1, g2, g3, g4, g10, g11, g12, ex29, ex30, ex31a, ex31c, ex31f, ex32a, ex32b, ex32c, ex33, ex34, ex35, e38, ex40]⟩
      replace h := bind_ok h; obtain ⟨x41, ex41, h⟩ := h
      obtain ⟨ex41a, ex41b, ex41c, ex41d, ex41f, ex41q⟩ := appL_ok lv ex41
      have ex41c := ex41c 26 (by decide)
      replace h := bindT h; obtain ⟨x42, ex42, h⟩ := h
      simp [g1, g2, g3, g4, g10, g11, g12, ex29, ex30, ex31a, ex31c, ex31f, ex32a, ex32b, ex32c, ex33, ex34, ex35, e38, ex39, ex41a, ex41b, ex41c, ex41d, ex41f, ex42]
      all_goals try (generalize hmt : mayTurn _ = mb; obtain rfl : mb = true := hmt.symm.trans (by kernel_rfl); clear hmt)
      all_goals try simp [g1, g2, g3, g4, g10, g11, g12, ex29, ex30, ex31a, ex31c, ex31f, ex32a, ex32b, ex32c, ex33, ex34, ex35, e38, ex39, ex41a, ex41b, ex41c, ex41d, ex41f, ex42]
      refine ih (x41, x42) _ ?_ h
      exact ⟨_, _, by simp [hw], rfl, by simp [g1, g2, g3, g4, g10, g11, g12, ex29, ex30, ex31a, ex31c, ex31f, ex32a, ex32b, ex32c, ex33, ex34, ex35, e38, ex39, ex41a, ex41b, ex41c, ex41d, ex41f, ex42]⟩
    | any =>
      replace h := bindT h; obtain ⟨x39, ex39, h⟩ := h
      cases x39
      case true =>
       obtain rfl := List.isEmpty_iff.1 ex39
       replace h := bindT h; obtain ⟨x40, ex40, h⟩ := h
       simp [g1, g2, g3, g4, g10, g11, g12, ex29, ex30, ex31a, ex31c, ex31f, ex32a, ex32b, ex32c, ex33, ex34, ex35, e38, ex40]
       refine ih (v27, x40) _ ?_ h
       exact ⟨_, _, by simp [hw], rfl, by simp [g1, g2, g3, g4, g10, g11, g12, ex29, ex30, ex31a, ex31c, ex31f, ex32a, ex32b, ex32c, ex33, ex34, ex35, e38, ex40]⟩
      replace h := bind_ok h; obtain ⟨x41, ex41, h⟩ := h
      obtain ⟨ex41a, ex41b, ex41c, ex41d, ex41f, ex41q⟩ := appL_ok lv ex41
      have ex41c := ex41c 26 (by decide)
      replace h := bindT h; obtain ⟨x42, ex42, h⟩ := h
      simp [g1, g2, g3, g4, g10, g11, g12, ex29, ex30, ex31a, ex31c, ex31f, ex32a, ex32b, ex32c, ex33, ex34, ex35, e38, ex39, ex41a, ex41b, ex41c, ex41d, ex41f, ex42]
      all_goals try (generalize hmt : mayTurn _ = mb; obtain rfl : mb = true := hmt.symm.trans (by kernel_rfl); clear hmt)
      all_goals try simp [g1, g2, g3, g4, g10, g11, g12, ex29, ex30, ex31a, ex31c, ex31f, ex32a, ex32b, ex32c, ex33, ex34, ex35, e38, ex39, ex41a, ex41b, ex41c, ex41d, ex41f, ex42]
      refine ih (x41, x42) _ ?_ h
      exact ⟨_, _, by simp [hw], rfl, by simp [g1, g2, g3, g4, g10, g11, g12, ex29, ex30, ex31a, ex31c, ex31f, ex32a, ex32b, ex32c, ex33, ex34, ex35, e38, ex39, ex41a, ex41b, ex41c, ex41d, ex41f, ex42]⟩
end Go.Proofs.YtcdhajbhpnbdkaaDoor
