/-
  spans and bounds
  Printed by wip/tools/walk.py. Conditions: none; definitions and lemmas.
-/
import Derived.Test.YtcdhajbhpnbdkaaDoorAdapt
set_option linter.unusedSimpArgs false
set_option linter.unusedVariables false
namespace Go.Proofs.YtcdhajbhpnbdkaaDoor
open Go.Abs Go.Pur
set_option maxRecDepth 100000
set_option maxHeartbeats 2000000
attribute [local simp] EK_region EK_seq EK_cond EK_block EK_blk EK_loop EK_exit EK.ex EK_ret EK_skip EK_nil EO_cons EO_nil EO1_true EO1_false EO2_some EO3_some EB_true EB_false pwanted poper pq pev Go.Pur.look pputT isAssign drOf pinit Tr.get_set lget pvOf_int pvOf_bool pvOf_str pvOf_nil rdv_ak notOwn_ak prt_ak loose_ak rdv_own rdv_fz rdv_bor rdv_rf rdv_pt rdv_v rdv_a rdv_t rdv_r rdv_p rdv_s rdv_f pbin plen pload ppart idxAddr pcond Nat.blt goInt_eq prun_not prun_neg mayLoad ER_ret ER_normal presL presOne moved stor okDrop settle_v settle_l settle_a settle_p settle_f noref_v noref_fz noref_a norefs_nil norefs_cons pclose given dropB Y0_keep pevParts stors pvCells pvCells.go vcells pfill reps zipParts ownFz pcells cellOK one psrcLen srcFits psrc takeP pgrow take getPl setPl mapL plEq elder isList lowP pevs frzs addP partAt ble_lim24 killV_v killV_a killV_t killV_f killV_i killV_p killV_s killV_un killV_dead killV_lfz killV_lbor killV_lown killV_rfz killV_rbor killV_lak killV_rak frzV_v frzV_a frzV_t frzV_f frzV_i frzV_p frzV_s frzV_un frzV_dead frzV_lfz frzV_lbor frzV_lown frzV_rfz frzV_rbor frzV_lak frzV_rak killCell_v killCell_a killCell_t killCell_f killCell_i killCell_p killCell_s killCell_un killCell_dead killCell_lfz killCell_lbor killCell_lown killCell_rfz killCell_rbor killCell_lak killCell_rak killV_lrf killV_lpt killV_rpt frzV_lrf frzV_lpt frzV_rpt killCell_lrft killCell_lptt killCell_rptt killCell_lrfc killCell_lptc killCell_rptc argv_lak argv_rak argv_v argv_a argv_p argv_f argv_fz argv_bor argv_rf argv_pt argv_rc argv_own mayTurn_none argvs pcallOp firm refsTo_v refsTo_l refsTo_p refsTo_s refsTo_a refsTo_dead refsTo_nil refsTo_cons isOwn_lak ownFz_lak evSafe pskip plain pnewBlk fldAddr isOwn pput notOwn_fz notOwn_bor notOwn_own notOwn_rf notOwn_pt prt_fz prt_bor prt_own prt_rf prt_pt Go.Pur.freeze presM settles abin_and abin_or abin_andNot abin_mul abin_shr abin_shl abin_add abin_sub abin_eql abin_neq abin_lss abin_leq abin_gtr abin_geq hows pcallIn Y0_how Y0_part howOf partOf rdv_mown rdv_mfz rdv_mbor rdv_mrf killV_mown killV_mfz killV_mbor killV_mrf frzV_mown frzV_mfz frzV_mbor frzV_mrf killCell_mown killCell_mfz killCell_mbor killCell_mrf argv_mfz argv_mbor argv_mrf settle_m kls_v kls_l kls_a kls_t kls_r kls_p kls_s kls_f kls_i kls_it kls_un kls_dead kls_mown kls_mrf kls_mbor kls_mfz fzOf takable mapHere mapOwn mapTo flat toPlain toPlain.go ofFlat ofPair mapEs plook lookRes Y0_mv mvOf mvBlk premv keep39 keep41 keep45 keep46 keep84 keep86 keep87 sz3 by3 row3 zero3 sz4 by4 row4 zero4 sz5 by5 row5 zero5 sz9 by9 row9 shape9 zero9 sz22 by22 row22 shape22 zero22 sz24 by24 row24 zero24 parts24 field24_0 field24_1 sz27 by27 row27 zero27 parts27 field27_0 field27_1 sz28 by28 row28 zero28 sz32 by32 row32 shape32 zero32 sz46 by46 row46 shape46 zero46 sz54 by54 row54 shape54 zero54 parts54 sz56 by56 row56 zero56 parts56 field56_0 field56_1 field56_2 sz63 by63 row63 shape63 zero63 parts63 sz70 by70 row70 shape70 zero70 parts70 sz75 by75 row75 shape75 zero75 parts75 sz79 by79 row79 zero79 sz84 by84 row84 zero84 sz86 by86 row86 shape86 zero86 sz91 by91 row91 zero91 sz93 by93 row93 zero93 parts93 field93_0 sz97 by97 row97 zero97 sz100 by100 row100 zero100 sz102 by102 row102 zero102 sz105 by105 row105 zero105 parts105 field105_0 field105_1 field105_2 sz106 by106 row106 zero106 sz108 by108 row108 zero108 parts108 field108_0 field108_1 sz109 by109 row109 shape109 zero109 parts109 sz110 by110 row110 shape110 parts110 sz112 by112 row112 parts112 field112_0 field112_1 sz126 by126 row126 shape126 zero126 sz127 by127 row127 zero127 sz134 by134 row134 zero134 sz136 by136 row136 zero136 sz140 by140 row140 zero140 sz147 by147 row147 shape147 zero147 parts147 sz148 by148 row148 shape148 zero148 parts148 sz149 by149 row149 zero149 sz153 by153 row153 zero153 bs_size gAt gAt0 sAt sAt0 optPlain rows_len noMaker_eq kindOf vlOf abin_rem abin_quo mayTurn_none lowOf_none Go.Pur.partAt rows_nil rows_cons ble_add ble_add0 ble_same toPlain toPlain.go intIn2_0 intIn2_1 ble12 ble22 tv lv max_int min_int pplains ak_true ak_false apartP beq_add beq_add0 beq_add1 argv_s wok_none wok_low_iff lowOf_wok
attribute [local simp] ble_addc
def f84_L0 (F : Nat) (p0b : List Int) (x1 : Int) (K : List (Int × Int) → Option ((Ck × List (Int × Int)))) : Nat → List (Int × Int) × Int → Option ((Ck × List (Int × Int)))
  | 0, _ => none
  | n + 1, (v2, v3) => (some (decide (v3 < x1))).bind fun x4 =>
    (match x4 with
    | true => ((gI p0b v3).bind fun y5 =>
    (some (IntKind.i64.wrap (v3 + 1))).bind fun x6 =>
    (onT p0b x6 (aft p0b y5)).bind fun x7 =>
    (some (decide (x7 < 12))).bind fun x8 =>
    (match x8 with
    | true => ((app1 v2 (v3, x7)).bind fun x9 =>
    f84_L0 F p0b x1 K n (x9, x6))
    | false => (f84_L0 F p0b x1 K n (v2, x6))))
    | false => (K v2))
def f84S (F : Nat) (p0a : Int) (p0b : List Int) : Option ((Ck × List (Int × Int))) :=
  (some ((p0b.length : Int))).bind fun x1 =>
  f84_L0 F p0b x1 (fun v10 =>
    some (.nz, v10)) F ([], 0)
theorem f84_is {p0a : Int} {c0b : Ck} {p0b : List Int} {hp : List (Option (List PV))} {F : Nat} {r : ((Ck × List (Int × Int)))}  (h : f84S F p0a p0b = some r) :
    E Tryd.prog Y0 84 [.a [iv p0a, .l .fz c0b p0b.length (p0b.map iv)]] hp = some (.l .own r.1 r.2.length (rows r.2), hp, none) := by
  rw [E_bodyN 1 body84 rfl (by decide) rfl]
  simp only [Tryd.f84, Option.get_some]
  unfold f84S at h
  obtain ⟨x1, ex1, h⟩ := bindT h
  simp [ex1]
  have hL0 := h; clear h
  refine loopS (S := f84_L0 F p0b x1) (fun (v2, v3) σ => ∃ (ts : Tr PV) (w : Option Nat), wok hp.length w ∧ σ = ⟨[], ts, hp ++ [some [iv p0a, .l .fz c0b p0b.length (p0b.map iv)]], w⟩ ∧ ts.get 1 = some (.p hp.length 0) ∧ ts.get 3 = some (.l .own .nz v2.length (rows v2)) ∧ ts.get 8 = some (.l .fz c0b p0b.length (p0b.map iv)) ∧ ts.get 9 = some (iv x1) ∧ ts.get 10 = some (iv v3) ∧ True) (fun v10 σ => ∃ (ts : Tr PV) (w : Option Nat), wok hp.length w ∧ σ = ⟨[], ts, hp ++ [some [iv p0a, .l .fz c0b p0b.length (p0b.map iv)]], w⟩ ∧ ts.get 3 = some (.l .own .nz v10.length (rows v10)) ∧ True) (fun _ => rfl) hL0 ?_ ?_ ?_
  · exact ⟨_, _, by simp, rfl, by simp [ex1]⟩
  · rintro v10 σ ⟨ts, w, hw, rfl, g3, -⟩ h
    clear hL0
    try dsimp only at h
    obtain rfl := inj_ok h
    simp [g3, hw]
  · rintro k n ⟨v2, v3⟩ σ ⟨ts, w, hw, rfl, g1, g3, g8, g9, g10, -⟩ h ih ex
    clear hL0
    rw [f84_L0] at h
    obtain ⟨x4, ex4, h⟩ := bindT h
    cases x4
    case false =>
     simp [g1, g3, g8, g9, g10, ex4]
     refine ex v2 _ ?_ h
     exact ⟨_, _, by simp [hw], rfl, by simp [g1, g3, g8, g9, g10, ex4]⟩
    obtain ⟨y5, ey5, h⟩ := bind_ok h
    obtain ⟨ey5a, ey5e, ey5b, ey5c, ey5g⟩ := gI_ok rfl ey5
    obtain ⟨x6, ex6, h⟩ := bindT h
    obtain ⟨x7, ex7, h⟩ := bind_ok h
    have ex7 : ∀ hp, E Tryd.prog Y0 75 [.a [iv p0a, .l .fz c0b p0b.length (p0b.map iv)], iv y5, iv x6] hp = some (iv x7, hp, none) := fun hp => f75_is  ex7
    obtain ⟨x8, ex8, h⟩ := bindT h
    cases x8
    case false =>
     simp [g1, g3, g8, g9, g10, ex4, ey5a, ey5b, ey5c, ex6, ex7, ex8]
     refine ih (v2, x6) _ ?_ h
     exact ⟨_, _, by simp [hw], rfl, by simp [g1, g3, g8, g9, g10, ex4, ey5a, ey5b, ey5c, ex6, ex7, ex8]⟩
    obtain ⟨x9, ex9, h⟩ := bind_ok h
    obtain ⟨ex9a, ex9b, ex9c, ex9q⟩ := app1_rows ex9
    have ex9b := ex9b 19 (by decide)
    simp [g1, g3, g8, g9, g10, ex4, ey5a, ey5b, ey5c, ex6, ex7, ex8, ex9a, ex9b, ex9c]
    refine ih (x9, x6) _ ?_ h
    exact ⟨_, _, by simp [hw], rfl, by simp [g1, g3, g8, g9, g10, ex4, ey5a, ey5b, ey5c, ex6, ex7, ex8, ex9a, ex9b, ex9c]⟩
def f87_L0 (F : Nat) (p1 : Int) (l7 : List (Int × Int)) (x9 : Int) (K : Int → Option (Int)) : Nat → Int × Int → Option (Int)
  | 0, _ => none
  | n + 1, (v10, v11) => (some (decide (v11 < x9))).bind fun x12 =>
    (match x12 with
    | true => ((gI l7 v11).bind fun y13 =>
    (shlO .u64 1 y13.2).bind fun x15 =>
    (some (IntKind.i64.wrap (y13.1 + 1))).bind fun x16 =>
    (shlO .u64 1 x16).bind fun x17 =>
    (some (IntKind.u64.wrap (x15 - x17))).bind fun x18 =>
    (some (andI .u64 p1 x18)).bind fun x19 =>
    (some (decide (x19 = 0))).bind fun x20 =>
    (match x20 with
    | true => ((some (IntKind.i64.wrap (v10 - 1))).bind fun x21 =>
    (some (IntKind.i64.wrap (v11 + 1))).bind fun x22 =>
    f87_L0 F p1 l7 x9 K n (x21, x22))
    | false => ((some (IntKind.i64.wrap (v11 + 1))).bind fun x23 =>
    f87_L0 F p1 l7 x9 K n (v10, x23))))
    | false => (K v10))
def f87S (F : Nat) (p0a : Int) (p0b : List Int) (p1 : Int) : Option (Int) :=
  (some ((p0b.length : Int))).bind fun x1 =>
  (some (IntKind.i64.wrap (p0a - 1))).bind fun x2 =>
  (onB p1 (fun n => (cnt n : Int))).bind fun x3 =>
  (some (mulI .i64 x2 x3)).bind fun x4 =>
  (some (IntKind.i64.wrap (x1 - x4))).bind fun x5 =>
  (f84S F p0a p0b).bind fun (c6, l7) =>
  (some ((l7.length : Int))).bind fun x9 =>
  f87_L0 F p1 l7 x9 (fun v24 =>
    (some (max 0 v24)).bind fun x25 =>
    some x25) F (x5, 0)
theorem f87_is {p0a : Int} {c0b : Ck} {p0b : List Int} {p1 : Int} {hp : List (Option (List PV))} {F : Nat} {r : (Int)}  (h : f87S F p0a p0b p1 = some r) :
    E Tryd.prog Y0 87 [.a [iv p0a, .l .fz c0b p0b.length (p0b.map iv)], kv .u64 p1] hp = some (iv r, hp, none) := by
  rw [E_bodyN 2 body87 rfl (by decide) rfl]
  simp only [Tryd.f87, Option.get_some]
  unfold f87S at h
  obtain ⟨x1, ex1, h⟩ := bindT h
  obtain ⟨x2, ex2, h⟩ := bindT h
  obtain ⟨x3, ex3, h⟩ := bind_ok h
  have ex3 : ∀ hp, E Tryd.prog Y0 90 [kv .u64 p1] hp = some (iv x3, hp, none) := fun hp => f90_is  ex3
  obtain ⟨x4, ex4, h⟩ := bindT h
  obtain ⟨x5, ex5, h⟩ := bindT h
  obtain ⟨⟨c6, l7⟩, e8, h⟩ := bind_ok h
  try dsimp only at h
  have e8 : ∀ hp, E Tryd.prog Y0 84 [.a [iv p0a, .l .fz c0b p0b.length (p0b.map iv)]] hp = some (.l .own c6 l7.length (rows l7), hp, none) := fun hp => f84_is (c0b := c0b) e8
  obtain ⟨x9, ex9, h⟩ := bindT h
  simp [ex1, ex2, ex3, ex4, ex5, e8, ex9]
  have hL0 := h; clear h
  refine loopS (S := f87_L0 F p1 l7 x9) (fun (v10, v11) σ => ∃ (ts : Tr PV) (w : Option Nat) (H : List (Option (List PV))), wok hp.length w ∧ σ = ⟨[], ts, H, w⟩ ∧ (∃ G, H = hp ++ (some [iv p0a, .l .fz c0b p0b.length (p0b.map iv)] :: G)) ∧ ts.get 1 = some (kv .u64 p1) ∧ ts.get 5 = some (iv v10) ∧ ts.get 20 = some (.l .own c6 l7.length (rows l7)) ∧ ts.get 21 = some (iv x9) ∧ ts.get 22 = some (iv v11) ∧ True) (fun v24 σ => ∃ (ts : Tr PV) (w : Option Nat) (H : List (Option (List PV))), wok hp.length w ∧ σ = ⟨[], ts, H, w⟩ ∧ (∃ G, H = hp ++ (some [iv p0a, .l .fz c0b p0b.length (p0b.map iv)] :: G)) ∧ ts.get 5 = some (iv v24) ∧ True) (fun _ => rfl) hL0 ?_ ?_ ?_
  · exact ⟨_, _, _, by simp, rfl, ⟨[], by simp⟩, by simp [ex1, ex2, ex3, ex4, ex5, e8, ex9]⟩
  · rintro v24 σ ⟨ts, w, H, hw, rfl, ⟨G, rfl⟩, g5, -⟩ h
    clear hL0
    try dsimp only at h
    obtain ⟨x25, ex25, h⟩ := bindT h
    obtain rfl := inj_ok h
    simp [g5, ex25, hw]
  · rintro k n ⟨v10, v11⟩ σ ⟨ts, w, H, hw, rfl, ⟨G, rfl⟩, g1, g5, g20, g21, g22, -⟩ h ih ex
    clear hL0
    rw [f87_L0] at h
    obtain ⟨x12, ex12, h⟩ := bindT h
    cases x12
    case false =>
     simp [g1, g5, g20, g21, g22, ex12]
     refine ex v10 _ ?_ h
     exact ⟨_, _, _, by simp [hw], rfl, ⟨_, rfl⟩, by simp [g1, g5, g20, g21, g22, ex12]⟩
    obtain ⟨y13, ey13, h⟩ := bind_ok h
    obtain ⟨ey13a, ey13e, ey13b, ey13c, ey13g⟩ := gI_ok rfl ey13
    have ey13d := rows_at ey13c
    have ey13f := rows_ble ey13e
    have q14 : spliceP 0 [iv y13.1, iv y13.2] [iv 0, iv 0] = some [iv y13.1, iv y13.2] := rfl
    obtain ⟨x15, ex15, h⟩ := bind_ok h
    obtain ⟨ex15a, ex15⟩ := shlO_ok ex15
    obtain ⟨x16, ex16, h⟩ := bindT h
    obtain ⟨x17, ex17, h⟩ := bind_ok h
    obtain ⟨ex17a, ex17⟩ := shlO_ok ex17
    obtain ⟨x18, ex18, h⟩ := bindT h
    obtain ⟨x19, ex19, h⟩ := bindT h
    obtain ⟨x20, ex20, h⟩ := bindT h
    cases x20
    case false =>
     obtain ⟨x23, ex23, h⟩ := bindT h
     simp [g1, g5, g20, g21, g22, ex12, ey13a, ey13b, ey13c, ey13d, ey13f, q14, ex15, ex15a, ex16, ex17, ex17a, ex18, ex19, ex20, ex23]
     refine ih (v10, x23) _ ?_ h
     exact ⟨_, _, _, by simp [hw], rfl, ⟨_, rfl⟩, by simp [g1, g5, g20, g21, g22, ex12, ey13a, ey13b, ey13c, ey13d, ey13f, q14, ex15, ex15a, ex16, ex17, ex17a, ex18, ex19, ex20, ex23]⟩
    obtain ⟨x21, ex21, h⟩ := bindT h
    obtain ⟨x22, ex22, h⟩ := bindT h
    simp [g1, g5, g20, g21, g22, ex12, ey13a, ey13b, ey13c, ey13d, ey13f, q14, ex15, ex15a, ex16, ex17, ex17a, ex18, ex19, ex20, ex21, ex22]
    refine ih (x21, x22) _ ?_ h
    exact ⟨_, _, _, by simp [hw], rfl, ⟨_, rfl⟩, by simp [g1, g5, g20, g21, g22, ex12, ey13a, ey13b, ey13c, ey13d, ey13f, q14, ex15, ex15a, ex16, ex17, ex17a, ex18, ex19, ex20, ex21, ex22]⟩
def f86_L0 (F : Nat) (p0b : List Int) (p1 : List Int) (x3 : Int) (K : Int → Option (Int × Int)) : Nat → Int × Int × Int → Option (Int × Int)
  | 0, _ => none
  | n + 1, (v4, v5, v6) => (some (decide (v6 < x3))).bind fun x7 =>
    (match x7 with
    | true => ((gI p1 v6).bind fun y8 =>
    (some (decide (y8 < 0))).bind fun x9 =>
    (match x9 with
    | true => (some (0, 2))
    | false => ((some ((p0b.length : Int))).bind fun x10 =>
    (some (decide (x10 ≤ y8))).bind fun x11 =>
    (match x11 with
    | true => (some (0, 2))
    | false => ((some (decide (y8 ≤ v5))).bind fun x12 =>
    (match x12 with
    | true => (some (0, 7))
    | false => ((shlO .u64 1 y8).bind fun x13 =>
    (some (orI .u64 v4 x13)).bind fun x14 =>
    (some (IntKind.i64.wrap (v6 + 1))).bind fun x15 =>
    f86_L0 F p0b p1 x3 K n (x14, y8, x15))))))))
    | false => (K v4))
def f86S (F : Nat) (p0a : Int) (p0b : List Int) (p1 : List Int) : Option (Int × Int) :=
  (onS p0b (chk p0a p0b)).bind fun x1 =>
  (some (decide (x1 = 0))).bind fun x2 =>
  (match x2 with
  | true => ((some ((p1.length : Int))).bind fun x3 =>
  f86_L0 F p0b p1 x3 (fun v16 =>
    some (v16, 0)) F (0, -1, 0))
  | false => (some (0, x1)))
theorem f86_is {p0a : Int} {c0b : Ck} {p0b : List Int} {a1 : Bool} {c1 : Ck} {p1 : List Int} {hp : List (Option (List PV))} {F : Nat} {r : (Int × Int)}  (h : f86S F p0a p0b p1 = some r) :
    E Tryd.prog Y0 86 [.a [iv p0a, .l .fz c0b p0b.length (p0b.map iv)], .l (ak a1) c1 p1.length (p1.map iv)] hp = some (.t [kv .u64 r.1, iv r.2], hp, none) := by
  rw [E_bodyN 2 body86 rfl (by decide) rfl]
  simp only [Tryd.f86, Option.get_some]
  unfold f86S at h
  cases a1 with
  | true =>
    obtain ⟨x1, ex1, h⟩ := bind_ok h
    have ex1 : ∀ hp, E Tryd.prog Y0 24 [.a [iv p0a, .l .fz c0b p0b.length (p0b.map iv)]] hp = some (iv x1, hp, none) := fun hp => f24_is  ex1
    obtain ⟨x2, ex2, h⟩ := bindT h
    cases x2
    case false =>
     obtain rfl := inj_ok h
     simp [ex1, ex2]
    obtain ⟨x3, ex3, h⟩ := bindT h
    simp [ex1, ex2, ex3]
    have hL0 := h; clear h
    refine loopS (S := f86_L0 F p0b p1 x3) (fun (v4, v5, v6) σ => ∃ (ts : Tr PV) (w : Option Nat), wok hp.length w ∧ σ = ⟨[], ts, hp ++ [some [iv p0a, .l .fz c0b p0b.length (p0b.map iv)]], w⟩ ∧ ts.get 2 = some (.p hp.length 0) ∧ ts.get 7 = some (kv .u64 v4) ∧ ts.get 8 = some (iv v5) ∧ ts.get 16 = some (.l .bor c1 p1.length (p1.map iv)) ∧ ts.get 17 = some (iv x3) ∧ ts.get 18 = some (iv v6) ∧ True) (fun v16 σ => ∃ (ts : Tr PV) (w : Option Nat), wok hp.length w ∧ σ = ⟨[], ts, hp ++ [some [iv p0a, .l .fz c0b p0b.length (p0b.map iv)]], w⟩ ∧ ts.get 7 = some (kv .u64 v16) ∧ True) (fun _ => rfl) hL0 ?_ ?_ ?_
    · exact ⟨_, _, by simp, rfl, by simp [ex1, ex2, ex3]⟩
    · rintro v16 σ ⟨ts, w, hw, rfl, g7, -⟩ h
      clear hL0
      try dsimp only at h
      obtain rfl := inj_ok h
      simp [g7, hw]
    · rintro k n ⟨v4, v5, v6⟩ σ ⟨ts, w, hw, rfl, g2, g7, g8, g16, g17, g18, -⟩ h ih ex
      clear hL0
      rw [f86_L0] at h
      obtain ⟨x7, ex7, h⟩ := bindT h
      cases x7
      case false =>
       simp [g2, g7, g8, g16, g17, g18, ex7]
       refine ex v4 _ ?_ h
       exact ⟨_, _, by simp [hw], rfl, by simp [g2, g7, g8, g16, g17, g18, ex7]⟩
      obtain ⟨y8, ey8, h⟩ := bind_ok h
      obtain ⟨ey8a, ey8e, ey8b, ey8c, ey8g⟩ := gI_ok rfl ey8
      obtain ⟨x9, ex9, h⟩ := bindT h
      cases x9
      case true =>
       obtain rfl := inj_ok h
       simp [g2, g7, g8, g16, g17, g18, ex7, ey8a, ey8b, ey8c, ex9, hw]
      obtain ⟨x10, ex10, h⟩ := bindT h
      obtain ⟨x11, ex11, h⟩ := bindT h
      cases x11
      case true =>
       obtain rfl := inj_ok h
       simp [g2, g7, g8, g16, g17, g18, ex7, ey8a, ey8b, ey8c, ex9, ex10, ex11, hw]
      obtain ⟨x12, ex12, h⟩ := bindT h
      cases x12
      case true =>
       obtain rfl := inj_ok h
       simp [g2, g7, g8, g16, g17, g18, ex7, ey8a, ey8b, ey8c, ex9, ex10, ex11, ex12, hw]
      obtain ⟨x13, ex13, h⟩ := bind_ok h
      obtain ⟨ex13a, ex13⟩ := shlO_ok ex13
      obtain ⟨x14, ex14, h⟩ := bindT h
      obtain ⟨x15, ex15, h⟩ := bindT h
      simp [g2, g7, g8, g16, g17, g18, ex7, ey8a, ey8b, ey8c, ex9, ex10, ex11, ex12, ex13, ex13a, ex14, ex15]
      refine ih (x14, y8, x15) _ ?_ h
      exact ⟨_, _, by simp [hw], rfl, by simp [g2, g7, g8, g16, g17, g18, ex7, ey8a, ey8b, ey8c, ex9, ex10, ex11, ex12, ex13, ex13a, ex14, ex15]⟩
  | false =>
    obtain ⟨x1, ex1, h⟩ := bind_ok h
    have ex1 : ∀ hp, E Tryd.prog Y0 24 [.a [iv p0a, .l .fz c0b p0b.length (p0b.map iv)]] hp = some (iv x1, hp, none) := fun hp => f24_is  ex1
    obtain ⟨x2, ex2, h⟩ := bindT h
    cases x2
    case false =>
     obtain rfl := inj_ok h
     simp [ex1, ex2]
    obtain ⟨x3, ex3, h⟩ := bindT h
    simp [ex1, ex2, ex3]
    have hL0 := h; clear h
    refine loopS (S := f86_L0 F p0b p1 x3) (fun (v4, v5, v6) σ => ∃ (ts : Tr PV) (w : Option Nat), wok hp.length w ∧ σ = ⟨[], ts, hp ++ [some [iv p0a, .l .fz c0b p0b.length (p0b.map iv)]], w⟩ ∧ ts.get 2 = some (.p hp.length 0) ∧ ts.get 7 = some (kv .u64 v4) ∧ ts.get 8 = some (iv v5) ∧ ts.get 16 = some (.l .fz c1 p1.length (p1.map iv)) ∧ ts.get 17 = some (iv x3) ∧ ts.get 18 = some (iv v6) ∧ True) (fun v16 σ => ∃ (ts : Tr PV) (w : Option Nat), wok hp.length w ∧ σ = ⟨[], ts, hp ++ [some [iv p0a, .l .fz c0b p0b.length (p0b.map iv)]], w⟩ ∧ ts.get 7 = some (kv .u64 v16) ∧ True) (fun _ => rfl) hL0 ?_ ?_ ?_
    · exact ⟨_, _, by simp, rfl, by simp [ex1, ex2, ex3]⟩
    · rintro v16 σ ⟨ts, w, hw, rfl, g7, -⟩ h
      clear hL0
      try dsimp only at h
      obtain rfl := inj_ok h
      simp [g7, hw]
    · rintro k n ⟨v4, v5, v6⟩ σ ⟨ts, w, hw, rfl, g2, g7, g8, g16, g17, g18, -⟩ h ih ex
      clear hL0
      rw [f86_L0] at h
      obtain ⟨x7, ex7, h⟩ := bindT h
      cases x7
      case false =>
       simp [g2, g7, g8, g16, g17, g18, ex7]
       refine ex v4 _ ?_ h
       exact ⟨_, _, by simp [hw], rfl, by simp [g2, g7, g8, g16, g17, g18, ex7]⟩
      obtain ⟨y8, ey8, h⟩ := bind_ok h
      obtain ⟨ey8a, ey8e, ey8b, ey8c, ey8g⟩ := gI_ok rfl ey8
      obtain ⟨x9, ex9, h⟩ := bindT h
      cases x9
      case true =>
       obtain rfl := inj_ok h
       simp [g2, g7, g8, g16, g17, g18, ex7, ey8a, ey8b, ey8c, ex9, hw]
      obtain ⟨x10, ex10, h⟩ := bindT h
      obtain ⟨x11, ex11, h⟩ := bindT h
      cases x11
      case true =>
       obtain rfl := inj_ok h
       simp [g2, g7, g8, g16, g17, g18, ex7, ey8a, ey8b, ey8c, ex9, ex10, ex11, hw]
      obtain ⟨x12, ex12, h⟩ := bindT h
      cases x12
      case true =>
       obtain rfl := inj_ok h
       simp [g2, g7, g8, g16, g17, g18, ex7, ey8a, ey8b, ey8c, ex9, ex10, ex11, ex12, hw]
      obtain ⟨x13, ex13, h⟩ := bind_ok h
      obtain ⟨ex13a, ex13⟩ := shlO_ok ex13
      obtain ⟨x14, ex14, h⟩ := bindT h
      obtain ⟨x15, ex15, h⟩ := bindT h
      simp [g2, g7, g8, g16, g17, g18, ex7, ey8a, ey8b, ey8c, ex9, ex10, ex11, ex12, ex13, ex13a, ex14, ex15]
      refine ih (x14, y8, x15) _ ?_ h
      exact ⟨_, _, by simp [hw], rfl, by simp [g2, g7, g8, g16, g17, g18, ex7, ey8a, ey8b, ey8c, ex9, ex10, ex11, ex12, ex13, ex13a, ex14, ex15]⟩
def f39S (F : Nat) (p0a : Int) (p0b : List Int) : Option ((Ck × List (Int × Int)) × Int) :=
  (onS p0b (chk p0a p0b)).bind fun x1 =>
  (some (decide (x1 = 0))).bind fun x2 =>
  (match x2 with
  | true => ((f84S F p0a p0b).bind fun (c3, l4) =>
  some ((c3, l4), 0))
  | false => (some ((.nz, []), x1)))
theorem f39_is {p0a : Int} {c0b : Ck} {p0b : List Int} {hp : List (Option (List PV))} {F : Nat} {r : ((Ck × List (Int × Int)) × Int)}  (h : f39S F p0a p0b = some r) :
    E Tryd.prog Y0 39 [.a [iv p0a, .l .fz c0b p0b.length (p0b.map iv)]] hp = some (.t [.l .fz r.1.1 r.1.2.length (rows r.1.2), iv r.2], hp, none) := by
  rw [E_bodyN 1 body39 rfl (by decide) rfl]
  simp only [Tryd.f39, Option.get_some]
  unfold f39S at h
  obtain ⟨x1, ex1, h⟩ := bind_ok h
  have ex1 : ∀ hp, E Tryd.prog Y0 24 [.a [iv p0a, .l .fz c0b p0b.length (p0b.map iv)]] hp = some (iv x1, hp, none) := fun hp => f24_is  ex1
  obtain ⟨x2, ex2, h⟩ := bindT h
  cases x2
  case false =>
   obtain rfl := inj_ok h
   simp [ex1, ex2]
  obtain ⟨⟨c3, l4⟩, e5, h⟩ := bind_ok h
  try dsimp only at h
  have e5 : ∀ hp, E Tryd.prog Y0 84 [.a [iv p0a, .l .fz c0b p0b.length (p0b.map iv)]] hp = some (.l .own c3 l4.length (rows l4), hp, none) := fun hp => f84_is (c0b := c0b) e5
  obtain rfl := inj_ok h
  simp [ex1, ex2, e5]
def f41S (F : Nat) (p0a : Int) (p0b : List Int) (p1 : List Int) : Option (Int × Int) :=
  (f86S F p0a p0b p1).bind fun (x1, x2) =>
  (some (decide (x2 = 0))).bind fun x4 =>
  (match x4 with
  | true => ((f87S F p0a p0b x1).bind fun x5 =>
  some (x5, 0))
  | false => (some (0, x2)))
theorem f41_is {p0a : Int} {c0b : Ck} {p0b : List Int} {a1 : Bool} {c1 : Ck} {p1 : List Int} {hp : List (Option (List PV))} {F : Nat} {r : (Int × Int)}  (h : f41S F p0a p0b p1 = some r) :
    E Tryd.prog Y0 41 [.a [iv p0a, .l .fz c0b p0b.length (p0b.map iv)], .l (ak a1) c1 p1.length (p1.map iv)] hp = some (.t [iv r.1, iv r.2], hp, none) := by
  rw [E_bodyN 2 body41 rfl (by decide) rfl]
  simp only [Tryd.f41, Option.get_some]
  unfold f41S at h
  obtain ⟨⟨x1, x2⟩, e3, h⟩ := bind_ok h
  try dsimp only at h
  have e3 : ∀ hp, E Tryd.prog Y0 86 [.a [iv p0a, .l .fz c0b p0b.length (p0b.map iv)], .l (ak a1) c1 p1.length (p1.map iv)] hp = some (.t [kv .u64 x1, iv x2], hp, none) := fun hp => f86_is (c0b := c0b) (a1 := a1) (c1 := c1) e3
  obtain ⟨x4, ex4, h⟩ := bindT h
  cases x4
  case false =>
   obtain rfl := inj_ok h
   simp [e3, ex4]
  obtain ⟨x5, e6, h⟩ := bind_ok h
  have e6 : ∀ hp, E Tryd.prog Y0 87 [.a [iv p0a, .l .fz c0b p0b.length (p0b.map iv)], kv .u64 x1] hp = some (iv x5, hp, none) := fun hp => f87_is (c0b := c0b) e6
  obtain rfl := inj_ok h
  simp [e3, ex4, e6]
def f46S (F : Nat) (p0a : Int) (p0b : List Int) (p1 : Int) (p2 : List Int) : Option (Int) :=
  (f41S F p0a p0b p2).bind fun (x1, x2) =>
  (some (decide (x2 = 0))).bind fun x4 =>
  (match x4 with
  | true => ((some (decide (x1 < p1))).bind fun x5 =>
  (match x5 with
  | true => (some 14)
  | false => (some 0)))
  | false => (some x2))
theorem f46_is {p0a : Int} {c0b : Ck} {p0b : List Int} {p1 : Int} {a2 : Bool} {c2 : Ck} {p2 : List Int} {hp : List (Option (List PV))} {F : Nat} {r : (Int)}  (h : f46S F p0a p0b p1 p2 = some r) :
    E Tryd.prog Y0 46 [.a [iv p0a, .l .fz c0b p0b.length (p0b.map iv)], iv p1, .l (ak a2) c2 p2.length (p2.map iv)] hp = some (iv r, hp, none) := by
  rw [E_bodyN 3 body46 rfl (by decide) rfl]
  simp only [Tryd.f46, Option.get_some]
  unfold f46S at h
  obtain ⟨⟨x1, x2⟩, e3, h⟩ := bind_ok h
  try dsimp only at h
  have e3 : ∀ hp, E Tryd.prog Y0 41 [.a [iv p0a, .l .fz c0b p0b.length (p0b.map iv)], .l (ak a2) c2 p2.length (p2.map iv)] hp = some (.t [iv x1, iv x2], hp, none) := fun hp => f41_is (c0b := c0b) (a1 := a2) (c1 := c2) e3
  obtain ⟨x4, ex4, h⟩ := bindT h
  cases x4
  case false =>
   obtain rfl := inj_ok h
   simp [e3, ex4]
  obtain ⟨x5, ex5, h⟩ := bindT h
  cases x5
  case true =>
   obtain rfl := inj_ok h
   simp [e3, ex4, ex5]
  obtain rfl := inj_ok h
  simp [e3, ex4, ex5]
def f45_L0 (F : Nat) (p0 : List (Int × Int)) (p1 : List (Int × Int)) (K : Unit → Option (Bool)) : Nat → Int → Option (Bool)
  | 0, _ => none
  | n + 1, v4 => (some ((p0.length : Int))).bind fun x5 =>
    (some (decide (v4 < x5))).bind fun x6 =>
    (match x6 with
    | true => ((gI p0 v4).bind fun y7 =>
    (gI p1 v4).bind fun y8 =>
    (some ((decide (y7.1 = y8.1) && decide (y7.2 = y8.2)))).bind fun x9 =>
    (match x9 with
    | true => ((some (IntKind.i64.wrap (v4 + 1))).bind fun x11 =>
    f45_L0 F p0 p1 K n x11)
    | false => (some false)))
    | false => (K ()))
def f45S (F : Nat) (p0 : List (Int × Int)) (p1 : List (Int × Int)) : Option (Bool) :=
  (some ((p0.length : Int))).bind fun x1 =>
  (some ((p1.length : Int))).bind fun x2 =>
  (some (decide (x1 = x2))).bind fun x3 =>
  (match x3 with
  | true => (f45_L0 F p0 p1 (fun _ =>
    some true) F 0)
  | false => (some false))
theorem f45_is {a0 : Bool} {c0 : Ck} {p0 : List (Int × Int)} {a1 : Bool} {c1 : Ck} {p1 : List (Int × Int)} {hp : List (Option (List PV))} {F : Nat} {r : (Bool)}  (h : f45S F p0 p1 = some r) :
    E Tryd.prog Y0 45 [.l (ak a0) c0 p0.length (rows p0), .l (ak a1) c1 p1.length (rows p1)] hp = some (.v (.bool r), hp, none) := by
  rw [E_bodyN 2 body45 rfl (by decide) rfl]
  simp only [Tryd.f45, Option.get_some]
  unfold f45S at h
  obtain ⟨x1, ex1, h⟩ := bindT h
  obtain ⟨x2, ex2, h⟩ := bindT h
  obtain ⟨x3, ex3, h⟩ := bindT h
  cases x3
  case false =>
   obtain rfl := inj_ok h
   simp [ex1, ex2, ex3]
  simp [ex1, ex2, ex3]
  have hL0 := h; clear h
  refine loopS (S := f45_L0 F p0 p1) (fun v4 σ => ∃ (ts : Tr PV) (w : Option Nat), wok hp.length w ∧ σ = ⟨[], ts, hp, w⟩ ∧ ts.get 0 = some (.l (ak a0) c0 p0.length (rows p0)) ∧ ts.get 1 = some (.l (ak a1) c1 p1.length (rows p1)) ∧ ts.get 5 = some (iv v4) ∧ True) (fun _ σ => ∃ (ts : Tr PV) (w : Option Nat), wok hp.length w ∧ σ = ⟨[], ts, hp, w⟩ ∧ True) (fun _ => rfl) hL0 ?_ ?_ ?_
  · exact ⟨_, _, by simp, rfl, by simp [ex1, ex2, ex3]⟩
  · rintro ⟨⟩ σ ⟨ts, w, hw, rfl, -⟩ h
    clear hL0
    try dsimp only at h
    obtain rfl := inj_ok h
    simp [hw]
  · rintro k n v4 σ ⟨ts, w, hw, rfl, g0, g1, g5, -⟩ h ih ex
    clear hL0
    rw [f45_L0] at h
    obtain ⟨x5, ex5, h⟩ := bindT h
    obtain ⟨x6, ex6, h⟩ := bindT h
    cases x6
    case false =>
     simp [g0, g1, g5, ex5, ex6]
     refine ex () _ ?_ h
     exact ⟨_, _, by simp [hw], rfl, by simp [g0, g1, g5, ex5, ex6]⟩
    obtain ⟨y7, ey7, h⟩ := bind_ok h
    obtain ⟨ey7a, ey7e, ey7b, ey7c, ey7g⟩ := gI_ok rfl ey7
    have ey7d := rows_at ey7c
    have ey7f := rows_ble ey7e
    obtain ⟨y8, ey8, h⟩ := bind_ok h
    obtain ⟨ey8a, ey8e, ey8b, ey8c, ey8g⟩ := gI_ok rfl ey8
    have ey8d := rows_at ey8c
    have ey8f := rows_ble ey8e
    obtain ⟨x9, ex9, h⟩ := bindT h
    have q10 : ∀ x y, abin Tryd.prog .neq 75 x y (.agg #[.int .i64 y7.1, .int .i64 y7.2]) (.agg #[.int .i64 y8.1, .int .i64 y8.2]) = some (.bool (!x9)) := fun x y => by rw [neq75, ex9]
    cases x9
    case false =>
     obtain rfl := inj_ok h
     simp [g0, g1, g5, ex5, ex6, ey7a, ey7b, ey7c, ey7d, ey7f, ey8a, ey8b, ey8c, ey8d, ey8f, q10, hw]
    obtain ⟨x11, ex11, h⟩ := bindT h
    simp [g0, g1, g5, ex5, ex6, ey7a, ey7b, ey7c, ey7d, ey7f, ey8a, ey8b, ey8c, ey8d, ey8f, q10, ex11]
    refine ih x11 _ ?_ h
    exact ⟨_, _, by simp [hw], rfl, by simp [g0, g1, g5, ex5, ex6, ey7a, ey7b, ey7c, ey7d, ey7f, ey8a, ey8b, ey8c, ey8d, ey8f, q10, ex11]⟩
end Go.Proofs.YtcdhajbhpnbdkaaDoor
