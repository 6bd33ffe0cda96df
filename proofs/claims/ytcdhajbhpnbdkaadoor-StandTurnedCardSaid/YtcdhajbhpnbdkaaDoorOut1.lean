/-
  run, members, Index, again, Clone
  Printed by wip/tools/walk.py. Conditions: none; definitions and lemmas.
-/
import Derived.Test.YtcdhajbhpnbdkaaDoorWorks4
import Derived.Test.YtcdhajbhpnbdkaaDoorMade
import Derived.Test.YtcdhajbhpnbdkaaDoorPurG
set_option linter.unusedSimpArgs false
set_option linter.unusedVariables false
namespace Go.Proofs.YtcdhajbhpnbdkaaDoor
open Go.Abs Go.Pur
set_option maxRecDepth 100000
set_option maxHeartbeats 2000000
attribute [local simp] EK_region EK_seq EK_cond EK_block EK_blk EK_loop EK_exit EK.ex EK_ret EK_skip EK_nil EO_cons EO_nil EO1_true EO1_false EO2_some EO3_some EB_true EB_false pwanted poper pq pev Go.Pur.look pputT isAssign drOf pinit Tr.get_set lget pvOf_int pvOf_bool pvOf_str pvOf_nil rdv_ak notOwn_ak prt_ak loose_ak rdv_own rdv_fz rdv_bor rdv_rf rdv_pt rdv_v rdv_a rdv_t rdv_r rdv_p rdv_s rdv_f pbin plen pload ppart idxAddr pcond Nat.blt goInt_eq prun_not prun_neg mayLoad ER_ret ER_normal presL presOne moved stor okDrop settle_v settle_l settle_a settle_p settle_f noref_v noref_fz noref_a norefs_nil norefs_cons pclose given dropB Y0_keep pevParts stors pvCells pvCells.go vcells pfill reps zipParts ownFz pcells cellOK one psrcLen srcFits psrc takeP pgrow take getPl setPl mapL plEq elder isList lowP pevs frzs addP partAt ble_lim24 killV_v killV_a killV_t killV_f killV_i killV_p killV_s killV_un killV_dead killV_lfz killV_lbor killV_lown killV_rfz killV_rbor killV_lak killV_rak frzV_v frzV_a frzV_t frzV_f frzV_i frzV_p frzV_s frzV_un frzV_dead frzV_lfz frzV_lbor frzV_lown frzV_rfz frzV_rbor frzV_lak frzV_rak killCell_v killCell_a killCell_t killCell_f killCell_i killCell_p killCell_s killCell_un killCell_dead killCell_lfz killCell_lbor killCell_lown killCell_rfz killCell_rbor killCell_lak killCell_rak killV_lrf killV_lpt killV_rpt frzV_lrf frzV_lpt frzV_rpt killCell_lrft killCell_lptt killCell_rptt killCell_lrfc killCell_lptc killCell_rptc argv_lak argv_rak argv_v argv_a argv_p argv_f argv_fz argv_bor argv_rf argv_pt argv_rc argv_own mayTurn_none argvs pcallOp firm refsTo_v refsTo_l refsTo_p refsTo_s refsTo_a refsTo_dead refsTo_nil refsTo_cons isOwn_lak ownFz_lak evSafe pskip plain pnewBlk fldAddr isOwn pput notOwn_fz notOwn_bor notOwn_own notOwn_rf notOwn_pt prt_fz prt_bor prt_own prt_rf prt_pt Go.Pur.freeze presM settles abin_and abin_or abin_andNot abin_mul abin_shr abin_shl abin_add abin_sub abin_eql abin_neq abin_lss abin_leq abin_gtr abin_geq hows pcallIn Y0_how Y0_part howOf partOf rdv_mown rdv_mfz rdv_mbor rdv_mrf killV_mown killV_mfz killV_mbor killV_mrf frzV_mown frzV_mfz frzV_mbor frzV_mrf killCell_mown killCell_mfz killCell_mbor killCell_mrf argv_mfz argv_mbor argv_mrf settle_m kls_v kls_l kls_a kls_t kls_r kls_p kls_s kls_f kls_i kls_it kls_un kls_dead kls_mown kls_mrf kls_mbor kls_mfz fzOf takable mapHere mapOwn mapTo flat toPlain toPlain.go ofFlat ofPair mapEs plook lookRes Y0_mv mvOf mvBlk premv keep50 keep51 keep52 keep55 keep61 sz3 by3 row3 zero3 sz4 by4 row4 zero4 sz5 by5 row5 zero5 sz9 by9 row9 shape9 zero9 sz22 by22 row22 shape22 zero22 sz24 by24 row24 zero24 parts24 field24_0 field24_1 sz27 by27 row27 zero27 parts27 field27_0 field27_1 sz28 by28 row28 zero28 sz32 by32 row32 shape32 zero32 sz46 by46 row46 shape46 zero46 sz54 by54 row54 shape54 zero54 parts54 sz56 by56 row56 zero56 parts56 field56_0 field56_1 field56_2 sz63 by63 row63 shape63 zero63 parts63 sz70 by70 row70 shape70 zero70 parts70 sz75 by75 row75 shape75 zero75 parts75 sz79 by79 row79 zero79 sz84 by84 row84 zero84 sz86 by86 row86 shape86 zero86 sz91 by91 row91 zero91 sz93 by93 row93 zero93 parts93 field93_0 sz97 by97 row97 zero97 sz100 by100 row100 zero100 sz102 by102 row102 zero102 sz105 by105 row105 zero105 parts105 field105_0 field105_1 field105_2 sz106 by106 row106 zero106 sz108 by108 row108 zero108 parts108 field108_0 field108_1 sz109 by109 row109 shape109 zero109 parts109 sz110 by110 row110 shape110 parts110 sz112 by112 row112 parts112 field112_0 field112_1 sz126 by126 row126 shape126 zero126 sz127 by127 row127 zero127 sz134 by134 row134 zero134 sz136 by136 row136 zero136 sz140 by140 row140 zero140 sz147 by147 row147 shape147 zero147 parts147 sz148 by148 row148 shape148 zero148 parts148 sz149 by149 row149 zero149 sz153 by153 row153 zero153 bs_size gAt gAt0 sAt sAt0 optPlain rows_len noMaker_eq kindOf vlOf abin_rem abin_quo mayTurn_none lowOf_none Go.Pur.partAt rows_nil rows_cons ble_add ble_add0 ble_same toPlain toPlain.go intIn2_0 intIn2_1 ble12 ble22 tv lv max_int min_int pplains ak_true ak_false apartP beq_add beq_add0 beq_add1 argv_s wok_none wok_low_iff lowOf_wok
attribute [local simp] ble_addc
def f51_L0 (F : Nat) (p0 : Int) (K : List Int → Option ((Ck × List Int))) : Nat → List Int × Int → Option ((Ck × List Int))
  | 0, _ => none
  | n + 1, (v1, v2) => (some (decide (v2 < 12))).bind fun x3 =>
    (match x3 with
    | true => ((shrO .i64 p0 v2).bind fun x4 =>
    (some (andI .i64 x4 1)).bind fun x5 =>
    (some (decide (x5 = 1))).bind fun x6 =>
    (match x6 with
    | true => ((app1 v1 v2).bind fun x7 =>
    (some (IntKind.i64.wrap (v2 + 1))).bind fun x8 =>
    f51_L0 F p0 K n (x7, x8))
    | false => ((some (IntKind.i64.wrap (v2 + 1))).bind fun x9 =>
    f51_L0 F p0 K n (v1, x9))))
    | false => (K v1))
def f51S (F : Nat) (p0 : Int) : Option ((Ck × List Int)) :=
  f51_L0 F p0 (fun v10 =>
    some (.nz, v10)) F ([], 0)
theorem f51_is {p0 : Int} {hp : List (Option (List PV))} {F : Nat} {r : ((Ck × List Int))}  (h : f51S F p0 = some r) :
    E Tryd.prog Y0 51 [iv p0] hp = some (.l .own r.1 r.2.length (r.2.map iv), hp, none) := by
  rw [E_bodyN 1 body51 rfl (by decide) rfl]
  simp only [Tryd.f51, Option.get_some]
  unfold f51S at h
  simp
  have hL0 := h; clear h
  refine loopS (S := f51_L0 F p0) (fun (v1, v2) σ => ∃ (ts : Tr PV) (w : Option Nat), wok hp.length w ∧ σ = ⟨[], ts, hp, w⟩ ∧ ts.get 0 = some (iv p0) ∧ ts.get 3 = some (.l .own .nz v1.length (v1.map iv)) ∧ ts.get 5 = some (iv v2) ∧ True) (fun v10 σ => ∃ (ts : Tr PV) (w : Option Nat), wok hp.length w ∧ σ = ⟨[], ts, hp, w⟩ ∧ ts.get 3 = some (.l .own .nz v10.length (v10.map iv)) ∧ True) (fun _ => rfl) hL0 ?_ ?_ ?_
  · exact ⟨_, _, by simp, rfl, by simp⟩
  · rintro v10 σ ⟨ts, w, hw, rfl, g3, -⟩ h
    clear hL0
    try dsimp only at h
    obtain rfl := inj_ok h
    simp [g3, hw]
  · rintro k n ⟨v1, v2⟩ σ ⟨ts, w, hw, rfl, g0, g3, g5, -⟩ h ih ex
    clear hL0
    rw [f51_L0] at h
    obtain ⟨x3, ex3, h⟩ := bindT h
    cases x3
    case false =>
     simp [g0, g3, g5, ex3]
     refine ex v1 _ ?_ h
     exact ⟨_, _, by simp [hw], rfl, by simp [g0, g3, g5, ex3]⟩
    obtain ⟨x4, ex4, h⟩ := bind_ok h
    obtain ⟨ex4a, ex4⟩ := shrO_ok ex4
    obtain ⟨x5, ex5, h⟩ := bindT h
    obtain ⟨x6, ex6, h⟩ := bindT h
    cases x6
    case false =>
     obtain ⟨x9, ex9, h⟩ := bindT h
     simp [g0, g3, g5, ex3, ex4, ex4a, ex5, ex6, ex9]
     refine ih (v1, x9) _ ?_ h
     exact ⟨_, _, by simp [hw], rfl, by simp [g0, g3, g5, ex3, ex4, ex4a, ex5, ex6, ex9]⟩
    obtain ⟨x7, ex7, h⟩ := bind_ok h
    obtain ⟨ex7a, ex7b, ex7c, ex7q⟩ := app1_ok iv ex7
    have ex7b := ex7b 10 (by decide)
    obtain ⟨x8, ex8, h⟩ := bindT h
    simp [g0, g3, g5, ex3, ex4, ex4a, ex5, ex6, ex7a, ex7b, ex7c, ex8]
    refine ih (x7, x8) _ ?_ h
    exact ⟨_, _, by simp [hw], rfl, by simp [g0, g3, g5, ex3, ex4, ex4a, ex5, ex6, ex7a, ex7b, ex7c, ex8]⟩
def f55_L1 (F : Nat) (p0b : List Int) (v3 : Int) (y5 : Int) (K : List (Int × Int) → Option ((Ck × List (Int × Int)))) : Nat → List (Int × Int) × Int → Option ((Ck × List (Int × Int)))
  | 0, _ => none
  | n + 1, (v7, v8) => (some ((p0b.length : Int))).bind fun x9 =>
    (some (decide (v8 < x9))).bind fun x10 =>
    (match x10 with
    | true => ((gI p0b v8).bind fun y11 =>
    (some (decide (y11 = y5))).bind fun x12 =>
    (match x12 with
    | true => ((app1 v7 (v3, v8)).bind fun x13 =>
    K x13)
    | false => ((some (IntKind.i64.wrap (v8 + 1))).bind fun x14 =>
    f55_L1 F p0b v3 y5 K n (v7, x14))))
    | false => (K v7))
def f55_L0 (F : Nat) (p0b : List Int) (x1 : Int) (K : List (Int × Int) → Option ((Ck × List (Int × Int)))) : Nat → List (Int × Int) × Int → Option ((Ck × List (Int × Int)))
  | 0, _ => none
  | n + 1, (v2, v3) => (some (decide (v3 < x1))).bind fun x4 =>
    (match x4 with
    | true => ((gI p0b v3).bind fun y5 =>
    (some (IntKind.i64.wrap (v3 + 1))).bind fun x6 =>
    f55_L1 F p0b v3 y5 (fun v15 =>
      (some (IntKind.i64.wrap (v3 + 1))).bind fun x16 =>
      f55_L0 F p0b x1 K n (v15, x16)) F (v2, x6))
    | false => (K v2))
def f55S (F : Nat) (p0a : Int) (p0b : List Int) : Option ((Ck × List (Int × Int))) :=
  (some ((p0b.length : Int))).bind fun x1 =>
  f55_L0 F p0b x1 (fun v17 =>
    some (.nz, v17)) F ([], 0)
theorem f55_is {p0a : Int} {c0b : Ck} {p0b : List Int} {hp : List (Option (List PV))} {F : Nat} {r : ((Ck × List (Int × Int)))}  (h : f55S F p0a p0b = some r) :
    E Tryd.prog Y0 55 [.a [iv p0a, .l .fz c0b p0b.length (p0b.map iv)]] hp = some (.l .own r.1 r.2.length (rows r.2), hp, none) := by
  rw [E_bodyN 1 body55 rfl (by decide) rfl]
  simp only [Tryd.f55, Option.get_some]
  unfold f55S at h
  obtain ⟨x1, ex1, h⟩ := bindT h
  simp [ex1]
  have hL0 := h; clear h
  refine loopS (S := f55_L0 F p0b x1) (fun (v2, v3) σ => ∃ (ts : Tr PV) (w : Option Nat), wok hp.length w ∧ σ = ⟨[], ts, hp ++ [some [iv p0a, .l .fz c0b p0b.length (p0b.map iv)]], w⟩ ∧ ts.get 1 = some (.p hp.length 0) ∧ ts.get 3 = some (.l .own .nz v2.length (rows v2)) ∧ ts.get 8 = some (.l .fz c0b p0b.length (p0b.map iv)) ∧ ts.get 9 = some (iv x1) ∧ ts.get 10 = some (iv v3) ∧ True) (fun v17 σ => ∃ (ts : Tr PV) (w : Option Nat), wok hp.length w ∧ σ = ⟨[], ts, hp ++ [some [iv p0a, .l .fz c0b p0b.length (p0b.map iv)]], w⟩ ∧ ts.get 3 = some (.l .own .nz v17.length (rows v17)) ∧ True) (fun _ => rfl) hL0 ?_ ?_ ?_
  · exact ⟨_, _, by simp, rfl, by simp [ex1]⟩
  · rintro v17 σ ⟨ts, w, hw, rfl, g3, -⟩ h
    clear hL0
    try dsimp only at h
    obtain rfl := inj_ok h
    simp [g3, hw]
  · rintro k n ⟨v2, v3⟩ σ ⟨ts, w, hw, rfl, g1, g3, g8, g9, g10, -⟩ h ih ex
    clear hL0
    rw [f55_L0] at h
    obtain ⟨x4, ex4, h⟩ := bindT h
    cases x4
    case false =>
     simp [g1, g3, g8, g9, g10, ex4]
     refine ex v2 _ ?_ h
     exact ⟨_, _, by simp [hw], rfl, by simp [g1, g3, g8, g9, g10, ex4]⟩
    obtain ⟨y5, ey5, h⟩ := bind_ok h
    obtain ⟨ey5a, ey5e, ey5b, ey5c, ey5g⟩ := gI_ok rfl ey5
    obtain ⟨x6, ex6, h⟩ := bindT h
    simp [g1, g3, g8, g9, g10, ex4, ey5a, ey5b, ey5c, ex6]
    have hL1 := h; clear h
    refine loopS (S := f55_L1 F p0b v3 y5) (fun (v7, v8) σ => ∃ (ts : Tr PV) (w : Option Nat), wok hp.length w ∧ σ = ⟨[], ts, hp ++ [some [iv p0a, .l .fz c0b p0b.length (p0b.map iv)]], w⟩ ∧ ts.get 1 = some (.p hp.length 0) ∧ ts.get 3 = some (.l .own .nz v7.length (rows v7)) ∧ ts.get 4 = some (iv v3) ∧ ts.get 5 = some (iv y5) ∧ ts.get 6 = some (iv v8) ∧ ts.get 8 = some (.l .fz c0b p0b.length (p0b.map iv)) ∧ ts.get 9 = some (iv x1) ∧ ts.get 10 = some (iv v3) ∧ True) (fun v15 σ => ∃ (ts : Tr PV) (w : Option Nat), wok hp.length w ∧ σ = ⟨[], ts, hp ++ [some [iv p0a, .l .fz c0b p0b.length (p0b.map iv)]], w⟩ ∧ ts.get 1 = some (.p hp.length 0) ∧ ts.get 3 = some (.l .own .nz v15.length (rows v15)) ∧ ts.get 8 = some (.l .fz c0b p0b.length (p0b.map iv)) ∧ ts.get 9 = some (iv x1) ∧ ts.get 10 = some (iv v3) ∧ True) (fun _ => rfl) hL1 ?_ ?_ ?_
    · exact ⟨_, _, by simp [hw], rfl, by simp [g1, g3, g8, g9, g10, ex4, ey5a, ey5b, ey5c, ex6]⟩
    · rintro v15 σ ⟨ts, w, hw, rfl, g1, g3, g8, g9, g10, -⟩ h
      clear hL1
      try dsimp only at h
      obtain ⟨x16, ex16, h⟩ := bindT h
      simp [g1, g3, g8, g9, g10, ex16]
      refine ih (v15, x16) _ ?_ h
      exact ⟨_, _, by simp [hw], rfl, by simp [g1, g3, g8, g9, g10, ex16]⟩
    · rintro k n ⟨v7, v8⟩ σ ⟨ts, w, hw, rfl, g1, g3, g4, g5, g6, g8, g9, g10, -⟩ h ih ex
      clear hL1
      rw [f55_L1] at h
      obtain ⟨x9, ex9, h⟩ := bindT h
      obtain ⟨x10, ex10, h⟩ := bindT h
      cases x10
      case false =>
       simp [g1, g3, g4, g5, g6, g8, g9, g10, ex9, ex10]
       refine ex v7 _ ?_ h
       exact ⟨_, _, by simp [hw], rfl, by simp [g1, g3, g4, g5, g6, g8, g9, g10, ex9, ex10]⟩
      obtain ⟨y11, ey11, h⟩ := bind_ok h
      obtain ⟨ey11a, ey11e, ey11b, ey11c, ey11g⟩ := gI_ok rfl ey11
      obtain ⟨x12, ex12, h⟩ := bindT h
      cases x12
      case false =>
       obtain ⟨x14, ex14, h⟩ := bindT h
       simp [g1, g3, g4, g5, g6, g8, g9, g10, ex9, ex10, ey11a, ey11b, ey11c, ex12, ex14]
       refine ih (v7, x14) _ ?_ h
       exact ⟨_, _, by simp [hw], rfl, by simp [g1, g3, g4, g5, g6, g8, g9, g10, ex9, ex10, ey11a, ey11b, ey11c, ex12, ex14]⟩
      obtain ⟨x13, ex13, h⟩ := bind_ok h
      obtain ⟨ex13a, ex13b, ex13c, ex13q⟩ := app1_rows ex13
      have ex13b := ex13b 19 (by decide)
      simp [g1, g3, g4, g5, g6, g8, g9, g10, ex9, ex10, ey11a, ey11b, ey11c, ex12, ex13a, ex13b, ex13c]
      refine ex x13 _ ?_ h
      exact ⟨_, _, by simp [hw], rfl, by simp [g1, g3, g4, g5, g6, g8, g9, g10, ex9, ex10, ey11a, ey11b, ey11c, ex12, ex13a, ex13b, ex13c]⟩
def f61S (F : Nat) (c0 : Ck) (p0 : List Int) : Option ((Ck × List Int)) :=
  (isNil c0 p0.length).bind fun x1 =>
  (match x1 with
  | true => (some (.nz, []))
  | false => ((some (p0.isEmpty)).bind fun x2 =>
  (match x2 with
  | true => (some (.full, []))
  | false => ((neL p0).bind fun x3 =>
  some (.nz, p0)))))
theorem f61_is {a0 : Bool} {c0 : Ck} {p0 : List Int} {hp : List (Option (List PV))} {F : Nat} {r : ((Ck × List Int))}  (h : f61S F c0 p0 = some r) :
    E Tryd.prog Y0 61 [.l (ak a0) c0 p0.length (p0.map iv)] hp = some (.l (vlOf r.1) r.1 r.2.length (r.2.map iv), hp, none) := by
  rw [E_bodyN 1 body61 rfl (by decide) rfl]
  simp only [Tryd.f61, Option.get_some]
  unfold f61S at h
  replace h := bind_ok h; obtain ⟨x1, ex1, h⟩ := h
  cases x1
  case true =>
   obtain rfl := inj_ok h
   simp [ex1, plnil, Tryd.underlying22]
  replace h := bindT h; obtain ⟨x2, ex2, h⟩ := h
  cases x2
  case true =>
   obtain rfl := List.isEmpty_iff.1 ex2
   try simp only [List.length_nil] at ex1
   obtain rfl := inj_ok h
   simp [ex1, plnil, Tryd.underlying22]
  replace h := bind_ok h; obtain ⟨x3, ex3, h⟩ := h
  obtain ⟨ex3a, ex3c, ex3f⟩ := neL_ok iv ex3
  have ex3c := ex3c 10 (by decide)
  obtain rfl := inj_ok h
  simp [ex1, plnil, Tryd.underlying22, ex2, ex3a, ex3c, ex3f]
end Go.Proofs.YtcdhajbhpnbdkaaDoor
