/-
  bound
  Printed by wip/tools/walk.py. Conditions: none; definitions and lemmas.
-/
import Derived.Test.YtcdhajbhpnbdkaaDoorOut1
import Derived.Test.YtcdhajbhpnbdkaaDoorPurI
set_option linter.unusedSimpArgs false
set_option linter.unusedVariables false
namespace Go.Proofs.YtcdhajbhpnbdkaaDoor
open Go.Abs Go.Pur
set_option maxRecDepth 100000
set_option maxHeartbeats 2000000
attribute [local simp] EK_region EK_seq EK_cond EK_block EK_blk EK_loop EK_exit EK.ex EK_ret EK_skip EK_nil EO_cons EO_nil EO1_true EO1_false EO2_some EO3_some EB_true EB_false pwanted poper pq pev Go.Pur.look pputT isAssign drOf pinit Tr.get_set lget pvOf_int pvOf_bool pvOf_str pvOf_nil rdv_ak notOwn_ak prt_ak loose_ak rdv_own rdv_fz rdv_bor rdv_rf rdv_pt rdv_v rdv_a rdv_t rdv_r rdv_p rdv_s rdv_f pbin plen pload ppart idxAddr pcond Nat.blt goInt_eq prun_not prun_neg mayLoad ER_ret ER_normal presL presOne moved stor okDrop settle_v settle_l settle_a settle_p settle_f noref_v noref_fz noref_a norefs_nil norefs_cons pclose given dropB Y0_keep pevParts stors pvCells pvCells.go vcells pfill reps zipParts ownFz pcells cellOK one psrcLen srcFits psrc takeP pgrow take getPl setPl mapL plEq elder isList lowP pevs frzs addP partAt ble_lim24 killV_v killV_a killV_t killV_f killV_i killV_p killV_s killV_un killV_dead killV_lfz killV_lbor killV_lown killV_rfz killV_rbor killV_lak killV_rak frzV_v frzV_a frzV_t frzV_f frzV_i frzV_p frzV_s frzV_un frzV_dead frzV_lfz frzV_lbor frzV_lown frzV_rfz frzV_rbor frzV_lak frzV_rak killCell_v killCell_a killCell_t killCell_f killCell_i killCell_p killCell_s killCell_un killCell_dead killCell_lfz killCell_lbor killCell_lown killCell_rfz killCell_rbor killCell_lak killCell_rak killV_lrf killV_lpt killV_rpt frzV_lrf frzV_lpt frzV_rpt killCell_lrft killCell_lptt killCell_rptt killCell_lrfc killCell_lptc killCell_rptc argv_lak argv_rak argv_v argv_a argv_p argv_f argv_fz argv_bor argv_rf argv_pt argv_rc argv_own mayTurn_none argvs pcallOp firm refsTo_v refsTo_l refsTo_p refsTo_s refsTo_a refsTo_dead refsTo_nil refsTo_cons isOwn_lak ownFz_lak evSafe pskip plain pnewBlk fldAddr isOwn pput notOwn_fz notOwn_bor notOwn_own notOwn_rf notOwn_pt prt_fz prt_bor prt_own prt_rf prt_pt Go.Pur.freeze presM settles abin_and abin_or abin_andNot abin_mul abin_shr abin_shl abin_add abin_sub abin_eql abin_neq abin_lss abin_leq abin_gtr abin_geq hows pcallIn Y0_how Y0_part howOf partOf rdv_mown rdv_mfz rdv_mbor rdv_mrf killV_mown killV_mfz killV_mbor killV_mrf frzV_mown frzV_mfz frzV_mbor frzV_mrf killCell_mown killCell_mfz killCell_mbor killCell_mrf argv_mfz argv_mbor argv_mrf settle_m kls_v kls_l kls_a kls_t kls_r kls_p kls_s kls_f kls_i kls_it kls_un kls_dead kls_mown kls_mrf kls_mbor kls_mfz fzOf takable mapHere mapOwn mapTo flat toPlain toPlain.go ofFlat ofPair mapEs plook lookRes Y0_mv mvOf mvBlk premv keep53 sz3 by3 row3 zero3 sz4 by4 row4 zero4 sz5 by5 row5 zero5 sz9 by9 row9 shape9 zero9 sz22 by22 row22 shape22 zero22 sz24 by24 row24 zero24 parts24 field24_0 field24_1 sz27 by27 row27 zero27 parts27 field27_0 field27_1 sz28 by28 row28 zero28 sz32 by32 row32 shape32 zero32 sz46 by46 row46 shape46 zero46 sz54 by54 row54 shape54 zero54 parts54 sz56 by56 row56 zero56 parts56 field56_0 field56_1 field56_2 sz63 by63 row63 shape63 zero63 parts63 sz70 by70 row70 shape70 zero70 parts70 sz75 by75 row75 shape75 zero75 parts75 sz79 by79 row79 zero79 sz84 by84 row84 zero84 sz86 by86 row86 shape86 zero86 sz91 by91 row91 zero91 sz93 by93 row93 zero93 parts93 field93_0 sz97 by97 row97 zero97 sz100 by100 row100 zero100 sz102 by102 row102 zero102 sz105 by105 row105 zero105 parts105 field105_0 field105_1 field105_2 sz106 by106 row106 zero106 sz108 by108 row108 zero108 parts108 field108_0 field108_1 sz109 by109 row109 shape109 zero109 parts109 sz110 by110 row110 shape110 parts110 sz112 by112 row112 parts112 field112_0 field112_1 sz126 by126 row126 shape126 zero126 sz127 by127 row127 zero127 sz134 by134 row134 zero134 sz136 by136 row136 zero136 sz140 by140 row140 zero140 sz147 by147 row147 shape147 zero147 parts147 sz148 by148 row148 shape148 zero148 parts148 sz149 by149 row149 zero149 sz153 by153 row153 zero153 bs_size gAt gAt0 sAt sAt0 optPlain rows_len noMaker_eq kindOf vlOf abin_rem abin_quo mayTurn_none lowOf_none Go.Pur.partAt rows_nil rows_cons ble_add ble_add0 ble_same toPlain toPlain.go intIn2_0 intIn2_1 ble12 ble22 tv lv max_int min_int pplains ak_true ak_false apartP beq_add beq_add0 beq_add1 argv_s wok_none wok_low_iff lowOf_wok
attribute [local simp] ble_addc
def f53_L2 (F : Nat) (p1 : Int) (y19 : (Int × Int)) (K : Int → Option (Int)) : Nat → Int × Int → Option (Int)
  | 0, _ => none
  | n + 1, (v22, v23) => (some (decide (v23 < y19.2))).bind fun x24 =>
    (match x24 with
    | true => ((shrO .i64 p1 v23).bind fun x25 =>
    (some (andI .i64 x25 1)).bind fun x26 =>
    (some (orI .i64 v22 x26)).bind fun x27 =>
    (some (IntKind.i64.wrap (v23 + 1))).bind fun x28 =>
    f53_L2 F p1 y19 K n (x27, x28))
    | false => (K v22))
def f53_L1 (F : Nat) (p1 : Int) (l13 : List (Int × Int)) (x15 : Int) (K : Int → Option (Int)) : Nat → Int × Int → Option (Int)
  | 0, _ => none
  | n + 1, (v16, v17) => (some (decide (v17 < x15))).bind fun x18 =>
    (match x18 with
    | true => ((gI l13 v17).bind fun y19 =>
    (some (IntKind.i64.wrap (y19.1 + 1))).bind fun x21 =>
    f53_L2 F p1 y19 (fun v29 =>
      (some (IntKind.i64.wrap (1 - v29))).bind fun x30 =>
      (some (IntKind.i64.wrap (v16 - x30))).bind fun x31 =>
      (some (IntKind.i64.wrap (v17 + 1))).bind fun x32 =>
      f53_L1 F p1 l13 x15 K n (x31, x32)) F (0, x21))
    | false => (K v16))
def f53_L0 (F : Nat) (p0a : Int) (p1 : Int) (x1 : Int) (K : Int → Option (Int)) : Nat → Int × Int → Option (Int)
  | 0, _ => none
  | n + 1, (v2, v3) => (some (decide (v3 < x1))).bind fun x4 =>
    (match x4 with
    | true => ((some (IntKind.i64.wrap (p0a - 1))).bind fun x5 =>
    (shrO .i64 p1 v3).bind fun x6 =>
    (some (andI .i64 x6 1)).bind fun x7 =>
    (some (mulI .i64 x5 x7)).bind fun x8 =>
    (some (IntKind.i64.wrap (v2 - x8))).bind fun x9 =>
    (some (IntKind.i64.wrap (v3 + 1))).bind fun x10 =>
    f53_L0 F p0a p1 x1 K n (x9, x10))
    | false => (K v2))
def f53S (F : Nat) (p0a : Int) (p0b : List Int) (p1 : Int) : Option (Int) :=
  (some ((p0b.length : Int))).bind fun x1 =>
  f53_L0 F p0a p1 x1 (fun v11 =>
    (f55S F p0a p0b).bind fun (c12, l13) =>
    (some ((l13.length : Int))).bind fun x15 =>
    f53_L1 F p1 l13 x15 (fun v33 =>
      (some (max 0 v33)).bind fun x34 =>
      some x34) F (v11, 0)) F (x1, 0)
theorem f53_is {p0a : Int} {c0b : Ck} {p0b : List Int} {p1 : Int} {hp : List (Option (List PV))} {F : Nat} {r : (Int)}  (h : f53S F p0a p0b p1 = some r) :
    E Tryd.prog Y0 53 [.a [iv p0a, .l .fz c0b p0b.length (p0b.map iv)], iv p1] hp = some (iv r, hp, none) := by
  rw [E_bodyN 2 body53 rfl (by decide) rfl]
  simp only [Tryd.f53, Option.get_some]
  unfold f53S at h
  obtain ⟨x1, ex1, h⟩ := bindT h
  simp [ex1]
  have hL0 := h; clear h
  refine loopS (S := f53_L0 F p0a p1 x1) (fun (v2, v3) σ => ∃ (ts : Tr PV) (w : Option Nat), wok hp.length w ∧ σ = ⟨[], ts, hp ++ [some [iv p0a, .l .fz c0b p0b.length (p0b.map iv)]], w⟩ ∧ ts.get 1 = some (iv p1) ∧ ts.get 2 = some (.p hp.length 0) ∧ ts.get 5 = some (iv v2) ∧ ts.get 16 = some (iv x1) ∧ ts.get 17 = some (iv v3) ∧ True) (fun v11 σ => ∃ (ts : Tr PV) (w : Option Nat), wok hp.length w ∧ σ = ⟨[], ts, hp ++ [some [iv p0a, .l .fz c0b p0b.length (p0b.map iv)]], w⟩ ∧ ts.get 1 = some (iv p1) ∧ ts.get 2 = some (.p hp.length 0) ∧ ts.get 5 = some (iv v11) ∧ True) (fun _ => rfl) hL0 ?_ ?_ ?_
  · exact ⟨_, _, by simp, rfl, by simp [ex1]⟩
  · rintro v11 σ ⟨ts, w, hw, rfl, g1, g2, g5, -⟩ h
    clear hL0
    try dsimp only at h
    obtain ⟨⟨c12, l13⟩, e14, h⟩ := bind_ok h
    try dsimp only at h
    have e14 : ∀ hp, E Tryd.prog Y0 55 [.a [iv p0a, .l .fz c0b p0b.length (p0b.map iv)]] hp = some (.l .own c12 l13.length (rows l13), hp, none) := fun hp => f55_is (c0b := c0b) e14
    obtain ⟨x15, ex15, h⟩ := bindT h
    simp [g1, g2, g5, e14, ex15]
    have hL1 := h; clear h
    refine loopS (S := f53_L1 F p1 l13 x15) (fun (v16, v17) σ => ∃ (ts : Tr PV) (w : Option Nat) (H : List (Option (List PV))), wok hp.length w ∧ σ = ⟨[], ts, H, w⟩ ∧ (∃ G, H = hp ++ (some [iv p0a, .l .fz c0b p0b.length (p0b.map iv)] :: G)) ∧ ts.get 1 = some (iv p1) ∧ ts.get 5 = some (iv v16) ∧ ts.get 32 = some (.l .own c12 l13.length (rows l13)) ∧ ts.get 33 = some (iv x15) ∧ ts.get 34 = some (iv v17) ∧ True) (fun v33 σ => ∃ (ts : Tr PV) (w : Option Nat) (H : List (Option (List PV))), wok hp.length w ∧ σ = ⟨[], ts, H, w⟩ ∧ (∃ G, H = hp ++ (some [iv p0a, .l .fz c0b p0b.length (p0b.map iv)] :: G)) ∧ ts.get 5 = some (iv v33) ∧ True) (fun _ => rfl) hL1 ?_ ?_ ?_
    · exact ⟨_, _, _, by simp [hw], rfl, ⟨[], by simp⟩, by simp [g1, g2, g5, e14, ex15]⟩
    · rintro v33 σ ⟨ts, w, H, hw, rfl, ⟨G, rfl⟩, g5, -⟩ h
      clear hL1
      try dsimp only at h
      obtain ⟨x34, ex34, h⟩ := bindT h
      obtain rfl := inj_ok h
      simp [g5, ex34, hw]
    · rintro k n ⟨v16, v17⟩ σ ⟨ts, w, H, hw, rfl, ⟨G, rfl⟩, g1, g5, g32, g33, g34, -⟩ h ih ex
      clear hL1
      rw [f53_L1] at h
      obtain ⟨x18, ex18, h⟩ := bindT h
      cases x18
      case false =>
       simp [g1, g5, g32, g33, g34, ex18]
       refine ex v16 _ ?_ h
       exact ⟨_, _, _, by simp [hw], rfl, ⟨_, rfl⟩, by simp [g1, g5, g32, g33, g34, ex18]⟩
      obtain ⟨y19, ey19, h⟩ := bind_ok h
      obtain ⟨ey19a, ey19e, ey19b, ey19c, ey19g⟩ := gI_ok rfl ey19
      have ey19d := rows_at ey19c
      have ey19f := rows_ble ey19e
      have q20 : spliceP 0 [iv y19.1, iv y19.2] [iv 0, iv 0] = some [iv y19.1, iv y19.2] := rfl
      obtain ⟨x21, ex21, h⟩ := bindT h
      simp [g1, g5, g32, g33, g34, ex18, ey19a, ey19b, ey19c, ey19d, ey19f, q20, ex21]
      have hL2 := h; clear h
      refine loopS (S := f53_L2 F p1 y19) (fun (v22, v23) σ => ∃ (ts : Tr PV) (w : Option Nat), wok hp.length w ∧ σ = ⟨[], ts, hp ++ (some [iv p0a, .l .fz c0b p0b.length (p0b.map iv)] :: (G ++ [some [iv y19.1, iv y19.2]])), w⟩ ∧ ts.get 1 = some (iv p1) ∧ ts.get 5 = some (iv v16) ∧ ts.get 8 = some (.p (hp.length + (G.length + 1)) 0) ∧ ts.get 9 = some (iv v22) ∧ ts.get 10 = some (iv v23) ∧ ts.get 32 = some (.l .own c12 l13.length (rows l13)) ∧ ts.get 33 = some (iv x15) ∧ ts.get 34 = some (iv v17) ∧ True) (fun v29 σ => ∃ (ts : Tr PV) (w : Option Nat), wok hp.length w ∧ σ = ⟨[], ts, hp ++ (some [iv p0a, .l .fz c0b p0b.length (p0b.map iv)] :: (G ++ [some [iv y19.1, iv y19.2]])), w⟩ ∧ ts.get 1 = some (iv p1) ∧ ts.get 5 = some (iv v16) ∧ ts.get 9 = some (iv v29) ∧ ts.get 32 = some (.l .own c12 l13.length (rows l13)) ∧ ts.get 33 = some (iv x15) ∧ ts.get 34 = some (iv v17) ∧ True) (fun _ => rfl) hL2 ?_ ?_ ?_
      · exact ⟨_, _, by simp [hw], rfl, by simp [g1, g5, g32, g33, g34, ex18, ey19a, ey19b, ey19c, ey19d, ey19f, q20, ex21]⟩
      · rintro v29 σ ⟨ts, w, hw, rfl, g1, g5, g9, g32, g33, g34, -⟩ h
        clear hL2
        try dsimp only at h
        obtain ⟨x30, ex30, h⟩ := bindT h
        obtain ⟨x31, ex31, h⟩ := bindT h
        obtain ⟨x32, ex32, h⟩ := bindT h
        simp [g1, g5, g9, g32, g33, g34, ex30, ex31, ex32]
        refine ih (x31, x32) _ ?_ h
        exact ⟨_, _, _, by simp [hw], rfl, ⟨_, rfl⟩, by simp [g1, g5, g9, g32, g33, g34, ex30, ex31, ex32]⟩
      · rintro k n ⟨v22, v23⟩ σ ⟨ts, w, hw, rfl, g1, g5, g8, g9, g10, g32, g33, g34, -⟩ h ih ex
        clear hL2
        rw [f53_L2] at h
        obtain ⟨x24, ex24, h⟩ := bindT h
        cases x24
        case false =>
         simp [g1, g5, g8, g9, g10, g32, g33, g34, ex24]
         refine ex v22 _ ?_ h
         exact ⟨_, _, by simp [hw], rfl, by simp [g1, g5, g8, g9, g10, g32, g33, g34, ex24]⟩
        obtain ⟨x25, ex25, h⟩ := bind_ok h
        obtain ⟨ex25a, ex25⟩ := shrO_ok ex25
        obtain ⟨x26, ex26, h⟩ := bindT h
        obtain ⟨x27, ex27, h⟩ := bindT h
        obtain ⟨x28, ex28, h⟩ := bindT h
        simp [g1, g5, g8, g9, g10, g32, g33, g34, ex24, ex25, ex25a, ex26, ex27, ex28]
        refine ih (x27, x28) _ ?_ h
        exact ⟨_, _, by simp [hw], rfl, by simp [g1, g5, g8, g9, g10, g32, g33, g34, ex24, ex25, ex25a, ex26, ex27, ex28]⟩
  · rintro k n ⟨v2, v3⟩ σ ⟨ts, w, hw, rfl, g1, g2, g5, g16, g17, -⟩ h ih ex
    clear hL0
    rw [f53_L0] at h
    obtain ⟨x4, ex4, h⟩ := bindT h
    cases x4
    case false =>
     simp [g1, g2, g5, g16, g17, ex4]
     refine ex v2 _ ?_ h
     exact ⟨_, _, by simp [hw], rfl, by simp [g1, g2, g5, g16, g17, ex4]⟩
    obtain ⟨x5, ex5, h⟩ := bindT h
    obtain ⟨x6, ex6, h⟩ := bind_ok h
    obtain ⟨ex6a, ex6⟩ := shrO_ok ex6
    obtain ⟨x7, ex7, h⟩ := bindT h
    obtain ⟨x8, ex8, h⟩ := bindT h
    obtain ⟨x9, ex9, h⟩ := bindT h
    obtain ⟨x10, ex10, h⟩ := bindT h
    simp [g1, g2, g5, g16, g17, ex4, ex5, ex6, ex6a, ex7, ex8, ex9, ex10]
    refine ih (x9, x10) _ ?_ h
    exact ⟨_, _, by simp [hw], rfl, by simp [g1, g2, g5, g16, g17, ex4, ex5, ex6, ex6a, ex7, ex8, ex9, ex10]⟩
end Go.Proofs.YtcdhajbhpnbdkaaDoor
