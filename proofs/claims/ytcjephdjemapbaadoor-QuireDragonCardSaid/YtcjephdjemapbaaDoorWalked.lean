/-
  The walk as drawn.
  Printed by wip/tools/walk.py. Conditions: none; definitions and lemmas.
-/
import Derived.Test.YtcjephdjemapbaaDoorWorks1
set_option linter.unusedSimpArgs false
set_option linter.unusedVariables false
namespace Go.Proofs.YtcjephdjemapbaaDoor
open Go.Abs Go.Pur
set_option maxRecDepth 100000
set_option maxHeartbeats 2000000
attribute [local simp] EK_region EK_seq EK_cond EK_block EK_blk EK_loop EK_exit EK.ex EK_ret EK_skip EK_nil EO_cons EO_nil EO1_true EO1_false EO2_some EO3_some EB_true EB_false pwanted poper pq pev Go.Pur.look pputT isAssign drOf pinit Tr.get_set lget pvOf_int pvOf_bool pvOf_str pvOf_nil rdv_ak notOwn_ak prt_ak loose_ak rdv_own rdv_fz rdv_bor rdv_rf rdv_pt rdv_v rdv_a rdv_t rdv_r rdv_p rdv_s rdv_f pbin plen pload ppart idxAddr pcond Nat.blt goInt_eq prun_not prun_neg mayLoad ER_ret ER_normal presL presOne moved stor okDrop settle_v settle_l settle_a settle_p settle_f noref_v noref_fz noref_a norefs_nil norefs_cons pclose given dropB Y0_keep pevParts stors pvCells pvCells.go vcells pfill reps zipParts ownFz pcells cellOK one psrcLen srcFits psrc takeP pgrow take getPl setPl mapL plEq elder isList lowP pevs frzs addP partAt ble_lim24 killV_v killV_a killV_t killV_f killV_i killV_p killV_s killV_un killV_dead killV_lfz killV_lbor killV_lown killV_rfz killV_rbor killV_lak killV_rak frzV_v frzV_a frzV_t frzV_f frzV_i frzV_p frzV_s frzV_un frzV_dead frzV_lfz frzV_lbor frzV_lown frzV_rfz frzV_rbor frzV_lak frzV_rak killCell_v killCell_a killCell_t killCell_f killCell_i killCell_p killCell_s killCell_un killCell_dead killCell_lfz killCell_lbor killCell_lown killCell_rfz killCell_rbor killCell_lak killCell_rak killV_lrf killV_lpt killV_rpt frzV_lrf frzV_lpt frzV_rpt killCell_lrft killCell_lptt killCell_rptt killCell_lrfc killCell_lptc killCell_rptc argv_lak argv_rak argv_v argv_a argv_p argv_f argv_fz argv_bor argv_rf argv_pt argv_rc argv_own mayTurn_none argvs pcallOp firm refsTo_v refsTo_l refsTo_p refsTo_s refsTo_a refsTo_dead refsTo_nil refsTo_cons isOwn_lak ownFz_lak evSafe pskip plain pnewBlk fldAddr isOwn pput notOwn_fz notOwn_bor notOwn_own notOwn_rf notOwn_pt prt_fz prt_bor prt_own prt_rf prt_pt Go.Pur.freeze presM settles abin_and abin_or abin_andNot abin_mul abin_shr abin_shl abin_add abin_sub abin_eql abin_neq abin_lss abin_leq abin_gtr abin_geq hows pcallIn Y0_how Y0_part howOf partOf rdv_mown rdv_mfz rdv_mbor rdv_mrf killV_mown killV_mfz killV_mbor killV_mrf frzV_mown frzV_mfz frzV_mbor frzV_mrf killCell_mown killCell_mfz killCell_mbor killCell_mrf argv_mfz argv_mbor argv_mrf settle_m kls_v kls_l kls_a kls_t kls_r kls_p kls_s kls_f kls_i kls_it kls_un kls_dead kls_mown kls_mrf kls_mbor kls_mfz fzOf takable mapHere mapOwn mapTo flat toPlain toPlain.go ofFlat ofPair mapEs plook lookRes Y0_mv mvOf mvBlk premv keep44 sz3 by3 row3 zero3 sz4 by4 row4 zero4 sz5 by5 row5 zero5 sz9 by9 row9 shape9 zero9 sz21 by21 row21 zero21 sz23 by23 row23 shape23 zero23 sz24 by24 row24 zero24 sz38 by38 row38 shape38 zero38 sz47 by47 row47 shape47 zero47 parts47 sz51 by51 row51 zero51 sz54 by54 row54 shape54 zero54 sz55 by55 row55 shape55 zero55 sz58 by58 row58 shape58 zero58 sz60 by60 row60 zero60 sz63 by63 row63 shape63 zero63 sz73 by73 row73 shape73 zero73 parts73 sz79 by79 row79 shape79 zero79 sz81 by81 row81 shape81 zero81 parts81 sz86 by86 row86 shape86 parts86 sz90 by90 row90 zero90 sz92 by92 row92 zero92 sz96 by96 row96 zero96 parts96 field96_0 field96_1 sz99 by99 row99 zero99 sz104 by104 row104 zero104 sz106 by106 row106 zero106 parts106 field106_0 field106_1 sz119 by119 row119 zero119 sz123 by123 row123 zero123 sz124 by124 row124 shape124 zero124 parts124 sz125 by125 row125 shape125 zero125 parts125 sz126 by126 row126 shape126 parts126 sz128 by128 row128 zero128 parts128 field128_0 field128_1 sz129 by129 row129 shape129 zero129 parts129 sz133 by133 row133 zero133 bs_size gAt gAt0 sAt sAt0 optPlain rows_len noMaker_eq kindOf vlOf abin_rem abin_quo mayTurn_none lowOf_none Go.Pur.partAt rows_nil rows_cons ble_add ble_add0 ble_same toPlain toPlain.go intIn2_0 intIn2_1 ble12 ble22 tv lv max_int min_int pplains ak_true ak_false apartP beq_add beq_add0 beq_add1 argv_s wok_none wok_low_iff lowOf_wok
def f44_L0 (F : Nat) (p0 : List UInt8) (x2 : Int) (K : Ck × List (Int × Int) × Int × Int → Option ((Ck × List (Int × Int)))) : Nat → Ck × List (Int × Int) × Int × Int × Int × Int → Option ((Ck × List (Int × Int)))
  | 0, _ => none
  | n + 1, (c3, v4, v5, v6, v7, v8) => (some (decide (v6 < x2))).bind fun x9 =>
    (match x9 with
    | true => ((some (IntKind.i64.wrap (v5 + 3))).bind fun x10 =>
    (gS p0 v6).bind fun x11 =>
    (some (decide (x11 = 118))).bind fun x12 =>
    (match x12 with
    | true => ((some (IntKind.i64.wrap (x10 + 2))).bind fun x13 =>
    (some (Int.tmod x13 2)).bind fun x14 =>
    (if x14 = 0 then ((some (IntKind.i64.wrap (Int.tdiv x13 2))).bind fun x15 =>
    (some (Int.tmod x15 2)).bind fun x16 =>
    (some (mulI .i64 x16 2)).bind fun x17 =>
    (some (IntKind.i64.wrap (1 - x17))).bind fun x18 =>
    (some (IntKind.i64.wrap (v7 + x18))).bind fun x19 =>
    (app1 v4 (x19, v8)).bind fun x21 =>
    (some (IntKind.i64.wrap (v6 + 1))).bind fun x22 =>
    f44_L0 F p0 x2 K n (.nz, x21, x13, x22, x19, v8)) else ((if x14 = 1 then ((some (IntKind.i64.wrap (Int.tdiv x13 2))).bind fun x23 =>
    (some (Int.tmod x23 2)).bind fun x24 =>
    (some (mulI .i64 x24 2)).bind fun x25 =>
    (some (IntKind.i64.wrap (1 - x25))).bind fun x26 =>
    (some (IntKind.i64.wrap (v8 + x26))).bind fun x27 =>
    (app1 v4 (v7, x27)).bind fun x29 =>
    (some (IntKind.i64.wrap (v6 + 1))).bind fun x30 =>
    f44_L0 F p0 x2 K n (.nz, x29, x13, x30, v7, x27)) else (none)))))
    | false => ((some (Int.tmod x10 2)).bind fun x33 =>
    (if x33 = 0 then ((some (IntKind.i64.wrap (Int.tdiv x10 2))).bind fun x34 =>
    (some (Int.tmod x34 2)).bind fun x35 =>
    (some (mulI .i64 x35 2)).bind fun x36 =>
    (some (IntKind.i64.wrap (1 - x36))).bind fun x37 =>
    (some (IntKind.i64.wrap (v7 + x37))).bind fun x38 =>
    (app1 v4 (x38, v8)).bind fun x40 =>
    (some (IntKind.i64.wrap (v6 + 1))).bind fun x41 =>
    f44_L0 F p0 x2 K n (.nz, x40, x10, x41, x38, v8)) else ((if x33 = 1 then ((some (IntKind.i64.wrap (Int.tdiv x10 2))).bind fun x42 =>
    (some (Int.tmod x42 2)).bind fun x43 =>
    (some (mulI .i64 x43 2)).bind fun x44 =>
    (some (IntKind.i64.wrap (1 - x44))).bind fun x45 =>
    (some (IntKind.i64.wrap (v8 + x45))).bind fun x46 =>
    (app1 v4 (v7, x46)).bind fun x48 =>
    (some (IntKind.i64.wrap (v6 + 1))).bind fun x49 =>
    f44_L0 F p0 x2 K n (.nz, x48, x10, x49, v7, x46)) else (none)))))))
    | false => (K (c3, v4, v7, v8)))
def f44S (F : Nat) (p0 : List UInt8) : Option ((Ck × List (Int × Int))) :=
  (some ((p0.length : Int))).bind fun x2 =>
  f44_L0 F p0 x2 (fun (c52, v53, v54, v55) =>
    some (c52, v53)) F (.full, [(0, 0), (1, 0)], 0, 0, 1, 0)
theorem f44_is {p0 : List UInt8} {hp : List (Option (List PV))} {F : Nat} {r : ((Ck × List (Int × Int)))}  (h : f44S F p0 = some r) :
    E Tryd.prog Y0 44 [.v (.string (bs p0))] hp = some (.l (vlOf r.1) r.1 r.2.length (rows r.2), hp, none) := by
  rw [E_bodyN 1 body44 rfl (by decide) rfl]
  simp only [Tryd.f44, Option.get_some]
  unfold f44S at h
  have q1 : spliceP 0 [iv 1, iv 0] [iv 0, iv 0] = some [iv 1, iv 0] := rfl
  replace h := bindT h; obtain ⟨x2, ex2, h⟩ := h
  simp [q1, ex2]
  have hL0 := h; clear h
  refine loopS (S := f44_L0 F p0 x2) (fun (c3, v4, v5, v6, v7, v8) σ => ∃ (ts : Tr PV) (w : Option Nat), wok hp.length w ∧ σ = ⟨[], ts, hp ++ [some [iv v7, iv v8]], w⟩ ∧ ts.get 0 = some (.v (.string (bs p0))) ∧ ts.get 3 = some (.p hp.length 0) ∧ ts.get 4 = some (.l (vlOf c3) c3 v4.length (rows v4)) ∧ ts.get 5 = some (iv v5) ∧ ts.get 12 = some (iv x2) ∧ ts.get 13 = some (iv v6) ∧ True) (fun (c52, v53, v54, v55) σ => ∃ (ts : Tr PV) (w : Option Nat), wok hp.length w ∧ σ = ⟨[], ts, hp ++ [some [iv v54, iv v55]], w⟩ ∧ ts.get 4 = some (.l (vlOf c52) c52 v53.length (rows v53)) ∧ True) (fun _ => rfl) hL0 ?_ ?_ ?_
  · exact ⟨_, _, by simp, rfl, by simp [q1, ex2]⟩
  · rintro ⟨c52, v53, v54, v55⟩ σ ⟨ts, w, hw, rfl, g4, -⟩ h
    clear hL0
    try dsimp only at h
    cases c52 with
    | full =>
      obtain rfl := inj_ok h
      simp [g4, hw]
    | nz =>
      obtain rfl := inj_ok h
      simp [g4, hw]
    | any =>
      obtain rfl := inj_ok h
      simp [g4, hw]
  · rintro k n ⟨c3, v4, v5, v6, v7, v8⟩ σ ⟨ts, w, hw, rfl, g0, g3, g4, g5, g12, g13, -⟩ h ih ex
    clear hL0
    rw [f44_L0] at h
    cases c3 with
    | full =>
      replace h := bindT h; obtain ⟨x9, ex9, h⟩ := h
      cases x9
      case false =>
       simp [g0, g3, g4, g5, g12, g13, ex9]
       refine ex (Ck.full, v4, v7, v8) _ ?_ h
       exact ⟨_, _, by simp [hw], rfl, by simp [g0, g3, g4, g5, g12, g13, ex9]⟩
      replace h := bindT h; obtain ⟨x10, ex10, h⟩ := h
      replace h := bind_ok h; obtain ⟨x11, ex11, h⟩ := h
      have ex11 := (gS_ok (P := Tryd.prog) (t := 9) (k := .i64) Tryd.underlying9 shape9 ex11).1
      replace h := bindT h; obtain ⟨x12, ex12, h⟩ := h
      cases x12
      case false =>
       replace h := bindT h; obtain ⟨x33, ex33, h⟩ := h
       by_cases h51 : x33 = 0
       · rw [if_pos h51] at h; subst h51
         replace h := bindT h; obtain ⟨x34, ex34, h⟩ := h
         replace h := bindT h; obtain ⟨x35, ex35, h⟩ := h
         replace h := bindT h; obtain ⟨x36, ex36, h⟩ := h
         replace h := bindT h; obtain ⟨x37, ex37, h⟩ := h
         replace h := bindT h; obtain ⟨x38, ex38, h⟩ := h
         have q39 : spliceP 0 [iv x38] [iv v7, iv v8] = some [iv x38, iv v8] := rfl
         replace h := bind_ok h; obtain ⟨x40, ex40, h⟩ := h
         obtain ⟨ex40a, ex40b, ex40c, ex40q⟩ := app1_rows ex40
         have ex40b := ex40b 19 (by decide)
         replace h := bindT h; obtain ⟨x41, ex41, h⟩ := h
         simp [g0, g3, g4, g5, g12, g13, ex9, ex10, ex11, ex12, ex33, ex34, ex35, ex36, ex37, ex38, q39, ex40a, ex40b, ex40c, ex41]
         refine ih (.nz, x40, x10, x41, x38, v8) _ ?_ h
         exact ⟨_, _, by simp [hw], rfl, by simp [g0, g3, g4, g5, g12, g13, ex9, ex10, ex11, ex12, ex33, ex34, ex35, ex36, ex37, ex38, q39, ex40a, ex40b, ex40c, ex41]⟩
       · rw [if_neg h51] at h
         by_cases h50 : x33 = 1
         · rw [if_pos h50] at h; subst h50
           replace h := bindT h; obtain ⟨x42, ex42, h⟩ := h
           replace h := bindT h; obtain ⟨x43, ex43, h⟩ := h
           replace h := bindT h; obtain ⟨x44, ex44, h⟩ := h
           replace h := bindT h; obtain ⟨x45, ex45, h⟩ := h
           replace h := bindT h; obtain ⟨x46, ex46, h⟩ := h
           have q47 : spliceP 1 [iv x46] [iv v7, iv v8] = some [iv v7, iv x46] := rfl
           replace h := bind_ok h; obtain ⟨x48, ex48, h⟩ := h
           obtain ⟨ex48a, ex48b, ex48c, ex48q⟩ := app1_rows ex48
           have ex48b := ex48b 19 (by decide)
           replace h := bindT h; obtain ⟨x49, ex49, h⟩ := h
           simp [g0, g3, g4, g5, g12, g13, ex9, ex10, ex11, ex12, ex33, ex42, ex43, ex44, ex45, ex46, q47, ex48a, ex48b, ex48c, ex49]
           refine ih (.nz, x48, x10, x49, v7, x46) _ ?_ h
           exact ⟨_, _, by simp [hw], rfl, by simp [g0, g3, g4, g5, g12, g13, ex9, ex10, ex11, ex12, ex33, ex42, ex43, ex44, ex45, ex46, q47, ex48a, ex48b, ex48c, ex49]⟩
         · rw [if_neg h50] at h
           cases h
      replace h := bindT h; obtain ⟨x13, ex13, h⟩ := h
      replace h := bindT h; obtain ⟨x14, ex14, h⟩ := h
      by_cases h32 : x14 = 0
      · rw [if_pos h32] at h; subst h32
        replace h := bindT h; obtain ⟨x15, ex15, h⟩ := h
        replace h := bindT h; obtain ⟨x16, ex16, h⟩ := h
        replace h := bindT h; obtain ⟨x17, ex17, h⟩ := h
        replace h := bindT h; obtain ⟨x18, ex18, h⟩ := h
        replace h := bindT h; obtain ⟨x19, ex19, h⟩ := h
        have q20 : spliceP 0 [iv x19] [iv v7, iv v8] = some [iv x19, iv v8] := rfl
        replace h := bind_ok h; obtain ⟨x21, ex21, h⟩ := h
        obtain ⟨ex21a, ex21b, ex21c, ex21q⟩ := app1_rows ex21
        have ex21b := ex21b 19 (by decide)
        replace h := bindT h; obtain ⟨x22, ex22, h⟩ := h
        simp [g0, g3, g4, g5, g12, g13, ex9, ex10, ex11, ex12, ex13, ex14, ex15, ex16, ex17, ex18, ex19, q20, ex21a, ex21b, ex21c, ex22]
        refine ih (.nz, x21, x13, x22, x19, v8) _ ?_ h
        exact ⟨_, _, by simp [hw], rfl, by simp [g0, g3, g4, g5, g12, g13, ex9, ex10, ex11, ex12, ex13, ex14, ex15, ex16, ex17, ex18, ex19, q20, ex21a, ex21b, ex21c, ex22]⟩
      · rw [if_neg h32] at h
        by_cases h31 : x14 = 1
        · rw [if_pos h31] at h; subst h31
          replace h := bindT h; obtain ⟨x23, ex23, h⟩ := h
          replace h := bindT h; obtain ⟨x24, ex24, h⟩ := h
          replace h := bindT h; obtain ⟨x25, ex25, h⟩ := h
          replace h := bindT h; obtain ⟨x26, ex26, h⟩ := h
          replace h := bindT h; obtain ⟨x27, ex27, h⟩ := h
          have q28 : spliceP 1 [iv x27] [iv v7, iv v8] = some [iv v7, iv x27] := rfl
          replace h := bind_ok h; obtain ⟨x29, ex29, h⟩ := h
          obtain ⟨ex29a, ex29b, ex29c, ex29q⟩ := app1_rows ex29
          have ex29b := ex29b 19 (by decide)
          replace h := bindT h; obtain ⟨x30, ex30, h⟩ := h
          simp [g0, g3, g4, g5, g12, g13, ex9, ex10, ex11, ex12, ex13, ex14, ex23, ex24, ex25, ex26, ex27, q28, ex29a, ex29b, ex29c, ex30]
          refine ih (.nz, x29, x13, x30, v7, x27) _ ?_ h
          exact ⟨_, _, by simp [hw], rfl, by simp [g0, g3, g4, g5, g12, g13, ex9, ex10, ex11, ex12, ex13, ex14, ex23, ex24, ex25, ex26, ex27, q28, ex29a, ex29b, ex29c, ex30]⟩
        · rw [if_neg h31] at h
          cases h
    | nz =>
      replace h := bindT h; obtain ⟨x9, ex9, h⟩ := h
      cases x9
      case false =>
       simp [g0, g3, g4, g5, g12, g13, ex9]
       refine ex (Ck.nz, v4, v7, v8) _ ?_ h
       exact ⟨_, _, by simp [hw], rfl, by simp [g0, g3, g4, g5, g12, g13, ex9]⟩
      replace h := bindT h; obtain ⟨x10, ex10, h⟩ := h
      replace h := bind_ok h; obtain ⟨x11, ex11, h⟩ := h
      have ex11 := (gS_ok (P := Tryd.prog) (t := 9) (k := .i64) Tryd.underlying9 shape9 ex11).1
      replace h := bindT h; obtain ⟨x12, ex12, h⟩ := h
      cases x12
      case false =>
       replace h := bindT h; obtain ⟨x33, ex33, h⟩ := h
       by_cases h51 : x33 = 0
       · rw [if_pos h51] at h; subst h51
         replace h := bindT h; obtain ⟨x34, ex34, h⟩ := h
         replace h := bindT h; obtain ⟨x35, ex35, h⟩ := h
         replace h := bindT h; obtain ⟨x36, ex36, h⟩ := h
         replace h := bindT h; obtain ⟨x37, ex37, h⟩ := h
         replace h := bindT h; obtain ⟨x38, ex38, h⟩ := h
         have q39 : spliceP 0 [iv x38] [iv v7, iv v8] = some [iv x38, iv v8] := rfl
         replace h := bind_ok h; obtain ⟨x40, ex40, h⟩ := h
         obtain ⟨ex40a, ex40b, ex40c, ex40q⟩ := app1_rows ex40
         have ex40b := ex40b 19 (by decide)
         replace h := bindT h; obtain ⟨x41, ex41, h⟩ := h
         simp [g0, g3, g4, g5, g12, g13, ex9, ex10, ex11, ex12, ex33, ex34, ex35, ex36, ex37, ex38, q39, ex40a, ex40b, ex40c, ex41]
         refine ih (.nz, x40, x10, x41, x38, v8) _ ?_ h
         exact ⟨_, _, by simp [hw], rfl, by simp [g0, g3, g4, g5, g12, g13, ex9, ex10, ex11, ex12, ex33, ex34, ex35, ex36, ex37, ex38, q39, ex40a, ex40b, ex40c, ex41]⟩
       · rw [if_neg h51] at h
         by_cases h50 : x33 = 1
         · rw [if_pos h50] at h; subst h50
           replace h := bindT h; obtain ⟨x42, ex42, h⟩ := h
           replace h := bindT h; obtain ⟨x43, ex43, h⟩ := h
           replace h := bindT h; obtain ⟨x44, ex44, h⟩ := h
           replace h := bindT h; obtain ⟨x45, ex45, h⟩ := h
           replace h := bindT h; obtain ⟨x46, ex46, h⟩ := h
           have q47 : spliceP 1 [iv x46] [iv v7, iv v8] = some [iv v7, iv x46] := rfl
           replace h := bind_ok h; obtain ⟨x48, ex48, h⟩ := h
           obtain ⟨ex48a, ex48b, ex48c, ex48q⟩ := app1_rows ex48
           have ex48b := ex48b 19 (by decide)
           replace h := bindT h; obtain ⟨x49, ex49, h⟩ := h
           simp [g0, g3, g4, g5, g12, g13, ex9, ex10, ex11, ex12, ex33, ex42, ex43, ex44, ex45, ex46, q47, ex48a, ex48b, ex48c, ex49]
           refine ih (.nz, x48, x10, x49, v7, x46) _ ?_ h
           exact ⟨_, _, by simp [hw], rfl, by simp [g0, g3, g4, g5, g12, g13, ex9, ex10, ex11, ex12, ex33, ex42, ex43, ex44, ex45, ex46, q47, ex48a, ex48b, ex48c, ex49]⟩
         · rw [if_neg h50] at h
           cases h
      replace h := bindT h; obtain ⟨x13, ex13, h⟩ := h
      replace h := bindT h; obtain ⟨x14, ex14, h⟩ := h
      by_cases h32 : x14 = 0
      · rw [if_pos h32] at h; subst h32
        replace h := bindT h; obtain ⟨x15, ex15, h⟩ := h
        replace h := bindT h; obtain ⟨x16, ex16, h⟩ := h
        replace h := bindT h; obtain ⟨x17, ex17, h⟩ := h
        replace h := bindT h; obtain ⟨x18, ex18, h⟩ := h
        replace h := bindT h; obtain ⟨x19, ex19, h⟩ := h
        have q20 : spliceP 0 [iv x19] [iv v7, iv v8] = some [iv x19, iv v8] := rfl
        replace h := bind_ok h; obtain ⟨x21, ex21, h⟩ := h
        obtain ⟨ex21a, ex21b, ex21c, ex21q⟩ := app1_rows ex21
        have ex21b := ex21b 19 (by decide)
        replace h := bindT h; obtain ⟨x22, ex22, h⟩ := h
        simp [g0, g3, g4, g5, g12, g13, ex9, ex10, ex11, ex12, ex13, ex14, ex15, ex16, ex17, ex18, ex19, q20, ex21a, ex21b, ex21c, ex22]
        refine ih (.nz, x21, x13, x22, x19, v8) _ ?_ h
        exact ⟨_, _, by simp [hw], rfl, by simp [g0, g3, g4, g5, g12, g13, ex9, ex10, ex11, ex12, ex13, ex14, ex15, ex16, ex17, ex18, ex19, q20, ex21a, ex21b, ex21c, ex22]⟩
      · rw [if_neg h32] at h
        by_cases h31 : x14 = 1
        · rw [if_pos h31] at h; subst h31
          replace h := bindT h; obtain ⟨x23, ex23, h⟩ := h
          replace h := bindT h; obtain ⟨x24, ex24, h⟩ := h
          replace h := bindT h; obtain ⟨x25, ex25, h⟩ := h
          replace h := bindT h; obtain ⟨x26, ex26, h⟩ := h
          replace h := bindT h; obtain ⟨x27, ex27, h⟩ := h
          have q28 : spliceP 1 [iv x27] [iv v7, iv v8] = some [iv v7, iv x27] := rfl
          replace h := bind_ok h; obtain ⟨x29, ex29, h⟩ := h
          obtain ⟨ex29a, ex29b, ex29c, ex29q⟩ := app1_rows ex29
          have ex29b := ex29b 19 (by decide)
          replace h := bindT h; obtain ⟨x30, ex30, h⟩ := h
          simp [g0, g3, g4, g5, g12, g13, ex9, ex10, ex11, ex12, ex13, ex14, ex23, ex24, ex25, ex26, ex27, q28, ex29a, ex29b, ex29c, ex30]
          refine ih (.nz, x29, x13, x30, v7, x27) _ ?_ h
          exact ⟨_, _, by simp [hw], rfl, by simp [g0, g3, g4, g5, g12, g13, ex9, ex10, ex11, ex12, ex13, ex14, ex23, ex24, ex25, ex26, ex27, q28, ex29a, ex29b, ex29c, ex30]⟩
        · rw [if_neg h31] at h
          cases h
    | any =>
      replace h := bindT h; obtain ⟨x9, ex9, h⟩ := h
      cases x9
      case false =>
       simp [g0, g3, g4, g5, g12, g13, ex9]
       refine ex (Ck.any, v4, v7, v8) _ ?_ h
       exact ⟨_, _, by simp [hw], rfl, by simp [g0, g3, g4, g5, g12, g13, ex9]⟩
      replace h := bindT h; obtain ⟨x10, ex10, h⟩ := h
      replace h := bind_ok h; obtain ⟨x11, ex11, h⟩ := h
      have ex11 := (gS_ok (P := Tryd.prog) (t := 9) (k := .i64) Tryd.underlying9 shape9 ex11).1
      replace h := bindT h; obtain ⟨x12, ex12, h⟩ := h
      cases x12
      case false =>
       replace h := bindT h; obtain ⟨x33, ex33, h⟩ := h
       by_cases h51 : x33 = 0
       · rw [if_pos h51] at h; subst h51
         replace h := bindT h; obtain ⟨x34, ex34, h⟩ := h
         replace h := bindT h; obtain ⟨x35, ex35, h⟩ := h
         replace h := bindT h; obtain ⟨x36, ex36, h⟩ := h
         replace h := bindT h; obtain ⟨x37, ex37, h⟩ := h
         replace h := bindT h; obtain ⟨x38, ex38, h⟩ := h
         have q39 : spliceP 0 [iv x38] [iv v7, iv v8] = some [iv x38, iv v8] := rfl
         replace h := bind_ok h; obtain ⟨x40, ex40, h⟩ := h
         obtain ⟨ex40a, ex40b, ex40c, ex40q⟩ := app1_rows ex40
         have ex40b := ex40b 19 (by decide)
         replace h := bindT h; obtain ⟨x41, ex41, h⟩ := h
         simp [g0, g3, g4, g5, g12, g13, ex9, ex10, ex11, ex12, ex33, ex34, ex35, ex36, ex37, ex38, q39, ex40a, ex40b, ex40c, ex41]
         refine ih (.nz, x40, x10, x41, x38, v8) _ ?_ h
         exact ⟨_, _, by simp [hw], rfl, by simp [g0, g3, g4, g5, g12, g13, ex9, ex10, ex11, ex12, ex33, ex34, ex35, ex36, ex37, ex38, q39, ex40a, ex40b, ex40c, ex41]⟩
       · rw [if_neg h51] at h
         by_cases h50 : x33 = 1
         · rw [if_pos h50] at h; subst h50
           replace h := bindT h; obtain ⟨x42, ex42, h⟩ := h
           replace h := bindT h; obtain ⟨x43, ex43, h⟩ := h
           replace h := bindT h; obtain ⟨x44, ex44, h⟩ := h
           replace h := bindT h; obtain ⟨x45, ex45, h⟩ := h
           replace h := bindT h; obtain ⟨x46, ex46, h⟩ := h
           have q47 : spliceP 1 [iv x46] [iv v7, iv v8] = some [iv v7, iv x46] := rfl
           replace h := bind_ok h; obtain ⟨x48, ex48, h⟩ := h
           obtain ⟨ex48a, ex48b, ex48c, ex48q⟩ := app1_rows ex48
           have ex48b := ex48b 19 (by decide)
           replace h := bindT h; obtain ⟨x49, ex49, h⟩ := h
           simp [g0, g3, g4, g5, g12, g13, ex9, ex10, ex11, ex12, ex33, ex42, ex43, ex44, ex45, ex46, q47, ex48a, ex48b, ex48c, ex49]
           refine ih (.nz, x48, x10, x49, v7, x46) _ ?_ h
           exact ⟨_, _, by simp [hw], rfl, by simp [g0, g3, g4, g5, g12, g13, ex9, ex10, ex11, ex12, ex33, ex42, ex43, ex44, ex45, ex46, q47, ex48a, ex48b, ex48c, ex49]⟩
         · rw [if_neg h50] at h
           cases h
      replace h := bindT h; obtain ⟨x13, ex13, h⟩ := h
      replace h := bindT h; obtain ⟨x14, ex14, h⟩ := h
      by_cases h32 : x14 = 0
      · rw [if_pos h32] at h; subst h32
        replace h := bindT h; obtain ⟨x15, ex15, h⟩ := h
        replace h := bindT h; obtain ⟨x16, ex16, h⟩ := h
        replace h := bindT h; obtain ⟨x17, ex17, h⟩ := h
        replace h := bindT h; obtain ⟨x18, ex18, h⟩ := h
        replace h := bindT h; obtain ⟨x19, ex19, h⟩ := h
        have q20 : spliceP 0 [iv x19] [iv v7, iv v8] = some [iv x19, iv v8] := rfl
        replace h := bind_ok h; obtain ⟨x21, ex21, h⟩ := h
        obtain ⟨ex21a, ex21b, ex21c, ex21q⟩ := app1_rows ex21
        have ex21b := ex21b 19 (by decide)
        replace h := bindT h; obtain ⟨x22, ex22, h⟩ := h
        simp [g0, g3, g4, g5, g12, g13, ex9, ex10, ex11, ex12, ex13, ex14, ex15, ex16, ex17, ex18, ex19, q20, ex21a, ex21b, ex21c, ex22]
        refine ih (.nz, x21, x13, x22, x19, v8) _ ?_ h
        exact ⟨_, _, by simp [hw], rfl, by simp [g0, g3, g4, g5, g12, g13, ex9, ex10, ex11, ex12, ex13, ex14, ex15, ex16, ex17, ex18, ex19, q20, ex21a, ex21b, ex21c, ex22]⟩
      · rw [if_neg h32] at h
        by_cases h31 : x14 = 1
        · rw [if_pos h31] at h; subst h31
          replace h := bindT h; obtain ⟨x23, ex23, h⟩ := h
          replace h := bindT h; obtain ⟨x24, ex24, h⟩ := h
          replace h := bindT h; obtain ⟨x25, ex25, h⟩ := h
          replace h := bindT h; obtain ⟨x26, ex26, h⟩ := h
          replace h := bindT h; obtain ⟨x27, ex27, h⟩ := h
          have q28 : spliceP 1 [iv x27] [iv v7, iv v8] = some [iv v7, iv x27] := rfl
          replace h := bind_ok h; obtain ⟨x29, ex29, h⟩ := h
          obtain ⟨ex29a, ex29b, ex29c, ex29q⟩ := app1_rows ex29
          have ex29b := ex29b 19 (by decide)
          replace h := bindT h; obtain ⟨x30, ex30, h⟩ := h
          simp [g0, g3, g4, g5, g12, g13, ex9, ex10, ex11, ex12, ex13, ex14, ex23, ex24, ex25, ex26, ex27, q28, ex29a, ex29b, ex29c, ex30]
          refine ih (.nz, x29, x13, x30, v7, x27) _ ?_ h
          exact ⟨_, _, by simp [hw], rfl, by simp [g0, g3, g4, g5, g12, g13, ex9, ex10, ex11, ex12, ex13, ex14, ex23, ex24, ex25, ex26, ex27, q28, ex29a, ex29b, ex29c, ex30]⟩
        · rw [if_neg h31] at h
          cases h
end Go.Proofs.YtcjephdjemapbaaDoor
