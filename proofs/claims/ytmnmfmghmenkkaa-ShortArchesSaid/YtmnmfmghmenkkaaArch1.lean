/-
  Arches.
  Printed by wip/tools/walk.py. Conditions: none; definitions and lemmas.
-/
import Derived.Test.YtmnmfmghmenkkaaHolds1
import Derived.Test.YtmnmfmghmenkkaaPurM
import Derived.Test.YtmnmfmghmenkkaaPurJ
set_option linter.unusedSimpArgs false
set_option linter.unusedVariables false
namespace Go.Proofs.Ytmnmfmghmenkkaa
open Go.Abs Go.Pur
set_option maxRecDepth 100000
set_option maxHeartbeats 2000000
attribute [local simp] EK_region EK_seq EK_cond EK_block EK_blk EK_loop EK_exit EK.ex EK_ret EK_skip EK_nil EO_cons EO_nil EO1_true EO1_false EO2_some EO3_some EB_true EB_false pwanted poper pq pev Go.Pur.look pputT isAssign drOf pinit Tr.get_set lget pvOf_int pvOf_bool pvOf_str pvOf_nil rdv_ak notOwn_ak prt_ak loose_ak rdv_own rdv_fz rdv_bor rdv_rf rdv_pt rdv_v rdv_a rdv_t rdv_r rdv_p rdv_s rdv_f pbin plen pload ppart idxAddr pcond Nat.blt goInt_eq prun_not prun_neg mayLoad ER_ret ER_normal presL presOne moved stor okDrop settle_v settle_l settle_a settle_p settle_f noref_v noref_fz noref_a norefs_nil norefs_cons pclose given dropB Y0_keep pevParts stors pvCells pvCells.go vcells pfill reps zipParts ownFz pcells cellOK one psrcLen srcFits psrc takeP pgrow take getPl setPl mapL plEq elder isList lowP pevs frzs addP partAt ble_lim24 killV_v killV_a killV_t killV_f killV_i killV_p killV_s killV_un killV_dead killV_lfz killV_lbor killV_lown killV_rfz killV_rbor killV_lak killV_rak frzV_v frzV_a frzV_t frzV_f frzV_i frzV_p frzV_s frzV_un frzV_dead frzV_lfz frzV_lbor frzV_lown frzV_rfz frzV_rbor frzV_lak frzV_rak killCell_v killCell_a killCell_t killCell_f killCell_i killCell_p killCell_s killCell_un killCell_dead killCell_lfz killCell_lbor killCell_lown killCell_rfz killCell_rbor killCell_lak killCell_rak killV_lrf killV_lpt killV_rpt frzV_lrf frzV_lpt frzV_rpt killCell_lrft killCell_lptt killCell_rptt killCell_lrfc killCell_lptc killCell_rptc argv_lak argv_rak argv_v argv_a argv_p argv_f argv_fz argv_bor argv_rf argv_pt argv_rc argv_own mayTurn_none argvs pcallOp firm refsTo_v refsTo_l refsTo_p refsTo_s refsTo_a refsTo_dead refsTo_nil refsTo_cons isOwn_lak ownFz_lak evSafe pskip plain pnewBlk fldAddr isOwn pput notOwn_fz notOwn_bor notOwn_own notOwn_rf notOwn_pt prt_fz prt_bor prt_own prt_rf prt_pt Go.Pur.freeze presM settles abin_and abin_or abin_andNot abin_mul abin_shr abin_shl abin_add abin_sub abin_eql abin_neq abin_lss abin_leq abin_gtr abin_geq hows pcallIn Y0_how Y0_part howOf partOf rdv_mown rdv_mfz rdv_mbor rdv_mrf killV_mown killV_mfz killV_mbor killV_mrf frzV_mown frzV_mfz frzV_mbor frzV_mrf killCell_mown killCell_mfz killCell_mbor killCell_mrf argv_mfz argv_mbor argv_mrf settle_m kls_v kls_l kls_a kls_t kls_r kls_p kls_s kls_f kls_i kls_it kls_un kls_dead kls_mown kls_mrf kls_mbor kls_mfz fzOf takable mapHere mapOwn mapTo flat toPlain toPlain.go ofFlat ofPair mapEs plook lookRes Y0_mv mvOf mvBlk premv Y0_fzm fzmOf poperX pconv keep36 keep37 keep62 keep64 keep65 keep66 keep67 keep68 sz3 by3 row3 zero3 sz4 by4 row4 zero4 sz5 by5 row5 zero5 sz9 by9 row9 shape9 zero9 sz21 by21 row21 zero21 sz22 by22 row22 zero22 sz24 by24 row24 zero24 sz29 by29 row29 shape29 zero29 sz36 by36 row36 shape36 zero36 sz52 by52 row52 shape52 zero52 parts52 sz54 by54 row54 zero54 parts54 field54_0 field54_1 sz58 by58 row58 zero58 mt58 az3 sz63 by63 row63 zero63 sz66 by66 row66 shape66 zero66 parts66 sz67 by67 row67 shape67 zero67 sz75 by75 row75 shape75 zero75 sz76 by76 row76 shape76 zero76 sz78 by78 row78 zero78 mt78 sz79 by79 row79 shape79 zero79 sz92 by92 row92 zero92 sz94 by94 row94 zero94 parts94 field94_0 field94_1 sz99 by99 row99 shape99 zero99 sz102 by102 row102 zero102 mt102 az4 sz103 by103 row103 zero103 mt103 sz106 by106 row106 zero106 parts106 field106_0 field106_1 sz108 by108 row108 zero108 parts108 field108_0 field108_1 sz109 by109 row109 shape109 zero109 sz110 by110 row110 zero110 mt110 sz112 by112 row112 zero112 sz115 by115 row115 zero115 sz116 by116 row116 zero116 sz119 by119 row119 zero119 sz127 by127 row127 zero127 sz129 by129 row129 zero129 sz130 by130 row130 zero130 sz134 by134 row134 zero134 bs_size gAt gAt0 sAt sAt0 optPlain rows_len noMaker_eq kindOf vlOf abin_rem abin_quo mayTurn_none lowOf_none Go.Pur.partAt rows_nil rows_cons ble_add ble_add0 ble_same toPlain toPlain.go intIn2_0 intIn2_1 ble12 ble22 tv lv max_int min_int pplains ak_true ak_false apartP beq_add beq_add0 beq_add1 argv_s wok_none wok_low_iff lowOf_wok
theorem conv_3_21Arch1 {z : Int} : prunP Try.prog (convert 3 21 (.int .i64 z)) = some (.int .i32 (IntKind.i32.wrap z)) := by kernel_rfl
theorem conv_5_3Arch1 {z : Int} : prunP Try.prog (convert 5 3 (.int .u8 z)) = some (.int .i64 (IntKind.i64.wrap z)) := by kernel_rfl
theorem mty103Arch1 : mapTy Try.prog 103 = some (21, 4) := by kernel_rfl
theorem shm103Arch1 : shapeOf Try.prog 103 = none := by kernel_rfl
theorem kty21Arch1 : KeyT Try.prog 21 (Value.int .i32) := key_int Try.underlying21
def f62S (F : Nat) (p0 : Int) (p1 : Int) (p2 : Int) : Option (Bool) :=
  (some (decide (p1 ≤ p0))).bind fun x1 =>
  (match x1 with
  | true => ((some (decide (p0 ≤ p2))).bind fun x2 =>
  some x2)
  | false => (some false))
theorem f62_is {p0 : Int} {p1 : Int} {p2 : Int} {hp : List (Option (List PV))} {F : Nat} {r : (Bool)}  (h : f62S F p0 p1 p2 = some r) :
    E Try.prog Y0 62 [iv p0, iv p1, iv p2] hp = some (.v (.bool r), hp, none) := by
  rw [E_bodyN 3 body62 rfl (by decide) rfl]
  simp only [Try.f62, Option.get_some]
  unfold f62S at h
  obtain ⟨x1, ex1, h⟩ := bindT h
  cases x1
  case false =>
   obtain rfl := inj_ok h
   simp [ex1]
  obtain ⟨x2, ex2, h⟩ := bindT h
  obtain rfl := inj_ok h
  simp [ex1, ex2]
def f64_L0 (F : Nat) (p0 : List UInt8) (p1 : Int) (K : Unit → Option (Int)) : Nat → Nat → Option (Int)
  | 0, _ => none
  | n + 1, v5 => (some (Nat.ble (v5 + 1) p0.length)).bind fun x6 =>
    (match x6 with
    | true => ((gA p0 v5).bind fun x7 =>
    (some (IntKind.i32.wrap p1)).bind fun x8 =>
    (some (IntKind.i32.wrap (97 + x8))).bind fun x9 =>
    (some (decide (x9 ≤ (x7 : Int)))).bind fun x10 =>
    (match x10 with
    | true => (some 2)
    | false => (f64_L0 F p0 p1 K n (v5 + 1))))
    | false => (K ()))
def f64S (F : Nat) (p0 : List UInt8) (p1 : Int) : Option (Int) :=
  (some (checkW p0)).bind fun x1 =>
  (some (decide (x1 = 0))).bind fun x2 =>
  (match x2 with
  | true => ((some (decide (p1 < 1))).bind fun x3 =>
  (match x3 with
  | true => (some 1)
  | false => ((some (decide (6 < p1))).bind fun x4 =>
  (match x4 with
  | true => (some 1)
  | false => (f64_L0 F p0 p1 (fun _ =>
    some 0) F 0)))))
  | false => (some x1))
theorem f64_is {p0 : List UInt8} {p1 : Int} {hp : List (Option (List PV))} {F : Nat} {r : (Int)}  (h : f64S F p0 p1 = some r) :
    E Try.prog Y0 64 [.v (.string (bs p0)), iv p1] hp = some (iv r, hp, none) := by
  rw [E_bodyN 2 body64 rfl (by decide) rfl]
  simp only [Try.f64, Option.get_some]
  unfold f64S at h
  obtain ⟨x1, ex1, h⟩ := bind_ok h
  have ex1 : ∀ hp, E Try.prog Y0 25 [.v (.string (bs p0))] hp = some (iv x1, hp, none) := fun hp => f25_is ex1
  obtain ⟨x2, ex2, h⟩ := bindT h
  cases x2
  case false =>
   obtain rfl := inj_ok h
   simp [ex1, ex2]
  obtain ⟨x3, ex3, h⟩ := bindT h
  cases x3
  case true =>
   obtain rfl := inj_ok h
   simp [ex1, ex2, ex3]
  obtain ⟨x4, ex4, h⟩ := bindT h
  cases x4
  case true =>
   obtain rfl := inj_ok h
   simp [ex1, ex2, ex3, ex4]
  simp [ex1, ex2, ex3, ex4]
  have hL0 := h; clear h
  refine loopS (S := f64_L0 F p0 p1) (fun v5 σ => ∃ (ts : Tr PV) (w : Option Nat), wok hp.length w ∧ σ = ⟨[], ts, hp, w⟩ ∧ ts.get 1 = some (iv p1) ∧ ts.get 22 = some (.it (bs p0) v5) ∧ True) (fun _ σ => ∃ (ts : Tr PV) (w : Option Nat), wok hp.length w ∧ σ = ⟨[], ts, hp, w⟩ ∧ True) (fun _ => rfl) hL0 ?_ ?_ ?_
  · exact ⟨_, _, by simp, rfl, by simp [ex1, ex2, ex3, ex4]⟩
  · rintro ⟨⟩ σ ⟨ts, w, hw, rfl, -⟩ h
    clear hL0
    try dsimp only at h
    obtain rfl := inj_ok h
    simp [hw]
  · rintro k n v5 σ ⟨ts, w, hw, rfl, g1, g22, -⟩ h ih ex
    clear hL0
    rw [f64_L0] at h
    obtain ⟨x6, ex6, h⟩ := bindT h
    cases x6
    case false =>
     simp [g1, g22, ex6]
     refine ex () _ ?_ h
     exact ⟨_, _, by simp [hw], rfl, by simp [g1, g22, ex6]⟩
    obtain ⟨x7, ex7, h⟩ := bind_ok h
    have ex7 := gA_ok ex7
    obtain ⟨x8, ex8, h⟩ := bindT h
    obtain ⟨x9, ex9, h⟩ := bindT h
    obtain ⟨x10, ex10, h⟩ := bindT h
    cases x10
    case true =>
     obtain rfl := inj_ok h
     simp [g1, g22, ex6, ex7, conv_3_21Arch1, ex8, ex9, ex10, hw]
    simp [g1, g22, ex6, ex7, conv_3_21Arch1, ex8, ex9, ex10]
    refine ih (v5 + 1) _ ?_ h
    exact ⟨_, _, by simp [hw], rfl, by simp [g1, g22, ex6, ex7, conv_3_21Arch1, ex8, ex9, ex10]⟩
def f66_L0 (F : Nat) (p0 : List UInt8) (p1 : Int) (K : Int → Option (Int)) : Nat → Int × Int → Option (Int)
  | 0, _ => none
  | n + 1, (v6, v7) => (some ((p0.length : Int))).bind fun x8 =>
    (some (decide (v7 < x8))).bind fun x9 =>
    (match x9 with
    | true => ((some (decide (v6 = 0))).bind fun x10 =>
    (match x10 with
    | true => ((gS p0 v7).bind fun x11 =>
    (some (IntKind.i64.wrap x11)).bind fun x12 =>
    (some (IntKind.i64.wrap (97 + p1))).bind fun x13 =>
    (some (decide (x13 ≤ x12))).bind fun x14 =>
    (match x14 with
    | true => ((some (IntKind.i64.wrap (v7 + 1))).bind fun x15 =>
    f66_L0 F p0 p1 K n (2, x15))
    | false => ((some (IntKind.i64.wrap (v7 + 1))).bind fun x16 =>
    f66_L0 F p0 p1 K n (v6, x16))))
    | false => (K v6)))
    | false => (K v6))
def f66_L1 (F : Nat) (p0 : List UInt8) (p1 : Int) (K : Int → Option (Int)) : Nat → Int × Int → Option (Int)
  | 0, _ => none
  | n + 1, (v18, v19) => (some ((p0.length : Int))).bind fun x20 =>
    (some (decide (v19 < x20))).bind fun x21 =>
    (match x21 with
    | true => ((some (decide (v18 = 0))).bind fun x22 =>
    (match x22 with
    | true => ((gS p0 v19).bind fun x23 =>
    (some (IntKind.i64.wrap x23)).bind fun x24 =>
    (some (IntKind.i64.wrap (97 + p1))).bind fun x25 =>
    (some (decide (x25 ≤ x24))).bind fun x26 =>
    (match x26 with
    | true => ((some (IntKind.i64.wrap (v19 + 1))).bind fun x27 =>
    f66_L1 F p0 p1 K n (2, x27))
    | false => ((some (IntKind.i64.wrap (v19 + 1))).bind fun x28 =>
    f66_L1 F p0 p1 K n (v18, x28))))
    | false => (K v18)))
    | false => (K v18))
def f66_L2 (F : Nat) (p0 : List UInt8) (p1 : Int) (K : Int → Option (Int)) : Nat → Int × Int → Option (Int)
  | 0, _ => none
  | n + 1, (v30, v31) => (some ((p0.length : Int))).bind fun x32 =>
    (some (decide (v31 < x32))).bind fun x33 =>
    (match x33 with
    | true => ((some (decide (v30 = 0))).bind fun x34 =>
    (match x34 with
    | true => ((gS p0 v31).bind fun x35 =>
    (some (IntKind.i64.wrap x35)).bind fun x36 =>
    (some (IntKind.i64.wrap (97 + p1))).bind fun x37 =>
    (some (decide (x37 ≤ x36))).bind fun x38 =>
    (match x38 with
    | true => ((some (IntKind.i64.wrap (v31 + 1))).bind fun x39 =>
    f66_L2 F p0 p1 K n (2, x39))
    | false => ((some (IntKind.i64.wrap (v31 + 1))).bind fun x40 =>
    f66_L2 F p0 p1 K n (v30, x40))))
    | false => (K v30)))
    | false => (K v30))
def f66S (F : Nat) (p0 : List UInt8) (p1 : Int) : Option (Int) :=
  (f26S F p0).bind fun x1 =>
  (some (decide (x1 = 0))).bind fun x3 =>
  (match x3 with
  | true => ((f62S F p1 1 6).bind fun b4 =>
  (match b4 with
  | true => (f66_L0 F p0 p1 (fun v17 =>
    some v17) F (x1, 0))
  | false => (f66_L1 F p0 p1 (fun v29 =>
    some v29) F (1, 0))))
  | false => (f66_L2 F p0 p1 (fun v41 =>
    some v41) F (x1, 0)))
theorem f66_is {p0 : List UInt8} {p1 : Int} {hp : List (Option (List PV))} {F : Nat} {r : (Int)}  (h : f66S F p0 p1 = some r) :
    E Try.prog Y0 66 [.v (.string (bs p0)), iv p1] hp = some (iv r, hp, none) := by
  rw [E_bodyN 2 body66 rfl (by decide) rfl]
  simp only [Try.f66, Option.get_some]
  unfold f66S at h
  obtain ⟨x1, e2, h⟩ := bind_ok h
  have e2 : ∀ hp, E Try.prog Y0 26 [.v (.string (bs p0))] hp = some (iv x1, hp, none) := fun hp => f26_is  e2
  obtain ⟨x3, ex3, h⟩ := bindT h
  cases x3
  case false =>
   simp [e2, ex3]
   have hL2 := h; clear h
   refine loopS (S := f66_L2 F p0 p1) (fun (v30, v31) σ => ∃ (ts : Tr PV) (w : Option Nat), wok hp.length w ∧ σ = ⟨[], ts, hp, w⟩ ∧ ts.get 0 = some (.v (.string (bs p0))) ∧ ts.get 1 = some (iv p1) ∧ ts.get 5 = some (iv v30) ∧ ts.get 6 = some (iv v31) ∧ True) (fun v41 σ => ∃ (ts : Tr PV) (w : Option Nat), wok hp.length w ∧ σ = ⟨[], ts, hp, w⟩ ∧ ts.get 5 = some (iv v41) ∧ True) (fun _ => rfl) hL2 ?_ ?_ ?_
   · exact ⟨_, _, by simp, rfl, by simp [e2, ex3]⟩
   · rintro v41 σ ⟨ts, w, hw, rfl, g5, -⟩ h
     clear hL2
     try dsimp only at h
     obtain rfl := inj_ok h
     simp [g5, hw]
   · rintro k n ⟨v30, v31⟩ σ ⟨ts, w, hw, rfl, g0, g1, g5, g6, -⟩ h ih ex
     clear hL2
     rw [f66_L2] at h
     obtain ⟨x32, ex32, h⟩ := bindT h
     obtain ⟨x33, ex33, h⟩ := bindT h
     cases x33
     case false =>
      simp [g0, g1, g5, g6, ex32, ex33]
      refine ex v30 _ ?_ h
      exact ⟨_, _, by simp [hw], rfl, by simp [g0, g1, g5, g6, ex32, ex33]⟩
     obtain ⟨x34, ex34, h⟩ := bindT h
     cases x34
     case false =>
      simp [g0, g1, g5, g6, ex32, ex33, ex34]
      refine ex v30 _ ?_ h
      exact ⟨_, _, by simp [hw], rfl, by simp [g0, g1, g5, g6, ex32, ex33, ex34]⟩
     obtain ⟨x35, ex35, h⟩ := bind_ok h
     have ex35 := (gS_ok (P := Try.prog) (t := 9) (k := .i64) Try.underlying9 shape9 ex35).1
     obtain ⟨x36, ex36, h⟩ := bindT h
     obtain ⟨x37, ex37, h⟩ := bindT h
     obtain ⟨x38, ex38, h⟩ := bindT h
     cases x38
     case true =>
      obtain ⟨x39, ex39, h⟩ := bindT h
      simp [g0, g1, g5, g6, ex32, ex33, ex34, ex35, conv_5_3Arch1, ex36, ex37, ex38, ex39]
      refine ih (2, x39) _ ?_ h
      exact ⟨_, _, by simp [hw], rfl, by simp [g0, g1, g5, g6, ex32, ex33, ex34, ex35, conv_5_3Arch1, ex36, ex37, ex38, ex39]⟩
     obtain ⟨x40, ex40, h⟩ := bindT h
     simp [g0, g1, g5, g6, ex32, ex33, ex34, ex35, conv_5_3Arch1, ex36, ex37, ex38, ex40]
     refine ih (v30, x40) _ ?_ h
     exact ⟨_, _, by simp [hw], rfl, by simp [g0, g1, g5, g6, ex32, ex33, ex34, ex35, conv_5_3Arch1, ex36, ex37, ex38, ex40]⟩
  obtain ⟨b4, e5, h⟩ := bind_ok h
  have e5 : ∀ hp, E Try.prog Y0 62 [iv p1, iv 1, iv 6] hp = some (.v (.bool b4), hp, none) := fun hp => f62_is  e5
  cases b4
  case true =>
   simp [e2, ex3, e5]
   have hL0 := h; clear h
   refine loopS (S := f66_L0 F p0 p1) (fun (v6, v7) σ => ∃ (ts : Tr PV) (w : Option Nat), wok hp.length w ∧ σ = ⟨[], ts, hp, w⟩ ∧ ts.get 0 = some (.v (.string (bs p0))) ∧ ts.get 1 = some (iv p1) ∧ ts.get 5 = some (iv v6) ∧ ts.get 6 = some (iv v7) ∧ True) (fun v17 σ => ∃ (ts : Tr PV) (w : Option Nat), wok hp.length w ∧ σ = ⟨[], ts, hp, w⟩ ∧ ts.get 5 = some (iv v17) ∧ True) (fun _ => rfl) hL0 ?_ ?_ ?_
   · exact ⟨_, _, by simp, rfl, by simp [e2, ex3, e5]⟩
   · rintro v17 σ ⟨ts, w, hw, rfl, g5, -⟩ h
     clear hL0
     try dsimp only at h
     obtain rfl := inj_ok h
     simp [g5, hw]
   · rintro k n ⟨v6, v7⟩ σ ⟨ts, w, hw, rfl, g0, g1, g5, g6, -⟩ h ih ex
     clear hL0
     rw [f66_L0] at h
     obtain ⟨x8, ex8, h⟩ := bindT h
     obtain ⟨x9, ex9, h⟩ := bindT h
     cases x9
     case false =>
      simp [g0, g1, g5, g6, ex8, ex9]
      refine ex v6 _ ?_ h
      exact ⟨_, _, by simp [hw], rfl, by simp [g0, g1, g5, g6, ex8, ex9]⟩
     obtain ⟨x10, ex10, h⟩ := bindT h
     cases x10
     case false =>
      simp [g0, g1, g5, g6, ex8, ex9, ex10]
      refine ex v6 _ ?_ h
      exact ⟨_, _, by simp [hw], rfl, by simp [g0, g1, g5, g6, ex8, ex9, ex10]⟩
     obtain ⟨x11, ex11, h⟩ := bind_ok h
     have ex11 := (gS_ok (P := Try.prog) (t := 9) (k := .i64) Try.underlying9 shape9 ex11).1
     obtain ⟨x12, ex12, h⟩ := bindT h
     obtain ⟨x13, ex13, h⟩ := bindT h
     obtain ⟨x14, ex14, h⟩ := bindT h
     cases x14
     case true =>
      obtain ⟨x15, ex15, h⟩ := bindT h
      simp [g0, g1, g5, g6, ex8, ex9, ex10, ex11, conv_5_3Arch1, ex12, ex13, ex14, ex15]
      refine ih (2, x15) _ ?_ h
      exact ⟨_, _, by simp [hw], rfl, by simp [g0, g1, g5, g6, ex8, ex9, ex10, ex11, conv_5_3Arch1, ex12, ex13, ex14, ex15]⟩
     obtain ⟨x16, ex16, h⟩ := bindT h
     simp [g0, g1, g5, g6, ex8, ex9, ex10, ex11, conv_5_3Arch1, ex12, ex13, ex14, ex16]
     refine ih (v6, x16) _ ?_ h
     exact ⟨_, _, by simp [hw], rfl, by simp [g0, g1, g5, g6, ex8, ex9, ex10, ex11, conv_5_3Arch1, ex12, ex13, ex14, ex16]⟩
  simp [e2, ex3, e5]
  have hL1 := h; clear h
  refine loopS (S := f66_L1 F p0 p1) (fun (v18, v19) σ => ∃ (ts : Tr PV) (w : Option Nat), wok hp.length w ∧ σ = ⟨[], ts, hp, w⟩ ∧ ts.get 0 = some (.v (.string (bs p0))) ∧ ts.get 1 = some (iv p1) ∧ ts.get 5 = some (iv v18) ∧ ts.get 6 = some (iv v19) ∧ True) (fun v29 σ => ∃ (ts : Tr PV) (w : Option Nat), wok hp.length w ∧ σ = ⟨[], ts, hp, w⟩ ∧ ts.get 5 = some (iv v29) ∧ True) (fun _ => rfl) hL1 ?_ ?_ ?_
  · exact ⟨_, _, by simp, rfl, by simp [e2, ex3, e5]⟩
  · rintro v29 σ ⟨ts, w, hw, rfl, g5, -⟩ h
    clear hL1
    try dsimp only at h
    obtain rfl := inj_ok h
    simp [g5, hw]
  · rintro k n ⟨v18, v19⟩ σ ⟨ts, w, hw, rfl, g0, g1, g5, g6, -⟩ h ih ex
    clear hL1
    rw [f66_L1] at h
    obtain ⟨x20, ex20, h⟩ := bindT h
    obtain ⟨x21, ex21, h⟩ := bindT h
    cases x21
    case false =>
     simp [g0, g1, g5, g6, ex20, ex21]
     refine ex v18 _ ?_ h
     exact ⟨_, _, by simp [hw], rfl, by simp [g0, g1, g5, g6, ex20, ex21]⟩
    obtain ⟨x22, ex22, h⟩ := bindT h
    cases x22
    case false =>
     simp [g0, g1, g5, g6, ex20, ex21, ex22]
     refine ex v18 _ ?_ h
     exact ⟨_, _, by simp [hw], rfl, by simp [g0, g1, g5, g6, ex20, ex21, ex22]⟩
    obtain ⟨x23, ex23, h⟩ := bind_ok h
    have ex23 := (gS_ok (P := Try.prog) (t := 9) (k := .i64) Try.underlying9 shape9 ex23).1
    obtain ⟨x24, ex24, h⟩ := bindT h
    obtain ⟨x25, ex25, h⟩ := bindT h
    obtain ⟨x26, ex26, h⟩ := bindT h
    cases x26
    case true =>
     obtain ⟨x27, ex27, h⟩ := bindT h
     simp [g0, g1, g5, g6, ex20, ex21, ex22, ex23, conv_5_3Arch1, ex24, ex25, ex26, ex27]
     refine ih (2, x27) _ ?_ h
     exact ⟨_, _, by simp [hw], rfl, by simp [g0, g1, g5, g6, ex20, ex21, ex22, ex23, conv_5_3Arch1, ex24, ex25, ex26, ex27]⟩
    obtain ⟨x28, ex28, h⟩ := bindT h
    simp [g0, g1, g5, g6, ex20, ex21, ex22, ex23, conv_5_3Arch1, ex24, ex25, ex26, ex28]
    refine ih (v18, x28) _ ?_ h
    exact ⟨_, _, by simp [hw], rfl, by simp [g0, g1, g5, g6, ex20, ex21, ex22, ex23, conv_5_3Arch1, ex24, ex25, ex26, ex28]⟩
def f65_L0 (F : Nat) (p0 : List UInt8) (p1 : Int) (K : List Int → Option ((Ck × List Int))) : Nat → List Int × Mp Int Bool × Nat × Nat → Option ((Ck × List Int))
  | 0, _ => none
  | n + 1, (v1, m2, k3, v4) => (some (Nat.ble (v4 + 1) p0.length)).bind fun x5 =>
    (match x5 with
    | true => ((gA p0 v4).bind fun x6 =>
    (some (mSet k3 (x6 : Int) true m2)).bind fun x7 =>
    (some (mClk k3 (x6 : Int) m2)).bind fun x8 =>
    (some ((x7.length : Int))).bind fun x10 =>
    (some (decide (x10 = p1))).bind fun x11 =>
    (match x11 with
    | true => ((some (IntKind.i64.wrap ((v4 : Int) + 1))).bind fun x12 =>
    (app1 v1 x12).bind fun x13 =>
    f65_L0 F p0 p1 K n (x13, [], x8, v4 + 1))
    | false => (f65_L0 F p0 p1 K n (v1, x7, x8, v4 + 1))))
    | false => (K v1))
def f65S (F : Nat) (p0 : List UInt8) (p1 : Int) : Option ((Ck × List Int)) :=
  f65_L0 F p0 p1 (fun v14 =>
    some (.nz, v14)) F ([], [], 0, 0)
theorem f65_is {p0 : List UInt8} {p1 : Int} {hp : List (Option (List PV))} {F : Nat} {r : ((Ck × List Int))}  (h : f65S F p0 p1 = some r) :
    E Try.prog Y0 65 [.v (.string (bs p0)), iv p1] hp = some (.l .own r.1 r.2.length (r.2.map iv), hp, none) := by
  rw [E_bodyN 2 body65 rfl (by decide) rfl]
  simp only [Try.f65, Option.get_some]
  unfold f65S at h
  simp [mE_nil]
  have hL0 := h; clear h
  refine loopS (S := f65_L0 F p0 p1) (fun (v1, m2, k3, v4) σ => ∃ (ts : Tr PV) (w : Option Nat), wok hp.length w ∧ σ = ⟨[], ts, hp, w⟩ ∧ ts.get 1 = some (iv p1) ∧ ts.get 5 = some (.l .own .nz v1.length (v1.map iv)) ∧ ts.get 6 = some (.m .own (mE (Value.int .i32) Value.bool m2) k3) ∧ ts.get 11 = some (.it (bs p0) v4) ∧ True) (fun v14 σ => ∃ (ts : Tr PV) (w : Option Nat), wok hp.length w ∧ σ = ⟨[], ts, hp, w⟩ ∧ ts.get 5 = some (.l .own .nz v14.length (v14.map iv)) ∧ True) (fun _ => rfl) hL0 ?_ ?_ ?_
  · exact ⟨_, _, by simp, rfl, by simp [mE_nil]⟩
  · rintro v14 σ ⟨ts, w, hw, rfl, g5, -⟩ h
    clear hL0
    try dsimp only at h
    obtain rfl := inj_ok h
    simp [g5, hw]
  · rintro k n ⟨v1, m2, k3, v4⟩ σ ⟨ts, w, hw, rfl, g1, g5, g6, g11, -⟩ h ih ex
    clear hL0
    rw [f65_L0] at h
    obtain ⟨x5, ex5, h⟩ := bindT h
    cases x5
    case false =>
     simp [g1, g5, g6, g11, ex5]
     refine ex v1 _ ?_ h
     exact ⟨_, _, by simp [hw], rfl, by simp [g1, g5, g6, g11, ex5]⟩
    obtain ⟨x6, ex6, h⟩ := bind_ok h
    have ex6 := gA_ok ex6
    obtain ⟨x7, ex7, h⟩ := bindT h
    obtain ⟨x8, ex8, h⟩ := bindT h
    have q9 : aupd Try.prog 103 (mE (Value.int .i32) Value.bool m2) k3 (.int .i32 (x6 : Int)) (.bool true) = some ((mE (Value.int .i32) Value.bool x7), x8) := (upd_m (kf := (Value.int .i32)) (vf := Value.bool) (l := m2) (k := (x6 : Int)) (v := true) mty103Arch1 kty21Arch1).trans (by rw [ex7, ex8])
    obtain ⟨x10, ex10, h⟩ := bindT h
    obtain ⟨x11, ex11, h⟩ := bindT h
    cases x11
    case false =>
     simp [g1, g5, g6, g11, ex5, ex6, mty103Arch1, Try.underlying103, mE_nil, shm103Arch1, ex7, ex8, q9, mE_len, ex10, ex11]
     refine ih (v1, x7, x8, v4 + 1) _ ?_ h
     exact ⟨_, _, by simp [hw], rfl, by simp [g1, g5, g6, g11, ex5, ex6, mty103Arch1, Try.underlying103, mE_nil, shm103Arch1, ex7, ex8, q9, mE_len, ex10, ex11]⟩
    obtain ⟨x12, ex12, h⟩ := bindT h
    obtain ⟨x13, ex13, h⟩ := bind_ok h
    obtain ⟨ex13a, ex13b, ex13c, ex13q⟩ := app1_ok iv ex13
    have ex13b := ex13b 10 (by decide)
    simp [g1, g5, g6, g11, ex5, ex6, mty103Arch1, Try.underlying103, mE_nil, shm103Arch1, ex7, ex8, q9, mE_len, ex10, ex11, ex12, ex13a, ex13b, ex13c]
    refine ih (x13, [], x8, v4 + 1) _ ?_ h
    exact ⟨_, _, by simp [hw], rfl, by simp [g1, g5, g6, g11, ex5, ex6, mty103Arch1, Try.underlying103, mE_nil, shm103Arch1, ex7, ex8, q9, mE_len, ex10, ex11, ex12, ex13a, ex13b, ex13c]⟩
def f36S (F : Nat) (p0 : List UInt8) (p1 : Int) : Option ((Ck × List Int) × Int) :=
  (f64S F p0 p1).bind fun x1 =>
  (some (decide (x1 = 0))).bind fun x3 =>
  (match x3 with
  | true => ((f65S F p0 p1).bind fun (c4, l5) =>
  some ((c4, l5), 0))
  | false => (some ((.nz, []), x1)))
theorem f36_is {p0 : List UInt8} {p1 : Int} {hp : List (Option (List PV))} {F : Nat} {r : ((Ck × List Int) × Int)}  (h : f36S F p0 p1 = some r) :
    E Try.prog Y0 36 [.v (.string (bs p0)), iv p1] hp = some (.t [.l .fz r.1.1 r.1.2.length (r.1.2.map iv), iv r.2], hp, none) := by
  rw [E_bodyN 2 body36 rfl (by decide) rfl]
  simp only [Try.f36, Option.get_some]
  unfold f36S at h
  obtain ⟨x1, e2, h⟩ := bind_ok h
  have e2 : ∀ hp, E Try.prog Y0 64 [.v (.string (bs p0)), iv p1] hp = some (iv x1, hp, none) := fun hp => f64_is  e2
  obtain ⟨x3, ex3, h⟩ := bindT h
  cases x3
  case false =>
   obtain rfl := inj_ok h
   simp [e2, ex3]
  obtain ⟨⟨c4, l5⟩, e6, h⟩ := bind_ok h
  try dsimp only at h
  have e6 : ∀ hp, E Try.prog Y0 65 [.v (.string (bs p0)), iv p1] hp = some (.l .own c4 l5.length (l5.map iv), hp, none) := fun hp => f65_is  e6
  obtain rfl := inj_ok h
  simp [e2, ex3, e6]
def f67_L0 (F : Nat) (p0 : List (List UInt8)) (p1 : List UInt8) (K : Unit → Option (Bool)) : Nat → Int → Option (Bool)
  | 0, _ => none
  | n + 1, v1 => (some ((p0.length : Int))).bind fun x2 =>
    (some (decide (v1 < x2))).bind fun x3 =>
    (match x3 with
    | true => ((gI p0 v1).bind fun y4 =>
    (some (decide (y4 = p1))).bind fun x5 =>
    (match x5 with
    | true => (some true)
    | false => ((some (IntKind.i64.wrap (v1 + 1))).bind fun x6 =>
    f67_L0 F p0 p1 K n x6)))
    | false => (K ()))
def f67S (F : Nat) (p0 : List (List UInt8)) (p1 : List UInt8) : Option (Bool) :=
  f67_L0 F p0 p1 (fun _ =>
    some false) F 0
theorem f67_is {a0 : Bool} {c0 : Ck} {p0 : List (List UInt8)} {p1 : List UInt8} {hp : List (Option (List PV))} {F : Nat} {r : (Bool)}  (h : f67S F p0 p1 = some r) :
    E Try.prog Y0 67 [.l (ak a0) c0 p0.length (p0.map tv), .v (.string (bs p1))] hp = some (.v (.bool r), hp, none) := by
  rw [E_bodyN 2 body67 rfl (by decide) rfl]
  simp only [Try.f67, Option.get_some]
  unfold f67S at h
  simp
  have hL0 := h; clear h
  refine loopS (S := f67_L0 F p0 p1) (fun v1 σ => ∃ (ts : Tr PV) (w : Option Nat), wok hp.length w ∧ σ = ⟨[], ts, hp, w⟩ ∧ ts.get 0 = some (.l (ak a0) c0 p0.length (p0.map tv)) ∧ ts.get 1 = some (.v (.string (bs p1))) ∧ ts.get 5 = some (iv v1) ∧ True) (fun _ σ => ∃ (ts : Tr PV) (w : Option Nat), wok hp.length w ∧ σ = ⟨[], ts, hp, w⟩ ∧ True) (fun _ => rfl) hL0 ?_ ?_ ?_
  · exact ⟨_, _, by simp, rfl, by simp⟩
  · rintro ⟨⟩ σ ⟨ts, w, hw, rfl, -⟩ h
    clear hL0
    try dsimp only at h
    obtain rfl := inj_ok h
    simp [hw]
  · rintro k n v1 σ ⟨ts, w, hw, rfl, g0, g1, g5, -⟩ h ih ex
    clear hL0
    rw [f67_L0] at h
    obtain ⟨x2, ex2, h⟩ := bindT h
    obtain ⟨x3, ex3, h⟩ := bindT h
    cases x3
    case false =>
     simp [g0, g1, g5, ex2, ex3]
     refine ex () _ ?_ h
     exact ⟨_, _, by simp [hw], rfl, by simp [g0, g1, g5, ex2, ex3]⟩
    obtain ⟨y4, ey4, h⟩ := bind_ok h
    obtain ⟨ey4a, ey4e, ey4b, ey4c, ey4g⟩ := gI_ok rfl ey4
    obtain ⟨x5, ex5, h⟩ := bind_ok h
    have ex5p := inj_ok ex5
    have ex5 : decide (bs y4 = bs p1) = x5 := (decide_eq_decide.2 bs_eq).trans (inj_ok ex5)
    cases x5
    case true =>
     obtain rfl := inj_ok h
     simp [g0, g1, g5, ex2, ex3, ey4a, ey4b, ey4c, tv, ex5, ex5p, abin_seql, abin_sneq, hw]
    obtain ⟨x6, ex6, h⟩ := bindT h
    simp [g0, g1, g5, ex2, ex3, ey4a, ey4b, ey4c, tv, ex5, ex5p, abin_seql, abin_sneq, ex6]
    refine ih x6 _ ?_ h
    exact ⟨_, _, by simp [hw], rfl, by simp [g0, g1, g5, ex2, ex3, ey4a, ey4b, ey4c, tv, ex5, ex5p, abin_seql, abin_sneq, ex6]⟩
def f37_L0 (F : Nat) (p0 : List UInt8) (p1 : Int) (K : List Int → Option ((Ck × List Int) × Int)) : Nat → List Int × List (List UInt8) × Int → Option ((Ck × List Int) × Int)
  | 0, _ => none
  | n + 1, (v4, v5, v6) => (some ((p0.length : Int))).bind fun x7 =>
    (some (decide (v6 < x7))).bind fun x8 =>
    (match x8 with
    | true => ((some (IntKind.i64.wrap (v6 + 1))).bind fun x9 =>
    (sub2 p0 v6 x9).bind fun x10 =>
    (f67S F v5 x10).bind fun b11 =>
    (match b11 with
    | true => ((some ((v5.length : Int))).bind fun x13 =>
    (some (decide (x13 = p1))).bind fun x14 =>
    (match x14 with
    | true => ((app1 v4 x9).bind fun x15 =>
    f37_L0 F p0 p1 K n (x15, [], x9))
    | false => (f37_L0 F p0 p1 K n (v4, v5, x9))))
    | false => ((app1 v5 x10).bind fun x16 =>
    (some ((x16.length : Int))).bind fun x17 =>
    (some (decide (x17 = p1))).bind fun x18 =>
    (match x18 with
    | true => ((app1 v4 x9).bind fun x19 =>
    f37_L0 F p0 p1 K n (x19, [], x9))
    | false => (f37_L0 F p0 p1 K n (v4, x16, x9))))))
    | false => (K v4))
def f37S (F : Nat) (p0 : List UInt8) (p1 : Int) : Option ((Ck × List Int) × Int) :=
  (f66S F p0 p1).bind fun x1 =>
  (some (decide (x1 = 0))).bind fun x3 =>
  (match x3 with
  | true => (f37_L0 F p0 p1 (fun v20 =>
    some ((.nz, v20), 0)) F ([], [], 0))
  | false => (some ((.nz, []), x1)))
theorem f37_is {p0 : List UInt8} {p1 : Int} {hp : List (Option (List PV))} {F : Nat} {r : ((Ck × List Int) × Int)}  (h : f37S F p0 p1 = some r) :
    E Try.prog Y0 37 [.v (.string (bs p0)), iv p1] hp = some (.t [.l .fz r.1.1 r.1.2.length (r.1.2.map iv), iv r.2], hp, none) := by
  rw [E_bodyN 2 body37 rfl (by decide) rfl]
  simp only [Try.f37, Option.get_some]
  unfold f37S at h
  obtain ⟨x1, e2, h⟩ := bind_ok h
  have e2 : ∀ hp, E Try.prog Y0 66 [.v (.string (bs p0)), iv p1] hp = some (iv x1, hp, none) := fun hp => f66_is  e2
  obtain ⟨x3, ex3, h⟩ := bindT h
  cases x3
  case false =>
   obtain rfl := inj_ok h
   simp [e2, ex3]
  simp [e2, ex3]
  have hL0 := h; clear h
  refine loopS (S := f37_L0 F p0 p1) (fun (v4, v5, v6) σ => ∃ (ts : Tr PV) (w : Option Nat), wok hp.length w ∧ σ = ⟨[], ts, hp, w⟩ ∧ ts.get 0 = some (.v (.string (bs p0))) ∧ ts.get 1 = some (iv p1) ∧ ts.get 7 = some (.l .own .nz v4.length (v4.map iv)) ∧ ts.get 8 = some (.l .own .nz v5.length (v5.map tv)) ∧ ts.get 9 = some (iv v6) ∧ True) (fun v20 σ => ∃ (ts : Tr PV) (w : Option Nat), wok hp.length w ∧ σ = ⟨[], ts, hp, w⟩ ∧ ts.get 7 = some (.l .own .nz v20.length (v20.map iv)) ∧ True) (fun _ => rfl) hL0 ?_ ?_ ?_
  · exact ⟨_, _, by simp, rfl, by simp [e2, ex3]⟩
  · rintro v20 σ ⟨ts, w, hw, rfl, g7, -⟩ h
    clear hL0
    try dsimp only at h
    obtain rfl := inj_ok h
    simp [g7, hw]
  · rintro k n ⟨v4, v5, v6⟩ σ ⟨ts, w, hw, rfl, g0, g1, g7, g8, g9, -⟩ h ih ex
    clear hL0
    rw [f37_L0] at h
    obtain ⟨x7, ex7, h⟩ := bindT h
    obtain ⟨x8, ex8, h⟩ := bindT h
    cases x8
    case false =>
     simp [g0, g1, g7, g8, g9, ex7, ex8]
     refine ex v4 _ ?_ h
     exact ⟨_, _, by simp [hw], rfl, by simp [g0, g1, g7, g8, g9, ex7, ex8]⟩
    obtain ⟨x9, ex9, h⟩ := bindT h
    obtain ⟨x10, ex10, h⟩ := bind_ok h
    have ex10 := fun {k j : IntKind} => sub2_ok (P := Try.prog) (t := 9) Try.underlying9 ex10 (k := k) (j := j)
    obtain ⟨b11, e12, h⟩ := bind_ok h
    have e12 : ∀ hp, E Try.prog Y0 67 [.l .bor .nz v5.length (v5.map tv), .v (.string (bs x10))] hp = some (.v (.bool b11), hp, none) := fun hp => f67_is (a0 := true) (c0 := .nz) e12
    cases b11
    case true =>
     obtain ⟨x13, ex13, h⟩ := bindT h
     obtain ⟨x14, ex14, h⟩ := bindT h
     cases x14
     case false =>
      simp [g0, g1, g7, g8, g9, ex7, ex8, ex9, ex10, shape9, pqSlice, e12, ex13, ex14]
      refine ih (v4, v5, x9) _ ?_ h
      exact ⟨_, _, by simp [hw], rfl, by simp [g0, g1, g7, g8, g9, ex7, ex8, ex9, ex10, shape9, pqSlice, e12, ex13, ex14]⟩
     obtain ⟨x15, ex15, h⟩ := bind_ok h
     obtain ⟨ex15a, ex15b, ex15c, ex15q⟩ := app1_ok iv ex15
     have ex15b := ex15b 10 (by decide)
     simp [g0, g1, g7, g8, g9, ex7, ex8, ex9, ex10, shape9, pqSlice, e12, ex13, ex14, ex15a, ex15b, ex15c]
     refine ih (x15, [], x9) _ ?_ h
     exact ⟨_, _, by simp [hw], rfl, by simp [g0, g1, g7, g8, g9, ex7, ex8, ex9, ex10, shape9, pqSlice, e12, ex13, ex14, ex15a, ex15b, ex15c]⟩
    obtain ⟨x16, ex16, h⟩ := bind_ok h
    obtain ⟨ex16a, ex16b, ex16c, ex16q⟩ := app1_ok tv ex16
    have ex16b := ex16b 18 (by decide)
    simp [lv, tv] at ex16c
    obtain ⟨x17, ex17, h⟩ := bindT h
    obtain ⟨x18, ex18, h⟩ := bindT h
    cases x18
    case false =>
     simp [g0, g1, g7, g8, g9, ex7, ex8, ex9, ex10, shape9, pqSlice, e12, ex16a, ex16b, ex16c, tv, ex17, ex18]
     refine ih (v4, x16, x9) _ ?_ h
     exact ⟨_, _, by simp [hw], rfl, by simp [g0, g1, g7, g8, g9, ex7, ex8, ex9, ex10, shape9, pqSlice, e12, ex16a, ex16b, ex16c, tv, ex17, ex18]⟩
    obtain ⟨x19, ex19, h⟩ := bind_ok h
    obtain ⟨ex19a, ex19b, ex19c, ex19q⟩ := app1_ok iv ex19
    have ex19b := ex19b 10 (by decide)
    simp [g0, g1, g7, g8, g9, ex7, ex8, ex9, ex10, shape9, pqSlice, e12, ex16a, ex16b, ex16c, tv, ex17, ex18, ex19a, ex19b, ex19c]
    refine ih (x19, [], x9) _ ?_ h
    exact ⟨_, _, by simp [hw], rfl, by simp [g0, g1, g7, g8, g9, ex7, ex8, ex9, ex10, shape9, pqSlice, e12, ex16a, ex16b, ex16c, tv, ex17, ex18, ex19a, ex19b, ex19c]⟩
def f68_L0 (F : Nat) (p0 : List Int) (p1 : Int) (x1 : Int) (K : Unit → Option (Int)) : Nat → Int → Option (Int)
  | 0, _ => none
  | n + 1, v2 => (some (decide (v2 < x1))).bind fun x3 =>
    (match x3 with
    | true => ((gI p0 v2).bind fun y4 =>
    (some (decide (p1 = y4))).bind fun x5 =>
    (match x5 with
    | true => (some v2)
    | false => ((some (IntKind.i64.wrap (v2 + 1))).bind fun x6 =>
    f68_L0 F p0 p1 x1 K n x6)))
    | false => (K ()))
def f68S (F : Nat) (p0 : List Int) (p1 : Int) : Option (Int) :=
  (some ((p0.length : Int))).bind fun x1 =>
  f68_L0 F p0 p1 x1 (fun _ =>
    some (-1)) F 0
theorem f68_is {a0 : Bool} {c0 : Ck} {p0 : List Int} {p1 : Int} {hp : List (Option (List PV))} {F : Nat} {r : (Int)}  (h : f68S F p0 p1 = some r) :
    E Try.prog Y0 68 [.l (ak a0) c0 p0.length (p0.map (kv .u8)), kv .u8 p1] hp = some (iv r, hp, none) := by
  rw [E_bodyN 2 body68 rfl (by decide) rfl]
  simp only [Try.f68, Option.get_some]
  unfold f68S at h
  obtain ⟨x1, ex1, h⟩ := bindT h
  simp [ex1]
  have hL0 := h; clear h
  refine loopS (S := f68_L0 F p0 p1 x1) (fun v2 σ => ∃ (ts : Tr PV) (w : Option Nat), wok hp.length w ∧ σ = ⟨[], ts, hp, w⟩ ∧ ts.get 0 = some (.l (ak a0) c0 p0.length (p0.map (kv .u8))) ∧ ts.get 1 = some (kv .u8 p1) ∧ ts.get 7 = some (iv x1) ∧ ts.get 8 = some (iv v2) ∧ True) (fun _ σ => ∃ (ts : Tr PV) (w : Option Nat), wok hp.length w ∧ σ = ⟨[], ts, hp, w⟩ ∧ True) (fun _ => rfl) hL0 ?_ ?_ ?_
  · exact ⟨_, _, by simp, rfl, by simp [ex1]⟩
  · rintro ⟨⟩ σ ⟨ts, w, hw, rfl, -⟩ h
    clear hL0
    try dsimp only at h
    obtain rfl := inj_ok h
    simp [hw]
  · rintro k n v2 σ ⟨ts, w, hw, rfl, g0, g1, g7, g8, -⟩ h ih ex
    clear hL0
    rw [f68_L0] at h
    obtain ⟨x3, ex3, h⟩ := bindT h
    cases x3
    case false =>
     simp [g0, g1, g7, g8, ex3]
     refine ex () _ ?_ h
     exact ⟨_, _, by simp [hw], rfl, by simp [g0, g1, g7, g8, ex3]⟩
    obtain ⟨y4, ey4, h⟩ := bind_ok h
    obtain ⟨ey4a, ey4e, ey4b, ey4c, ey4g⟩ := gI_ok rfl ey4
    obtain ⟨x5, ex5, h⟩ := bindT h
    cases x5
    case true =>
     obtain rfl := inj_ok h
     simp [g0, g1, g7, g8, ex3, ey4a, ey4b, ey4c, ex5, hw]
    obtain ⟨x6, ex6, h⟩ := bindT h
    simp [g0, g1, g7, g8, ex3, ey4a, ey4b, ey4c, ex5, ex6]
    refine ih x6 _ ?_ h
    exact ⟨_, _, by simp [hw], rfl, by simp [g0, g1, g7, g8, ex3, ey4a, ey4b, ey4c, ex5, ex6]⟩
end Go.Proofs.Ytmnmfmghmenkkaa
