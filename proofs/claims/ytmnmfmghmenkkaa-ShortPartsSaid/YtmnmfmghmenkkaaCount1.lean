/-
  Parts are counted.
  Printed by wip/tools/walk.py. Conditions: none; definitions and lemmas.
-/
import Derived.Test.YtmnmfmghmenkkaaArch1
set_option linter.unusedSimpArgs false
set_option linter.unusedVariables false
namespace Go.Proofs.Ytmnmfmghmenkkaa
open Go.Abs Go.Pur
set_option maxRecDepth 100000
set_option maxHeartbeats 2000000
attribute [local simp] EK_region EK_seq EK_cond EK_block EK_blk EK_loop EK_exit EK.ex EK_ret EK_skip EK_nil EO_cons EO_nil EO1_true EO1_false EO2_some EO3_some EB_true EB_false pwanted poper pq pev Go.Pur.look pputT isAssign drOf pinit Tr.get_set lget pvOf_int pvOf_bool pvOf_str pvOf_nil rdv_ak notOwn_ak prt_ak loose_ak rdv_own rdv_fz rdv_bor rdv_rf rdv_pt rdv_v rdv_a rdv_t rdv_r rdv_p rdv_s rdv_f pbin plen pload ppart idxAddr pcond Nat.blt goInt_eq prun_not prun_neg mayLoad ER_ret ER_normal presL presOne moved stor okDrop settle_v settle_l settle_a settle_p settle_f noref_v noref_fz noref_a norefs_nil norefs_cons pclose given dropB Y0_keep pevParts stors pvCells pvCells.go vcells pfill reps zipParts ownFz pcells cellOK one psrcLen srcFits psrc takeP pgrow take getPl setPl mapL plEq elder isList lowP pevs frzs addP partAt ble_lim24 killV_v killV_a killV_t killV_f killV_i killV_p killV_s killV_un killV_dead killV_lfz killV_lbor killV_lown killV_rfz killV_rbor killV_lak killV_rak frzV_v frzV_a frzV_t frzV_f frzV_i frzV_p frzV_s frzV_un frzV_dead frzV_lfz frzV_lbor frzV_lown frzV_rfz frzV_rbor frzV_lak frzV_rak killCell_v killCell_a killCell_t killCell_f killCell_i killCell_p killCell_s killCell_un killCell_dead killCell_lfz killCell_lbor killCell_lown killCell_rfz killCell_rbor killCell_lak killCell_rak killV_lrf killV_lpt killV_rpt frzV_lrf frzV_lpt frzV_rpt killCell_lrft killCell_lptt killCell_rptt killCell_lrfc killCell_lptc killCell_rptc argv_lak argv_rak argv_v argv_a argv_p argv_f argv_fz argv_bor argv_rf argv_pt argv_rc argv_own mayTurn_none argvs pcallOp firm refsTo_v refsTo_l refsTo_p refsTo_s refsTo_a refsTo_dead refsTo_nil refsTo_cons isOwn_lak ownFz_lak evSafe pskip plain pnewBlk fldAddr isOwn pput notOwn_fz notOwn_bor notOwn_own notOwn_rf notOwn_pt prt_fz prt_bor prt_own prt_rf prt_pt Go.Pur.freeze presM settles abin_and abin_or abin_andNot abin_mul abin_shr abin_shl abin_add abin_sub abin_eql abin_neq abin_lss abin_leq abin_gtr abin_geq hows pcallIn Y0_how Y0_part howOf partOf rdv_mown rdv_mfz rdv_mbor rdv_mrf killV_mown killV_mfz killV_mbor killV_mrf frzV_mown frzV_mfz frzV_mbor frzV_mrf killCell_mown killCell_mfz killCell_mbor killCell_mrf argv_mfz argv_mbor argv_mrf settle_m kls_v kls_l kls_a kls_t kls_r kls_p kls_s kls_f kls_i kls_it kls_un kls_dead kls_mown kls_mrf kls_mbor kls_mfz fzOf takable mapHere mapOwn mapTo flat toPlain toPlain.go ofFlat ofPair mapEs plook lookRes Y0_mv mvOf mvBlk premv Y0_fzm fzmOf poperX pconv keep29 keep30 keep32 keep33 keep34 keep60 keep63 sz3 by3 row3 zero3 sz4 by4 row4 zero4 sz5 by5 row5 zero5 sz9 by9 row9 shape9 zero9 sz21 by21 row21 zero21 sz22 by22 row22 zero22 sz24 by24 row24 zero24 sz29 by29 row29 shape29 zero29 sz36 by36 row36 shape36 zero36 sz52 by52 row52 shape52 zero52 parts52 sz54 by54 row54 zero54 parts54 field54_0 field54_1 sz58 by58 row58 zero58 mt58 az3 sz63 by63 row63 zero63 sz66 by66 row66 shape66 zero66 parts66 sz67 by67 row67 shape67 zero67 sz75 by75 row75 shape75 zero75 sz76 by76 row76 shape76 zero76 sz78 by78 row78 zero78 mt78 sz79 by79 row79 shape79 zero79 sz92 by92 row92 zero92 sz94 by94 row94 zero94 parts94 field94_0 field94_1 sz99 by99 row99 shape99 zero99 sz102 by102 row102 zero102 mt102 az4 sz103 by103 row103 zero103 mt103 sz106 by106 row106 zero106 parts106 field106_0 field106_1 sz108 by108 row108 zero108 parts108 field108_0 field108_1 sz109 by109 row109 shape109 zero109 sz110 by110 row110 zero110 mt110 sz112 by112 row112 zero112 sz115 by115 row115 zero115 sz116 by116 row116 zero116 sz119 by119 row119 zero119 sz127 by127 row127 zero127 sz129 by129 row129 zero129 sz130 by130 row130 zero130 sz134 by134 row134 zero134 bs_size gAt gAt0 sAt sAt0 optPlain rows_len noMaker_eq kindOf vlOf abin_rem abin_quo mayTurn_none lowOf_none Go.Pur.partAt rows_nil rows_cons ble_add ble_add0 ble_same toPlain toPlain.go intIn2_0 intIn2_1 ble12 ble22 tv lv max_int min_int pplains ak_true ak_false apartP beq_add beq_add0 beq_add1 argv_s wok_none wok_low_iff lowOf_wok
theorem conv_3_5Count1 {z : Int} : prunP Try.prog (convert 3 5 (.int .i64 z)) = some (.int .u8 (IntKind.u8.wrap z)) := by kernel_rfl
theorem convn_75_9Count1 : prunP Try.prog (convert 75 9 (.slice none 0 0)) = some (.string ByteArray.empty) := by kernel_rfl
theorem mty78Count1 : mapTy Try.prog 78 = some (21, 3) := by kernel_rfl
theorem shm78Count1 : shapeOf Try.prog 78 = none := by kernel_rfl
theorem kty21Count1 : KeyT Try.prog 21 (Value.int .i32) := key_int Try.underlying21
def f63_L2 (F : Nat) (x7 : List UInt8) (l22 : List (List UInt8)) (K : List (List UInt8) → Option ((Ck × List (List UInt8)))) : Nat → List (List UInt8) × Int → Option ((Ck × List (List UInt8)))
  | 0, _ => none
  | n + 1, (v24, v25) => (some ((l22.length : Int))).bind fun x26 =>
    (some (decide (v25 < x26))).bind fun x27 =>
    (match x27 with
    | true => ((gI l22 v25).bind fun y28 =>
    (sadd x7 y28).bind fun x29 =>
    (app1 v24 x29).bind fun x30 =>
    (some (IntKind.i64.wrap (v25 + 1))).bind fun x31 =>
    f63_L2 F x7 l22 K n (x30, x31))
    | false => (K v24))
def f63_L1 (F : Nat) (p0 : List UInt8) (x7 : List UInt8) (K : Int → Option ((Ck × List (List UInt8)))) : Nat → Int → Option ((Ck × List (List UInt8)))
  | 0, _ => none
  | n + 1, v8 => (some ((p0.length : Int))).bind fun x9 =>
    (some (decide (v8 < x9))).bind fun x10 =>
    (match x10 with
    | true => ((some (IntKind.i64.wrap (v8 + 1))).bind fun x11 =>
    (sub2 p0 v8 x11).bind fun x12 =>
    (some (decide (x12 = x7))).bind fun x13 =>
    (match x13 with
    | true => (K v8)
    | false => (f63_L1 F p0 x7 K n x11)))
    | false => (K v8))
def f63_L0 (F : Nat) (R : List UInt8 → Int → Option ((Ck × List (List UInt8)))) (p0 : List UInt8) (p1 : Int) (K : List (List UInt8) → Option ((Ck × List (List UInt8)))) : Nat → List (List UInt8) × Int → Option ((Ck × List (List UInt8)))
  | 0, _ => none
  | n + 1, (v2, v3) => (some (decide (v3 < 6))).bind fun x4 =>
    (match x4 with
    | true => ((some (IntKind.i64.wrap (97 + v3))).bind fun x5 =>
    (some (IntKind.u8.wrap x5)).bind fun x6 =>
    (some (bytesN [x6])).bind fun x7 =>
    f63_L1 F p0 x7 (fun v14 =>
      (some ((p0.length : Int))).bind fun x15 =>
      (some (decide (v14 = x15))).bind fun x16 =>
      (match x16 with
      | true => ((some (IntKind.i64.wrap (v3 + 1))).bind fun x17 =>
      f63_L0 F R p0 p1 K n (v2, x17))
      | false => ((some (IntKind.i64.wrap (v14 + 1))).bind fun x18 =>
      (subF p0 x18).bind fun x19 =>
      (some (IntKind.i64.wrap (p1 - 1))).bind fun x20 =>
      (R x19 x20).bind fun (c21, l22) =>
      f63_L2 F x7 l22 (fun v32 =>
        (some (IntKind.i64.wrap (v3 + 1))).bind fun x33 =>
        f63_L0 F R p0 p1 K n (v32, x33)) F (v2, 0)))) F 0)
    | false => (K v2))
def f63S (F : Nat) : Nat → List UInt8 → Int → Option ((Ck × List (List UInt8)))
  | 0, _, _ => none
  | D + 1, p0, p1 =>
    (some (decide (p1 = 0))).bind fun x1 =>
    (match x1 with
    | true => (some (.full, [[]]))
    | false => (f63_L0 F (f63S F D) p0 p1 (fun v34 =>
      some (.nz, v34)) F ([], 0)))
theorem f63_is {F D : Nat} {p0 : List UInt8} {p1 : Int} {hp : List (Option (List PV))} {r : ((Ck × List (List UInt8)))} (h : f63S F D p0 p1 = some r) :
    E Try.prog Y0 63 [.v (.string (bs p0)), iv p1] hp = some (.l (vlOf r.1) r.1 r.2.length (r.2.map tv), hp, none) := by
  induction D generalizing p0 p1 hp r with
  | zero => cases h
  | succ D ihD =>
  rw [E_bodyN 2 body63 rfl (by decide) rfl]
  simp only [Try.f63, Option.get_some]
  rw [f63S] at h
  obtain ⟨x1, ex1, h⟩ := bindT h
  cases x1
  case true =>
   obtain rfl := inj_ok h
   simp [ex1]
  simp [ex1]
  have hL0 := h; clear h
  refine loopS (S := f63_L0 F (f63S F D) p0 p1) (fun (v2, v3) σ => ∃ (ts : Tr PV) (w : Option Nat), wok hp.length w ∧ σ = ⟨[], ts, hp, w⟩ ∧ ts.get 0 = some (.v (.string (bs p0))) ∧ ts.get 1 = some (iv p1) ∧ ts.get 5 = some (.l .own .nz v2.length (v2.map tv)) ∧ ts.get 6 = some (iv v3) ∧ True) (fun v34 σ => ∃ (ts : Tr PV) (w : Option Nat), wok hp.length w ∧ σ = ⟨[], ts, hp, w⟩ ∧ ts.get 5 = some (.l .own .nz v34.length (v34.map tv)) ∧ True) (fun _ => rfl) hL0 ?_ ?_ ?_
  · exact ⟨_, _, by simp, rfl, by simp [ex1]⟩
  · rintro v34 σ ⟨ts, w, hw, rfl, g5, -⟩ h
    clear hL0
    try dsimp only at h
    obtain rfl := inj_ok h
    simp [g5, hw]
  · rintro k n ⟨v2, v3⟩ σ ⟨ts, w, hw, rfl, g0, g1, g5, g6, -⟩ h ih ex
    clear hL0
    rw [f63_L0] at h
    obtain ⟨x4, ex4, h⟩ := bindT h
    cases x4
    case false =>
     simp [g0, g1, g5, g6, ex4]
     refine ex v2 _ ?_ h
     exact ⟨_, _, by simp [hw], rfl, by simp [g0, g1, g5, g6, ex4]⟩
    obtain ⟨x5, ex5, h⟩ := bindT h
    obtain ⟨x6, ex6, h⟩ := bindT h
    obtain ⟨x7, ex7, h⟩ := bind_ok h
    have ex7 := inj_ok ex7
    have ex7 := fun (x : Operand) (σ : St) (dr : Dr) hx hm => pbytes_l (dr := dr) (hm := hm) (P := Try.prog) (Y := Y0) (f := 63) (src := 75) (dst := 9) (x := x) (σ := σ) (k := .fz) (c := .full) (l := [x6]) Try.underlying75 Try.underlying5 Try.underlying9 hx ex7 convn_75_9Count1
    simp [g0, g1, g5, g6, ex4, ex5, conv_3_5Count1, ex6]
    rw [ex7 _ _ _ (by simp) (by kernel_rfl)]
    simp [g0, g1, g5, g6, ex4, ex5, conv_3_5Count1, ex6]
    have hL1 := h; clear h
    refine loopS (S := f63_L1 F p0 x7) (fun v8 σ => ∃ (ts : Tr PV) (w : Option Nat), wok hp.length w ∧ σ = ⟨[], ts, hp, w⟩ ∧ ts.get 0 = some (.v (.string (bs p0))) ∧ ts.get 1 = some (iv p1) ∧ ts.get 5 = some (.l .own .nz v2.length (v2.map tv)) ∧ ts.get 6 = some (iv v3) ∧ ts.get 7 = some (.v (.string (bs x7))) ∧ ts.get 8 = some (iv v8) ∧ True) (fun v14 σ => ∃ (ts : Tr PV) (w : Option Nat), wok hp.length w ∧ σ = ⟨[], ts, hp, w⟩ ∧ ts.get 0 = some (.v (.string (bs p0))) ∧ ts.get 1 = some (iv p1) ∧ ts.get 5 = some (.l .own .nz v2.length (v2.map tv)) ∧ ts.get 6 = some (iv v3) ∧ ts.get 7 = some (.v (.string (bs x7))) ∧ ts.get 8 = some (iv v14) ∧ True) (fun _ => rfl) hL1 ?_ ?_ ?_
    · exact ⟨_, _, by simp [hw], rfl, by simp [g0, g1, g5, g6, ex4, ex5, conv_3_5Count1, ex6]⟩
    · rintro v14 σ ⟨ts, w, hw, rfl, g0, g1, g5, g6, g7, g8, -⟩ h
      clear hL1
      try dsimp only at h
      obtain ⟨x15, ex15, h⟩ := bindT h
      obtain ⟨x16, ex16, h⟩ := bindT h
      cases x16
      case true =>
       obtain ⟨x17, ex17, h⟩ := bindT h
       simp [g0, g1, g5, g6, g7, g8, ex15, ex16, ex17]
       refine ih (v2, x17) _ ?_ h
       exact ⟨_, _, by simp [hw], rfl, by simp [g0, g1, g5, g6, g7, g8, ex15, ex16, ex17]⟩
      obtain ⟨x18, ex18, h⟩ := bindT h
      obtain ⟨x19, ex19, h⟩ := bind_ok h
      have ex19 := fun {k : IntKind} => subF_ok (P := Try.prog) (t := 9) Try.underlying9 ex19 (k := k)
      obtain ⟨x20, ex20, h⟩ := bindT h
      obtain ⟨⟨c21, l22⟩, e23, h⟩ := bind_ok h
      try dsimp only at h
      have e23 : ∀ hp, E Try.prog Y0 63 [.v (.string (bs x19)), iv x20] hp = some (.l (vlOf c21) c21 l22.length (l22.map tv), hp, none) := fun hp => ihD  e23
      cases c21 with
      | full =>
        simp [g0, g1, g5, g6, g7, g8, ex15, ex16, ex18, ex19, shape9, pqSlice, ex20, e23]
        have hL2 := h; clear h
        refine loopS (S := f63_L2 F x7 l22) (fun (v24, v25) σ => ∃ (ts : Tr PV) (w : Option Nat), wok hp.length w ∧ σ = ⟨[], ts, hp, w⟩ ∧ ts.get 0 = some (.v (.string (bs p0))) ∧ ts.get 1 = some (iv p1) ∧ ts.get 5 = some (.l .own .nz v24.length (v24.map tv)) ∧ ts.get 6 = some (iv v3) ∧ ts.get 7 = some (.v (.string (bs x7))) ∧ ts.get 9 = some (.l (vlOf Ck.full) Ck.full l22.length (l22.map tv)) ∧ ts.get 10 = some (iv v25) ∧ True) (fun v32 σ => ∃ (ts : Tr PV) (w : Option Nat), wok hp.length w ∧ σ = ⟨[], ts, hp, w⟩ ∧ ts.get 0 = some (.v (.string (bs p0))) ∧ ts.get 1 = some (iv p1) ∧ ts.get 5 = some (.l .own .nz v32.length (v32.map tv)) ∧ ts.get 6 = some (iv v3) ∧ True) (fun _ => rfl) hL2 ?_ ?_ ?_
        · exact ⟨_, _, by simp [hw], rfl, by simp [g0, g1, g5, g6, g7, g8, ex15, ex16, ex18, ex19, shape9, pqSlice, ex20, e23]⟩
        · rintro v32 σ ⟨ts, w, hw, rfl, g0, g1, g5, g6, -⟩ h
          clear hL2
          try dsimp only at h
          obtain ⟨x33, ex33, h⟩ := bindT h
          simp [g0, g1, g5, g6, ex33]
          refine ih (v32, x33) _ ?_ h
          exact ⟨_, _, by simp [hw], rfl, by simp [g0, g1, g5, g6, ex33]⟩
        · rintro k n ⟨v24, v25⟩ σ ⟨ts, w, hw, rfl, g0, g1, g5, g6, g7, g9, g10, -⟩ h ih ex
          clear hL2
          rw [f63_L2] at h
          obtain ⟨x26, ex26, h⟩ := bindT h
          obtain ⟨x27, ex27, h⟩ := bindT h
          cases x27
          case false =>
           simp [g0, g1, g5, g6, g7, g9, g10, ex26, ex27]
           refine ex v24 _ ?_ h
           exact ⟨_, _, by simp [hw], rfl, by simp [g0, g1, g5, g6, g7, g9, g10, ex26, ex27]⟩
          obtain ⟨y28, ey28, h⟩ := bind_ok h
          obtain ⟨ey28a, ey28e, ey28b, ey28c, ey28g⟩ := gI_ok rfl ey28
          obtain ⟨x29, ex29, h⟩ := bind_ok h
          obtain ⟨ex29a, ex29⟩ := sadd_ok ex29
          obtain ⟨x30, ex30, h⟩ := bind_ok h
          obtain ⟨ex30a, ex30b, ex30c, ex30q⟩ := app1_ok tv ex30
          have ex30b := ex30b 18 (by decide)
          simp [lv, tv] at ex30c
          obtain ⟨x31, ex31, h⟩ := bindT h
          simp [g0, g1, g5, g6, g7, g9, g10, ex26, ex27, ey28a, ey28b, ey28c, tv, ex29, abin_sadd ex29a, ex30a, ex30b, ex30c, ex31]
          refine ih (x30, x31) _ ?_ h
          exact ⟨_, _, by simp [hw], rfl, by simp [g0, g1, g5, g6, g7, g9, g10, ex26, ex27, ey28a, ey28b, ey28c, tv, ex29, abin_sadd ex29a, ex30a, ex30b, ex30c, ex31]⟩
      | nz =>
        simp [g0, g1, g5, g6, g7, g8, ex15, ex16, ex18, ex19, shape9, pqSlice, ex20, e23]
        have hL2 := h; clear h
        refine loopS (S := f63_L2 F x7 l22) (fun (v24, v25) σ => ∃ (ts : Tr PV) (w : Option Nat), wok hp.length w ∧ σ = ⟨[], ts, hp, w⟩ ∧ ts.get 0 = some (.v (.string (bs p0))) ∧ ts.get 1 = some (iv p1) ∧ ts.get 5 = some (.l .own .nz v24.length (v24.map tv)) ∧ ts.get 6 = some (iv v3) ∧ ts.get 7 = some (.v (.string (bs x7))) ∧ ts.get 9 = some (.l (vlOf Ck.nz) Ck.nz l22.length (l22.map tv)) ∧ ts.get 10 = some (iv v25) ∧ True) (fun v32 σ => ∃ (ts : Tr PV) (w : Option Nat), wok hp.length w ∧ σ = ⟨[], ts, hp, w⟩ ∧ ts.get 0 = some (.v (.string (bs p0))) ∧ ts.get 1 = some (iv p1) ∧ ts.get 5 = some (.l .own .nz v32.length (v32.map tv)) ∧ ts.get 6 = some (iv v3) ∧ True) (fun _ => rfl) hL2 ?_ ?_ ?_
        · exact ⟨_, _, by simp [hw], rfl, by simp [g0, g1, g5, g6, g7, g8, ex15, ex16, ex18, ex19, shape9, pqSlice, ex20, e23]⟩
        · rintro v32 σ ⟨ts, w, hw, rfl, g0, g1, g5, g6, -⟩ h
          clear hL2
          try dsimp only at h
          obtain ⟨x33, ex33, h⟩ := bindT h
          simp [g0, g1, g5, g6, ex33]
          refine ih (v32, x33) _ ?_ h
          exact ⟨_, _, by simp [hw], rfl, by simp [g0, g1, g5, g6, ex33]⟩
        · rintro k n ⟨v24, v25⟩ σ ⟨ts, w, hw, rfl, g0, g1, g5, g6, g7, g9, g10, -⟩ h ih ex
          clear hL2
          rw [f63_L2] at h
          obtain ⟨x26, ex26, h⟩ := bindT h
          obtain ⟨x27, ex27, h⟩ := bindT h
          cases x27
          case false =>
           simp [g0, g1, g5, g6, g7, g9, g10, ex26, ex27]
           refine ex v24 _ ?_ h
           exact ⟨_, _, by simp [hw], rfl, by simp [g0, g1, g5, g6, g7, g9, g10, ex26, ex27]⟩
          obtain ⟨y28, ey28, h⟩ := bind_ok h
          obtain ⟨ey28a, ey28e, ey28b, ey28c, ey28g⟩ := gI_ok rfl ey28
          obtain ⟨x29, ex29, h⟩ := bind_ok h
          obtain ⟨ex29a, ex29⟩ := sadd_ok ex29
          obtain ⟨x30, ex30, h⟩ := bind_ok h
          obtain ⟨ex30a, ex30b, ex30c, ex30q⟩ := app1_ok tv ex30
          have ex30b := ex30b 18 (by decide)
          simp [lv, tv] at ex30c
          obtain ⟨x31, ex31, h⟩ := bindT h
          simp [g0, g1, g5, g6, g7, g9, g10, ex26, ex27, ey28a, ey28b, ey28c, tv, ex29, abin_sadd ex29a, ex30a, ex30b, ex30c, ex31]
          refine ih (x30, x31) _ ?_ h
          exact ⟨_, _, by simp [hw], rfl, by simp [g0, g1, g5, g6, g7, g9, g10, ex26, ex27, ey28a, ey28b, ey28c, tv, ex29, abin_sadd ex29a, ex30a, ex30b, ex30c, ex31]⟩
      | any =>
        simp [g0, g1, g5, g6, g7, g8, ex15, ex16, ex18, ex19, shape9, pqSlice, ex20, e23]
        have hL2 := h; clear h
        refine loopS (S := f63_L2 F x7 l22) (fun (v24, v25) σ => ∃ (ts : Tr PV) (w : Option Nat), wok hp.length w ∧ σ = ⟨[], ts, hp, w⟩ ∧ ts.get 0 = some (.v (.string (bs p0))) ∧ ts.get 1 = some (iv p1) ∧ ts.get 5 = some (.l .own .nz v24.length (v24.map tv)) ∧ ts.get 6 = some (iv v3) ∧ ts.get 7 = some (.v (.string (bs x7))) ∧ ts.get 9 = some (.l (vlOf Ck.any) Ck.any l22.length (l22.map tv)) ∧ ts.get 10 = some (iv v25) ∧ True) (fun v32 σ => ∃ (ts : Tr PV) (w : Option Nat), wok hp.length w ∧ σ = ⟨[], ts, hp, w⟩ ∧ ts.get 0 = some (.v (.string (bs p0))) ∧ ts.get 1 = some (iv p1) ∧ ts.get 5 = some (.l .own .nz v32.length (v32.map tv)) ∧ ts.get 6 = some (iv v3) ∧ True) (fun _ => rfl) hL2 ?_ ?_ ?_
        · exact ⟨_, _, by simp [hw], rfl, by simp [g0, g1, g5, g6, g7, g8, ex15, ex16, ex18, ex19, shape9, pqSlice, ex20, e23]⟩
        · rintro v32 σ ⟨ts, w, hw, rfl, g0, g1, g5, g6, -⟩ h
          clear hL2
          try dsimp only at h
          obtain ⟨x33, ex33, h⟩ := bindT h
          simp [g0, g1, g5, g6, ex33]
          refine ih (v32, x33) _ ?_ h
          exact ⟨_, _, by simp [hw], rfl, by simp [g0, g1, g5, g6, ex33]⟩
        · rintro k n ⟨v24, v25⟩ σ ⟨ts, w, hw, rfl, g0, g1, g5, g6, g7, g9, g10, -⟩ h ih ex
          clear hL2
          rw [f63_L2] at h
          obtain ⟨x26, ex26, h⟩ := bindT h
          obtain ⟨x27, ex27, h⟩ := bindT h
          cases x27
          case false =>
           simp [g0, g1, g5, g6, g7, g9, g10, ex26, ex27]
           refine ex v24 _ ?_ h
           exact ⟨_, _, by simp [hw], rfl, by simp [g0, g1, g5, g6, g7, g9, g10, ex26, ex27]⟩
          obtain ⟨y28, ey28, h⟩ := bind_ok h
          obtain ⟨ey28a, ey28e, ey28b, ey28c, ey28g⟩ := gI_ok rfl ey28
          obtain ⟨x29, ex29, h⟩ := bind_ok h
          obtain ⟨ex29a, ex29⟩ := sadd_ok ex29
          obtain ⟨x30, ex30, h⟩ := bind_ok h
          obtain ⟨ex30a, ex30b, ex30c, ex30q⟩ := app1_ok tv ex30
          have ex30b := ex30b 18 (by decide)
          simp [lv, tv] at ex30c
          obtain ⟨x31, ex31, h⟩ := bindT h
          simp [g0, g1, g5, g6, g7, g9, g10, ex26, ex27, ey28a, ey28b, ey28c, tv, ex29, abin_sadd ex29a, ex30a, ex30b, ex30c, ex31]
          refine ih (x30, x31) _ ?_ h
          exact ⟨_, _, by simp [hw], rfl, by simp [g0, g1, g5, g6, g7, g9, g10, ex26, ex27, ey28a, ey28b, ey28c, tv, ex29, abin_sadd ex29a, ex30a, ex30b, ex30c, ex31]⟩
    · rintro k n v8 σ ⟨ts, w, hw, rfl, g0, g1, g5, g6, g7, g8, -⟩ h ih ex
      clear hL1
      rw [f63_L1] at h
      obtain ⟨x9, ex9, h⟩ := bindT h
      obtain ⟨x10, ex10, h⟩ := bindT h
      cases x10
      case false =>
       simp [g0, g1, g5, g6, g7, g8, ex9, ex10]
       refine ex v8 _ ?_ h
       exact ⟨_, _, by simp [hw], rfl, by simp [g0, g1, g5, g6, g7, g8, ex9, ex10]⟩
      obtain ⟨x11, ex11, h⟩ := bindT h
      obtain ⟨x12, ex12, h⟩ := bind_ok h
      have ex12 := fun {k j : IntKind} => sub2_ok (P := Try.prog) (t := 9) Try.underlying9 ex12 (k := k) (j := j)
      obtain ⟨x13, ex13, h⟩ := bind_ok h
      have ex13p := inj_ok ex13
      have ex13 : decide (bs x12 = bs x7) = x13 := (decide_eq_decide.2 bs_eq).trans (inj_ok ex13)
      cases x13
      case true =>
       simp [g0, g1, g5, g6, g7, g8, ex9, ex10, ex11, ex12, shape9, pqSlice, ex13, ex13p, abin_seql, abin_sneq]
       refine ex v8 _ ?_ h
       exact ⟨_, _, by simp [hw], rfl, by simp [g0, g1, g5, g6, g7, g8, ex9, ex10, ex11, ex12, shape9, pqSlice, ex13, ex13p, abin_seql, abin_sneq]⟩
      simp [g0, g1, g5, g6, g7, g8, ex9, ex10, ex11, ex12, shape9, pqSlice, ex13, ex13p, abin_seql, abin_sneq]
      refine ih x11 _ ?_ h
      exact ⟨_, _, by simp [hw], rfl, by simp [g0, g1, g5, g6, g7, g8, ex9, ex10, ex11, ex12, shape9, pqSlice, ex13, ex13p, abin_seql, abin_sneq]⟩
def f60_L0 (F : Nat) (p0 : List UInt8) (K : Int → Option (Int)) : Nat → Int × Int → Option (Int)
  | 0, _ => none
  | n + 1, (v1, v2) => (some ((p0.length : Int))).bind fun x3 =>
    (some (decide (v2 ≤ x3))).bind fun x4 =>
    (match x4 with
    | true => ((f63S F F p0 v2).bind fun (c5, l6) =>
    (some ((l6.length : Int))).bind fun x8 =>
    (some (IntKind.i64.wrap (v1 + x8))).bind fun x9 =>
    (some (IntKind.i64.wrap (v2 + 1))).bind fun x10 =>
    f60_L0 F p0 K n (x9, x10))
    | false => (K v1))
def f60S (F : Nat) (p0 : List UInt8) : Option (Int) :=
  f60_L0 F p0 (fun v11 =>
    some v11) F (0, 0)
theorem f60_is {p0 : List UInt8} {hp : List (Option (List PV))} {F : Nat} {r : (Int)}  (h : f60S F p0 = some r) :
    E Try.prog Y0 60 [.v (.string (bs p0))] hp = some (iv r, hp, none) := by
  rw [E_bodyN 1 body60 rfl (by decide) rfl]
  simp only [Try.f60, Option.get_some]
  unfold f60S at h
  simp
  have hL0 := h; clear h
  refine loopS (S := f60_L0 F p0) (fun (v1, v2) σ => ∃ (ts : Tr PV) (w : Option Nat), wok hp.length w ∧ σ = ⟨[], ts, hp, w⟩ ∧ ts.get 0 = some (.v (.string (bs p0))) ∧ ts.get 3 = some (iv v1) ∧ ts.get 4 = some (iv v2) ∧ True) (fun v11 σ => ∃ (ts : Tr PV) (w : Option Nat), wok hp.length w ∧ σ = ⟨[], ts, hp, w⟩ ∧ ts.get 3 = some (iv v11) ∧ True) (fun _ => rfl) hL0 ?_ ?_ ?_
  · exact ⟨_, _, by simp, rfl, by simp⟩
  · rintro v11 σ ⟨ts, w, hw, rfl, g3, -⟩ h
    clear hL0
    try dsimp only at h
    obtain rfl := inj_ok h
    simp [g3, hw]
  · rintro k n ⟨v1, v2⟩ σ ⟨ts, w, hw, rfl, g0, g3, g4, -⟩ h ih ex
    clear hL0
    rw [f60_L0] at h
    obtain ⟨x3, ex3, h⟩ := bindT h
    obtain ⟨x4, ex4, h⟩ := bindT h
    cases x4
    case false =>
     simp [g0, g3, g4, ex3, ex4]
     refine ex v1 _ ?_ h
     exact ⟨_, _, by simp [hw], rfl, by simp [g0, g3, g4, ex3, ex4]⟩
    obtain ⟨⟨c5, l6⟩, e7, h⟩ := bind_ok h
    try dsimp only at h
    have e7 : ∀ hp, E Try.prog Y0 63 [.v (.string (bs p0)), iv v2] hp = some (.l (vlOf c5) c5 l6.length (l6.map tv), hp, none) := fun hp => f63_is  e7
    cases c5 with
    | full =>
      obtain ⟨x8, ex8, h⟩ := bindT h
      obtain ⟨x9, ex9, h⟩ := bindT h
      obtain ⟨x10, ex10, h⟩ := bindT h
      simp [g0, g3, g4, ex3, ex4, e7, ex8, ex9, ex10]
      refine ih (x9, x10) _ ?_ h
      exact ⟨_, _, by simp [hw], rfl, by simp [g0, g3, g4, ex3, ex4, e7, ex8, ex9, ex10]⟩
    | nz =>
      obtain ⟨x8, ex8, h⟩ := bindT h
      obtain ⟨x9, ex9, h⟩ := bindT h
      obtain ⟨x10, ex10, h⟩ := bindT h
      simp [g0, g3, g4, ex3, ex4, e7, ex8, ex9, ex10]
      refine ih (x9, x10) _ ?_ h
      exact ⟨_, _, by simp [hw], rfl, by simp [g0, g3, g4, ex3, ex4, e7, ex8, ex9, ex10]⟩
    | any =>
      obtain ⟨x8, ex8, h⟩ := bindT h
      obtain ⟨x9, ex9, h⟩ := bindT h
      obtain ⟨x10, ex10, h⟩ := bindT h
      simp [g0, g3, g4, ex3, ex4, e7, ex8, ex9, ex10]
      refine ih (x9, x10) _ ?_ h
      exact ⟨_, _, by simp [hw], rfl, by simp [g0, g3, g4, ex3, ex4, e7, ex8, ex9, ex10]⟩
def f30S (F : Nat) (p0 : List UInt8) : Option (Int × Int) :=
  (f26S F p0).bind fun x1 =>
  (some (decide (x1 = 0))).bind fun x3 =>
  (match x3 with
  | true => ((f60S F p0).bind fun x4 =>
  some (x4, 0))
  | false => (some (0, x1)))
theorem f30_is {p0 : List UInt8} {hp : List (Option (List PV))} {F : Nat} {r : (Int × Int)}  (h : f30S F p0 = some r) :
    E Try.prog Y0 30 [.v (.string (bs p0))] hp = some (.t [iv r.1, iv r.2], hp, none) := by
  rw [E_bodyN 1 body30 rfl (by decide) rfl]
  simp only [Try.f30, Option.get_some]
  unfold f30S at h
  obtain ⟨x1, e2, h⟩ := bind_ok h
  have e2 : ∀ hp, E Try.prog Y0 26 [.v (.string (bs p0))] hp = some (iv x1, hp, none) := fun hp => f26_is  e2
  obtain ⟨x3, ex3, h⟩ := bindT h
  cases x3
  case false =>
   obtain rfl := inj_ok h
   simp [e2, ex3]
  obtain ⟨x4, e5, h⟩ := bind_ok h
  have e5 : ∀ hp, E Try.prog Y0 60 [.v (.string (bs p0))] hp = some (iv x4, hp, none) := fun hp => f60_is  e5
  obtain rfl := inj_ok h
  simp [e2, ex3, e5]
def f32S (F : Nat) (p0 : List UInt8) (p1 : Int) : Option ((Ck × List (List UInt8)) × Int) :=
  (f26S F p0).bind fun x1 =>
  (some (decide (x1 = 0))).bind fun x3 =>
  (match x3 with
  | true => ((some ((p0.length : Int))).bind fun x4 =>
  (f62S F p1 0 x4).bind fun b5 =>
  (match b5 with
  | true => ((f63S F F p0 p1).bind fun (c7, l8) =>
  some ((c7, l8), 0))
  | false => (some ((.nz, []), 1))))
  | false => (some ((.nz, []), x1)))
theorem f32_is {p0 : List UInt8} {p1 : Int} {hp : List (Option (List PV))} {F : Nat} {r : ((Ck × List (List UInt8)) × Int)}  (h : f32S F p0 p1 = some r) :
    E Try.prog Y0 32 [.v (.string (bs p0)), iv p1] hp = some (.t [.l .fz r.1.1 r.1.2.length (r.1.2.map tv), iv r.2], hp, none) := by
  rw [E_bodyN 2 body32 rfl (by decide) rfl]
  simp only [Try.f32, Option.get_some]
  unfold f32S at h
  obtain ⟨x1, e2, h⟩ := bind_ok h
  have e2 : ∀ hp, E Try.prog Y0 26 [.v (.string (bs p0))] hp = some (iv x1, hp, none) := fun hp => f26_is  e2
  obtain ⟨x3, ex3, h⟩ := bindT h
  cases x3
  case false =>
   obtain rfl := inj_ok h
   simp [e2, ex3]
  obtain ⟨x4, ex4, h⟩ := bindT h
  obtain ⟨b5, e6, h⟩ := bind_ok h
  have e6 : ∀ hp, E Try.prog Y0 62 [iv p1, iv 0, iv x4] hp = some (.v (.bool b5), hp, none) := fun hp => f62_is  e6
  cases b5
  case false =>
   obtain rfl := inj_ok h
   simp [e2, ex3, ex4, e6]
  obtain ⟨⟨c7, l8⟩, e9, h⟩ := bind_ok h
  try dsimp only at h
  have e9 : ∀ hp, E Try.prog Y0 63 [.v (.string (bs p0)), iv p1] hp = some (.l (vlOf c7) c7 l8.length (l8.map tv), hp, none) := fun hp => f63_is  e9
  cases c7 with
  | full =>
    obtain rfl := inj_ok h
    simp [e2, ex3, ex4, e6, e9]
  | nz =>
    obtain rfl := inj_ok h
    simp [e2, ex3, ex4, e6, e9]
  | any =>
    obtain rfl := inj_ok h
    simp [e2, ex3, ex4, e6, e9]
def f29_L0 (F : Nat) (p0 : List UInt8) (K : Int → Option (Int × Int)) : Nat → Int × Mp Int Int × Nat × Nat → Option (Int × Int)
  | 0, _ => none
  | n + 1, (v3, m4, k5, v6) => (some (Nat.ble (v6 + 1) p0.length)).bind fun x7 =>
    (match x7 with
    | true => ((gA p0 v6).bind fun x8 =>
    (some (mulI .i64 2 v3)).bind fun x9 =>
    (some (mGetD 0 (x8 : Int) m4)).bind fun x11 =>
    (some (IntKind.i64.wrap (x9 - x11))).bind fun x12 =>
    (some (mSet k5 (x8 : Int) v3 m4)).bind fun x13 =>
    (some (mClk k5 (x8 : Int) m4)).bind fun x14 =>
    f29_L0 F p0 K n (x12, x13, x14, v6 + 1))
    | false => (K v3))
def f29S (F : Nat) (p0 : List UInt8) : Option (Int × Int) :=
  (some (checkW p0)).bind fun x1 =>
  (some (decide (x1 = 0))).bind fun x2 =>
  (match x2 with
  | true => (f29_L0 F p0 (fun v16 =>
    some (v16, 0)) F (1, [], 0, 0))
  | false => (some (0, x1)))
theorem f29_is {p0 : List UInt8} {hp : List (Option (List PV))} {F : Nat} {r : (Int × Int)}  (h : f29S F p0 = some r) :
    E Try.prog Y0 29 [.v (.string (bs p0))] hp = some (.t [iv r.1, iv r.2], hp, none) := by
  rw [E_bodyN 1 body29 rfl (by decide) rfl]
  simp only [Try.f29, Option.get_some]
  unfold f29S at h
  obtain ⟨x1, ex1, h⟩ := bind_ok h
  have ex1 : ∀ hp, E Try.prog Y0 25 [.v (.string (bs p0))] hp = some (iv x1, hp, none) := fun hp => f25_is ex1
  obtain ⟨x2, ex2, h⟩ := bindT h
  cases x2
  case false =>
   obtain rfl := inj_ok h
   simp [ex1, ex2]
  simp [ex1, ex2, mE_nil]
  have hL0 := h; clear h
  refine loopS (S := f29_L0 F p0) (fun (v3, m4, k5, v6) σ => ∃ (ts : Tr PV) (w : Option Nat), wok hp.length w ∧ σ = ⟨[], ts, hp, w⟩ ∧ ts.get 5 = some (iv v3) ∧ ts.get 6 = some (.m .own (mE (Value.int .i32) (Value.int .i64) m4) k5) ∧ ts.get 17 = some (.it (bs p0) v6) ∧ True) (fun v16 σ => ∃ (ts : Tr PV) (w : Option Nat), wok hp.length w ∧ σ = ⟨[], ts, hp, w⟩ ∧ ts.get 5 = some (iv v16) ∧ True) (fun _ => rfl) hL0 ?_ ?_ ?_
  · exact ⟨_, _, by simp, rfl, by simp [ex1, ex2, mE_nil]⟩
  · rintro v16 σ ⟨ts, w, hw, rfl, g5, -⟩ h
    clear hL0
    try dsimp only at h
    obtain rfl := inj_ok h
    simp [g5, hw]
  · rintro k n ⟨v3, m4, k5, v6⟩ σ ⟨ts, w, hw, rfl, g5, g6, g17, -⟩ h ih ex
    clear hL0
    rw [f29_L0] at h
    obtain ⟨x7, ex7, h⟩ := bindT h
    cases x7
    case false =>
     simp [g5, g6, g17, ex7]
     refine ex v3 _ ?_ h
     exact ⟨_, _, by simp [hw], rfl, by simp [g5, g6, g17, ex7]⟩
    obtain ⟨x8, ex8, h⟩ := bind_ok h
    have ex8 := gA_ok ex8
    obtain ⟨x9, ex9, h⟩ := bindT h
    obtain ⟨x11, ex11, h⟩ := bindT h
    have q10 : alook Try.prog 78 (mE (Value.int .i32) (Value.int .i64) m4) (.int .i32 (x8 : Int)) false = some (.int .i64 x11) := (look_m (kf := (Value.int .i32)) (vf := (Value.int .i64)) (l := m4) (k := (x8 : Int)) (d := 0) mty78Count1 kty21Count1 (by kernel_rfl) (fun _ => rfl) (ok := false)).trans (by rw [ex11]; rfl)
    obtain ⟨x12, ex12, h⟩ := bindT h
    obtain ⟨x13, ex13, h⟩ := bindT h
    obtain ⟨x14, ex14, h⟩ := bindT h
    have q15 : aupd Try.prog 78 (mE (Value.int .i32) (Value.int .i64) m4) k5 (.int .i32 (x8 : Int)) (.int .i64 v3) = some ((mE (Value.int .i32) (Value.int .i64) x13), x14) := (upd_m (kf := (Value.int .i32)) (vf := (Value.int .i64)) (l := m4) (k := (x8 : Int)) (v := v3) mty78Count1 kty21Count1).trans (by rw [ex13, ex14])
    simp [g5, g6, g17, ex7, ex8, ex9, mty78Count1, Try.underlying78, mE_nil, shm78Count1, ex11, q10, ex12, ex13, ex14, q15]
    refine ih (x12, x13, x14, v6 + 1) _ ?_ h
    exact ⟨_, _, by simp [hw], rfl, by simp [g5, g6, g17, ex7, ex8, ex9, mty78Count1, Try.underlying78, mE_nil, shm78Count1, ex11, q10, ex12, ex13, ex14, q15]⟩
def f33_L0 (F : Nat) (p0 : Int) (p1 : Int) (K : List Int → Option (Int × Int)) : Nat → List Int × Int → Option (Int × Int)
  | 0, _ => none
  | n + 1, (v5, v6) => (some (decide (v6 < p1))).bind fun x7 =>
    (match x7 with
    | true => ((remO v6 p0).bind fun x8 =>
    (some (IntKind.i64.wrap (97 + x8))).bind fun x9 =>
    (some (IntKind.u8.wrap x9)).bind fun x10 =>
    (app1 v5 x10).bind fun x11 =>
    (some (IntKind.i64.wrap (v6 + 1))).bind fun x12 =>
    f33_L0 F p0 p1 K n (x11, x12))
    | false => (K v5))
def f33S (F : Nat) (p0 : Int) (p1 : Int) : Option (Int × Int) :=
  (some (decide (p0 < 1))).bind fun x1 =>
  (match x1 with
  | true => (some (0, 1))
  | false => ((some (decide (6 < p0))).bind fun x2 =>
  (match x2 with
  | true => (some (0, 1))
  | false => ((some (decide (p1 < 0))).bind fun x3 =>
  (match x3 with
  | true => (some (0, 1))
  | false => ((some (decide (10 < p1))).bind fun x4 =>
  (match x4 with
  | true => (some (0, 1))
  | false => (f33_L0 F p0 p1 (fun v13 =>
    (some (bytesN v13)).bind fun x14 =>
    (f29S F x14).bind fun (x15, x16) =>
    some (x15, x16)) F ([], 0)))))))))
theorem f33_is {p0 : Int} {p1 : Int} {hp : List (Option (List PV))} {F : Nat} {r : (Int × Int)}  (h : f33S F p0 p1 = some r) :
    E Try.prog Y0 33 [iv p0, iv p1] hp = some (.t [iv r.1, iv r.2], hp, none) := by
  rw [E_bodyN 2 body33 rfl (by decide) rfl]
  simp only [Try.f33, Option.get_some]
  unfold f33S at h
  obtain ⟨x1, ex1, h⟩ := bindT h
  cases x1
  case true =>
   obtain rfl := inj_ok h
   simp [ex1]
  obtain ⟨x2, ex2, h⟩ := bindT h
  cases x2
  case true =>
   obtain rfl := inj_ok h
   simp [ex1, ex2]
  obtain ⟨x3, ex3, h⟩ := bindT h
  cases x3
  case true =>
   obtain rfl := inj_ok h
   simp [ex1, ex2, ex3]
  obtain ⟨x4, ex4, h⟩ := bindT h
  cases x4
  case true =>
   obtain rfl := inj_ok h
   simp [ex1, ex2, ex3, ex4]
  simp [ex1, ex2, ex3, ex4]
  have hL0 := h; clear h
  refine loopS (S := f33_L0 F p0 p1) (fun (v5, v6) σ => ∃ (ts : Tr PV) (w : Option Nat), wok hp.length w ∧ σ = ⟨[], ts, hp, w⟩ ∧ ts.get 0 = some (iv p0) ∧ ts.get 6 = some (.l .own .nz v5.length (v5.map (kv .u8))) ∧ ts.get 22 = some (iv p1) ∧ ts.get 23 = some (iv v6) ∧ True) (fun v13 σ => ∃ (ts : Tr PV) (w : Option Nat), wok hp.length w ∧ σ = ⟨[], ts, hp, w⟩ ∧ ts.get 6 = some (.l .own .nz v13.length (v13.map (kv .u8))) ∧ True) (fun _ => rfl) hL0 ?_ ?_ ?_
  · exact ⟨_, _, by simp, rfl, by simp [ex1, ex2, ex3, ex4]⟩
  · rintro v13 σ ⟨ts, w, hw, rfl, g6, -⟩ h
    clear hL0
    try dsimp only at h
    obtain ⟨x14, ex14, h⟩ := bind_ok h
    have ex14 := inj_ok ex14
    have ex14 := fun (x : Operand) (σ : St) (dr : Dr) hx hm => pbytes_l (dr := dr) (hm := hm) (P := Try.prog) (Y := Y0) (f := 33) (src := 75) (dst := 9) (x := x) (σ := σ) (k := .rf (.tmp 6)) (c := .nz) (l := v13) Try.underlying75 Try.underlying5 Try.underlying9 hx ex14 convn_75_9Count1
    obtain ⟨⟨x15, x16⟩, e17, h⟩ := bind_ok h
    try dsimp only at h
    have e17 : ∀ hp, E Try.prog Y0 29 [.v (.string (bs x14))] hp = some (.t [iv x15, iv x16], hp, none) := fun hp => f29_is  e17
    obtain rfl := inj_ok h
    simp [g6, e17, hw]
    rw [ex14 _ _ _ (by simp) (by kernel_rfl)]
    simp [g6, e17, hw]
  · rintro k n ⟨v5, v6⟩ σ ⟨ts, w, hw, rfl, g0, g6, g22, g23, -⟩ h ih ex
    clear hL0
    rw [f33_L0] at h
    obtain ⟨x7, ex7, h⟩ := bindT h
    cases x7
    case false =>
     simp [g0, g6, g22, g23, ex7]
     refine ex v5 _ ?_ h
     exact ⟨_, _, by simp [hw], rfl, by simp [g0, g6, g22, g23, ex7]⟩
    obtain ⟨x8, ex8, h⟩ := bind_ok h
    obtain ⟨ex8a, ex8⟩ := remO_ok ex8
    obtain ⟨x9, ex9, h⟩ := bindT h
    obtain ⟨x10, ex10, h⟩ := bindT h
    obtain ⟨x11, ex11, h⟩ := bind_ok h
    obtain ⟨ex11a, ex11b, ex11c, ex11q⟩ := app1_ok (kv .u8) ex11
    have ex11b := ex11b 3 (by decide)
    obtain ⟨x12, ex12, h⟩ := bindT h
    simp [g0, g6, g22, g23, ex7, ex8, ex8a, ex9, conv_3_5Count1, ex10, ex11a, ex11b, ex11c, ex12]
    refine ih (x11, x12) _ ?_ h
    exact ⟨_, _, by simp [hw], rfl, by simp [g0, g6, g22, g23, ex7, ex8, ex8a, ex9, conv_3_5Count1, ex10, ex11a, ex11b, ex11c, ex12]⟩
def f34_L0 (F : Nat) (p0 : Int) (p1 : Int) (K : List UInt8 → Option (Int × Int)) : Nat → List UInt8 × Int → Option (Int × Int)
  | 0, _ => none
  | n + 1, (v5, v6) => (some (decide (v6 < p1))).bind fun x7 =>
    (match x7 with
    | true => ((remO v6 p0).bind fun x8 =>
    (some (IntKind.i64.wrap (97 + x8))).bind fun x9 =>
    (some (IntKind.u8.wrap x9)).bind fun x10 =>
    (some (bytesN [x10])).bind fun x11 =>
    (sadd v5 x11).bind fun x12 =>
    (some (IntKind.i64.wrap (v6 + 1))).bind fun x13 =>
    f34_L0 F p0 p1 K n (x12, x13))
    | false => (K v5))
def f34S (F : Nat) (p0 : Int) (p1 : Int) : Option (Int × Int) :=
  (f62S F p0 1 6).bind fun b1 =>
  (match b1 with
  | true => ((f62S F p1 0 10).bind fun b3 =>
  (match b3 with
  | true => (f34_L0 F p0 p1 (fun v14 =>
    (f60S F v14).bind fun x15 =>
    some (x15, 0)) F ([], 0))
  | false => (some (0, 1))))
  | false => (some (0, 1)))
theorem f34_is {p0 : Int} {p1 : Int} {hp : List (Option (List PV))} {F : Nat} {r : (Int × Int)}  (h : f34S F p0 p1 = some r) :
    E Try.prog Y0 34 [iv p0, iv p1] hp = some (.t [iv r.1, iv r.2], hp, none) := by
  rw [E_bodyN 2 body34 rfl (by decide) rfl]
  simp only [Try.f34, Option.get_some]
  unfold f34S at h
  obtain ⟨b1, e2, h⟩ := bind_ok h
  have e2 : ∀ hp, E Try.prog Y0 62 [iv p0, iv 1, iv 6] hp = some (.v (.bool b1), hp, none) := fun hp => f62_is  e2
  cases b1
  case false =>
   obtain rfl := inj_ok h
   simp [e2]
  obtain ⟨b3, e4, h⟩ := bind_ok h
  have e4 : ∀ hp, E Try.prog Y0 62 [iv p1, iv 0, iv 10] hp = some (.v (.bool b3), hp, none) := fun hp => f62_is  e4
  cases b3
  case false =>
   obtain rfl := inj_ok h
   simp [e2, e4]
  simp [e2, e4]
  have hL0 := h; clear h
  refine loopS (S := f34_L0 F p0 p1) (fun (v5, v6) σ => ∃ (ts : Tr PV) (w : Option Nat), wok hp.length w ∧ σ = ⟨[], ts, hp, w⟩ ∧ ts.get 0 = some (iv p0) ∧ ts.get 1 = some (iv p1) ∧ ts.get 6 = some (.v (.string (bs v5))) ∧ ts.get 7 = some (iv v6) ∧ True) (fun v14 σ => ∃ (ts : Tr PV) (w : Option Nat), wok hp.length w ∧ σ = ⟨[], ts, hp, w⟩ ∧ ts.get 6 = some (.v (.string (bs v14))) ∧ True) (fun _ => rfl) hL0 ?_ ?_ ?_
  · exact ⟨_, _, by simp, rfl, by simp [e2, e4]⟩
  · rintro v14 σ ⟨ts, w, hw, rfl, g6, -⟩ h
    clear hL0
    try dsimp only at h
    obtain ⟨x15, e16, h⟩ := bind_ok h
    have e16 : ∀ hp, E Try.prog Y0 60 [.v (.string (bs v14))] hp = some (iv x15, hp, none) := fun hp => f60_is  e16
    obtain rfl := inj_ok h
    simp [g6, e16, hw]
  · rintro k n ⟨v5, v6⟩ σ ⟨ts, w, hw, rfl, g0, g1, g6, g7, -⟩ h ih ex
    clear hL0
    rw [f34_L0] at h
    obtain ⟨x7, ex7, h⟩ := bindT h
    cases x7
    case false =>
     simp [g0, g1, g6, g7, ex7]
     refine ex v5 _ ?_ h
     exact ⟨_, _, by simp [hw], rfl, by simp [g0, g1, g6, g7, ex7]⟩
    obtain ⟨x8, ex8, h⟩ := bind_ok h
    obtain ⟨ex8a, ex8⟩ := remO_ok ex8
    obtain ⟨x9, ex9, h⟩ := bindT h
    obtain ⟨x10, ex10, h⟩ := bindT h
    obtain ⟨x11, ex11, h⟩ := bind_ok h
    have ex11 := inj_ok ex11
    have ex11 := fun (x : Operand) (σ : St) (dr : Dr) hx hm => pbytes_l (dr := dr) (hm := hm) (P := Try.prog) (Y := Y0) (f := 34) (src := 75) (dst := 9) (x := x) (σ := σ) (k := .fz) (c := .full) (l := [x10]) Try.underlying75 Try.underlying5 Try.underlying9 hx ex11 convn_75_9Count1
    obtain ⟨x12, ex12, h⟩ := bind_ok h
    obtain ⟨ex12a, ex12⟩ := sadd_ok ex12
    obtain ⟨x13, ex13, h⟩ := bindT h
    simp [g0, g1, g6, g7, ex7, ex8, ex8a, ex9, conv_3_5Count1, ex10, ex12, abin_sadd ex12a, ex13]
    rw [ex11 _ _ _ (by simp) (by kernel_rfl)]
    simp [g0, g1, g6, g7, ex7, ex8, ex8a, ex9, conv_3_5Count1, ex10, ex12, abin_sadd ex12a, ex13]
    refine ih (x12, x13) _ ?_ h
    exact ⟨_, _, by simp [hw], rfl, by simp [g0, g1, g6, g7, ex7, ex8, ex8a, ex9, conv_3_5Count1, ex10, ex12, abin_sadd ex12a, ex13]⟩
end Go.Proofs.Ytmnmfmghmenkkaa
