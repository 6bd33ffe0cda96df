/-
  law 10
  Printed by wip/tools/walk.py. Conditions: none; definitions and lemmas.
-/
import Derived.Test.YtmnmfmghmenkkaaLaw4
import Derived.Test.YtmnmfmghmenkkaaParts50
import Derived.Test.YtmnmfmghmenkkaaWays1
set_option linter.unusedSimpArgs false
set_option linter.unusedVariables false
namespace Go.Proofs.Ytmnmfmghmenkkaa
open Go.Abs Go.Pur
set_option maxRecDepth 100000
set_option maxHeartbeats 2000000
attribute [local simp] EK_region EK_seq EK_cond EK_block EK_blk EK_loop EK_exit EK.ex EK_ret EK_skip EK_nil EO_cons EO_nil EO1_true EO1_false EO2_some EO3_some EB_true EB_false pwanted poper pq pev Go.Pur.look pputT isAssign drOf pinit Tr.get_set lget pvOf_int pvOf_bool pvOf_str pvOf_nil rdv_ak notOwn_ak prt_ak loose_ak rdv_own rdv_fz rdv_bor rdv_rf rdv_pt rdv_v rdv_a rdv_t rdv_r rdv_p rdv_s rdv_f pbin plen pload ppart idxAddr pcond Nat.blt goInt_eq prun_not prun_neg mayLoad ER_ret ER_normal presL presOne moved stor okDrop settle_v settle_l settle_a settle_p settle_f noref_v noref_fz noref_a norefs_nil norefs_cons pclose given dropB Y0_keep pevParts stors pvCells pvCells.go vcells pfill reps zipParts ownFz pcells cellOK one psrcLen srcFits psrc takeP pgrow take getPl setPl mapL plEq elder isList lowP pevs frzs addP partAt ble_lim24 killV_v killV_a killV_t killV_f killV_i killV_p killV_s killV_un killV_dead killV_lfz killV_lbor killV_lown killV_rfz killV_rbor killV_lak killV_rak frzV_v frzV_a frzV_t frzV_f frzV_i frzV_p frzV_s frzV_un frzV_dead frzV_lfz frzV_lbor frzV_lown frzV_rfz frzV_rbor frzV_lak frzV_rak killCell_v killCell_a killCell_t killCell_f killCell_i killCell_p killCell_s killCell_un killCell_dead killCell_lfz killCell_lbor killCell_lown killCell_rfz killCell_rbor killCell_lak killCell_rak killV_lrf killV_lpt killV_rpt frzV_lrf frzV_lpt frzV_rpt killCell_lrft killCell_lptt killCell_rptt killCell_lrfc killCell_lptc killCell_rptc argv_lak argv_rak argv_v argv_a argv_p argv_f argv_fz argv_bor argv_rf argv_pt argv_rc argv_own mayTurn_none argvs pcallOp firm refsTo_v refsTo_l refsTo_p refsTo_s refsTo_a refsTo_dead refsTo_nil refsTo_cons isOwn_lak ownFz_lak evSafe pskip plain pnewBlk fldAddr isOwn pput notOwn_fz notOwn_bor notOwn_own notOwn_rf notOwn_pt prt_fz prt_bor prt_own prt_rf prt_pt Go.Pur.freeze presM settles abin_and abin_or abin_andNot abin_mul abin_shr abin_shl abin_add abin_sub abin_eql abin_neq abin_lss abin_leq abin_gtr abin_geq hows pcallIn Y0_how Y0_part howOf partOf rdv_mown rdv_mfz rdv_mbor rdv_mrf killV_mown killV_mfz killV_mbor killV_mrf frzV_mown frzV_mfz frzV_mbor frzV_mrf killCell_mown killCell_mfz killCell_mbor killCell_mrf argv_mfz argv_mbor argv_mrf settle_m kls_v kls_l kls_a kls_t kls_r kls_p kls_s kls_f kls_i kls_it kls_un kls_dead kls_mown kls_mrf kls_mbor kls_mfz fzOf takable mapHere mapOwn mapTo flat toPlain toPlain.go ofFlat ofPair mapEs plook lookRes Y0_mv mvOf mvBlk premv Y0_fzm fzmOf poperX pconv keep10 sz3 by3 row3 zero3 sz4 by4 row4 zero4 sz5 by5 row5 zero5 sz9 by9 row9 shape9 zero9 sz21 by21 row21 zero21 sz22 by22 row22 zero22 sz24 by24 row24 zero24 sz29 by29 row29 shape29 zero29 sz36 by36 row36 shape36 zero36 sz52 by52 row52 shape52 zero52 parts52 sz54 by54 row54 zero54 parts54 field54_0 field54_1 sz58 by58 row58 zero58 mt58 az3 sz63 by63 row63 zero63 sz66 by66 row66 shape66 zero66 parts66 sz67 by67 row67 shape67 zero67 sz75 by75 row75 shape75 zero75 sz76 by76 row76 shape76 zero76 sz78 by78 row78 zero78 mt78 sz79 by79 row79 shape79 zero79 sz92 by92 row92 zero92 sz94 by94 row94 zero94 parts94 field94_0 field94_1 sz99 by99 row99 shape99 zero99 sz102 by102 row102 zero102 mt102 az4 sz103 by103 row103 zero103 mt103 sz106 by106 row106 zero106 parts106 field106_0 field106_1 sz108 by108 row108 zero108 parts108 field108_0 field108_1 sz109 by109 row109 shape109 zero109 sz110 by110 row110 zero110 mt110 sz112 by112 row112 zero112 sz115 by115 row115 zero115 sz116 by116 row116 zero116 sz119 by119 row119 zero119 sz127 by127 row127 zero127 sz129 by129 row129 zero129 sz130 by130 row130 zero130 sz134 by134 row134 zero134 bs_size gAt gAt0 sAt sAt0 optPlain rows_len noMaker_eq kindOf vlOf abin_rem abin_quo mayTurn_none lowOf_none Go.Pur.partAt rows_nil rows_cons ble_add ble_add0 ble_same toPlain toPlain.go intIn2_0 intIn2_1 ble12 ble22 tv lv max_int min_int pplains ak_true ak_false apartP beq_add beq_add0 beq_add1 argv_s wok_none wok_low_iff lowOf_wok
theorem conv_5_3Counted10 {z : Int} : prunP Try.prog (convert 5 3 (.int .u8 z)) = some (.int .i64 (IntKind.i64.wrap z)) := by kernel_rfl
theorem mty58Counted10 : mapTy Try.prog 58 = some (9, 3) := by kernel_rfl
theorem shm58Counted10 : shapeOf Try.prog 58 = none := by kernel_rfl
theorem kty9Counted10 : KeyT Try.prog 9 sV := key_str Try.underlying9
def f10_L1 (F : Nat) (x4 : List UInt8) (m5 : Mp (List UInt8) Int) (l31 : List (List UInt8)) (x38 : Int) (K : Int × Int × Int × Int × Int × Int × Int × Int × Int × Int × Int × Int → Option (Bool)) : Nat → Int × Int × Int × Int × Int × Int × Int × Int × Int × Int × Int × Int × Int → Option (Bool)
  | 0, _ => none
  | n + 1, (v39, v40, v41, v42, v43, v44, v45, v46, v47, v48, v49, v50, v51) => (some (decide (v40 < x38))).bind fun x52 =>
    (match x52 with
    | true => ((gI l31 v40).bind fun y53 =>
    (f20S F x4 y53).bind fun (x54, x55) =>
    (some (decide (x55 = 0))).bind fun x57 =>
    (match x57 with
    | true => ((some (mGetD 0 y53 m5)).bind fun x59 =>
    (some (decide (x54 = x59))).bind fun x60 =>
    (match x60 with
    | true => ((some (IntKind.i64.wrap (v39 + x54))).bind fun x61 =>
    (some (IntKind.i64.wrap (v40 + 1))).bind fun x62 =>
    f10_L1 F x4 m5 l31 x38 K n (x61, x62, v41, v42, v43, v44, v45, v46, v47, v48, v49, v50, v51))
    | false => (some false)))
    | false => (some false)))
    | false => (K (v39, v41, v42, v43, v44, v45, v46, v47, v48, v49, v50, v51)))
def f10_L0 (F : Nat) (x4 : List UInt8) (m5 : Mp (List UInt8) Int) (k6 : Nat) (x15 : Int) (K : Int × Int × Int × Int × Int × Int × Int × Int × Int × Int × Int → Option (Bool)) : Nat → Int × Int × Int × Int × Int × Int × Int × Int × Int × Int × Int × Int × Int → Option (Bool)
  | 0, _ => none
  | n + 1, (v16, v17, v18, v19, v20, v21, v22, v23, v24, v25, v26, v27, v28) => (some (decide (v17 < x15))).bind fun x29 =>
    (match x29 with
    | true => ((f31S F x4 v17).bind fun ((c30, l31), x32) =>
    (some (decide (x32 = 0))).bind fun x34 =>
    (match x34 with
    | true => ((f52O m5 k6 v17).bind fun x35 =>
    (f35S F l31 x35).bind fun b36 =>
    (match b36 with
    | true => ((some ((l31.length : Int))).bind fun x38 =>
    f10_L1 F x4 m5 l31 x38 (fun (v63, v64, v65, v66, v67, v68, v69, v70, v71, v72, v73, v74) =>
      (some (decide (v63 = v16))).bind fun x75 =>
      (match x75 with
      | true => ((some ((x4.length : Int))).bind fun x76 =>
      (some (IntKind.i64.wrap (x76 - v17))).bind fun x77 =>
      (some (mulI .i64 v16 x77)).bind fun x78 =>
      (some (IntKind.i64.wrap (v17 + 1))).bind fun x79 =>
      (quoO .i64 x78 x79).bind fun x80 =>
      f10_L0 F x4 m5 k6 x15 K n (x80, x79, v64, v65, v66, v67, v68, v69, v70, v71, v72, v73, v74))
      | false => (some false))) F (0, 0, v18, v19, v20, v21, v22, v23, v24, v25, v26, v27, v28))
    | false => (some false)))
    | false => (some false)))
    | false => (K (v18, v19, v20, v21, v22, v23, v24, v25, v26, v27, v28)))
def f10S (F : Nat) (p0a : Int) (p0b : Int) (p0c : Int) (p0d : Int) (p0e : Int) (p0f : Int) (p0g : Int) (p0h : Int) (p0i : Int) (p0j : Int) (p0k : Int) (p1 : Int) : Option (Bool) :=
  (some (IntKind.i64.wrap p1)).bind fun x1 =>
  (some (Int.tmod x1 6)).bind fun x2 =>
  (some (IntKind.i64.wrap (1 + x2))).bind fun x3 =>
  (f51O [p0a, p0b, p0c, p0d, p0e, p0f, p0g, p0h, p0i, p0j, p0k] 9 x3).bind fun x4 =>
  (f50S F x4).bind fun (m5, k6) =>
  (f29S F x4).bind fun (x8, x9) =>
  (some (decide (x9 = 0))).bind fun x11 =>
  (match x11 with
  | true => ((some ((m5.length : Int))).bind fun x12 =>
  (some (decide (x8 = x12))).bind fun x13 =>
  (match x13 with
  | true => ((some ((x4.length : Int))).bind fun x14 =>
  (some (IntKind.i64.wrap (x14 + 1))).bind fun x15 =>
  f10_L0 F x4 m5 k6 x15 (fun (v81, v82, v83, v84, v85, v86, v87, v88, v89, v90, v91) =>
    (some ((x4.length : Int))).bind fun x92 =>
    (some (IntKind.i64.wrap (x92 + 1))).bind fun x93 =>
    (f31S F x4 x93).bind fun ((c94, l95), x96) =>
    (some (decide (x96 = 1))).bind fun x98 =>
    (match x98 with
    | true => (some true)
    | false => (some false))) F (1, 0, p0a, p0b, p0c, p0d, p0e, p0f, p0g, p0h, p0i, p0j, p0k))
  | false => (some false)))
  | false => (some false))
theorem f10_is {p0a : Int} {p0b : Int} {p0c : Int} {p0d : Int} {p0e : Int} {p0f : Int} {p0g : Int} {p0h : Int} {p0i : Int} {p0j : Int} {p0k : Int} {p1 : Int} {hp : List (Option (List PV))} {F : Nat} {r : (Bool)}  (h : f10S F p0a p0b p0c p0d p0e p0f p0g p0h p0i p0j p0k p1 = some r) :
    E Try.prog Y0 10 [.a [kv .u8 p0a, kv .u8 p0b, kv .u8 p0c, kv .u8 p0d, kv .u8 p0e, kv .u8 p0f, kv .u8 p0g, kv .u8 p0h, kv .u8 p0i, kv .u8 p0j, kv .u8 p0k], kv .u8 p1] hp = some (.v (.bool r), hp, none) := by
  rw [E_bodyN 2 body10 rfl (by decide) rfl]
  simp only [Try.f10, Option.get_some]
  unfold f10S at h
  obtain ⟨x1, ex1, h⟩ := bindT h
  obtain ⟨x2, ex2, h⟩ := bindT h
  obtain ⟨x3, ex3, h⟩ := bindT h
  obtain ⟨x4, ex4, h⟩ := bind_ok h
  have ex4 : ∀ hp, E Try.prog Y0 51 [.a [kv .u8 p0a, kv .u8 p0b, kv .u8 p0c, kv .u8 p0d, kv .u8 p0e, kv .u8 p0f, kv .u8 p0g, kv .u8 p0h, kv .u8 p0i, kv .u8 p0j, kv .u8 p0k], iv 9, iv x3] hp = some (.v (.string (bs x4)), hp, none) := fun hp => f51_is ex4
  obtain ⟨⟨m5, k6⟩, e7, h⟩ := bind_ok h
  try dsimp only at h
  have e7 : ∀ hp, E Try.prog Y0 50 [.v (.string (bs x4))] hp = some (.m .own (mE sV (Value.int .i64) m5) k6, hp, none) := fun hp => f50_is  e7
  obtain ⟨⟨x8, x9⟩, e10, h⟩ := bind_ok h
  try dsimp only at h
  have e10 : ∀ hp, E Try.prog Y0 29 [.v (.string (bs x4))] hp = some (.t [iv x8, iv x9], hp, none) := fun hp => f29_is  e10
  obtain ⟨x11, ex11, h⟩ := bindT h
  cases x11
  case false =>
   obtain rfl := inj_ok h
   simp [conv_5_3Counted10, ex1, ex2, ex3, ex4, e7, e10, ex11]
  obtain ⟨x12, ex12, h⟩ := bindT h
  obtain ⟨x13, ex13, h⟩ := bindT h
  cases x13
  case false =>
   obtain rfl := inj_ok h
   simp [conv_5_3Counted10, ex1, ex2, ex3, ex4, e7, e10, ex11, mty58Counted10, Try.underlying58, mE_nil, shm58Counted10, mE_len, ex12, ex13]
  obtain ⟨x14, ex14, h⟩ := bindT h
  obtain ⟨x15, ex15, h⟩ := bindT h
  simp [conv_5_3Counted10, ex1, ex2, ex3, ex4, e7, e10, ex11, mty58Counted10, Try.underlying58, mE_nil, shm58Counted10, mE_len, ex12, ex13, ex14, ex15]
  have hL0 := h; clear h
  refine loopS (S := f10_L0 F x4 m5 k6 x15) (fun (v16, v17, v18, v19, v20, v21, v22, v23, v24, v25, v26, v27, v28) σ => ∃ (ts : Tr PV) (w : Option Nat), wok hp.length w ∧ σ = ⟨[], ts, hp ++ [some [kv .u8 v18, kv .u8 v19, kv .u8 v20, kv .u8 v21, kv .u8 v22, kv .u8 v23, kv .u8 v24, kv .u8 v25, kv .u8 v26, kv .u8 v27, kv .u8 v28]], w⟩ ∧ ts.get 5 = some (.v (.string (bs x4))) ∧ ts.get 6 = some (.m .own (mE sV (Value.int .i64) m5) k6) ∧ ts.get 9 = some (iv v16) ∧ ts.get 41 = some (iv x15) ∧ ts.get 42 = some (iv v17) ∧ True) (fun (v81, v82, v83, v84, v85, v86, v87, v88, v89, v90, v91) σ => ∃ (ts : Tr PV) (w : Option Nat), wok hp.length w ∧ σ = ⟨[], ts, hp ++ [some [kv .u8 v81, kv .u8 v82, kv .u8 v83, kv .u8 v84, kv .u8 v85, kv .u8 v86, kv .u8 v87, kv .u8 v88, kv .u8 v89, kv .u8 v90, kv .u8 v91]], w⟩ ∧ ts.get 5 = some (.v (.string (bs x4))) ∧ True) (fun _ => rfl) hL0 ?_ ?_ ?_
  · exact ⟨_, _, by simp, rfl, by simp [conv_5_3Counted10, ex1, ex2, ex3, ex4, e7, e10, ex11, mty58Counted10, Try.underlying58, mE_nil, shm58Counted10, mE_len, ex12, ex13, ex14, ex15]⟩
  · rintro ⟨v81, v82, v83, v84, v85, v86, v87, v88, v89, v90, v91⟩ σ ⟨ts, w, hw, rfl, g5, -⟩ h
    clear hL0
    try dsimp only at h
    obtain ⟨x92, ex92, h⟩ := bindT h
    obtain ⟨x93, ex93, h⟩ := bindT h
    obtain ⟨⟨⟨c94, l95⟩, x96⟩, e97, h⟩ := bind_ok h
    try dsimp only at h
    have e97 : ∀ hp, E Try.prog Y0 31 [.v (.string (bs x4)), iv x93] hp = some (.t [.l .fz c94 l95.length (l95.map tv), iv x96], hp, none) := fun hp => f31_is  e97
    obtain ⟨x98, ex98, h⟩ := bindT h
    cases x98
    case false =>
     obtain rfl := inj_ok h
     simp [g5, ex92, ex93, e97, ex98, hw]
    have q99 : ∀ hp, E Try.prog Y0 17 [] hp = some (.v (.bool true), hp, none) := fun hp => works_is
    obtain rfl := inj_ok h
    simp [g5, ex92, ex93, e97, ex98, q99, hw]
  · rintro k n ⟨v16, v17, v18, v19, v20, v21, v22, v23, v24, v25, v26, v27, v28⟩ σ ⟨ts, w, hw, rfl, g5, g6, g9, g41, g42, -⟩ h ih ex
    clear hL0
    rw [f10_L0] at h
    obtain ⟨x29, ex29, h⟩ := bindT h
    cases x29
    case false =>
     simp [g5, g6, g9, g41, g42, ex29]
     refine ex (v18, v19, v20, v21, v22, v23, v24, v25, v26, v27, v28) _ ?_ h
     exact ⟨_, _, by simp [hw], rfl, by simp [g5, g6, g9, g41, g42, ex29]⟩
    obtain ⟨⟨⟨c30, l31⟩, x32⟩, e33, h⟩ := bind_ok h
    try dsimp only at h
    have e33 : ∀ hp, E Try.prog Y0 31 [.v (.string (bs x4)), iv v17] hp = some (.t [.l .fz c30 l31.length (l31.map tv), iv x32], hp, none) := fun hp => f31_is  e33
    obtain ⟨x34, ex34, h⟩ := bindT h
    cases x34
    case false =>
     obtain rfl := inj_ok h
     simp [g5, g6, g9, g41, g42, ex29, e33, ex34, hw]
    obtain ⟨x35, ex35, h⟩ := bind_ok h
    have ex35 : ∀ hp, E Try.prog Y0 52 [.m .bor (mE sV (Value.int .i64) m5) k6, iv v17] hp = some (.l .fz .any x35.length (x35.map tv), hp, none) := fun hp => f52_is ex35
    obtain ⟨b36, e37, h⟩ := bind_ok h
    have e37 : ∀ hp, E Try.prog Y0 35 [.l .fz c30 l31.length (l31.map tv), .l .fz .any x35.length (x35.map tv)] hp = some (.v (.bool b36), hp, none) := fun hp => f35_is (a0 := false) (c0 := c30) (a1 := false) (c1 := .any) e37
    cases b36
    case false =>
     obtain rfl := inj_ok h
     simp [g5, g6, g9, g41, g42, ex29, e33, ex34, ex35, e37, hw]
    obtain ⟨x38, ex38, h⟩ := bindT h
    simp [g5, g6, g9, g41, g42, ex29, e33, ex34, ex35, e37, ex38]
    have hL1 := h; clear h
    refine loopS (S := f10_L1 F x4 m5 l31 x38) (fun (v39, v40, v41, v42, v43, v44, v45, v46, v47, v48, v49, v50, v51) σ => ∃ (ts : Tr PV) (w : Option Nat), wok hp.length w ∧ σ = ⟨[], ts, hp ++ [some [kv .u8 v41, kv .u8 v42, kv .u8 v43, kv .u8 v44, kv .u8 v45, kv .u8 v46, kv .u8 v47, kv .u8 v48, kv .u8 v49, kv .u8 v50, kv .u8 v51]], w⟩ ∧ ts.get 5 = some (.v (.string (bs x4))) ∧ ts.get 6 = some (.m .own (mE sV (Value.int .i64) m5) k6) ∧ ts.get 9 = some (iv v16) ∧ ts.get 10 = some (iv v17) ∧ ts.get 13 = some (iv v39) ∧ ts.get 41 = some (iv x15) ∧ ts.get 42 = some (iv v17) ∧ ts.get 61 = some (.l .fz c30 l31.length (l31.map tv)) ∧ ts.get 62 = some (iv x38) ∧ ts.get 63 = some (iv v40) ∧ True) (fun (v63, v64, v65, v66, v67, v68, v69, v70, v71, v72, v73, v74) σ => ∃ (ts : Tr PV) (w : Option Nat), wok hp.length w ∧ σ = ⟨[], ts, hp ++ [some [kv .u8 v64, kv .u8 v65, kv .u8 v66, kv .u8 v67, kv .u8 v68, kv .u8 v69, kv .u8 v70, kv .u8 v71, kv .u8 v72, kv .u8 v73, kv .u8 v74]], w⟩ ∧ ts.get 5 = some (.v (.string (bs x4))) ∧ ts.get 6 = some (.m .own (mE sV (Value.int .i64) m5) k6) ∧ ts.get 9 = some (iv v16) ∧ ts.get 10 = some (iv v17) ∧ ts.get 13 = some (iv v63) ∧ ts.get 41 = some (iv x15) ∧ ts.get 42 = some (iv v17) ∧ True) (fun _ => rfl) hL1 ?_ ?_ ?_
    · exact ⟨_, _, by simp [hw], rfl, by simp [g5, g6, g9, g41, g42, ex29, e33, ex34, ex35, e37, ex38]⟩
    · rintro ⟨v63, v64, v65, v66, v67, v68, v69, v70, v71, v72, v73, v74⟩ σ ⟨ts, w, hw, rfl, g5, g6, g9, g10, g13, g41, g42, -⟩ h
      clear hL1
      try dsimp only at h
      obtain ⟨x75, ex75, h⟩ := bindT h
      cases x75
      case false =>
       obtain rfl := inj_ok h
       simp [g5, g6, g9, g10, g13, g41, g42, ex75, hw]
      obtain ⟨x76, ex76, h⟩ := bindT h
      obtain ⟨x77, ex77, h⟩ := bindT h
      obtain ⟨x78, ex78, h⟩ := bindT h
      obtain ⟨x79, ex79, h⟩ := bindT h
      obtain ⟨x80, ex80, h⟩ := bind_ok h
      obtain ⟨ex80a, ex80⟩ := quoO_ok ex80
      simp [g5, g6, g9, g10, g13, g41, g42, ex75, ex76, ex77, ex78, ex79, ex80, ex80a]
      refine ih (x80, x79, v64, v65, v66, v67, v68, v69, v70, v71, v72, v73, v74) _ ?_ h
      exact ⟨_, _, by simp [hw], rfl, by simp [g5, g6, g9, g10, g13, g41, g42, ex75, ex76, ex77, ex78, ex79, ex80, ex80a]⟩
    · rintro k n ⟨v39, v40, v41, v42, v43, v44, v45, v46, v47, v48, v49, v50, v51⟩ σ ⟨ts, w, hw, rfl, g5, g6, g9, g10, g13, g41, g42, g61, g62, g63, -⟩ h ih ex
      clear hL1
      rw [f10_L1] at h
      obtain ⟨x52, ex52, h⟩ := bindT h
      cases x52
      case false =>
       simp [g5, g6, g9, g10, g13, g41, g42, g61, g62, g63, ex52]
       refine ex (v39, v41, v42, v43, v44, v45, v46, v47, v48, v49, v50, v51) _ ?_ h
       exact ⟨_, _, by simp [hw], rfl, by simp [g5, g6, g9, g10, g13, g41, g42, g61, g62, g63, ex52]⟩
      obtain ⟨y53, ey53, h⟩ := bind_ok h
      obtain ⟨ey53a, ey53e, ey53b, ey53c, ey53g⟩ := gI_ok rfl ey53
      obtain ⟨⟨x54, x55⟩, e56, h⟩ := bind_ok h
      try dsimp only at h
      have e56 : ∀ hp, E Try.prog Y0 20 [.v (.string (bs x4)), .v (.string (bs y53))] hp = some (.t [iv x54, iv x55], hp, none) := fun hp => f20_is  e56
      obtain ⟨x57, ex57, h⟩ := bindT h
      cases x57
      case false =>
       obtain rfl := inj_ok h
       simp [g5, g6, g9, g10, g13, g41, g42, g61, g62, g63, ex52, ey53a, ey53b, ey53c, tv, e56, ex57, hw]
      obtain ⟨x59, ex59, h⟩ := bindT h
      have q58 : alook Try.prog 58 (mE sV (Value.int .i64) m5) (.string (bs y53)) false = some (.int .i64 x59) := (look_m (kf := sV) (vf := (Value.int .i64)) (l := m5) (k := y53) (d := 0) mty58Counted10 kty9Counted10 (by kernel_rfl) (fun _ => rfl) (ok := false)).trans (by rw [ex59]; rfl)
      obtain ⟨x60, ex60, h⟩ := bindT h
      cases x60
      case false =>
       obtain rfl := inj_ok h
       simp [g5, g6, g9, g10, g13, g41, g42, g61, g62, g63, ex52, ey53a, ey53b, ey53c, tv, e56, ex57, mty58Counted10, Try.underlying58, mE_nil, shm58Counted10, ex59, q58, ex60, hw]
      obtain ⟨x61, ex61, h⟩ := bindT h
      obtain ⟨x62, ex62, h⟩ := bindT h
      simp [g5, g6, g9, g10, g13, g41, g42, g61, g62, g63, ex52, ey53a, ey53b, ey53c, tv, e56, ex57, mty58Counted10, Try.underlying58, mE_nil, shm58Counted10, ex59, q58, ex60, ex61, ex62]
      refine ih (x61, x62, v41, v42, v43, v44, v45, v46, v47, v48, v49, v50, v51) _ ?_ h
      exact ⟨_, _, by simp [hw], rfl, by simp [g5, g6, g9, g10, g13, g41, g42, g61, g62, g63, ex52, ey53a, ey53b, ey53c, tv, e56, ex57, mty58Counted10, Try.underlying58, mE_nil, shm58Counted10, ex59, q58, ex60, ex61, ex62]⟩
end Go.Proofs.Ytmnmfmghmenkkaa
