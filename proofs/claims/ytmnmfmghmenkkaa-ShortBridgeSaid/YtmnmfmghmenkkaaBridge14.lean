/-
  law 14
  Printed by wip/tools/walk.py. Conditions: none; definitions and lemmas.
-/
import Derived.Test.YtmnmfmghmenkkaaKnown1
import Derived.Test.YtmnmfmghmenkkaaPurM
import Derived.Test.YtmnmfmghmenkkaaCount1
import Derived.Test.YtmnmfmghmenkkaaArch1
import Derived.Test.YtmnmfmghmenkkaaLeft27
import Derived.Test.YtmnmfmghmenkkaaParts50
import Derived.Test.YtmnmfmghmenkkaaMiss1
set_option linter.unusedSimpArgs false
set_option linter.unusedVariables false
namespace Go.Proofs.Ytmnmfmghmenkkaa
open Go.Abs Go.Pur
set_option maxRecDepth 100000
set_option maxHeartbeats 2000000
attribute [local simp] EK_region EK_seq EK_cond EK_block EK_blk EK_loop EK_exit EK.ex EK_ret EK_skip EK_nil EO_cons EO_nil EO1_true EO1_false EO2_some EO3_some EB_true EB_false pwanted poper pq pev Go.Pur.look pputT isAssign drOf pinit Tr.get_set lget pvOf_int pvOf_bool pvOf_str pvOf_nil rdv_ak notOwn_ak prt_ak loose_ak rdv_own rdv_fz rdv_bor rdv_rf rdv_pt rdv_v rdv_a rdv_t rdv_r rdv_p rdv_s rdv_f pbin plen pload ppart idxAddr pcond Nat.blt goInt_eq prun_not prun_neg mayLoad ER_ret ER_normal presL presOne moved stor okDrop settle_v settle_l settle_a settle_p settle_f noref_v noref_fz noref_a norefs_nil norefs_cons pclose given dropB Y0_keep pevParts stors pvCells pvCells.go vcells pfill reps zipParts ownFz pcells cellOK one psrcLen srcFits psrc takeP pgrow take getPl setPl mapL plEq elder isList lowP pevs frzs addP partAt ble_lim24 killV_v killV_a killV_t killV_f killV_i killV_p killV_s killV_un killV_dead killV_lfz killV_lbor killV_lown killV_rfz killV_rbor killV_lak killV_rak frzV_v frzV_a frzV_t frzV_f frzV_i frzV_p frzV_s frzV_un frzV_dead frzV_lfz frzV_lbor frzV_lown frzV_rfz frzV_rbor frzV_lak frzV_rak killCell_v killCell_a killCell_t killCell_f killCell_i killCell_p killCell_s killCell_un killCell_dead killCell_lfz killCell_lbor killCell_lown killCell_rfz killCell_rbor killCell_lak killCell_rak killV_lrf killV_lpt killV_rpt frzV_lrf frzV_lpt frzV_rpt killCell_lrft killCell_lptt killCell_rptt killCell_lrfc killCell_lptc killCell_rptc argv_lak argv_rak argv_v argv_a argv_p argv_f argv_fz argv_bor argv_rf argv_pt argv_rc argv_own mayTurn_none argvs pcallOp firm refsTo_v refsTo_l refsTo_p refsTo_s refsTo_a refsTo_dead refsTo_nil refsTo_cons isOwn_lak ownFz_lak evSafe pskip plain pnewBlk fldAddr isOwn pput notOwn_fz notOwn_bor notOwn_own notOwn_rf notOwn_pt prt_fz prt_bor prt_own prt_rf prt_pt Go.Pur.freeze presM settles abin_and abin_or abin_andNot abin_mul abin_shr abin_shl abin_add abin_sub abin_eql abin_neq abin_lss abin_leq abin_gtr abin_geq hows pcallIn Y0_how Y0_part howOf partOf rdv_mown rdv_mfz rdv_mbor rdv_mrf killV_mown killV_mfz killV_mbor killV_mrf frzV_mown frzV_mfz frzV_mbor frzV_mrf killCell_mown killCell_mfz killCell_mbor killCell_mrf argv_mfz argv_mbor argv_mrf settle_m kls_v kls_l kls_a kls_t kls_r kls_p kls_s kls_f kls_i kls_it kls_un kls_dead kls_mown kls_mrf kls_mbor kls_mfz fzOf takable mapHere mapOwn mapTo flat toPlain toPlain.go ofFlat ofPair mapEs plook lookRes Y0_mv mvOf mvBlk premv Y0_fzm fzmOf poperX pconv keep14 sz3 by3 row3 zero3 sz4 by4 row4 zero4 sz5 by5 row5 zero5 sz9 by9 row9 shape9 zero9 sz21 by21 row21 zero21 sz22 by22 row22 zero22 sz24 by24 row24 zero24 sz29 by29 row29 shape29 zero29 sz36 by36 row36 shape36 zero36 sz52 by52 row52 shape52 zero52 parts52 sz54 by54 row54 zero54 parts54 field54_0 field54_1 sz58 by58 row58 zero58 mt58 az3 sz63 by63 row63 zero63 sz66 by66 row66 shape66 zero66 parts66 sz67 by67 row67 shape67 zero67 sz75 by75 row75 shape75 zero75 sz76 by76 row76 shape76 zero76 sz78 by78 row78 zero78 mt78 sz79 by79 row79 shape79 zero79 sz92 by92 row92 zero92 sz94 by94 row94 zero94 parts94 field94_0 field94_1 sz99 by99 row99 shape99 zero99 sz102 by102 row102 zero102 mt102 az4 sz103 by103 row103 zero103 mt103 sz106 by106 row106 zero106 parts106 field106_0 field106_1 sz108 by108 row108 zero108 parts108 field108_0 field108_1 sz109 by109 row109 shape109 zero109 sz110 by110 row110 zero110 mt110 sz112 by112 row112 zero112 sz115 by115 row115 zero115 sz116 by116 row116 zero116 sz119 by119 row119 zero119 sz127 by127 row127 zero127 sz129 by129 row129 zero129 sz130 by130 row130 zero130 sz134 by134 row134 zero134 bs_size gAt gAt0 sAt sAt0 optPlain rows_len noMaker_eq kindOf vlOf abin_rem abin_quo mayTurn_none lowOf_none Go.Pur.partAt rows_nil rows_cons ble_add ble_add0 ble_same toPlain toPlain.go intIn2_0 intIn2_1 ble12 ble22 tv lv max_int min_int pplains ak_true ak_false apartP beq_add beq_add0 beq_add1 argv_s wok_none wok_low_iff lowOf_wok
theorem conv_5_3Bridge14 {z : Int} : prunP Try.prog (convert 5 3 (.int .u8 z)) = some (.int .i64 (IntKind.i64.wrap z)) := by kernel_rfl
def f14_L4 (F : Nat) (x3 : Int) (K : List UInt8 → Option (Bool)) : Nat → List UInt8 × Int × Int → Option (Bool)
  | 0, _ => none
  | n + 1, (v97, v98, v99) => (some (decide (0 < v99))).bind fun x100 =>
    (match x100 with
    | true => ((remO v98 x3).bind fun x101 =>
    (some (IntKind.i64.wrap (x101 + 1))).bind fun x102 =>
    (sub2 [97, 98, 99, 100, 101, 102] x101 x102).bind fun x103 =>
    (sadd x103 v97).bind fun x104 =>
    (quoO .i64 v98 x3).bind fun x105 =>
    (some (IntKind.i64.wrap (v99 - 1))).bind fun x106 =>
    f14_L4 F x3 K n (x104, x105, x106))
    | false => (K v97))
def f14_L3 (F : Nat) (x3 : Int) (x4 : List UInt8) (s9 : List UInt8) (v64 : Int) (v83 : Int) (K : Int × Int × Int × Int × Int × Int × Int × Int × Int × Int × Int → Option (Bool)) : Nat → Int × Int × Int × Int × Int × Int × Int × Int × Int × Int × Int × Int → Option (Bool)
  | 0, _ => none
  | n + 1, (v84, v85, v86, v87, v88, v89, v90, v91, v92, v93, v94, v95) => (some (decide (v84 < v83))).bind fun x96 =>
    (match x96 with
    | true => (f14_L4 F x3 (fun v107 =>
      (some (decide (v107 = s9))).bind fun x108 =>
      (match x108 with
      | true => ((leftO x4 v107).bind fun x109 =>
      (match x109 with
      | true => (some false)
      | false => (some true)))
      | false => ((leftO x4 v107).bind fun x111 =>
      (match x111 with
      | true => ((some (IntKind.i64.wrap (v84 + 1))).bind fun x112 =>
      f14_L3 F x3 x4 s9 v64 v83 K n (x112, v85, v86, v87, v88, v89, v90, v91, v92, v93, v94, v95))
      | false => (some false))))) F ([], v84, v64))
    | false => (K (v85, v86, v87, v88, v89, v90, v91, v92, v93, v94, v95)))
def f14_L2 (F : Nat) (x3 : Int) (v64 : Int) (K : Int → Option (Bool)) : Nat → Int × Int → Option (Bool)
  | 0, _ => none
  | n + 1, (v78, v79) => (some (decide (v79 < v64))).bind fun x80 =>
    (match x80 with
    | true => ((some (mulI .i64 v78 x3)).bind fun x81 =>
    (some (IntKind.i64.wrap (v79 + 1))).bind fun x82 =>
    f14_L2 F x3 v64 K n (x81, x82))
    | false => (K v78))
def f14_L1 (F : Nat) (x3 : Int) (x4 : List UInt8) (s9 : List UInt8) (x63 : Int) (K : Int × Int × Int × Int × Int × Int × Int × Int × Int × Int × Int → Option (Bool)) : Nat → Int × Int × Int × Int × Int × Int × Int × Int × Int × Int × Int × Int → Option (Bool)
  | 0, _ => none
  | n + 1, (v64, v65, v66, v67, v68, v69, v70, v71, v72, v73, v74, v75) => (some (IntKind.i64.wrap (x63 + 1))).bind fun x76 =>
    (some (decide (v64 ≤ x76))).bind fun x77 =>
    (match x77 with
    | true => (f14_L2 F x3 v64 (fun v83 =>
      f14_L3 F x3 x4 s9 v64 v83 (fun (v113, v114, v115, v116, v117, v118, v119, v120, v121, v122, v123) =>
        (some (IntKind.i64.wrap (v64 + 1))).bind fun x124 =>
        f14_L1 F x3 x4 s9 x63 K n (x124, v113, v114, v115, v116, v117, v118, v119, v120, v121, v122, v123)) F (0, v65, v66, v67, v68, v69, v70, v71, v72, v73, v74, v75)) F (1, 0))
    | false => (K (v65, v66, v67, v68, v69, v70, v71, v72, v73, v74, v75)))
def f14_L0 (F : Nat) (x3 : Int) (x4 : List UInt8) (l6 : List Int) (x14 : Int) (K : Int × Int × Int × Int × Int × Int × Int × Int × Int × Int × Int × Int → Option (Bool)) : Nat → Int × Int × Int × Int × Int × Int × Int × Int × Int × Int × Int × Int × Int → Option (Bool)
  | 0, _ => none
  | n + 1, (v19, v20, v21, v22, v23, v24, v25, v26, v27, v28, v29, v30, v31) => (some (decide (v20 < x14))).bind fun x32 =>
    (match x32 with
    | true => ((gI l6 v20).bind fun y33 =>
    (some (decide (y33 ≤ v19))).bind fun x34 =>
    (match x34 with
    | true => (some false)
    | false => ((some ((x4.length : Int))).bind fun x35 =>
    (some (decide (x35 < y33))).bind fun x36 =>
    (match x36 with
    | true => (some false)
    | false => ((sub2 x4 v19 y33).bind fun x37 =>
    (f54S F x37).bind fun x38 =>
    (some (decide (x38 = x3))).bind fun x40 =>
    (match x40 with
    | true => ((some (IntKind.i64.wrap (y33 - 1))).bind fun x41 =>
    (sub2 x4 v19 x41).bind fun x42 =>
    (f54S F x42).bind fun x43 =>
    (some (decide (x43 = x3))).bind fun x45 =>
    (match x45 with
    | true => (some false)
    | false => ((some (IntKind.i64.wrap (v20 + 1))).bind fun x46 =>
    f14_L0 F x3 x4 l6 x14 K n (y33, x46, v21, v22, v23, v24, v25, v26, v27, v28, v29, v30, v31))))
    | false => (some false)))))))
    | false => (K (v19, v21, v22, v23, v24, v25, v26, v27, v28, v29, v30, v31)))
def f14S (F : Nat) (p0a : Int) (p0b : Int) (p0c : Int) (p0d : Int) (p0e : Int) (p0f : Int) (p0g : Int) (p0h : Int) (p0i : Int) (p0j : Int) (p0k : Int) (p1 : Int) : Option (Bool) :=
  (some (IntKind.i64.wrap p1)).bind fun x1 =>
  (some (Int.tmod x1 4)).bind fun x2 =>
  (some (IntKind.i64.wrap (1 + x2))).bind fun x3 =>
  (f51O [p0a, p0b, p0c, p0d, p0e, p0f, p0g, p0h, p0i, p0j, p0k] 10 x3).bind fun x4 =>
  (f36S F x4 x3).bind fun ((c5, l6), x7) =>
  (f38S F x4 x3).bind fun (s9, x10) =>
  (some (decide (x7 = 0))).bind fun x12 =>
  (match x12 with
  | true => ((some (decide (x10 = 0))).bind fun x13 =>
  (match x13 with
  | true => ((some ((l6.length : Int))).bind fun x14 =>
  (some (decide (10 < x14))).bind fun x15 =>
  (match x15 with
  | true => (some false)
  | false => ((some ((s9.length : Int))).bind fun x16 =>
  (some (IntKind.i64.wrap (x14 + 1))).bind fun x17 =>
  (some (decide (x16 = x17))).bind fun x18 =>
  (match x18 with
  | true => (f14_L0 F x3 x4 l6 x14 (fun (v47, v48, v49, v50, v51, v52, v53, v54, v55, v56, v57, v58) =>
    (subF x4 v47).bind fun x59 =>
    (f54S F x59).bind fun x60 =>
    (some (decide (x60 = x3))).bind fun x62 =>
    (match x62 with
    | true => (some false)
    | false => ((some ((l6.length : Int))).bind fun x63 =>
    f14_L1 F x3 x4 s9 x63 (fun (v125, v126, v127, v128, v129, v130, v131, v132, v133, v134, v135) =>
      some false) F (1, v48, v49, v50, v51, v52, v53, v54, v55, v56, v57, v58)))) F (0, 0, p0a, p0b, p0c, p0d, p0e, p0f, p0g, p0h, p0i, p0j, p0k))
  | false => (some false)))))
  | false => (some false)))
  | false => (some false))
theorem f14_is {p0a : Int} {p0b : Int} {p0c : Int} {p0d : Int} {p0e : Int} {p0f : Int} {p0g : Int} {p0h : Int} {p0i : Int} {p0j : Int} {p0k : Int} {p1 : Int} {hp : List (Option (List PV))} {F : Nat} {r : (Bool)}  (h : f14S F p0a p0b p0c p0d p0e p0f p0g p0h p0i p0j p0k p1 = some r) :
    E Try.prog Y0 14 [.a [kv .u8 p0a, kv .u8 p0b, kv .u8 p0c, kv .u8 p0d, kv .u8 p0e, kv .u8 p0f, kv .u8 p0g, kv .u8 p0h, kv .u8 p0i, kv .u8 p0j, kv .u8 p0k], kv .u8 p1] hp = some (.v (.bool r), hp, none) := by
  rw [E_bodyN 2 body14 rfl (by decide) rfl]
  simp only [Try.f14, Option.get_some]
  unfold f14S at h
  obtain ⟨x1, ex1, h⟩ := bindT h
  obtain ⟨x2, ex2, h⟩ := bindT h
  obtain ⟨x3, ex3, h⟩ := bindT h
  obtain ⟨x4, ex4, h⟩ := bind_ok h
  have ex4 : ∀ hp, E Try.prog Y0 51 [.a [kv .u8 p0a, kv .u8 p0b, kv .u8 p0c, kv .u8 p0d, kv .u8 p0e, kv .u8 p0f, kv .u8 p0g, kv .u8 p0h, kv .u8 p0i, kv .u8 p0j, kv .u8 p0k], iv 10, iv x3] hp = some (.v (.string (bs x4)), hp, none) := fun hp => f51_is ex4
  obtain ⟨⟨⟨c5, l6⟩, x7⟩, e8, h⟩ := bind_ok h
  try dsimp only at h
  have e8 : ∀ hp, E Try.prog Y0 36 [.v (.string (bs x4)), iv x3] hp = some (.t [.l .fz c5 l6.length (l6.map iv), iv x7], hp, none) := fun hp => f36_is  e8
  obtain ⟨⟨s9, x10⟩, e11, h⟩ := bind_ok h
  try dsimp only at h
  have e11 : ∀ hp, E Try.prog Y0 38 [.v (.string (bs x4)), iv x3] hp = some (.t [.v (.string (bs s9)), iv x10], hp, none) := fun hp => f38_is  e11
  obtain ⟨x12, ex12, h⟩ := bindT h
  cases x12
  case false =>
   obtain rfl := inj_ok h
   simp [conv_5_3Bridge14, ex1, ex2, ex3, ex4, e8, e11, ex12]
  obtain ⟨x13, ex13, h⟩ := bindT h
  cases x13
  case false =>
   obtain rfl := inj_ok h
   simp [conv_5_3Bridge14, ex1, ex2, ex3, ex4, e8, e11, ex12, ex13]
  obtain ⟨x14, ex14, h⟩ := bindT h
  obtain ⟨x15, ex15, h⟩ := bindT h
  cases x15
  case true =>
   obtain rfl := inj_ok h
   simp [conv_5_3Bridge14, ex1, ex2, ex3, ex4, e8, e11, ex12, ex13, ex14, ex15]
  obtain ⟨x16, ex16, h⟩ := bindT h
  obtain ⟨x17, ex17, h⟩ := bindT h
  obtain ⟨x18, ex18, h⟩ := bindT h
  cases x18
  case false =>
   obtain rfl := inj_ok h
   simp [conv_5_3Bridge14, ex1, ex2, ex3, ex4, e8, e11, ex12, ex13, ex14, ex15, ex16, ex17, ex18]
  simp [conv_5_3Bridge14, ex1, ex2, ex3, ex4, e8, e11, ex12, ex13, ex14, ex15, ex16, ex17, ex18]
  have hL0 := h; clear h
  refine loopS (S := f14_L0 F x3 x4 l6 x14) (fun (v19, v20, v21, v22, v23, v24, v25, v26, v27, v28, v29, v30, v31) σ => ∃ (ts : Tr PV) (w : Option Nat), wok hp.length w ∧ σ = ⟨[], ts, hp ++ [some [kv .u8 v21, kv .u8 v22, kv .u8 v23, kv .u8 v24, kv .u8 v25, kv .u8 v26, kv .u8 v27, kv .u8 v28, kv .u8 v29, kv .u8 v30, kv .u8 v31]], w⟩ ∧ ts.get 5 = some (iv x3) ∧ ts.get 6 = some (.v (.string (bs x4))) ∧ ts.get 7 = some (.l .fz c5 l6.length (l6.map iv)) ∧ ts.get 9 = some (.v (.string (bs s9))) ∧ ts.get 11 = some (iv v19) ∧ ts.get 59 = some (.l .fz c5 l6.length (l6.map iv)) ∧ ts.get 60 = some (iv x14) ∧ ts.get 61 = some (iv v20) ∧ True) (fun (v47, v48, v49, v50, v51, v52, v53, v54, v55, v56, v57, v58) σ => ∃ (ts : Tr PV) (w : Option Nat), wok hp.length w ∧ σ = ⟨[], ts, hp ++ [some [kv .u8 v48, kv .u8 v49, kv .u8 v50, kv .u8 v51, kv .u8 v52, kv .u8 v53, kv .u8 v54, kv .u8 v55, kv .u8 v56, kv .u8 v57, kv .u8 v58]], w⟩ ∧ ts.get 5 = some (iv x3) ∧ ts.get 6 = some (.v (.string (bs x4))) ∧ ts.get 7 = some (.l .fz c5 l6.length (l6.map iv)) ∧ ts.get 9 = some (.v (.string (bs s9))) ∧ ts.get 11 = some (iv v47) ∧ True) (fun _ => rfl) hL0 ?_ ?_ ?_
  · exact ⟨_, _, by simp, rfl, by simp [conv_5_3Bridge14, ex1, ex2, ex3, ex4, e8, e11, ex12, ex13, ex14, ex15, ex16, ex17, ex18]⟩
  · rintro ⟨v47, v48, v49, v50, v51, v52, v53, v54, v55, v56, v57, v58⟩ σ ⟨ts, w, hw, rfl, g5, g6, g7, g9, g11, -⟩ h
    clear hL0
    try dsimp only at h
    obtain ⟨x59, ex59, h⟩ := bind_ok h
    have ex59 := fun {k : IntKind} => subF_ok (P := Try.prog) (t := 9) Try.underlying9 ex59 (k := k)
    obtain ⟨x60, e61, h⟩ := bind_ok h
    have e61 : ∀ hp, E Try.prog Y0 54 [.v (.string (bs x59))] hp = some (iv x60, hp, none) := fun hp => f54_is  e61
    obtain ⟨x62, ex62, h⟩ := bindT h
    cases x62
    case true =>
     obtain rfl := inj_ok h
     simp [g5, g6, g7, g9, g11, ex59, shape9, pqSlice, e61, ex62, hw]
    obtain ⟨x63, ex63, h⟩ := bindT h
    simp [g5, g6, g7, g9, g11, ex59, shape9, pqSlice, e61, ex62, ex63]
    have hL1 := h; clear h
    refine loopS (S := f14_L1 F x3 x4 s9 x63) (fun (v64, v65, v66, v67, v68, v69, v70, v71, v72, v73, v74, v75) σ => ∃ (ts : Tr PV) (w : Option Nat), wok hp.length w ∧ σ = ⟨[], ts, hp ++ [some [kv .u8 v65, kv .u8 v66, kv .u8 v67, kv .u8 v68, kv .u8 v69, kv .u8 v70, kv .u8 v71, kv .u8 v72, kv .u8 v73, kv .u8 v74, kv .u8 v75]], w⟩ ∧ ts.get 5 = some (iv x3) ∧ ts.get 6 = some (.v (.string (bs x4))) ∧ ts.get 9 = some (.v (.string (bs s9))) ∧ ts.get 14 = some (iv x63) ∧ ts.get 15 = some (iv v64) ∧ True) (fun (v125, v126, v127, v128, v129, v130, v131, v132, v133, v134, v135) σ => ∃ (ts : Tr PV) (w : Option Nat), wok hp.length w ∧ σ = ⟨[], ts, hp ++ [some [kv .u8 v125, kv .u8 v126, kv .u8 v127, kv .u8 v128, kv .u8 v129, kv .u8 v130, kv .u8 v131, kv .u8 v132, kv .u8 v133, kv .u8 v134, kv .u8 v135]], w⟩ ∧ True) (fun _ => rfl) hL1 ?_ ?_ ?_
    · exact ⟨_, _, by simp [hw], rfl, by simp [g5, g6, g7, g9, g11, ex59, shape9, pqSlice, e61, ex62, ex63]⟩
    · rintro ⟨v125, v126, v127, v128, v129, v130, v131, v132, v133, v134, v135⟩ σ ⟨ts, w, hw, rfl, -⟩ h
      clear hL1
      try dsimp only at h
      obtain rfl := inj_ok h
      simp [hw]
    · rintro k n ⟨v64, v65, v66, v67, v68, v69, v70, v71, v72, v73, v74, v75⟩ σ ⟨ts, w, hw, rfl, g5, g6, g9, g14, g15, -⟩ h ih ex
      clear hL1
      rw [f14_L1] at h
      obtain ⟨x76, ex76, h⟩ := bindT h
      obtain ⟨x77, ex77, h⟩ := bindT h
      cases x77
      case false =>
       simp [g5, g6, g9, g14, g15, ex76, ex77]
       refine ex (v65, v66, v67, v68, v69, v70, v71, v72, v73, v74, v75) _ ?_ h
       exact ⟨_, _, by simp [hw], rfl, by simp [g5, g6, g9, g14, g15, ex76, ex77]⟩
      simp [g5, g6, g9, g14, g15, ex76, ex77]
      have hL2 := h; clear h
      refine loopS (S := f14_L2 F x3 v64) (fun (v78, v79) σ => ∃ (ts : Tr PV) (w : Option Nat), wok hp.length w ∧ σ = ⟨[], ts, hp ++ [some [kv .u8 v65, kv .u8 v66, kv .u8 v67, kv .u8 v68, kv .u8 v69, kv .u8 v70, kv .u8 v71, kv .u8 v72, kv .u8 v73, kv .u8 v74, kv .u8 v75]], w⟩ ∧ ts.get 5 = some (iv x3) ∧ ts.get 6 = some (.v (.string (bs x4))) ∧ ts.get 9 = some (.v (.string (bs s9))) ∧ ts.get 14 = some (iv x63) ∧ ts.get 15 = some (iv v64) ∧ ts.get 16 = some (iv v78) ∧ ts.get 107 = some (iv v64) ∧ ts.get 108 = some (iv v79) ∧ True) (fun v83 σ => ∃ (ts : Tr PV) (w : Option Nat), wok hp.length w ∧ σ = ⟨[], ts, hp ++ [some [kv .u8 v65, kv .u8 v66, kv .u8 v67, kv .u8 v68, kv .u8 v69, kv .u8 v70, kv .u8 v71, kv .u8 v72, kv .u8 v73, kv .u8 v74, kv .u8 v75]], w⟩ ∧ ts.get 5 = some (iv x3) ∧ ts.get 6 = some (.v (.string (bs x4))) ∧ ts.get 9 = some (.v (.string (bs s9))) ∧ ts.get 14 = some (iv x63) ∧ ts.get 15 = some (iv v64) ∧ ts.get 16 = some (iv v83) ∧ True) (fun _ => rfl) hL2 ?_ ?_ ?_
      · exact ⟨_, _, by simp [hw], rfl, by simp [g5, g6, g9, g14, g15, ex76, ex77]⟩
      · rintro v83 σ ⟨ts, w, hw, rfl, g5, g6, g9, g14, g15, g16, -⟩ h
        clear hL2
        try dsimp only at h
        simp [g5, g6, g9, g14, g15, g16]
        have hL3 := h; clear h
        refine loopS (S := f14_L3 F x3 x4 s9 v64 v83) (fun (v84, v85, v86, v87, v88, v89, v90, v91, v92, v93, v94, v95) σ => ∃ (ts : Tr PV) (w : Option Nat), wok hp.length w ∧ σ = ⟨[], ts, hp ++ [some [kv .u8 v85, kv .u8 v86, kv .u8 v87, kv .u8 v88, kv .u8 v89, kv .u8 v90, kv .u8 v91, kv .u8 v92, kv .u8 v93, kv .u8 v94, kv .u8 v95]], w⟩ ∧ ts.get 5 = some (iv x3) ∧ ts.get 6 = some (.v (.string (bs x4))) ∧ ts.get 9 = some (.v (.string (bs s9))) ∧ ts.get 14 = some (iv x63) ∧ ts.get 15 = some (iv v64) ∧ ts.get 114 = some (iv v83) ∧ ts.get 115 = some (iv v84) ∧ True) (fun (v113, v114, v115, v116, v117, v118, v119, v120, v121, v122, v123) σ => ∃ (ts : Tr PV) (w : Option Nat), wok hp.length w ∧ σ = ⟨[], ts, hp ++ [some [kv .u8 v113, kv .u8 v114, kv .u8 v115, kv .u8 v116, kv .u8 v117, kv .u8 v118, kv .u8 v119, kv .u8 v120, kv .u8 v121, kv .u8 v122, kv .u8 v123]], w⟩ ∧ ts.get 5 = some (iv x3) ∧ ts.get 6 = some (.v (.string (bs x4))) ∧ ts.get 9 = some (.v (.string (bs s9))) ∧ ts.get 14 = some (iv x63) ∧ ts.get 15 = some (iv v64) ∧ True) (fun _ => rfl) hL3 ?_ ?_ ?_
        · exact ⟨_, _, by simp [hw], rfl, by simp [g5, g6, g9, g14, g15, g16]⟩
        · rintro ⟨v113, v114, v115, v116, v117, v118, v119, v120, v121, v122, v123⟩ σ ⟨ts, w, hw, rfl, g5, g6, g9, g14, g15, -⟩ h
          clear hL3
          try dsimp only at h
          obtain ⟨x124, ex124, h⟩ := bindT h
          simp [g5, g6, g9, g14, g15, ex124]
          refine ih (x124, v113, v114, v115, v116, v117, v118, v119, v120, v121, v122, v123) _ ?_ h
          exact ⟨_, _, by simp [hw], rfl, by simp [g5, g6, g9, g14, g15, ex124]⟩
        · rintro k n ⟨v84, v85, v86, v87, v88, v89, v90, v91, v92, v93, v94, v95⟩ σ ⟨ts, w, hw, rfl, g5, g6, g9, g14, g15, g114, g115, -⟩ h ih ex
          clear hL3
          rw [f14_L3] at h
          obtain ⟨x96, ex96, h⟩ := bindT h
          cases x96
          case false =>
           simp [g5, g6, g9, g14, g15, g114, g115, ex96]
           refine ex (v85, v86, v87, v88, v89, v90, v91, v92, v93, v94, v95) _ ?_ h
           exact ⟨_, _, by simp [hw], rfl, by simp [g5, g6, g9, g14, g15, g114, g115, ex96]⟩
          simp [g5, g6, g9, g14, g15, g114, g115, ex96]
          have hL4 := h; clear h
          refine loopS (S := f14_L4 F x3) (fun (v97, v98, v99) σ => ∃ (ts : Tr PV) (w : Option Nat), wok hp.length w ∧ σ = ⟨[], ts, hp ++ [some [kv .u8 v85, kv .u8 v86, kv .u8 v87, kv .u8 v88, kv .u8 v89, kv .u8 v90, kv .u8 v91, kv .u8 v92, kv .u8 v93, kv .u8 v94, kv .u8 v95]], w⟩ ∧ ts.get 5 = some (iv x3) ∧ ts.get 6 = some (.v (.string (bs x4))) ∧ ts.get 9 = some (.v (.string (bs s9))) ∧ ts.get 14 = some (iv x63) ∧ ts.get 15 = some (iv v64) ∧ ts.get 18 = some (.v (.string (bs v97))) ∧ ts.get 19 = some (iv v98) ∧ ts.get 20 = some (iv v99) ∧ ts.get 114 = some (iv v83) ∧ ts.get 115 = some (iv v84) ∧ True) (fun v107 σ => ∃ (ts : Tr PV) (w : Option Nat), wok hp.length w ∧ σ = ⟨[], ts, hp ++ [some [kv .u8 v85, kv .u8 v86, kv .u8 v87, kv .u8 v88, kv .u8 v89, kv .u8 v90, kv .u8 v91, kv .u8 v92, kv .u8 v93, kv .u8 v94, kv .u8 v95]], w⟩ ∧ ts.get 5 = some (iv x3) ∧ ts.get 6 = some (.v (.string (bs x4))) ∧ ts.get 9 = some (.v (.string (bs s9))) ∧ ts.get 14 = some (iv x63) ∧ ts.get 15 = some (iv v64) ∧ ts.get 18 = some (.v (.string (bs v107))) ∧ ts.get 114 = some (iv v83) ∧ ts.get 115 = some (iv v84) ∧ True) (fun _ => rfl) hL4 ?_ ?_ ?_
          · exact ⟨_, _, by simp [hw], rfl, by simp [g5, g6, g9, g14, g15, g114, g115, ex96]⟩
          · rintro v107 σ ⟨ts, w, hw, rfl, g5, g6, g9, g14, g15, g18, g114, g115, -⟩ h
            clear hL4
            try dsimp only at h
            obtain ⟨x108, ex108, h⟩ := bind_ok h
            have ex108p := inj_ok ex108
            have ex108 : decide (bs v107 = bs s9) = x108 := (decide_eq_decide.2 bs_eq).trans (inj_ok ex108)
            cases x108
            case true =>
             obtain ⟨x109, ex109, h⟩ := bind_ok h
             have ex109 : ∀ hp, E Try.prog Y0 27 [.v (.string (bs x4)), .v (.string (bs v107))] hp = some (.v (.bool x109), hp, none) := fun hp => f27_is ex109
             cases x109
             case true =>
              obtain rfl := inj_ok h
              simp [g5, g6, g9, g14, g15, g18, g114, g115, ex108, ex108p, abin_seql, abin_sneq, ex109, hw]
             have q110 : ∀ hp, E Try.prog Y0 17 [] hp = some (.v (.bool true), hp, none) := fun hp => works_is
             obtain rfl := inj_ok h
             simp [g5, g6, g9, g14, g15, g18, g114, g115, ex108, ex108p, abin_seql, abin_sneq, ex109, q110, hw]
            obtain ⟨x111, ex111, h⟩ := bind_ok h
            have ex111 : ∀ hp, E Try.prog Y0 27 [.v (.string (bs x4)), .v (.string (bs v107))] hp = some (.v (.bool x111), hp, none) := fun hp => f27_is ex111
            cases x111
            case false =>
             obtain rfl := inj_ok h
             simp [g5, g6, g9, g14, g15, g18, g114, g115, ex108, ex108p, abin_seql, abin_sneq, ex111, hw]
            obtain ⟨x112, ex112, h⟩ := bindT h
            simp [g5, g6, g9, g14, g15, g18, g114, g115, ex108, ex108p, abin_seql, abin_sneq, ex111, ex112]
            refine ih (x112, v85, v86, v87, v88, v89, v90, v91, v92, v93, v94, v95) _ ?_ h
            exact ⟨_, _, by simp [hw], rfl, by simp [g5, g6, g9, g14, g15, g18, g114, g115, ex108, ex108p, abin_seql, abin_sneq, ex111, ex112]⟩
          · rintro k n ⟨v97, v98, v99⟩ σ ⟨ts, w, hw, rfl, g5, g6, g9, g14, g15, g18, g19, g20, g114, g115, -⟩ h ih ex
            clear hL4
            rw [f14_L4] at h
            obtain ⟨x100, ex100, h⟩ := bindT h
            cases x100
            case false =>
             simp [g5, g6, g9, g14, g15, g18, g19, g20, g114, g115, ex100]
             refine ex v97 _ ?_ h
             exact ⟨_, _, by simp [hw], rfl, by simp [g5, g6, g9, g14, g15, g18, g19, g20, g114, g115, ex100]⟩
            obtain ⟨x101, ex101, h⟩ := bind_ok h
            obtain ⟨ex101a, ex101⟩ := remO_ok ex101
            obtain ⟨x102, ex102, h⟩ := bindT h
            obtain ⟨x103, ex103, h⟩ := bind_ok h
            have ex103 := fun {k j : IntKind} => sub2_ok (P := Try.prog) (t := 9) Try.underlying9 ex103 (k := k) (j := j)
            obtain ⟨x104, ex104, h⟩ := bind_ok h
            obtain ⟨ex104a, ex104⟩ := sadd_ok ex104
            obtain ⟨x105, ex105, h⟩ := bind_ok h
            obtain ⟨ex105a, ex105⟩ := quoO_ok ex105
            obtain ⟨x106, ex106, h⟩ := bindT h
            simp [g5, g6, g9, g14, g15, g18, g19, g20, g114, g115, ex100, ex101, ex101a, ex102, ex103, shape9, pqSlice, ex104, abin_sadd ex104a, ex105, ex105a, ex106]
            refine ih (x104, x105, x106) _ ?_ h
            exact ⟨_, _, by simp [hw], rfl, by simp [g5, g6, g9, g14, g15, g18, g19, g20, g114, g115, ex100, ex101, ex101a, ex102, ex103, shape9, pqSlice, ex104, abin_sadd ex104a, ex105, ex105a, ex106]⟩
      · rintro k n ⟨v78, v79⟩ σ ⟨ts, w, hw, rfl, g5, g6, g9, g14, g15, g16, g107, g108, -⟩ h ih ex
        clear hL2
        rw [f14_L2] at h
        obtain ⟨x80, ex80, h⟩ := bindT h
        cases x80
        case false =>
         simp [g5, g6, g9, g14, g15, g16, g107, g108, ex80]
         refine ex v78 _ ?_ h
         exact ⟨_, _, by simp [hw], rfl, by simp [g5, g6, g9, g14, g15, g16, g107, g108, ex80]⟩
        obtain ⟨x81, ex81, h⟩ := bindT h
        obtain ⟨x82, ex82, h⟩ := bindT h
        simp [g5, g6, g9, g14, g15, g16, g107, g108, ex80, ex81, ex82]
        refine ih (x81, x82) _ ?_ h
        exact ⟨_, _, by simp [hw], rfl, by simp [g5, g6, g9, g14, g15, g16, g107, g108, ex80, ex81, ex82]⟩
  · rintro k n ⟨v19, v20, v21, v22, v23, v24, v25, v26, v27, v28, v29, v30, v31⟩ σ ⟨ts, w, hw, rfl, g5, g6, g7, g9, g11, g59, g60, g61, -⟩ h ih ex
    clear hL0
    rw [f14_L0] at h
    obtain ⟨x32, ex32, h⟩ := bindT h
    cases x32
    case false =>
     simp [g5, g6, g7, g9, g11, g59, g60, g61, ex32]
     refine ex (v19, v21, v22, v23, v24, v25, v26, v27, v28, v29, v30, v31) _ ?_ h
     exact ⟨_, _, by simp [hw], rfl, by simp [g5, g6, g7, g9, g11, g59, g60, g61, ex32]⟩
    obtain ⟨y33, ey33, h⟩ := bind_ok h
    obtain ⟨ey33a, ey33e, ey33b, ey33c, ey33g⟩ := gI_ok rfl ey33
    obtain ⟨x34, ex34, h⟩ := bindT h
    cases x34
    case true =>
     obtain rfl := inj_ok h
     simp [g5, g6, g7, g9, g11, g59, g60, g61, ex32, ey33a, ey33b, ey33c, ex34, hw]
    obtain ⟨x35, ex35, h⟩ := bindT h
    obtain ⟨x36, ex36, h⟩ := bindT h
    cases x36
    case true =>
     obtain rfl := inj_ok h
     simp [g5, g6, g7, g9, g11, g59, g60, g61, ex32, ey33a, ey33b, ey33c, ex34, ex35, ex36, hw]
    obtain ⟨x37, ex37, h⟩ := bind_ok h
    have ex37 := fun {k j : IntKind} => sub2_ok (P := Try.prog) (t := 9) Try.underlying9 ex37 (k := k) (j := j)
    obtain ⟨x38, e39, h⟩ := bind_ok h
    have e39 : ∀ hp, E Try.prog Y0 54 [.v (.string (bs x37))] hp = some (iv x38, hp, none) := fun hp => f54_is  e39
    obtain ⟨x40, ex40, h⟩ := bindT h
    cases x40
    case false =>
     obtain rfl := inj_ok h
     simp [g5, g6, g7, g9, g11, g59, g60, g61, ex32, ey33a, ey33b, ey33c, ex34, ex35, ex36, ex37, shape9, pqSlice, e39, ex40, hw]
    obtain ⟨x41, ex41, h⟩ := bindT h
    obtain ⟨x42, ex42, h⟩ := bind_ok h
    have ex42 := fun {k j : IntKind} => sub2_ok (P := Try.prog) (t := 9) Try.underlying9 ex42 (k := k) (j := j)
    obtain ⟨x43, e44, h⟩ := bind_ok h
    have e44 : ∀ hp, E Try.prog Y0 54 [.v (.string (bs x42))] hp = some (iv x43, hp, none) := fun hp => f54_is  e44
    obtain ⟨x45, ex45, h⟩ := bindT h
    cases x45
    case true =>
     obtain rfl := inj_ok h
     simp [g5, g6, g7, g9, g11, g59, g60, g61, ex32, ey33a, ey33b, ey33c, ex34, ex35, ex36, ex37, shape9, pqSlice, e39, ex40, ex41, ex42, e44, ex45, hw]
    obtain ⟨x46, ex46, h⟩ := bindT h
    simp [g5, g6, g7, g9, g11, g59, g60, g61, ex32, ey33a, ey33b, ey33c, ex34, ex35, ex36, ex37, shape9, pqSlice, e39, ex40, ex41, ex42, e44, ex45, ex46]
    refine ih (y33, x46, v21, v22, v23, v24, v25, v26, v27, v28, v29, v30, v31) _ ?_ h
    exact ⟨_, _, by simp [hw], rfl, by simp [g5, g6, g7, g9, g11, g59, g60, g61, ex32, ey33a, ey33b, ey33c, ex34, ex35, ex36, ex37, shape9, pqSlice, e39, ex40, ex41, ex42, e44, ex45, ex46]⟩
end Go.Proofs.Ytmnmfmghmenkkaa
