/-
  law 15
  Printed by wip/tools/walk.py. Conditions: none; definitions and lemmas.
-/
import Derived.Test.YtmnmfmghmenkkaaKnown1
import Derived.Test.YtmnmfmghmenkkaaPurM
import Derived.Test.YtmnmfmghmenkkaaHolds1
import Derived.Test.YtmnmfmghmenkkaaWays1
import Derived.Test.YtmnmfmghmenkkaaRef21
import Derived.Test.YtmnmfmghmenkkaaParts50
set_option linter.unusedSimpArgs false
set_option linter.unusedVariables false
namespace Go.Proofs.Ytmnmfmghmenkkaa
open Go.Abs Go.Pur
set_option maxRecDepth 100000
set_option maxHeartbeats 2000000
attribute [local simp] EK_region EK_seq EK_cond EK_block EK_blk EK_loop EK_exit EK.ex EK_ret EK_skip EK_nil EO_cons EO_nil EO1_true EO1_false EO2_some EO3_some EB_true EB_false pwanted poper pq pev Go.Pur.look pputT isAssign drOf pinit Tr.get_set lget pvOf_int pvOf_bool pvOf_str pvOf_nil rdv_ak notOwn_ak prt_ak loose_ak rdv_own rdv_fz rdv_bor rdv_rf rdv_pt rdv_v rdv_a rdv_t rdv_r rdv_p rdv_s rdv_f pbin plen pload ppart idxAddr pcond Nat.blt goInt_eq prun_not prun_neg mayLoad ER_ret ER_normal presL presOne moved stor okDrop settle_v settle_l settle_a settle_p settle_f noref_v noref_fz noref_a norefs_nil norefs_cons pclose given dropB Y0_keep pevParts stors pvCells pvCells.go vcells pfill reps zipParts ownFz pcells cellOK one psrcLen srcFits psrc takeP pgrow take getPl setPl mapL plEq elder isList lowP pevs frzs addP partAt ble_lim24 killV_v killV_a killV_t killV_f killV_i killV_p killV_s killV_un killV_dead killV_lfz killV_lbor killV_lown killV_rfz killV_rbor killV_lak killV_rak frzV_v frzV_a frzV_t frzV_f frzV_i frzV_p frzV_s frzV_un frzV_dead frzV_lfz frzV_lbor frzV_lown frzV_rfz frzV_rbor frzV_lak frzV_rak killCell_v killCell_a killCell_t killCell_f killCell_i killCell_p killCell_s killCell_un killCell_dead killCell_lfz killCell_lbor killCell_lown killCell_rfz killCell_rbor killCell_lak killCell_rak killV_lrf killV_lpt killV_rpt frzV_lrf frzV_lpt frzV_rpt killCell_lrft killCell_lptt killCell_rptt killCell_lrfc killCell_lptc killCell_rptc argv_lak argv_rak argv_v argv_a argv_p argv_f argv_fz argv_bor argv_rf argv_pt argv_rc argv_own mayTurn_none argvs pcallOp firm refsTo_v refsTo_l refsTo_p refsTo_s refsTo_a refsTo_dead refsTo_nil refsTo_cons isOwn_lak ownFz_lak evSafe pskip plain pnewBlk fldAddr isOwn pput notOwn_fz notOwn_bor notOwn_own notOwn_rf notOwn_pt prt_fz prt_bor prt_own prt_rf prt_pt Go.Pur.freeze presM settles abin_and abin_or abin_andNot abin_mul abin_shr abin_shl abin_add abin_sub abin_eql abin_neq abin_lss abin_leq abin_gtr abin_geq hows pcallIn Y0_how Y0_part howOf partOf rdv_mown rdv_mfz rdv_mbor rdv_mrf killV_mown killV_mfz killV_mbor killV_mrf frzV_mown frzV_mfz frzV_mbor frzV_mrf killCell_mown killCell_mfz killCell_mbor killCell_mrf argv_mfz argv_mbor argv_mrf settle_m kls_v kls_l kls_a kls_t kls_r kls_p kls_s kls_f kls_i kls_it kls_un kls_dead kls_mown kls_mrf kls_mbor kls_mfz fzOf takable mapHere mapOwn mapTo flat toPlain toPlain.go ofFlat ofPair mapEs plook lookRes Y0_mv mvOf mvBlk premv Y0_fzm fzmOf poperX pconv keep15 keep46 sz3 by3 row3 zero3 sz4 by4 row4 zero4 sz5 by5 row5 zero5 sz9 by9 row9 shape9 zero9 sz21 by21 row21 zero21 sz22 by22 row22 zero22 sz24 by24 row24 zero24 sz29 by29 row29 shape29 zero29 sz36 by36 row36 shape36 zero36 sz52 by52 row52 shape52 zero52 parts52 sz54 by54 row54 zero54 parts54 field54_0 field54_1 sz58 by58 row58 zero58 mt58 az3 sz63 by63 row63 zero63 sz66 by66 row66 shape66 zero66 parts66 sz67 by67 row67 shape67 zero67 sz75 by75 row75 shape75 zero75 sz76 by76 row76 shape76 zero76 sz78 by78 row78 zero78 mt78 sz79 by79 row79 shape79 zero79 sz92 by92 row92 zero92 sz94 by94 row94 zero94 parts94 field94_0 field94_1 sz99 by99 row99 shape99 zero99 sz102 by102 row102 zero102 mt102 az4 sz103 by103 row103 zero103 mt103 sz106 by106 row106 zero106 parts106 field106_0 field106_1 sz108 by108 row108 zero108 parts108 field108_0 field108_1 sz109 by109 row109 shape109 zero109 sz110 by110 row110 zero110 mt110 sz112 by112 row112 zero112 sz115 by115 row115 zero115 sz116 by116 row116 zero116 sz119 by119 row119 zero119 sz127 by127 row127 zero127 sz129 by129 row129 zero129 sz130 by130 row130 zero130 sz134 by134 row134 zero134 bs_size gAt gAt0 sAt sAt0 optPlain rows_len noMaker_eq kindOf vlOf abin_rem abin_quo mayTurn_none lowOf_none Go.Pur.partAt rows_nil rows_cons ble_add ble_add0 ble_same toPlain toPlain.go intIn2_0 intIn2_1 ble12 ble22 tv lv max_int min_int pplains ak_true ak_false apartP beq_add beq_add0 beq_add1 argv_s wok_none wok_low_iff lowOf_wok
theorem conv_63_3Back15 {z : Int} : prunP Try.prog (convert 63 3 (.int .u16 z)) = some (.int .i64 (IntKind.i64.wrap z)) := by kernel_rfl
theorem mty58Back15 : mapTy Try.prog 58 = some (9, 3) := by kernel_rfl
theorem shm58Back15 : shapeOf Try.prog 58 = none := by kernel_rfl
theorem kty9Back15 : KeyT Try.prog 9 sV := key_str Try.underlying9
theorem bool_neq_4Back15 {x y : Operand} {a b : Bool} : abin Try.prog .neq 4 x y (.bool a) (.bool b) = some (.bool (a != b)) := by cases a <;> cases b <;> kernel_rfl
def f46S (F : Nat) (c0 : Ck) (p0 : List (List UInt8)) : Option ((Ck × List (List UInt8))) :=
  some (c0, p0)
theorem f46_is {c0 : Ck} {p0 : List (List UInt8)} {hp : List (Option (List PV))} {F : Nat} {r : ((Ck × List (List UInt8)))}  (h : f46S F c0 p0 = some r) :
    E Try.prog Y0 46 [.l .fz c0 p0.length (p0.map tv)] hp = some (.l .fz r.1 r.2.length (r.2.map tv), hp, none) := by
  rw [E_bodyN 1 body46 rfl (by decide) rfl]
  simp only [Try.f46, Option.get_some]
  unfold f46S at h
  obtain rfl := inj_ok h
  simp
def f15_L1 (F : Nat) (x1 : List UInt8) (y33 : (List UInt8)) (l64 : List Int) (x68 : Int) (K : Int × Int × Int × Int × Int × Int × Int × Int × Int × Int × Int × Int × Int × Int × Int × Int × Int × Int × Int × Int × Int × Int → Option (Bool)) : Nat → Int × Int × Int × Int × Int × Int × Int × Int × Int × Int × Int × Int × Int × Int × Int × Int × Int × Int × Int × Int × Int × Int × Int × Int → Option (Bool)
  | 0, _ => none
  | n + 1, (v71, v72, v73, v74, v75, v76, v77, v78, v79, v80, v81, v82, v83, v84, v85, v86, v87, v88, v89, v90, v91, v92, v93, v94) => (some (decide (v72 < x68))).bind fun x95 =>
    (match x95 with
    | true => ((gI l64 v72).bind fun y96 =>
    (some (decide (y96 < v71))).bind fun x97 =>
    (match x97 with
    | true => (some false)
    | false => ((some ((x1.length : Int))).bind fun x98 =>
    (some (decide (x98 ≤ y96))).bind fun x99 =>
    (match x99 with
    | true => (some false)
    | false => ((gS x1 y96).bind fun x100 =>
    (gS y33 v72).bind fun x101 =>
    (some (decide (x100 = x101))).bind fun x102 =>
    (match x102 with
    | true => ((sub2 x1 v71 y96).bind fun x103 =>
    (f56O x103 x101).bind fun x104 =>
    (some (decide (0 ≤ x104))).bind fun x105 =>
    (match x105 with
    | true => (some false)
    | false => ((some (IntKind.i64.wrap (y96 + 1))).bind fun x106 =>
    (some (IntKind.i64.wrap (v72 + 1))).bind fun x107 =>
    f15_L1 F x1 y33 l64 x68 K n (x106, x107, v73, v74, v75, v76, v77, v78, v79, v80, v81, v82, v83, v84, v85, v86, v87, v88, v89, v90, v91, v92, v93, v94))))
    | false => (some false)))))))
    | false => (K (v73, v74, v75, v76, v77, v78, v79, v80, v81, v82, v83, v84, v85, v86, v87, v88, v89, v90, v91, v92, v93, v94)))
def f15_L0 (F : Nat) (x1 : List UInt8) (l6 : List (List UInt8)) (x8 : Int) (K : Int × Int × Int × Int × Int × Int × Int × Int × Int × Int × Int × Int × Int × Int × Int × Int × Int × Int × Int × Int × Int × Int → Option (Bool)) : Nat → Int × Int × Int × Int × Int × Int × Int × Int × Int × Int × Int × Int × Int × Int × Int × Int × Int × Int × Int × Int × Int × Int × Int → Option (Bool)
  | 0, _ => none
  | n + 1, (v9, v10, v11, v12, v13, v14, v15, v16, v17, v18, v19, v20, v21, v22, v23, v24, v25, v26, v27, v28, v29, v30, v31) => (some (decide (v9 < x8))).bind fun x32 =>
    (match x32 with
    | true => ((gI l6 v9).bind fun y33 =>
    (f50S F x1).bind fun (m34, k35) =>
    (some (mGetD 0 y33 m34)).bind fun x38 =>
    (some (decide (0 < x38))).bind fun x39 =>
    (f18S F x1 y33).bind fun (b40, x41) =>
    (f55O x1).bind fun x43 =>
    (f55O y33).bind fun x44 =>
    (f18S F x43 x44).bind fun (b45, x46) =>
    (f20S F x1 y33).bind fun (x48, x49) =>
    (f20S F x43 x44).bind fun (x51, x52) =>
    (some (decide (x41 = 0))).bind fun x54 =>
    (match x54 with
    | true => ((some (decide (x46 = 0))).bind fun x55 =>
    (match x55 with
    | true => ((some (decide (x49 = 0))).bind fun x56 =>
    (match x56 with
    | true => ((some (decide (x52 = 0))).bind fun x57 =>
    (match x57 with
    | true => ((some ((b40 != x39))).bind fun x58 =>
    (match x58 with
    | true => (some false)
    | false => ((some ((b45 != x39))).bind fun x59 =>
    (match x59 with
    | true => (some false)
    | false => ((some (decide (x48 = x51))).bind fun x60 =>
    (match x60 with
    | true => ((some (decide (x48 = x38))).bind fun x62 =>
    (match x62 with
    | true => ((f22S F x1 y33).bind fun ((c63, l64), x65) =>
    (match x39 with
    | true => ((some (decide (x65 = 0))).bind fun x67 =>
    (match x67 with
    | true => ((some ((l64.length : Int))).bind fun x68 =>
    (some ((y33.length : Int))).bind fun x69 =>
    (some (decide (x68 = x69))).bind fun x70 =>
    (match x70 with
    | true => (f15_L1 F x1 y33 l64 x68 (fun (v108, v109, v110, v111, v112, v113, v114, v115, v116, v117, v118, v119, v120, v121, v122, v123, v124, v125, v126, v127, v128, v129) =>
      (some (IntKind.i64.wrap (v9 + 1))).bind fun x130 =>
      f15_L0 F x1 l6 x8 K n (x130, v108, v109, v110, v111, v112, v113, v114, v115, v116, v117, v118, v119, v120, v121, v122, v123, v124, v125, v126, v127, v128, v129)) F (0, 0, v10, v11, v12, v13, v14, v15, v16, v17, v18, v19, v20, v21, v22, v23, v24, v25, v26, v27, v28, v29, v30, v31))
    | false => (some false)))
    | false => (some false)))
    | false => ((some (decide (x65 = 12))).bind fun x131 =>
    (match x131 with
    | true => ((some ((l64.length : Int))).bind fun x132 =>
    (some (decide (0 < x132))).bind fun x133 =>
    (match x133 with
    | true => (some false)
    | false => ((some (IntKind.i64.wrap (v9 + 1))).bind fun x134 =>
    f15_L0 F x1 l6 x8 K n (x134, v10, v11, v12, v13, v14, v15, v16, v17, v18, v19, v20, v21, v22, v23, v24, v25, v26, v27, v28, v29, v30, v31))))
    | false => (some false)))))
    | false => (some false)))
    | false => (some false)))))))
    | false => (some false)))
    | false => (some false)))
    | false => (some false)))
    | false => (some false)))
    | false => (K (v10, v11, v12, v13, v14, v15, v16, v17, v18, v19, v20, v21, v22, v23, v24, v25, v26, v27, v28, v29, v30, v31)))
def f15S (F : Nat) (p0a : Int) (p0b : Int) (p0c : Int) (p0d : Int) (p0e : Int) (p0f : Int) (p0g : Int) (p0h : Int) (p0i : Int) (p0j : Int) (p0k : Int) (p1 : Int) (p2a : Int) (p2b : Int) (p2c : Int) (p2d : Int) (p2e : Int) (p2f : Int) (p2g : Int) (p2h : Int) (p2i : Int) (p2j : Int) (p2k : Int) : Option (Bool) :=
  (f51O [p0a, p0b, p0c, p0d, p0e, p0f, p0g, p0h, p0i, p0j, p0k] 10 3).bind fun x1 =>
  (some (IntKind.i64.wrap p1)).bind fun x2 =>
  (f53O x1 x2).bind fun x3 =>
  (f51O [p2a, p2b, p2c, p2d, p2e, p2f, p2g, p2h, p2i, p2j, p2k] 4 3).bind fun x4 =>
  (f46S F .full [x3, x4]).bind fun (c5, l6) =>
  (some ((l6.length : Int))).bind fun x8 =>
  f15_L0 F x1 l6 x8 (fun (v135, v136, v137, v138, v139, v140, v141, v142, v143, v144, v145, v146, v147, v148, v149, v150, v151, v152, v153, v154, v155, v156) =>
    some true) F (0, p0a, p0b, p0c, p0d, p0e, p0f, p0g, p0h, p0i, p0j, p0k, p2a, p2b, p2c, p2d, p2e, p2f, p2g, p2h, p2i, p2j, p2k)
theorem f15_is {p0a : Int} {p0b : Int} {p0c : Int} {p0d : Int} {p0e : Int} {p0f : Int} {p0g : Int} {p0h : Int} {p0i : Int} {p0j : Int} {p0k : Int} {p1 : Int} {p2a : Int} {p2b : Int} {p2c : Int} {p2d : Int} {p2e : Int} {p2f : Int} {p2g : Int} {p2h : Int} {p2i : Int} {p2j : Int} {p2k : Int} {hp : List (Option (List PV))} {F : Nat} {r : (Bool)}  (h : f15S F p0a p0b p0c p0d p0e p0f p0g p0h p0i p0j p0k p1 p2a p2b p2c p2d p2e p2f p2g p2h p2i p2j p2k = some r) :
    E Try.prog Y0 15 [.a [kv .u8 p0a, kv .u8 p0b, kv .u8 p0c, kv .u8 p0d, kv .u8 p0e, kv .u8 p0f, kv .u8 p0g, kv .u8 p0h, kv .u8 p0i, kv .u8 p0j, kv .u8 p0k], kv .u16 p1, .a [kv .u8 p2a, kv .u8 p2b, kv .u8 p2c, kv .u8 p2d, kv .u8 p2e, kv .u8 p2f, kv .u8 p2g, kv .u8 p2h, kv .u8 p2i, kv .u8 p2j, kv .u8 p2k]] hp = some (.v (.bool r), hp, none) := by
  rw [E_bodyN 3 body15 rfl (by decide) rfl]
  simp only [Try.f15, Option.get_some]
  unfold f15S at h
  obtain ⟨x1, ex1, h⟩ := bind_ok h
  have ex1 : ∀ hp, E Try.prog Y0 51 [.a [kv .u8 p0a, kv .u8 p0b, kv .u8 p0c, kv .u8 p0d, kv .u8 p0e, kv .u8 p0f, kv .u8 p0g, kv .u8 p0h, kv .u8 p0i, kv .u8 p0j, kv .u8 p0k], iv 10, iv 3] hp = some (.v (.string (bs x1)), hp, none) := fun hp => f51_is ex1
  obtain ⟨x2, ex2, h⟩ := bindT h
  obtain ⟨x3, ex3, h⟩ := bind_ok h
  have ex3 : ∀ hp, E Try.prog Y0 53 [.v (.string (bs x1)), iv x2] hp = some (.v (.string (bs x3)), hp, none) := fun hp => f53_is ex3
  obtain ⟨x4, ex4, h⟩ := bind_ok h
  have ex4 : ∀ hp, E Try.prog Y0 51 [.a [kv .u8 p2a, kv .u8 p2b, kv .u8 p2c, kv .u8 p2d, kv .u8 p2e, kv .u8 p2f, kv .u8 p2g, kv .u8 p2h, kv .u8 p2i, kv .u8 p2j, kv .u8 p2k], iv 4, iv 3] hp = some (.v (.string (bs x4)), hp, none) := fun hp => f51_is ex4
  obtain ⟨⟨c5, l6⟩, e7, h⟩ := bind_ok h
  try dsimp only at h
  have e7 : ∀ hp, E Try.prog Y0 46 [.l .fz .full 2 [.v (.string (bs x3)), .v (.string (bs x4))]] hp = some (.l .fz c5 l6.length (l6.map tv), hp, none) := fun hp => f46_is (c0 := .full) e7
  obtain ⟨x8, ex8, h⟩ := bindT h
  simp [ex1, conv_63_3Back15, ex2, ex3, ex4, e7, ex8]
  have hL0 := h; clear h
  refine loopS (S := f15_L0 F x1 l6 x8) (fun (v9, v10, v11, v12, v13, v14, v15, v16, v17, v18, v19, v20, v21, v22, v23, v24, v25, v26, v27, v28, v29, v30, v31) σ => ∃ (ts : Tr PV) (w : Option Nat), wok hp.length w ∧ σ = ⟨[], ts, hp ++ [some [kv .u8 v10, kv .u8 v11, kv .u8 v12, kv .u8 v13, kv .u8 v14, kv .u8 v15, kv .u8 v16, kv .u8 v17, kv .u8 v18, kv .u8 v19, kv .u8 v20], some [kv .u8 v21, kv .u8 v22, kv .u8 v23, kv .u8 v24, kv .u8 v25, kv .u8 v26, kv .u8 v27, kv .u8 v28, kv .u8 v29, kv .u8 v30, kv .u8 v31]], w⟩ ∧ ts.get 7 = some (.v (.string (bs x1))) ∧ ts.get 32 = some (.l .fz c5 l6.length (l6.map tv)) ∧ ts.get 33 = some (iv x8) ∧ ts.get 34 = some (iv v9) ∧ True) (fun (v135, v136, v137, v138, v139, v140, v141, v142, v143, v144, v145, v146, v147, v148, v149, v150, v151, v152, v153, v154, v155, v156) σ => ∃ (ts : Tr PV) (w : Option Nat), wok hp.length w ∧ σ = ⟨[], ts, hp ++ [some [kv .u8 v135, kv .u8 v136, kv .u8 v137, kv .u8 v138, kv .u8 v139, kv .u8 v140, kv .u8 v141, kv .u8 v142, kv .u8 v143, kv .u8 v144, kv .u8 v145], some [kv .u8 v146, kv .u8 v147, kv .u8 v148, kv .u8 v149, kv .u8 v150, kv .u8 v151, kv .u8 v152, kv .u8 v153, kv .u8 v154, kv .u8 v155, kv .u8 v156]], w⟩ ∧ True) (fun _ => rfl) hL0 ?_ ?_ ?_
  · exact ⟨_, _, by simp, rfl, by simp [ex1, conv_63_3Back15, ex2, ex3, ex4, e7, ex8]⟩
  · rintro ⟨v135, v136, v137, v138, v139, v140, v141, v142, v143, v144, v145, v146, v147, v148, v149, v150, v151, v152, v153, v154, v155, v156⟩ σ ⟨ts, w, hw, rfl, -⟩ h
    clear hL0
    try dsimp only at h
    have q157 : ∀ hp, E Try.prog Y0 17 [] hp = some (.v (.bool true), hp, none) := fun hp => works_is
    obtain rfl := inj_ok h
    simp [q157, hw]
  · rintro k n ⟨v9, v10, v11, v12, v13, v14, v15, v16, v17, v18, v19, v20, v21, v22, v23, v24, v25, v26, v27, v28, v29, v30, v31⟩ σ ⟨ts, w, hw, rfl, g7, g32, g33, g34, -⟩ h ih ex
    clear hL0
    rw [f15_L0] at h
    obtain ⟨x32, ex32, h⟩ := bindT h
    cases x32
    case false =>
     simp [g7, g32, g33, g34, ex32]
     refine ex (v10, v11, v12, v13, v14, v15, v16, v17, v18, v19, v20, v21, v22, v23, v24, v25, v26, v27, v28, v29, v30, v31) _ ?_ h
     exact ⟨_, _, by simp [hw], rfl, by simp [g7, g32, g33, g34, ex32]⟩
    obtain ⟨y33, ey33, h⟩ := bind_ok h
    obtain ⟨ey33a, ey33e, ey33b, ey33c, ey33g⟩ := gI_ok rfl ey33
    obtain ⟨⟨m34, k35⟩, e36, h⟩ := bind_ok h
    try dsimp only at h
    have e36 : ∀ hp, E Try.prog Y0 50 [.v (.string (bs x1))] hp = some (.m .own (mE sV (Value.int .i64) m34) k35, hp, none) := fun hp => f50_is  e36
    obtain ⟨x38, ex38, h⟩ := bindT h
    have q37 : alook Try.prog 58 (mE sV (Value.int .i64) m34) (.string (bs y33)) false = some (.int .i64 x38) := (look_m (kf := sV) (vf := (Value.int .i64)) (l := m34) (k := y33) (d := 0) mty58Back15 kty9Back15 (by kernel_rfl) (fun _ => rfl) (ok := false)).trans (by rw [ex38]; rfl)
    obtain ⟨x39, ex39, h⟩ := bindT h
    obtain ⟨⟨b40, x41⟩, e42, h⟩ := bind_ok h
    try dsimp only at h
    have e42 : ∀ hp, E Try.prog Y0 18 [.v (.string (bs x1)), .v (.string (bs y33))] hp = some (.t [.v (.bool b40), iv x41], hp, none) := fun hp => f18_is  e42
    obtain ⟨x43, ex43, h⟩ := bind_ok h
    have ex43 : ∀ hp, E Try.prog Y0 55 [.v (.string (bs x1))] hp = some (.v (.string (bs x43)), hp, none) := fun hp => f55_is ex43
    obtain ⟨x44, ex44, h⟩ := bind_ok h
    have ex44 : ∀ hp, E Try.prog Y0 55 [.v (.string (bs y33))] hp = some (.v (.string (bs x44)), hp, none) := fun hp => f55_is ex44
    obtain ⟨⟨b45, x46⟩, e47, h⟩ := bind_ok h
    try dsimp only at h
    have e47 : ∀ hp, E Try.prog Y0 18 [.v (.string (bs x43)), .v (.string (bs x44))] hp = some (.t [.v (.bool b45), iv x46], hp, none) := fun hp => f18_is  e47
    obtain ⟨⟨x48, x49⟩, e50, h⟩ := bind_ok h
    try dsimp only at h
    have e50 : ∀ hp, E Try.prog Y0 20 [.v (.string (bs x1)), .v (.string (bs y33))] hp = some (.t [iv x48, iv x49], hp, none) := fun hp => f20_is  e50
    obtain ⟨⟨x51, x52⟩, e53, h⟩ := bind_ok h
    try dsimp only at h
    have e53 : ∀ hp, E Try.prog Y0 20 [.v (.string (bs x43)), .v (.string (bs x44))] hp = some (.t [iv x51, iv x52], hp, none) := fun hp => f20_is  e53
    obtain ⟨x54, ex54, h⟩ := bindT h
    cases x54
    case false =>
     obtain rfl := inj_ok h
     simp [g7, g32, g33, g34, ex32, ey33a, ey33b, ey33c, tv, e36, mty58Back15, Try.underlying58, mE_nil, shm58Back15, ex38, q37, ex39, e42, ex43, ex44, e47, e50, e53, ex54, hw]
    obtain ⟨x55, ex55, h⟩ := bindT h
    cases x55
    case false =>
     obtain rfl := inj_ok h
     simp [g7, g32, g33, g34, ex32, ey33a, ey33b, ey33c, tv, e36, mty58Back15, Try.underlying58, mE_nil, shm58Back15, ex38, q37, ex39, e42, ex43, ex44, e47, e50, e53, ex54, ex55, hw]
    obtain ⟨x56, ex56, h⟩ := bindT h
    cases x56
    case false =>
     obtain rfl := inj_ok h
     simp [g7, g32, g33, g34, ex32, ey33a, ey33b, ey33c, tv, e36, mty58Back15, Try.underlying58, mE_nil, shm58Back15, ex38, q37, ex39, e42, ex43, ex44, e47, e50, e53, ex54, ex55, ex56, hw]
    obtain ⟨x57, ex57, h⟩ := bindT h
    cases x57
    case false =>
     obtain rfl := inj_ok h
     simp [g7, g32, g33, g34, ex32, ey33a, ey33b, ey33c, tv, e36, mty58Back15, Try.underlying58, mE_nil, shm58Back15, ex38, q37, ex39, e42, ex43, ex44, e47, e50, e53, ex54, ex55, ex56, ex57, hw]
    obtain ⟨x58, ex58, h⟩ := bindT h
    cases x58
    case true =>
     obtain rfl := inj_ok h
     simp [g7, g32, g33, g34, ex32, ey33a, ey33b, ey33c, tv, e36, mty58Back15, Try.underlying58, mE_nil, shm58Back15, ex38, q37, ex39, e42, ex43, ex44, e47, e50, e53, ex54, ex55, ex56, ex57, bool_neq_4Back15, ex58, hw]
    obtain ⟨x59, ex59, h⟩ := bindT h
    cases x59
    case true =>
     obtain rfl := inj_ok h
     simp [g7, g32, g33, g34, ex32, ey33a, ey33b, ey33c, tv, e36, mty58Back15, Try.underlying58, mE_nil, shm58Back15, ex38, q37, ex39, e42, ex43, ex44, e47, e50, e53, ex54, ex55, ex56, ex57, bool_neq_4Back15, ex58, ex59, hw]
    obtain ⟨x60, ex60, h⟩ := bindT h
    cases x60
    case false =>
     obtain rfl := inj_ok h
     simp [g7, g32, g33, g34, ex32, ey33a, ey33b, ey33c, tv, e36, mty58Back15, Try.underlying58, mE_nil, shm58Back15, ex38, q37, ex39, e42, ex43, ex44, e47, e50, e53, ex54, ex55, ex56, ex57, bool_neq_4Back15, ex58, ex59, ex60, hw]
    have q61 : alook Try.prog 58 (mE sV (Value.int .i64) m34) (.string (bs y33)) false = some (.int .i64 x38) := (look_m (kf := sV) (vf := (Value.int .i64)) (l := m34) (k := y33) (d := 0) mty58Back15 kty9Back15 (by kernel_rfl) (fun _ => rfl) (ok := false)).trans (by rw [ex38]; rfl)
    obtain ⟨x62, ex62, h⟩ := bindT h
    cases x62
    case false =>
     obtain rfl := inj_ok h
     simp [g7, g32, g33, g34, ex32, ey33a, ey33b, ey33c, tv, e36, mty58Back15, Try.underlying58, mE_nil, shm58Back15, ex38, q37, ex39, e42, ex43, ex44, e47, e50, e53, ex54, ex55, ex56, ex57, bool_neq_4Back15, ex58, ex59, ex60, q61, ex62, hw]
    obtain ⟨⟨⟨c63, l64⟩, x65⟩, e66, h⟩ := bind_ok h
    try dsimp only at h
    have e66 : ∀ hp, E Try.prog Y0 22 [.v (.string (bs x1)), .v (.string (bs y33))] hp = some (.t [.l .fz c63 l64.length (l64.map iv), iv x65], hp, none) := fun hp => f22_is  e66
    cases x39
    case false =>
     obtain ⟨x131, ex131, h⟩ := bindT h
     cases x131
     case false =>
      obtain rfl := inj_ok h
      simp [g7, g32, g33, g34, ex32, ey33a, ey33b, ey33c, tv, e36, mty58Back15, Try.underlying58, mE_nil, shm58Back15, ex38, q37, ex39, e42, ex43, ex44, e47, e50, e53, ex54, ex55, ex56, ex57, bool_neq_4Back15, ex58, ex59, ex60, q61, ex62, e66, ex131, hw]
     obtain ⟨x132, ex132, h⟩ := bindT h
     obtain ⟨x133, ex133, h⟩ := bindT h
     cases x133
     case true =>
      obtain rfl := inj_ok h
      simp [g7, g32, g33, g34, ex32, ey33a, ey33b, ey33c, tv, e36, mty58Back15, Try.underlying58, mE_nil, shm58Back15, ex38, q37, ex39, e42, ex43, ex44, e47, e50, e53, ex54, ex55, ex56, ex57, bool_neq_4Back15, ex58, ex59, ex60, q61, ex62, e66, ex131, ex132, ex133, hw]
     obtain ⟨x134, ex134, h⟩ := bindT h
     simp [g7, g32, g33, g34, ex32, ey33a, ey33b, ey33c, tv, e36, mty58Back15, Try.underlying58, mE_nil, shm58Back15, ex38, q37, ex39, e42, ex43, ex44, e47, e50, e53, ex54, ex55, ex56, ex57, bool_neq_4Back15, ex58, ex59, ex60, q61, ex62, e66, ex131, ex132, ex133, ex134]
     refine ih (x134, v10, v11, v12, v13, v14, v15, v16, v17, v18, v19, v20, v21, v22, v23, v24, v25, v26, v27, v28, v29, v30, v31) _ ?_ h
     exact ⟨_, _, by simp [hw], rfl, by simp [g7, g32, g33, g34, ex32, ey33a, ey33b, ey33c, tv, e36, mty58Back15, Try.underlying58, mE_nil, shm58Back15, ex38, q37, ex39, e42, ex43, ex44, e47, e50, e53, ex54, ex55, ex56, ex57, bool_neq_4Back15, ex58, ex59, ex60, q61, ex62, e66, ex131, ex132, ex133, ex134]⟩
    obtain ⟨x67, ex67, h⟩ := bindT h
    cases x67
    case false =>
     obtain rfl := inj_ok h
     simp [g7, g32, g33, g34, ex32, ey33a, ey33b, ey33c, tv, e36, mty58Back15, Try.underlying58, mE_nil, shm58Back15, ex38, q37, ex39, e42, ex43, ex44, e47, e50, e53, ex54, ex55, ex56, ex57, bool_neq_4Back15, ex58, ex59, ex60, q61, ex62, e66, ex67, hw]
    obtain ⟨x68, ex68, h⟩ := bindT h
    obtain ⟨x69, ex69, h⟩ := bindT h
    obtain ⟨x70, ex70, h⟩ := bindT h
    cases x70
    case false =>
     obtain rfl := inj_ok h
     simp [g7, g32, g33, g34, ex32, ey33a, ey33b, ey33c, tv, e36, mty58Back15, Try.underlying58, mE_nil, shm58Back15, ex38, q37, ex39, e42, ex43, ex44, e47, e50, e53, ex54, ex55, ex56, ex57, bool_neq_4Back15, ex58, ex59, ex60, q61, ex62, e66, ex67, ex68, ex69, ex70, hw]
    simp [g7, g32, g33, g34, ex32, ey33a, ey33b, ey33c, tv, e36, mty58Back15, Try.underlying58, mE_nil, shm58Back15, ex38, q37, ex39, e42, ex43, ex44, e47, e50, e53, ex54, ex55, ex56, ex57, bool_neq_4Back15, ex58, ex59, ex60, q61, ex62, e66, ex67, ex68, ex69, ex70]
    have hL1 := h; clear h
    refine loopS (S := f15_L1 F x1 y33 l64 x68) (fun (v71, v72, v73, v74, v75, v76, v77, v78, v79, v80, v81, v82, v83, v84, v85, v86, v87, v88, v89, v90, v91, v92, v93, v94) σ => ∃ (ts : Tr PV) (w : Option Nat), wok hp.length w ∧ σ = ⟨[], ts, hp ++ [some [kv .u8 v73, kv .u8 v74, kv .u8 v75, kv .u8 v76, kv .u8 v77, kv .u8 v78, kv .u8 v79, kv .u8 v80, kv .u8 v81, kv .u8 v82, kv .u8 v83], some [kv .u8 v84, kv .u8 v85, kv .u8 v86, kv .u8 v87, kv .u8 v88, kv .u8 v89, kv .u8 v90, kv .u8 v91, kv .u8 v92, kv .u8 v93, kv .u8 v94]], w⟩ ∧ ts.get 7 = some (.v (.string (bs x1))) ∧ ts.get 9 = some (.v (.string (bs y33))) ∧ ts.get 20 = some (iv v71) ∧ ts.get 32 = some (.l .fz c5 l6.length (l6.map tv)) ∧ ts.get 33 = some (iv x8) ∧ ts.get 34 = some (iv v9) ∧ ts.get 132 = some (.l .fz c63 l64.length (l64.map iv)) ∧ ts.get 133 = some (iv x68) ∧ ts.get 134 = some (iv v72) ∧ True) (fun (v108, v109, v110, v111, v112, v113, v114, v115, v116, v117, v118, v119, v120, v121, v122, v123, v124, v125, v126, v127, v128, v129) σ => ∃ (ts : Tr PV) (w : Option Nat), wok hp.length w ∧ σ = ⟨[], ts, hp ++ [some [kv .u8 v108, kv .u8 v109, kv .u8 v110, kv .u8 v111, kv .u8 v112, kv .u8 v113, kv .u8 v114, kv .u8 v115, kv .u8 v116, kv .u8 v117, kv .u8 v118], some [kv .u8 v119, kv .u8 v120, kv .u8 v121, kv .u8 v122, kv .u8 v123, kv .u8 v124, kv .u8 v125, kv .u8 v126, kv .u8 v127, kv .u8 v128, kv .u8 v129]], w⟩ ∧ ts.get 7 = some (.v (.string (bs x1))) ∧ ts.get 32 = some (.l .fz c5 l6.length (l6.map tv)) ∧ ts.get 33 = some (iv x8) ∧ ts.get 34 = some (iv v9) ∧ True) (fun _ => rfl) hL1 ?_ ?_ ?_
    · exact ⟨_, _, by simp [hw], rfl, by simp [g7, g32, g33, g34, ex32, ey33a, ey33b, ey33c, tv, e36, mty58Back15, Try.underlying58, mE_nil, shm58Back15, ex38, q37, ex39, e42, ex43, ex44, e47, e50, e53, ex54, ex55, ex56, ex57, bool_neq_4Back15, ex58, ex59, ex60, q61, ex62, e66, ex67, ex68, ex69, ex70]⟩
    · rintro ⟨v108, v109, v110, v111, v112, v113, v114, v115, v116, v117, v118, v119, v120, v121, v122, v123, v124, v125, v126, v127, v128, v129⟩ σ ⟨ts, w, hw, rfl, g7, g32, g33, g34, -⟩ h
      clear hL1
      try dsimp only at h
      obtain ⟨x130, ex130, h⟩ := bindT h
      simp [g7, g32, g33, g34, ex130]
      refine ih (x130, v108, v109, v110, v111, v112, v113, v114, v115, v116, v117, v118, v119, v120, v121, v122, v123, v124, v125, v126, v127, v128, v129) _ ?_ h
      exact ⟨_, _, by simp [hw], rfl, by simp [g7, g32, g33, g34, ex130]⟩
    · rintro k n ⟨v71, v72, v73, v74, v75, v76, v77, v78, v79, v80, v81, v82, v83, v84, v85, v86, v87, v88, v89, v90, v91, v92, v93, v94⟩ σ ⟨ts, w, hw, rfl, g7, g9, g20, g32, g33, g34, g132, g133, g134, -⟩ h ih ex
      clear hL1
      rw [f15_L1] at h
      obtain ⟨x95, ex95, h⟩ := bindT h
      cases x95
      case false =>
       simp [g7, g9, g20, g32, g33, g34, g132, g133, g134, ex95]
       refine ex (v73, v74, v75, v76, v77, v78, v79, v80, v81, v82, v83, v84, v85, v86, v87, v88, v89, v90, v91, v92, v93, v94) _ ?_ h
       exact ⟨_, _, by simp [hw], rfl, by simp [g7, g9, g20, g32, g33, g34, g132, g133, g134, ex95]⟩
      obtain ⟨y96, ey96, h⟩ := bind_ok h
      obtain ⟨ey96a, ey96e, ey96b, ey96c, ey96g⟩ := gI_ok rfl ey96
      obtain ⟨x97, ex97, h⟩ := bindT h
      cases x97
      case true =>
       obtain rfl := inj_ok h
       simp [g7, g9, g20, g32, g33, g34, g132, g133, g134, ex95, ey96a, ey96b, ey96c, ex97, hw]
      obtain ⟨x98, ex98, h⟩ := bindT h
      obtain ⟨x99, ex99, h⟩ := bindT h
      cases x99
      case true =>
       obtain rfl := inj_ok h
       simp [g7, g9, g20, g32, g33, g34, g132, g133, g134, ex95, ey96a, ey96b, ey96c, ex97, ex98, ex99, hw]
      obtain ⟨x100, ex100, h⟩ := bind_ok h
      have ex100 := (gS_ok (P := Try.prog) (t := 9) (k := .i64) Try.underlying9 shape9 ex100).1
      obtain ⟨x101, ex101, h⟩ := bind_ok h
      have ex101 := (gS_ok (P := Try.prog) (t := 9) (k := .i64) Try.underlying9 shape9 ex101).1
      obtain ⟨x102, ex102, h⟩ := bindT h
      cases x102
      case false =>
       obtain rfl := inj_ok h
       simp [g7, g9, g20, g32, g33, g34, g132, g133, g134, ex95, ey96a, ey96b, ey96c, ex97, ex98, ex99, ex100, ex101, ex102, hw]
      obtain ⟨x103, ex103, h⟩ := bind_ok h
      have ex103 := fun {k j : IntKind} => sub2_ok (P := Try.prog) (t := 9) Try.underlying9 ex103 (k := k) (j := j)
      obtain ⟨x104, ex104, h⟩ := bind_ok h
      have ex104 : ∀ hp, E Try.prog Y0 56 [.v (.string (bs x103)), kv .u8 x101] hp = some (iv x104, hp, none) := fun hp => f56_is ex104
      obtain ⟨x105, ex105, h⟩ := bindT h
      cases x105
      case true =>
       obtain rfl := inj_ok h
       simp [g7, g9, g20, g32, g33, g34, g132, g133, g134, ex95, ey96a, ey96b, ey96c, ex97, ex98, ex99, ex100, ex101, ex102, ex103, shape9, pqSlice, ex104, ex105, hw]
      obtain ⟨x106, ex106, h⟩ := bindT h
      obtain ⟨x107, ex107, h⟩ := bindT h
      simp [g7, g9, g20, g32, g33, g34, g132, g133, g134, ex95, ey96a, ey96b, ey96c, ex97, ex98, ex99, ex100, ex101, ex102, ex103, shape9, pqSlice, ex104, ex105, ex106, ex107]
      refine ih (x106, x107, v73, v74, v75, v76, v77, v78, v79, v80, v81, v82, v83, v84, v85, v86, v87, v88, v89, v90, v91, v92, v93, v94) _ ?_ h
      exact ⟨_, _, by simp [hw], rfl, by simp [g7, g9, g20, g32, g33, g34, g132, g133, g134, ex95, ey96a, ey96b, ey96c, ex97, ex98, ex99, ex100, ex101, ex102, ex103, shape9, pqSlice, ex104, ex105, ex106, ex107]⟩
end Go.Proofs.Ytmnmfmghmenkkaa
