/-
  the law of differing parts
  Printed by wip/tools/walk.py. Conditions: none; definitions and lemmas.
-/
import Derived.Test.YtmnmfmghmenkkaaApart40
import Derived.Test.YtmnmfmghmenkkaaParts50
set_option linter.unusedSimpArgs false
set_option linter.unusedVariables false
namespace Go.Proofs.Ytmnmfmghmenkkaa
open Go.Abs Go.Pur
set_option maxRecDepth 100000
set_option maxHeartbeats 2000000
attribute [local simp] EK_region EK_seq EK_cond EK_block EK_blk EK_loop EK_exit EK.ex EK_ret EK_skip EK_nil EO_cons EO_nil EO1_true EO1_false EO2_some EO3_some EB_true EB_false pwanted poper pq pev Go.Pur.look pputT isAssign drOf pinit Tr.get_set lget pvOf_int pvOf_bool pvOf_str pvOf_nil rdv_ak notOwn_ak prt_ak loose_ak rdv_own rdv_fz rdv_bor rdv_rf rdv_pt rdv_v rdv_a rdv_t rdv_r rdv_p rdv_s rdv_f pbin plen pload ppart idxAddr pcond Nat.blt goInt_eq prun_not prun_neg mayLoad ER_ret ER_normal presL presOne moved stor okDrop settle_v settle_l settle_a settle_p settle_f noref_v noref_fz noref_a norefs_nil norefs_cons pclose given dropB Y0_keep pevParts stors pvCells pvCells.go vcells pfill reps zipParts ownFz pcells cellOK one psrcLen srcFits psrc takeP pgrow take getPl setPl mapL plEq elder isList lowP pevs frzs addP partAt ble_lim24 killV_v killV_a killV_t killV_f killV_i killV_p killV_s killV_un killV_dead killV_lfz killV_lbor killV_lown killV_rfz killV_rbor killV_lak killV_rak frzV_v frzV_a frzV_t frzV_f frzV_i frzV_p frzV_s frzV_un frzV_dead frzV_lfz frzV_lbor frzV_lown frzV_rfz frzV_rbor frzV_lak frzV_rak killCell_v killCell_a killCell_t killCell_f killCell_i killCell_p killCell_s killCell_un killCell_dead killCell_lfz killCell_lbor killCell_lown killCell_rfz killCell_rbor killCell_lak killCell_rak killV_lrf killV_lpt killV_rpt frzV_lrf frzV_lpt frzV_rpt killCell_lrft killCell_lptt killCell_rptt killCell_lrfc killCell_lptc killCell_rptc argv_lak argv_rak argv_v argv_a argv_p argv_f argv_fz argv_bor argv_rf argv_pt argv_rc argv_own mayTurn_none argvs pcallOp firm refsTo_v refsTo_l refsTo_p refsTo_s refsTo_a refsTo_dead refsTo_nil refsTo_cons isOwn_lak ownFz_lak evSafe pskip plain pnewBlk fldAddr isOwn pput notOwn_fz notOwn_bor notOwn_own notOwn_rf notOwn_pt prt_fz prt_bor prt_own prt_rf prt_pt Go.Pur.freeze presM settles abin_and abin_or abin_andNot abin_mul abin_shr abin_shl abin_add abin_sub abin_eql abin_neq abin_lss abin_leq abin_gtr abin_geq hows pcallIn Y0_how Y0_part howOf partOf rdv_mown rdv_mfz rdv_mbor rdv_mrf killV_mown killV_mfz killV_mbor killV_mrf frzV_mown frzV_mfz frzV_mbor frzV_mrf killCell_mown killCell_mfz killCell_mbor killCell_mrf argv_mfz argv_mbor argv_mrf settle_m kls_v kls_l kls_a kls_t kls_r kls_p kls_s kls_f kls_i kls_it kls_un kls_dead kls_mown kls_mrf kls_mbor kls_mfz fzOf takable mapHere mapOwn mapTo flat toPlain toPlain.go ofFlat ofPair mapEs plook lookRes Y0_mv mvOf mvBlk premv Y0_fzm fzmOf poperX pconv keep8 keep9 sz3 by3 row3 zero3 sz4 by4 row4 zero4 sz5 by5 row5 zero5 sz9 by9 row9 shape9 zero9 sz21 by21 row21 zero21 sz22 by22 row22 zero22 sz24 by24 row24 zero24 sz29 by29 row29 shape29 zero29 sz36 by36 row36 shape36 zero36 sz52 by52 row52 shape52 zero52 parts52 sz54 by54 row54 zero54 parts54 field54_0 field54_1 sz58 by58 row58 zero58 mt58 az3 sz63 by63 row63 zero63 sz66 by66 row66 shape66 zero66 parts66 sz67 by67 row67 shape67 zero67 sz75 by75 row75 shape75 zero75 sz76 by76 row76 shape76 zero76 sz78 by78 row78 zero78 mt78 sz79 by79 row79 shape79 zero79 sz92 by92 row92 zero92 sz94 by94 row94 zero94 parts94 field94_0 field94_1 sz99 by99 row99 shape99 zero99 sz102 by102 row102 zero102 mt102 az4 sz103 by103 row103 zero103 mt103 sz106 by106 row106 zero106 parts106 field106_0 field106_1 sz108 by108 row108 zero108 parts108 field108_0 field108_1 sz109 by109 row109 shape109 zero109 sz110 by110 row110 zero110 mt110 sz112 by112 row112 zero112 sz115 by115 row115 zero115 sz116 by116 row116 zero116 sz119 by119 row119 zero119 sz127 by127 row127 zero127 sz129 by129 row129 zero129 sz130 by130 row130 zero130 sz134 by134 row134 zero134 bs_size gAt gAt0 sAt sAt0 optPlain rows_len noMaker_eq kindOf vlOf abin_rem abin_quo mayTurn_none lowOf_none Go.Pur.partAt rows_nil rows_cons ble_add ble_add0 ble_same toPlain toPlain.go intIn2_0 intIn2_1 ble12 ble22 tv lv max_int min_int pplains ak_true ak_false apartP beq_add beq_add0 beq_add1 argv_s wok_none wok_low_iff lowOf_wok
theorem conv_5_3Law9 {z : Int} : prunP Try.prog (convert 5 3 (.int .u8 z)) = some (.int .i64 (IntKind.i64.wrap z)) := by kernel_rfl
theorem bool_neq_4Law9 {x y : Operand} {a b : Bool} : abin Try.prog .neq 4 x y (.bool a) (.bool b) = some (.bool (a != b)) := by cases a <;> cases b <;> kernel_rfl
theorem bool_eql_4Law9 {x y : Operand} {a b : Bool} : abin Try.prog .eql 4 x y (.bool a) (.bool b) = some (.bool (a == b)) := by cases a <;> cases b <;> kernel_rfl
def f8_L0 (F : Nat) (x6 : List UInt8) (x7 : List UInt8) (s17 : List UInt8) (K : Int × Int × Int × Int × Int × Int × Int × Int × Int × Int × Int × Int × Int × Int × Int × Int × Int × Int × Int × Int × Int × Int → Option (Bool)) : Nat → Int × Int × Int × Int × Int × Int × Int × Int × Int × Int × Int × Int × Int × Int × Int × Int × Int × Int × Int × Int × Int × Int × Int → Option (Bool)
  | 0, _ => none
  | n + 1, (v31, v32, v33, v34, v35, v36, v37, v38, v39, v40, v41, v42, v43, v44, v45, v46, v47, v48, v49, v50, v51, v52, v53) => (some (decide (v31 < 11))).bind fun x54 =>
    (match x54 with
    | true => ((f42S F x6 x7 v31).bind fun (b55, x56) =>
    (some (decide (x56 = 0))).bind fun x58 =>
    (match x58 with
    | true => ((some ((s17.length : Int))).bind fun x59 =>
    (some (decide (v31 < x59))).bind fun x60 =>
    (some ((b55 != x60))).bind fun x61 =>
    (match x61 with
    | true => (some false)
    | false => ((some (IntKind.i64.wrap (v31 + 1))).bind fun x62 =>
    f8_L0 F x6 x7 s17 K n (x62, v32, v33, v34, v35, v36, v37, v38, v39, v40, v41, v42, v43, v44, v45, v46, v47, v48, v49, v50, v51, v52, v53))))
    | false => (some false)))
    | false => (K (v32, v33, v34, v35, v36, v37, v38, v39, v40, v41, v42, v43, v44, v45, v46, v47, v48, v49, v50, v51, v52, v53)))
def f8S (F : Nat) (p0a : Int) (p0b : Int) (p0c : Int) (p0d : Int) (p0e : Int) (p0f : Int) (p0g : Int) (p0h : Int) (p0i : Int) (p0j : Int) (p0k : Int) (p1a : Int) (p1b : Int) (p1c : Int) (p1d : Int) (p1e : Int) (p1f : Int) (p1g : Int) (p1h : Int) (p1i : Int) (p1j : Int) (p1k : Int) (p2 : Int) : Option (Bool) :=
  (some (IntKind.i64.wrap p2)).bind fun x1 =>
  (some (Int.tmod x1 4)).bind fun x2 =>
  (some (IntKind.i64.wrap (1 + x2))).bind fun x3 =>
  (some (IntKind.i64.wrap p0a)).bind fun x4 =>
  (some (Int.tmod x4 9)).bind fun x5 =>
  (f48O [p0a, p0b, p0c, p0d, p0e, p0f, p0g, p0h, p0i, p0j, p0k] x5 x3).bind fun x6 =>
  (f48O [p1a, p1b, p1c, p1d, p1e, p1f, p1g, p1h, p1i, p1j, p1k] x5 x3).bind fun x7 =>
  (f50S F x6).bind fun (m8, k9) =>
  (f50S F x7).bind fun (m11, k12) =>
  (f49O m8 k9 m11 k12).bind fun (s14, b15) =>
  (f40S F x6 x7).bind fun (s17, x18) =>
  (some (decide (x6 = x7))).bind fun x20 =>
  (some ((b15 != (!x20)))).bind fun x21 =>
  (match x21 with
  | true => (some false)
  | false => ((match b15 with
  | true => ((some (decide (x18 = 0))).bind fun x22 =>
  (match x22 with
  | true => ((some (decide (s17 = s14))).bind fun x23 =>
  (match x23 with
  | true => ((some ((s17.length : Int))).bind fun x24 =>
  (some (IntKind.i64.wrap (Int.tdiv x5 2))).bind fun x25 =>
  (some (IntKind.i64.wrap (x25 + 1))).bind fun x26 =>
  (some (decide (x26 < x24))).bind fun x27 =>
  (match x27 with
  | true => (some false)
  | false => ((leftO x6 s17).bind fun x28 =>
  (leftO x7 s17).bind fun x29 =>
  (some ((x28 == x29))).bind fun x30 =>
  (match x30 with
  | true => (some false)
  | false => (f8_L0 F x6 x7 s17 (fun (v63, v64, v65, v66, v67, v68, v69, v70, v71, v72, v73, v74, v75, v76, v77, v78, v79, v80, v81, v82, v83, v84) =>
    some true) F (0, p0a, p0b, p0c, p0d, p0e, p0f, p0g, p0h, p0i, p0j, p0k, p1a, p1b, p1c, p1d, p1e, p1f, p1g, p1h, p1i, p1j, p1k))))))
  | false => (some false)))
  | false => (some false)))
  | false => ((f42S F x6 x7 10).bind fun (b86, x87) =>
  (some (decide (x18 = 13))).bind fun x89 =>
  (match x89 with
  | true => ((some (decide (s17 = []))).bind fun x90 =>
  (match x90 with
  | true => ((some (decide (x87 = 0))).bind fun x91 =>
  (match x91 with
  | true => ((match b86 with
  | true => (some true)
  | false => (some false)))
  | false => (some false)))
  | false => (some false)))
  | false => (some false))))))
theorem f8_is {p0a : Int} {p0b : Int} {p0c : Int} {p0d : Int} {p0e : Int} {p0f : Int} {p0g : Int} {p0h : Int} {p0i : Int} {p0j : Int} {p0k : Int} {p1a : Int} {p1b : Int} {p1c : Int} {p1d : Int} {p1e : Int} {p1f : Int} {p1g : Int} {p1h : Int} {p1i : Int} {p1j : Int} {p1k : Int} {p2 : Int} {hp : List (Option (List PV))} {F : Nat} {r : (Bool)}  (h : f8S F p0a p0b p0c p0d p0e p0f p0g p0h p0i p0j p0k p1a p1b p1c p1d p1e p1f p1g p1h p1i p1j p1k p2 = some r) :
    E Try.prog Y0 8 [.a [kv .u8 p0a, kv .u8 p0b, kv .u8 p0c, kv .u8 p0d, kv .u8 p0e, kv .u8 p0f, kv .u8 p0g, kv .u8 p0h, kv .u8 p0i, kv .u8 p0j, kv .u8 p0k], .a [kv .u8 p1a, kv .u8 p1b, kv .u8 p1c, kv .u8 p1d, kv .u8 p1e, kv .u8 p1f, kv .u8 p1g, kv .u8 p1h, kv .u8 p1i, kv .u8 p1j, kv .u8 p1k], kv .u8 p2] hp = some (.v (.bool r), hp, none) := by
  rw [E_bodyN 3 body8 rfl (by decide) rfl]
  simp only [Try.f8, Option.get_some]
  unfold f8S at h
  obtain ⟨x1, ex1, h⟩ := bindT h
  obtain ⟨x2, ex2, h⟩ := bindT h
  obtain ⟨x3, ex3, h⟩ := bindT h
  obtain ⟨x4, ex4, h⟩ := bindT h
  obtain ⟨x5, ex5, h⟩ := bindT h
  obtain ⟨x6, ex6, h⟩ := bind_ok h
  have ex6 : ∀ hp, E Try.prog Y0 48 [.a [kv .u8 p0a, kv .u8 p0b, kv .u8 p0c, kv .u8 p0d, kv .u8 p0e, kv .u8 p0f, kv .u8 p0g, kv .u8 p0h, kv .u8 p0i, kv .u8 p0j, kv .u8 p0k], iv x5, iv x3] hp = some (.v (.string (bs x6)), hp, none) := fun hp => f48_is ex6
  obtain ⟨x7, ex7, h⟩ := bind_ok h
  have ex7 : ∀ hp, E Try.prog Y0 48 [.a [kv .u8 p1a, kv .u8 p1b, kv .u8 p1c, kv .u8 p1d, kv .u8 p1e, kv .u8 p1f, kv .u8 p1g, kv .u8 p1h, kv .u8 p1i, kv .u8 p1j, kv .u8 p1k], iv x5, iv x3] hp = some (.v (.string (bs x7)), hp, none) := fun hp => f48_is ex7
  obtain ⟨⟨m8, k9⟩, e10, h⟩ := bind_ok h
  try dsimp only at h
  have e10 : ∀ hp, E Try.prog Y0 50 [.v (.string (bs x6))] hp = some (.m .own (mE sV (Value.int .i64) m8) k9, hp, none) := fun hp => f50_is  e10
  obtain ⟨⟨m11, k12⟩, e13, h⟩ := bind_ok h
  try dsimp only at h
  have e13 : ∀ hp, E Try.prog Y0 50 [.v (.string (bs x7))] hp = some (.m .own (mE sV (Value.int .i64) m11) k12, hp, none) := fun hp => f50_is  e13
  obtain ⟨⟨s14, b15⟩, e16, h⟩ := bind_ok h
  try dsimp only at h
  have e16 : ∀ hp, E Try.prog Y0 49 [.m .fz (mE sV (Value.int .i64) m8) k9, .m .fz (mE sV (Value.int .i64) m11) k12] hp = some (.t [.v (.string (bs s14)), .v (.bool b15)], hp, none) := fun hp => f49_is e16
  obtain ⟨⟨s17, x18⟩, e19, h⟩ := bind_ok h
  try dsimp only at h
  have e19 : ∀ hp, E Try.prog Y0 40 [.v (.string (bs x6)), .v (.string (bs x7))] hp = some (.t [.v (.string (bs s17)), iv x18], hp, none) := fun hp => f40_is  e19
  obtain ⟨x20, ex20, h⟩ := bind_ok h
  have ex20p := inj_ok ex20
  have ex20 : decide (bs x6 = bs x7) = x20 := (decide_eq_decide.2 bs_eq).trans (inj_ok ex20)
  obtain ⟨x21, ex21, h⟩ := bindT h
  cases x21
  case true =>
   obtain rfl := inj_ok h
   simp [conv_5_3Law9, ex1, ex2, ex3, ex4, ex5, ex6, ex7, e10, e13, e16, e19, ex20, ex20p, abin_seql, abin_sneq, bool_neq_4Law9, ex21]
  cases b15
  case false =>
   obtain ⟨⟨b86, x87⟩, e88, h⟩ := bind_ok h
   try dsimp only at h
   have e88 : ∀ hp, E Try.prog Y0 42 [.v (.string (bs x6)), .v (.string (bs x7)), iv 10] hp = some (.t [.v (.bool b86), iv x87], hp, none) := fun hp => f42_is  e88
   obtain ⟨x89, ex89, h⟩ := bindT h
   cases x89
   case false =>
    obtain rfl := inj_ok h
    simp [conv_5_3Law9, ex1, ex2, ex3, ex4, ex5, ex6, ex7, e10, e13, e16, e19, ex20, ex20p, abin_seql, abin_sneq, bool_neq_4Law9, ex21, e88, ex89]
   obtain ⟨x90, ex90, h⟩ := bind_ok h
   have ex90p := inj_ok ex90
   have ex90 : decide (bs s17 = bs []) = x90 := (decide_eq_decide.2 bs_eq).trans (inj_ok ex90)
   cases x90
   case false =>
    obtain rfl := inj_ok h
    simp [conv_5_3Law9, ex1, ex2, ex3, ex4, ex5, ex6, ex7, e10, e13, e16, e19, ex20, ex20p, abin_seql, abin_sneq, bool_neq_4Law9, ex21, e88, ex89, ex90, ex90p]
   obtain ⟨x91, ex91, h⟩ := bindT h
   cases x91
   case false =>
    obtain rfl := inj_ok h
    simp [conv_5_3Law9, ex1, ex2, ex3, ex4, ex5, ex6, ex7, e10, e13, e16, e19, ex20, ex20p, abin_seql, abin_sneq, bool_neq_4Law9, ex21, e88, ex89, ex90, ex90p, ex91]
   cases b86
   case false =>
    obtain rfl := inj_ok h
    simp [conv_5_3Law9, ex1, ex2, ex3, ex4, ex5, ex6, ex7, e10, e13, e16, e19, ex20, ex20p, abin_seql, abin_sneq, bool_neq_4Law9, ex21, e88, ex89, ex90, ex90p, ex91]
   have q92 : ∀ hp, E Try.prog Y0 17 [] hp = some (.v (.bool true), hp, none) := fun hp => works_is
   obtain rfl := inj_ok h
   simp [conv_5_3Law9, ex1, ex2, ex3, ex4, ex5, ex6, ex7, e10, e13, e16, e19, ex20, ex20p, abin_seql, abin_sneq, bool_neq_4Law9, ex21, e88, ex89, ex90, ex90p, ex91, q92]
  obtain ⟨x22, ex22, h⟩ := bindT h
  cases x22
  case false =>
   obtain rfl := inj_ok h
   simp [conv_5_3Law9, ex1, ex2, ex3, ex4, ex5, ex6, ex7, e10, e13, e16, e19, ex20, ex20p, abin_seql, abin_sneq, bool_neq_4Law9, ex21, ex22]
  obtain ⟨x23, ex23, h⟩ := bind_ok h
  have ex23p := inj_ok ex23
  have ex23 : decide (bs s17 = bs s14) = x23 := (decide_eq_decide.2 bs_eq).trans (inj_ok ex23)
  cases x23
  case false =>
   obtain rfl := inj_ok h
   simp [conv_5_3Law9, ex1, ex2, ex3, ex4, ex5, ex6, ex7, e10, e13, e16, e19, ex20, ex20p, abin_seql, abin_sneq, bool_neq_4Law9, ex21, ex22, ex23, ex23p]
  obtain ⟨x24, ex24, h⟩ := bindT h
  obtain ⟨x25, ex25, h⟩ := bindT h
  obtain ⟨x26, ex26, h⟩ := bindT h
  obtain ⟨x27, ex27, h⟩ := bindT h
  cases x27
  case true =>
   obtain rfl := inj_ok h
   simp [conv_5_3Law9, ex1, ex2, ex3, ex4, ex5, ex6, ex7, e10, e13, e16, e19, ex20, ex20p, abin_seql, abin_sneq, bool_neq_4Law9, ex21, ex22, ex23, ex23p, ex24, ex25, ex26, ex27]
  obtain ⟨x28, ex28, h⟩ := bind_ok h
  have ex28 : ∀ hp, E Try.prog Y0 27 [.v (.string (bs x6)), .v (.string (bs s17))] hp = some (.v (.bool x28), hp, none) := fun hp => f27_is ex28
  obtain ⟨x29, ex29, h⟩ := bind_ok h
  have ex29 : ∀ hp, E Try.prog Y0 27 [.v (.string (bs x7)), .v (.string (bs s17))] hp = some (.v (.bool x29), hp, none) := fun hp => f27_is ex29
  obtain ⟨x30, ex30, h⟩ := bindT h
  cases x30
  case true =>
   obtain rfl := inj_ok h
   simp [conv_5_3Law9, ex1, ex2, ex3, ex4, ex5, ex6, ex7, e10, e13, e16, e19, ex20, ex20p, abin_seql, abin_sneq, bool_neq_4Law9, ex21, ex22, ex23, ex23p, ex24, ex25, ex26, ex27, ex28, ex29, bool_eql_4Law9, ex30]
  simp [conv_5_3Law9, ex1, ex2, ex3, ex4, ex5, ex6, ex7, e10, e13, e16, e19, ex20, ex20p, abin_seql, abin_sneq, bool_neq_4Law9, ex21, ex22, ex23, ex23p, ex24, ex25, ex26, ex27, ex28, ex29, bool_eql_4Law9, ex30]
  have hL0 := h; clear h
  refine loopS (S := f8_L0 F x6 x7 s17) (fun (v31, v32, v33, v34, v35, v36, v37, v38, v39, v40, v41, v42, v43, v44, v45, v46, v47, v48, v49, v50, v51, v52, v53) σ => ∃ (ts : Tr PV) (w : Option Nat), wok hp.length w ∧ σ = ⟨[], ts, hp ++ [some [kv .u8 v32, kv .u8 v33, kv .u8 v34, kv .u8 v35, kv .u8 v36, kv .u8 v37, kv .u8 v38, kv .u8 v39, kv .u8 v40, kv .u8 v41, kv .u8 v42], some [kv .u8 v43, kv .u8 v44, kv .u8 v45, kv .u8 v46, kv .u8 v47, kv .u8 v48, kv .u8 v49, kv .u8 v50, kv .u8 v51, kv .u8 v52, kv .u8 v53]], w⟩ ∧ ts.get 9 = some (.v (.string (bs x6))) ∧ ts.get 10 = some (.v (.string (bs x7))) ∧ ts.get 13 = some (.v (.string (bs s17))) ∧ ts.get 103 = some (iv v31) ∧ True) (fun (v63, v64, v65, v66, v67, v68, v69, v70, v71, v72, v73, v74, v75, v76, v77, v78, v79, v80, v81, v82, v83, v84) σ => ∃ (ts : Tr PV) (w : Option Nat), wok hp.length w ∧ σ = ⟨[], ts, hp ++ [some [kv .u8 v63, kv .u8 v64, kv .u8 v65, kv .u8 v66, kv .u8 v67, kv .u8 v68, kv .u8 v69, kv .u8 v70, kv .u8 v71, kv .u8 v72, kv .u8 v73], some [kv .u8 v74, kv .u8 v75, kv .u8 v76, kv .u8 v77, kv .u8 v78, kv .u8 v79, kv .u8 v80, kv .u8 v81, kv .u8 v82, kv .u8 v83, kv .u8 v84]], w⟩ ∧ True) (fun _ => rfl) hL0 ?_ ?_ ?_
  · exact ⟨_, _, by simp, rfl, by simp [conv_5_3Law9, ex1, ex2, ex3, ex4, ex5, ex6, ex7, e10, e13, e16, e19, ex20, ex20p, abin_seql, abin_sneq, bool_neq_4Law9, ex21, ex22, ex23, ex23p, ex24, ex25, ex26, ex27, ex28, ex29, bool_eql_4Law9, ex30]⟩
  · rintro ⟨v63, v64, v65, v66, v67, v68, v69, v70, v71, v72, v73, v74, v75, v76, v77, v78, v79, v80, v81, v82, v83, v84⟩ σ ⟨ts, w, hw, rfl, -⟩ h
    clear hL0
    try dsimp only at h
    have q85 : ∀ hp, E Try.prog Y0 17 [] hp = some (.v (.bool true), hp, none) := fun hp => works_is
    obtain rfl := inj_ok h
    simp [q85, hw]
  · rintro k n ⟨v31, v32, v33, v34, v35, v36, v37, v38, v39, v40, v41, v42, v43, v44, v45, v46, v47, v48, v49, v50, v51, v52, v53⟩ σ ⟨ts, w, hw, rfl, g9, g10, g13, g103, -⟩ h ih ex
    clear hL0
    rw [f8_L0] at h
    obtain ⟨x54, ex54, h⟩ := bindT h
    cases x54
    case false =>
     simp [g9, g10, g13, g103, ex54]
     refine ex (v32, v33, v34, v35, v36, v37, v38, v39, v40, v41, v42, v43, v44, v45, v46, v47, v48, v49, v50, v51, v52, v53) _ ?_ h
     exact ⟨_, _, by simp [hw], rfl, by simp [g9, g10, g13, g103, ex54]⟩
    obtain ⟨⟨b55, x56⟩, e57, h⟩ := bind_ok h
    try dsimp only at h
    have e57 : ∀ hp, E Try.prog Y0 42 [.v (.string (bs x6)), .v (.string (bs x7)), iv v31] hp = some (.t [.v (.bool b55), iv x56], hp, none) := fun hp => f42_is  e57
    obtain ⟨x58, ex58, h⟩ := bindT h
    cases x58
    case false =>
     obtain rfl := inj_ok h
     simp [g9, g10, g13, g103, ex54, e57, ex58, hw]
    obtain ⟨x59, ex59, h⟩ := bindT h
    obtain ⟨x60, ex60, h⟩ := bindT h
    obtain ⟨x61, ex61, h⟩ := bindT h
    cases x61
    case true =>
     obtain rfl := inj_ok h
     simp [g9, g10, g13, g103, ex54, e57, ex58, ex59, ex60, bool_neq_4Law9, ex61, hw]
    obtain ⟨x62, ex62, h⟩ := bindT h
    simp [g9, g10, g13, g103, ex54, e57, ex58, ex59, ex60, bool_neq_4Law9, ex61, ex62]
    refine ih (x62, v32, v33, v34, v35, v36, v37, v38, v39, v40, v41, v42, v43, v44, v45, v46, v47, v48, v49, v50, v51, v52, v53) _ ?_ h
    exact ⟨_, _, by simp [hw], rfl, by simp [g9, g10, g13, g103, ex54, e57, ex58, ex59, ex60, bool_neq_4Law9, ex61, ex62]⟩
end Go.Proofs.Ytmnmfmghmenkkaa
