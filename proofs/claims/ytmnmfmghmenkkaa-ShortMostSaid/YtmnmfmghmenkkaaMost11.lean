/-
  law 11
  Printed by wip/tools/walk.py. Conditions: none; definitions and lemmas.
-/
import Derived.Test.YtmnmfmghmenkkaaKnown1
import Derived.Test.YtmnmfmghmenkkaaPurM
import Derived.Test.YtmnmfmghmenkkaaCount1
import Derived.Test.YtmnmfmghmenkkaaArch1
import Derived.Test.YtmnmfmghmenkkaaLeft27
import Derived.Test.YtmnmfmghmenkkaaParts50
set_option linter.unusedSimpArgs false
set_option linter.unusedVariables false
namespace Go.Proofs.Ytmnmfmghmenkkaa
open Go.Abs Go.Pur
set_option maxRecDepth 100000
set_option maxHeartbeats 2000000
attribute [local simp] EK_region EK_seq EK_cond EK_block EK_blk EK_loop EK_exit EK.ex EK_ret EK_skip EK_nil EO_cons EO_nil EO1_true EO1_false EO2_some EO3_some EB_true EB_false pwanted poper pq pev Go.Pur.look pputT isAssign drOf pinit Tr.get_set lget pvOf_int pvOf_bool pvOf_str pvOf_nil rdv_ak notOwn_ak prt_ak loose_ak rdv_own rdv_fz rdv_bor rdv_rf rdv_pt rdv_v rdv_a rdv_t rdv_r rdv_p rdv_s rdv_f pbin plen pload ppart idxAddr pcond Nat.blt goInt_eq prun_not prun_neg mayLoad ER_ret ER_normal presL presOne moved stor okDrop settle_v settle_l settle_a settle_p settle_f noref_v noref_fz noref_a norefs_nil norefs_cons pclose given dropB Y0_keep pevParts stors pvCells pvCells.go vcells pfill reps zipParts ownFz pcells cellOK one psrcLen srcFits psrc takeP pgrow take getPl setPl mapL plEq elder isList lowP pevs frzs addP partAt ble_lim24 killV_v killV_a killV_t killV_f killV_i killV_p killV_s killV_un killV_dead killV_lfz killV_lbor killV_lown killV_rfz killV_rbor killV_lak killV_rak frzV_v frzV_a frzV_t frzV_f frzV_i frzV_p frzV_s frzV_un frzV_dead frzV_lfz frzV_lbor frzV_lown frzV_rfz frzV_rbor frzV_lak frzV_rak killCell_v killCell_a killCell_t killCell_f killCell_i killCell_p killCell_s killCell_un killCell_dead killCell_lfz killCell_lbor killCell_lown killCell_rfz killCell_rbor killCell_lak killCell_rak killV_lrf killV_lpt killV_rpt frzV_lrf frzV_lpt frzV_rpt killCell_lrft killCell_lptt killCell_rptt killCell_lrfc killCell_lptc killCell_rptc argv_lak argv_rak argv_v argv_a argv_p argv_f argv_fz argv_bor argv_rf argv_pt argv_rc argv_own mayTurn_none argvs pcallOp firm refsTo_v refsTo_l refsTo_p refsTo_s refsTo_a refsTo_dead refsTo_nil refsTo_cons isOwn_lak ownFz_lak evSafe pskip plain pnewBlk fldAddr isOwn pput notOwn_fz notOwn_bor notOwn_own notOwn_rf notOwn_pt prt_fz prt_bor prt_own prt_rf prt_pt Go.Pur.freeze presM settles abin_and abin_or abin_andNot abin_mul abin_shr abin_shl abin_add abin_sub abin_eql abin_neq abin_lss abin_leq abin_gtr abin_geq hows pcallIn Y0_how Y0_part howOf partOf rdv_mown rdv_mfz rdv_mbor rdv_mrf killV_mown killV_mfz killV_mbor killV_mrf frzV_mown frzV_mfz frzV_mbor frzV_mrf killCell_mown killCell_mfz killCell_mbor killCell_mrf argv_mfz argv_mbor argv_mrf settle_m kls_v kls_l kls_a kls_t kls_r kls_p kls_s kls_f kls_i kls_it kls_un kls_dead kls_mown kls_mrf kls_mbor kls_mfz fzOf takable mapHere mapOwn mapTo flat toPlain toPlain.go ofFlat ofPair mapEs plook lookRes Y0_mv mvOf mvBlk premv Y0_fzm fzmOf poperX pconv keep11 sz3 by3 row3 zero3 sz4 by4 row4 zero4 sz5 by5 row5 zero5 sz9 by9 row9 shape9 zero9 sz21 by21 row21 zero21 sz22 by22 row22 zero22 sz24 by24 row24 zero24 sz29 by29 row29 shape29 zero29 sz36 by36 row36 shape36 zero36 sz52 by52 row52 shape52 zero52 parts52 sz54 by54 row54 zero54 parts54 field54_0 field54_1 sz58 by58 row58 zero58 mt58 az3 sz63 by63 row63 zero63 sz66 by66 row66 shape66 zero66 parts66 sz67 by67 row67 shape67 zero67 sz75 by75 row75 shape75 zero75 sz76 by76 row76 shape76 zero76 sz78 by78 row78 zero78 mt78 sz79 by79 row79 shape79 zero79 sz92 by92 row92 zero92 sz94 by94 row94 zero94 parts94 field94_0 field94_1 sz99 by99 row99 shape99 zero99 sz102 by102 row102 zero102 mt102 az4 sz103 by103 row103 zero103 mt103 sz106 by106 row106 zero106 parts106 field106_0 field106_1 sz108 by108 row108 zero108 parts108 field108_0 field108_1 sz109 by109 row109 shape109 zero109 sz110 by110 row110 zero110 mt110 sz112 by112 row112 zero112 sz115 by115 row115 zero115 sz116 by116 row116 zero116 sz119 by119 row119 zero119 sz127 by127 row127 zero127 sz129 by129 row129 zero129 sz130 by130 row130 zero130 sz134 by134 row134 zero134 bs_size gAt gAt0 sAt sAt0 optPlain rows_len noMaker_eq kindOf vlOf abin_rem abin_quo mayTurn_none lowOf_none Go.Pur.partAt rows_nil rows_cons ble_add ble_add0 ble_same toPlain toPlain.go intIn2_0 intIn2_1 ble12 ble22 tv lv max_int min_int pplains ak_true ak_false apartP beq_add beq_add0 beq_add1 argv_s wok_none wok_low_iff lowOf_wok
theorem conv_5_3Most11 {z : Int} : prunP Try.prog (convert 5 3 (.int .u8 z)) = some (.int .i64 (IntKind.i64.wrap z)) := by kernel_rfl
theorem mty58Most11 : mapTy Try.prog 58 = some (9, 3) := by kernel_rfl
theorem shm58Most11 : shapeOf Try.prog 58 = none := by kernel_rfl
def f11_L0 (F : Nat) (x3 : Int) (x5 : Int) (K : List UInt8 → Option (Bool)) : Nat → List UInt8 × Int → Option (Bool)
  | 0, _ => none
  | n + 1, (v6, v7) => (some (decide (v7 < x5))).bind fun x8 =>
    (match x8 with
    | true => ((remO v7 x3).bind fun x9 =>
    (some (IntKind.i64.wrap (x9 + 1))).bind fun x10 =>
    (sub2 [97, 98, 99, 100, 101, 102] x9 x10).bind fun x11 =>
    (sadd v6 x11).bind fun x12 =>
    (some (IntKind.i64.wrap (v7 + 1))).bind fun x13 =>
    f11_L0 F x3 x5 K n (x12, x13))
    | false => (K v6))
def f11S (F : Nat) (p0a : Int) (p0b : Int) (p0c : Int) (p0d : Int) (p0e : Int) (p0f : Int) (p0g : Int) (p0h : Int) (p0i : Int) (p0j : Int) (p0k : Int) (p1 : Int) : Option (Bool) :=
  (some (IntKind.i64.wrap p1)).bind fun x1 =>
  (some (Int.tmod x1 6)).bind fun x2 =>
  (some (IntKind.i64.wrap (1 + x2))).bind fun x3 =>
  (f51O [p0a, p0b, p0c, p0d, p0e, p0f, p0g, p0h, p0i, p0j, p0k] 10 x3).bind fun x4 =>
  (some ((x4.length : Int))).bind fun x5 =>
  f11_L0 F x3 x5 (fun v14 =>
    (f29S F x4).bind fun (x15, x16) =>
    (f29S F v14).bind fun (x18, x19) =>
    (some ((x4.length : Int))).bind fun x21 =>
    (f33S F x3 x21).bind fun (x22, x23) =>
    (some (decide (x16 = 0))).bind fun x25 =>
    (match x25 with
    | true => ((some (decide (x19 = 0))).bind fun x26 =>
    (match x26 with
    | true => ((some (decide (x23 = 0))).bind fun x27 =>
    (match x27 with
    | true => ((some (decide (x15 ≤ x18))).bind fun x28 =>
    (match x28 with
    | true => ((some (decide (x18 = x22))).bind fun x29 =>
    (match x29 with
    | true => ((f50S F v14).bind fun (m30, k31) =>
    (some ((m30.length : Int))).bind fun x33 =>
    (some (decide (x18 = x33))).bind fun x34 =>
    (match x34 with
    | true => (some true)
    | false => (some false)))
    | false => (some false)))
    | false => (some false)))
    | false => (some false)))
    | false => (some false)))
    | false => (some false))) F ([], 0)
theorem f11_is {p0a : Int} {p0b : Int} {p0c : Int} {p0d : Int} {p0e : Int} {p0f : Int} {p0g : Int} {p0h : Int} {p0i : Int} {p0j : Int} {p0k : Int} {p1 : Int} {hp : List (Option (List PV))} {F : Nat} {r : (Bool)}  (h : f11S F p0a p0b p0c p0d p0e p0f p0g p0h p0i p0j p0k p1 = some r) :
    E Try.prog Y0 11 [.a [kv .u8 p0a, kv .u8 p0b, kv .u8 p0c, kv .u8 p0d, kv .u8 p0e, kv .u8 p0f, kv .u8 p0g, kv .u8 p0h, kv .u8 p0i, kv .u8 p0j, kv .u8 p0k], kv .u8 p1] hp = some (.v (.bool r), hp, none) := by
  rw [E_bodyN 2 body11 rfl (by decide) rfl]
  simp only [Try.f11, Option.get_some]
  unfold f11S at h
  obtain ⟨x1, ex1, h⟩ := bindT h
  obtain ⟨x2, ex2, h⟩ := bindT h
  obtain ⟨x3, ex3, h⟩ := bindT h
  obtain ⟨x4, ex4, h⟩ := bind_ok h
  have ex4 : ∀ hp, E Try.prog Y0 51 [.a [kv .u8 p0a, kv .u8 p0b, kv .u8 p0c, kv .u8 p0d, kv .u8 p0e, kv .u8 p0f, kv .u8 p0g, kv .u8 p0h, kv .u8 p0i, kv .u8 p0j, kv .u8 p0k], iv 10, iv x3] hp = some (.v (.string (bs x4)), hp, none) := fun hp => f51_is ex4
  obtain ⟨x5, ex5, h⟩ := bindT h
  simp [conv_5_3Most11, ex1, ex2, ex3, ex4, ex5]
  have hL0 := h; clear h
  refine loopS (S := f11_L0 F x3 x5) (fun (v6, v7) σ => ∃ (ts : Tr PV) (w : Option Nat), wok hp.length w ∧ σ = ⟨[], ts, hp ++ [some [kv .u8 p0a, kv .u8 p0b, kv .u8 p0c, kv .u8 p0d, kv .u8 p0e, kv .u8 p0f, kv .u8 p0g, kv .u8 p0h, kv .u8 p0i, kv .u8 p0j, kv .u8 p0k]], w⟩ ∧ ts.get 5 = some (iv x3) ∧ ts.get 6 = some (.v (.string (bs x4))) ∧ ts.get 7 = some (.v (.string (bs v6))) ∧ ts.get 23 = some (iv x5) ∧ ts.get 24 = some (iv v7) ∧ True) (fun v14 σ => ∃ (ts : Tr PV) (w : Option Nat), wok hp.length w ∧ σ = ⟨[], ts, hp ++ [some [kv .u8 p0a, kv .u8 p0b, kv .u8 p0c, kv .u8 p0d, kv .u8 p0e, kv .u8 p0f, kv .u8 p0g, kv .u8 p0h, kv .u8 p0i, kv .u8 p0j, kv .u8 p0k]], w⟩ ∧ ts.get 5 = some (iv x3) ∧ ts.get 6 = some (.v (.string (bs x4))) ∧ ts.get 7 = some (.v (.string (bs v14))) ∧ True) (fun _ => rfl) hL0 ?_ ?_ ?_
  · exact ⟨_, _, by simp, rfl, by simp [conv_5_3Most11, ex1, ex2, ex3, ex4, ex5]⟩
  · rintro v14 σ ⟨ts, w, hw, rfl, g5, g6, g7, -⟩ h
    clear hL0
    try dsimp only at h
    obtain ⟨⟨x15, x16⟩, e17, h⟩ := bind_ok h
    try dsimp only at h
    have e17 : ∀ hp, E Try.prog Y0 29 [.v (.string (bs x4))] hp = some (.t [iv x15, iv x16], hp, none) := fun hp => f29_is  e17
    obtain ⟨⟨x18, x19⟩, e20, h⟩ := bind_ok h
    try dsimp only at h
    have e20 : ∀ hp, E Try.prog Y0 29 [.v (.string (bs v14))] hp = some (.t [iv x18, iv x19], hp, none) := fun hp => f29_is  e20
    obtain ⟨x21, ex21, h⟩ := bindT h
    obtain ⟨⟨x22, x23⟩, e24, h⟩ := bind_ok h
    try dsimp only at h
    have e24 : ∀ hp, E Try.prog Y0 33 [iv x3, iv x21] hp = some (.t [iv x22, iv x23], hp, none) := fun hp => f33_is  e24
    obtain ⟨x25, ex25, h⟩ := bindT h
    cases x25
    case false =>
     obtain rfl := inj_ok h
     simp [g5, g6, g7, e17, e20, ex21, e24, ex25, hw]
    obtain ⟨x26, ex26, h⟩ := bindT h
    cases x26
    case false =>
     obtain rfl := inj_ok h
     simp [g5, g6, g7, e17, e20, ex21, e24, ex25, ex26, hw]
    obtain ⟨x27, ex27, h⟩ := bindT h
    cases x27
    case false =>
     obtain rfl := inj_ok h
     simp [g5, g6, g7, e17, e20, ex21, e24, ex25, ex26, ex27, hw]
    obtain ⟨x28, ex28, h⟩ := bindT h
    cases x28
    case false =>
     obtain rfl := inj_ok h
     simp [g5, g6, g7, e17, e20, ex21, e24, ex25, ex26, ex27, ex28, hw]
    obtain ⟨x29, ex29, h⟩ := bindT h
    cases x29
    case false =>
     obtain rfl := inj_ok h
     simp [g5, g6, g7, e17, e20, ex21, e24, ex25, ex26, ex27, ex28, ex29, hw]
    obtain ⟨⟨m30, k31⟩, e32, h⟩ := bind_ok h
    try dsimp only at h
    have e32 : ∀ hp, E Try.prog Y0 50 [.v (.string (bs v14))] hp = some (.m .own (mE sV (Value.int .i64) m30) k31, hp, none) := fun hp => f50_is  e32
    obtain ⟨x33, ex33, h⟩ := bindT h
    obtain ⟨x34, ex34, h⟩ := bindT h
    cases x34
    case false =>
     obtain rfl := inj_ok h
     simp [g5, g6, g7, e17, e20, ex21, e24, ex25, ex26, ex27, ex28, ex29, e32, mty58Most11, Try.underlying58, mE_nil, shm58Most11, mE_len, ex33, ex34, hw]
    have q35 : ∀ hp, E Try.prog Y0 17 [] hp = some (.v (.bool true), hp, none) := fun hp => works_is
    obtain rfl := inj_ok h
    simp [g5, g6, g7, e17, e20, ex21, e24, ex25, ex26, ex27, ex28, ex29, e32, mty58Most11, Try.underlying58, mE_nil, shm58Most11, mE_len, ex33, ex34, q35, hw]
  · rintro k n ⟨v6, v7⟩ σ ⟨ts, w, hw, rfl, g5, g6, g7, g23, g24, -⟩ h ih ex
    clear hL0
    rw [f11_L0] at h
    obtain ⟨x8, ex8, h⟩ := bindT h
    cases x8
    case false =>
     simp [g5, g6, g7, g23, g24, ex8]
     refine ex v6 _ ?_ h
     exact ⟨_, _, by simp [hw], rfl, by simp [g5, g6, g7, g23, g24, ex8]⟩
    obtain ⟨x9, ex9, h⟩ := bind_ok h
    obtain ⟨ex9a, ex9⟩ := remO_ok ex9
    obtain ⟨x10, ex10, h⟩ := bindT h
    obtain ⟨x11, ex11, h⟩ := bind_ok h
    have ex11 := fun {k j : IntKind} => sub2_ok (P := Try.prog) (t := 9) Try.underlying9 ex11 (k := k) (j := j)
    obtain ⟨x12, ex12, h⟩ := bind_ok h
    obtain ⟨ex12a, ex12⟩ := sadd_ok ex12
    obtain ⟨x13, ex13, h⟩ := bindT h
    simp [g5, g6, g7, g23, g24, ex8, ex9, ex9a, ex10, ex11, shape9, pqSlice, ex12, abin_sadd ex12a, ex13]
    refine ih (x12, x13) _ ?_ h
    exact ⟨_, _, by simp [hw], rfl, by simp [g5, g6, g7, g23, g24, ex8, ex9, ex9a, ex10, ex11, shape9, pqSlice, ex12, abin_sadd ex12a, ex13]⟩
end Go.Proofs.Ytmnmfmghmenkkaa
