/-
  StandMore
  Printed by wip/tools/walk.py. Conditions: none; definitions and lemmas.
-/
import Derived.Test.YtcdhajbhpnbdkaaDoorOut1
set_option linter.unusedSimpArgs false
set_option linter.unusedVariables false
namespace Go.Proofs.YtcdhajbhpnbdkaaDoor
open Go.Abs Go.Pur
set_option maxRecDepth 100000
set_option maxHeartbeats 2000000
attribute [local simp] EK_region EK_seq EK_cond EK_block EK_blk EK_loop EK_exit EK.ex EK_ret EK_skip EK_nil EO_cons EO_nil EO1_true EO1_false EO2_some EO3_some EB_true EB_false pwanted poper pq pev Go.Pur.look pputT isAssign drOf pinit Tr.get_set lget pvOf_int pvOf_bool pvOf_str pvOf_nil rdv_ak notOwn_ak prt_ak loose_ak rdv_own rdv_fz rdv_bor rdv_rf rdv_pt rdv_v rdv_a rdv_t rdv_r rdv_p rdv_s rdv_f pbin plen pload ppart idxAddr pcond Nat.blt goInt_eq prun_not prun_neg mayLoad ER_ret ER_normal presL presOne moved stor okDrop settle_v settle_l settle_a settle_p settle_f noref_v noref_fz noref_a norefs_nil norefs_cons pclose given dropB Y0_keep pevParts stors pvCells pvCells.go vcells pfill reps zipParts ownFz pcells cellOK one psrcLen srcFits psrc takeP pgrow take getPl setPl mapL plEq elder isList lowP pevs frzs addP partAt ble_lim24 killV_v killV_a killV_t killV_f killV_i killV_p killV_s killV_un killV_dead killV_lfz killV_lbor killV_lown killV_rfz killV_rbor killV_lak killV_rak frzV_v frzV_a frzV_t frzV_f frzV_i frzV_p frzV_s frzV_un frzV_dead frzV_lfz frzV_lbor frzV_lown frzV_rfz frzV_rbor frzV_lak frzV_rak killCell_v killCell_a killCell_t killCell_f killCell_i killCell_p killCell_s killCell_un killCell_dead killCell_lfz killCell_lbor killCell_lown killCell_rfz killCell_rbor killCell_lak killCell_rak killV_lrf killV_lpt killV_rpt frzV_lrf frzV_lpt frzV_rpt killCell_lrft killCell_lptt killCell_rptt killCell_lrfc killCell_lptc killCell_rptc argv_lak argv_rak argv_v argv_a argv_p argv_f argv_fz argv_bor argv_rf argv_pt argv_rc argv_own mayTurn_none argvs pcallOp firm refsTo_v refsTo_l refsTo_p refsTo_s refsTo_a refsTo_dead refsTo_nil refsTo_cons isOwn_lak ownFz_lak evSafe pskip plain pnewBlk fldAddr isOwn pput notOwn_fz notOwn_bor notOwn_own notOwn_rf notOwn_pt prt_fz prt_bor prt_own prt_rf prt_pt Go.Pur.freeze presM settles abin_and abin_or abin_andNot abin_mul abin_shr abin_shl abin_add abin_sub abin_eql abin_neq abin_lss abin_leq abin_gtr abin_geq keep13 sz3 by3 row3 zero3 sz4 by4 row4 zero4 sz5 by5 row5 zero5 sz9 by9 row9 shape9 zero9 sz22 by22 row22 shape22 zero22 sz24 by24 row24 zero24 parts24 field24_0 field24_1 sz27 by27 row27 zero27 parts27 field27_0 field27_1 sz28 by28 row28 zero28 sz32 by32 row32 shape32 zero32 sz46 by46 row46 shape46 zero46 sz54 by54 row54 shape54 zero54 parts54 sz56 by56 row56 zero56 parts56 field56_0 field56_1 field56_2 sz63 by63 row63 shape63 zero63 parts63 sz70 by70 row70 shape70 zero70 parts70 sz75 by75 row75 shape75 zero75 parts75 sz79 by79 row79 zero79 sz84 by84 row84 zero84 sz86 by86 row86 shape86 zero86 sz91 by91 row91 zero91 sz93 by93 row93 zero93 parts93 field93_0 sz97 by97 row97 zero97 sz100 by100 row100 zero100 sz102 by102 row102 zero102 sz105 by105 row105 zero105 parts105 field105_0 field105_1 field105_2 sz106 by106 row106 zero106 sz108 by108 row108 zero108 parts108 field108_0 field108_1 sz109 by109 row109 shape109 zero109 parts109 sz110 by110 row110 shape110 parts110 sz112 by112 row112 parts112 field112_0 field112_1 sz126 by126 row126 shape126 zero126 sz127 by127 row127 zero127 sz134 by134 row134 zero134 sz136 by136 row136 zero136 sz140 by140 row140 zero140 sz147 by147 row147 shape147 zero147 parts147 sz148 by148 row148 shape148 zero148 parts148 sz149 by149 row149 zero149 sz153 by153 row153 zero153 bs_size gAt gAt0 sAt sAt0 optPlain rows_len noMaker_eq kindOf vlOf abin_rem abin_quo mayTurn_none lowOf_none Go.Pur.partAt rows_nil rows_cons ble_add ble_add0 ble_same toPlain toPlain.go intIn2_0 intIn2_1 ble12 ble22 tv lv max_int min_int pplains ak_true ak_false apartP beq_add beq_add0 beq_add1 argv_s wok_none wok_low_iff lowOf_wok
attribute [local simp] ble_addc
theorem conv_5_3Law13 {z : Int} : prunP Tryd.prog (convert 5 3 (.int .u8 z)) = some (.int .i64 (IntKind.i64.wrap z)) := by kernel_rfl
def f13S (F : Nat) (p0a : Int) (p0b : Int) (p0c : Int) (p0d : Int) (p0e : Int) (p0f : Int) (p0g : Int) (p0h : Int) (p0i : Int) (p0j : Int) (p0k : Int) (p0l : Int) (p0m : Int) (p0n : Int) (p1 : Int) : Option (Bool) :=
  (madeS 5 11 p0a p0b [p0c, p0d, p0e, p0f, p0g, p0h, p0i, p0j, p0k, p0l, p0m, p0n]).bind fun x1 =>
  (f61S F .nz x1.2).bind fun (c3, l4) =>
  (some (IntKind.i64.wrap p1)).bind fun x6 =>
  (some (Int.tmod x6 6)).bind fun x7 =>
  (app1 l4 x7).bind fun x8 =>
  (onS x1.2 (fewS x1.1 x1.2, chk x1.1 x1.2)).bind fun x10 =>
  (onS x8 (fewS x1.1 x8, chk x1.1 x8)).bind fun x11 =>
  (some (decide (x10.2 = 0))).bind fun x12 =>
  (match x12 with
  | true => ((some (decide (x11.2 = 0))).bind fun x13 =>
  (match x13 with
  | true => ((some (decide (x10.1 ≤ x11.1))).bind fun x14 =>
  (match x14 with
  | true => ((some (IntKind.i64.wrap (x10.1 + 1))).bind fun x15 =>
  (some (decide (x11.1 ≤ x15))).bind fun x16 =>
  (match x16 with
  | true => ((f18S F ).bind fun b17 =>
  some b17)
  | false => (some false)))
  | false => (some false)))
  | false => (some false)))
  | false => (some false))
theorem f13_is {p0a : Int} {p0b : Int} {p0c : Int} {p0d : Int} {p0e : Int} {p0f : Int} {p0g : Int} {p0h : Int} {p0i : Int} {p0j : Int} {p0k : Int} {p0l : Int} {p0m : Int} {p0n : Int} {p1 : Int} {hp : List (Option (List PV))} {F : Nat} {r : (Bool)}  (h : f13S F p0a p0b p0c p0d p0e p0f p0g p0h p0i p0j p0k p0l p0m p0n p1 = some r) :
    E Tryd.prog Y0 13 [.a [kv .u8 p0a, kv .u8 p0b, kv .u8 p0c, kv .u8 p0d, kv .u8 p0e, kv .u8 p0f, kv .u8 p0g, kv .u8 p0h, kv .u8 p0i, kv .u8 p0j, kv .u8 p0k, kv .u8 p0l, kv .u8 p0m, kv .u8 p0n], kv .u8 p1] hp = some (.v (.bool r), hp, none) := by
  rw [E_bodyN 2 body13 rfl (by decide) rfl]
  simp only [Tryd.f13, Option.get_some]
  unfold f13S at h
  obtain ⟨x1, ex1, h⟩ := bind_ok h
  have ex1 : ∀ hp, E Tryd.prog Y0 48 [.a [kv .u8 p0a, kv .u8 p0b, kv .u8 p0c, kv .u8 p0d, kv .u8 p0e, kv .u8 p0f, kv .u8 p0g, kv .u8 p0h, kv .u8 p0i, kv .u8 p0j, kv .u8 p0k, kv .u8 p0l, kv .u8 p0m, kv .u8 p0n], iv 5, iv 11] hp = some (.a [iv x1.1, .l .fz .nz x1.2.length (x1.2.map iv)], hp, none) := fun hp => f48_is rfl ex1
  have q2 : spliceP 0 [iv x1.1, .l .fz .nz x1.2.length (x1.2.map iv)] [iv 0, .l .own .nz 0 []] = some [iv x1.1, .l .fz .nz x1.2.length (x1.2.map iv)] := rfl
  obtain ⟨⟨c3, l4⟩, e5, h⟩ := bind_ok h
  try dsimp only at h
  have e5 : ∀ hp, E Tryd.prog Y0 61 [.l .fz .nz x1.2.length (x1.2.map iv)] hp = some (.l (vlOf c3) c3 l4.length (l4.map iv), hp, none) := fun hp => f61_is (a0 := false) (c0 := .nz) e5
  cases c3 with
  | full =>
    obtain ⟨x6, ex6, h⟩ := bindT h
    obtain ⟨x7, ex7, h⟩ := bindT h
    obtain ⟨x8, ex8, h⟩ := bind_ok h
    obtain ⟨ex8a, ex8b, ex8c, ex8q⟩ := app1_ok iv ex8
    have ex8b := ex8b 10 (by decide)
    have q9 : spliceP 0 [iv x1.1, .l .fz .nz x8.length (x8.map iv)] [iv 0, .l .own .nz 0 []] = some [iv x1.1, .l .fz .nz x8.length (x8.map iv)] := rfl
    obtain ⟨x10, ex10, h⟩ := bind_ok h
    have ex10 : ∀ hp, E Tryd.prog Y0 33 [.a [iv x1.1, .l .fz .nz x1.2.length (x1.2.map iv)]] hp = some (.t [iv x10.1, iv x10.2], hp, none) := fun hp => f33_is ex10
    obtain ⟨x11, ex11, h⟩ := bind_ok h
    have ex11 : ∀ hp, E Tryd.prog Y0 33 [.a [iv x1.1, .l .fz .nz x8.length (x8.map iv)]] hp = some (.t [iv x11.1, iv x11.2], hp, none) := fun hp => f33_is ex11
    obtain ⟨x12, ex12, h⟩ := bindT h
    cases x12
    case false =>
     obtain rfl := inj_ok h
     simp [ex1, q2, e5, conv_5_3Law13, ex6, ex7, ex8a, ex8b, ex8c, q9, ex10, ex11, ex12]
     all_goals try (rw [mayStore_of [13, 15] (by kernel_rfl) (by simp [ex1, q2, e5, conv_5_3Law13, ex6, ex7, ex8a, ex8b, ex8c, q9, ex10, ex11, ex12])])
     all_goals try simp [ex1, q2, e5, conv_5_3Law13, ex6, ex7, ex8a, ex8b, ex8c, q9, ex10, ex11, ex12]
    obtain ⟨x13, ex13, h⟩ := bindT h
    cases x13
    case false =>
     obtain rfl := inj_ok h
     simp [ex1, q2, e5, conv_5_3Law13, ex6, ex7, ex8a, ex8b, ex8c, q9, ex10, ex11, ex12, ex13]
     all_goals try (rw [mayStore_of [13, 15] (by kernel_rfl) (by simp [ex1, q2, e5, conv_5_3Law13, ex6, ex7, ex8a, ex8b, ex8c, q9, ex10, ex11, ex12, ex13])])
     all_goals try simp [ex1, q2, e5, conv_5_3Law13, ex6, ex7, ex8a, ex8b, ex8c, q9, ex10, ex11, ex12, ex13]
    obtain ⟨x14, ex14, h⟩ := bindT h
    cases x14
    case false =>
     obtain rfl := inj_ok h
     simp [ex1, q2, e5, conv_5_3Law13, ex6, ex7, ex8a, ex8b, ex8c, q9, ex10, ex11, ex12, ex13, ex14]
     all_goals try (rw [mayStore_of [13, 15] (by kernel_rfl) (by simp [ex1, q2, e5, conv_5_3Law13, ex6, ex7, ex8a, ex8b, ex8c, q9, ex10, ex11, ex12, ex13, ex14])])
     all_goals try simp [ex1, q2, e5, conv_5_3Law13, ex6, ex7, ex8a, ex8b, ex8c, q9, ex10, ex11, ex12, ex13, ex14]
    obtain ⟨x15, ex15, h⟩ := bindT h
    obtain ⟨x16, ex16, h⟩ := bindT h
    cases x16
    case false =>
     obtain rfl := inj_ok h
     simp [ex1, q2, e5, conv_5_3Law13, ex6, ex7, ex8a, ex8b, ex8c, q9, ex10, ex11, ex12, ex13, ex14, ex15, ex16]
     all_goals try (rw [mayStore_of [13, 15] (by kernel_rfl) (by simp [ex1, q2, e5, conv_5_3Law13, ex6, ex7, ex8a, ex8b, ex8c, q9, ex10, ex11, ex12, ex13, ex14, ex15, ex16])])
     all_goals try simp [ex1, q2, e5, conv_5_3Law13, ex6, ex7, ex8a, ex8b, ex8c, q9, ex10, ex11, ex12, ex13, ex14, ex15, ex16]
    obtain ⟨b17, e18, h⟩ := bind_ok h
    have e18 : ∀ hp, E Tryd.prog Y0 18 [] hp = some (.v (.bool b17), hp, none) := fun hp => f18_is  e18
    obtain rfl := inj_ok h
    simp [ex1, q2, e5, conv_5_3Law13, ex6, ex7, ex8a, ex8b, ex8c, q9, ex10, ex11, ex12, ex13, ex14, ex15, ex16, e18]
    all_goals try (rw [mayStore_of [13, 15] (by kernel_rfl) (by simp [ex1, q2, e5, conv_5_3Law13, ex6, ex7, ex8a, ex8b, ex8c, q9, ex10, ex11, ex12, ex13, ex14, ex15, ex16, e18])])
    all_goals try simp [ex1, q2, e5, conv_5_3Law13, ex6, ex7, ex8a, ex8b, ex8c, q9, ex10, ex11, ex12, ex13, ex14, ex15, ex16, e18]
  | nz =>
    obtain ⟨x6, ex6, h⟩ := bindT h
    obtain ⟨x7, ex7, h⟩ := bindT h
    obtain ⟨x8, ex8, h⟩ := bind_ok h
    obtain ⟨ex8a, ex8b, ex8c, ex8q⟩ := app1_ok iv ex8
    have ex8b := ex8b 10 (by decide)
    have q9 : spliceP 0 [iv x1.1, .l .fz .nz x8.length (x8.map iv)] [iv 0, .l .own .nz 0 []] = some [iv x1.1, .l .fz .nz x8.length (x8.map iv)] := rfl
    obtain ⟨x10, ex10, h⟩ := bind_ok h
    have ex10 : ∀ hp, E Tryd.prog Y0 33 [.a [iv x1.1, .l .fz .nz x1.2.length (x1.2.map iv)]] hp = some (.t [iv x10.1, iv x10.2], hp, none) := fun hp => f33_is ex10
    obtain ⟨x11, ex11, h⟩ := bind_ok h
    have ex11 : ∀ hp, E Tryd.prog Y0 33 [.a [iv x1.1, .l .fz .nz x8.length (x8.map iv)]] hp = some (.t [iv x11.1, iv x11.2], hp, none) := fun hp => f33_is ex11
    obtain ⟨x12, ex12, h⟩ := bindT h
    cases x12
    case false =>
     obtain rfl := inj_ok h
     simp [ex1, q2, e5, conv_5_3Law13, ex6, ex7, ex8a, ex8b, ex8c, q9, ex10, ex11, ex12]
     all_goals try (rw [mayStore_of [13, 15] (by kernel_rfl) (by simp [ex1, q2, e5, conv_5_3Law13, ex6, ex7, ex8a, ex8b, ex8c, q9, ex10, ex11, ex12])])
     all_goals try simp [ex1, q2, e5, conv_5_3Law13, ex6, ex7, ex8a, ex8b, ex8c, q9, ex10, ex11, ex12]
    obtain ⟨x13, ex13, h⟩ := bindT h
    cases x13
    case false =>
     obtain rfl := inj_ok h
     simp [ex1, q2, e5, conv_5_3Law13, ex6, ex7, ex8a, ex8b, ex8c, q9, ex10, ex11, ex12, ex13]
     all_goals try (rw [mayStore_of [13, 15] (by kernel_rfl) (by simp [ex1, q2, e5, conv_5_3Law13, ex6, ex7, ex8a, ex8b, ex8c, q9, ex10, ex11, ex12, ex13])])
     all_goals try simp [ex1, q2, e5, conv_5_3Law13, ex6, ex7, ex8a, ex8b, ex8c, q9, ex10, ex11, ex12, ex13]
    obtain ⟨x14, ex14, h⟩ := bindT h
    cases x14
    case false =>
     obtain rfl := inj_ok h
     simp [ex1, q2, e5, conv_5_3Law13, ex6, ex7, ex8a, ex8b, ex8c, q9, ex10, ex11, ex12, ex13, ex14]
     all_goals try (rw [mayStore_of [13, 15] (by kernel_rfl) (by simp [ex1, q2, e5, conv_5_3Law13, ex6, ex7, ex8a, ex8b, ex8c, q9, ex10, ex11, ex12, ex13, ex14])])
     all_goals try simp [ex1, q2, e5, conv_5_3Law13, ex6, ex7, ex8a, ex8b, ex8c, q9, ex10, ex11, ex12, ex13, ex14]
    obtain ⟨x15, ex15, h⟩ := bindT h
    obtain ⟨x16, ex16, h⟩ := bindT h
    cases x16
    case false =>
     obtain rfl := inj_ok h
     simp [ex1, q2, e5, conv_5_3Law13, ex6, ex7, ex8a, ex8b, ex8c, q9, ex10, ex11, ex12, ex13, ex14, ex15, ex16]
     all_goals try (rw [mayStore_of [13, 15] (by kernel_rfl) (by simp [ex1, q2, e5, conv_5_3Law13, ex6, ex7, ex8a, ex8b, ex8c, q9, ex10, ex11, ex12, ex13, ex14, ex15, ex16])])
     all_goals try simp [ex1, q2, e5, conv_5_3Law13, ex6, ex7, ex8a, ex8b, ex8c, q9, ex10, ex11, ex12, ex13, ex14, ex15, ex16]
    obtain ⟨b17, e18, h⟩ := bind_ok h
    have e18 : ∀ hp, E Tryd.prog Y0 18 [] hp = some (.v (.bool b17), hp, none) := fun hp => f18_is  e18
    obtain rfl := inj_ok h
    simp [ex1, q2, e5, conv_5_3Law13, ex6, ex7, ex8a, ex8b, ex8c, q9, ex10, ex11, ex12, ex13, ex14, ex15, ex16, e18]
    all_goals try (rw [mayStore_of [13, 15] (by kernel_rfl) (by simp [ex1, q2, e5, conv_5_3Law13, ex6, ex7, ex8a, ex8b, ex8c, q9, ex10, ex11, ex12, ex13, ex14, ex15, ex16, e18])])
    all_goals try simp [ex1, q2, e5, conv_5_3Law13, ex6, ex7, ex8a, ex8b, ex8c, q9, ex10, ex11, ex12, ex13, ex14, ex15, ex16, e18]
  | any =>
    obtain ⟨x6, ex6, h⟩ := bindT h
    obtain ⟨x7, ex7, h⟩ := bindT h
    obtain ⟨x8, ex8, h⟩ := bind_ok h
    obtain ⟨ex8a, ex8b, ex8c, ex8q⟩ := app1_ok iv ex8
    have ex8b := ex8b 10 (by decide)
    have q9 : spliceP 0 [iv x1.1, .l .fz .nz x8.length (x8.map iv)] [iv 0, .l .own .nz 0 []] = some [iv x1.1, .l .fz .nz x8.length (x8.map iv)] := rfl
    obtain ⟨x10, ex10, h⟩ := bind_ok h
    have ex10 : ∀ hp, E Tryd.prog Y0 33 [.a [iv x1.1, .l .fz .nz x1.2.length (x1.2.map iv)]] hp = some (.t [iv x10.1, iv x10.2], hp, none) := fun hp => f33_is ex10
    obtain ⟨x11, ex11, h⟩ := bind_ok h
    have ex11 : ∀ hp, E Tryd.prog Y0 33 [.a [iv x1.1, .l .fz .nz x8.length (x8.map iv)]] hp = some (.t [iv x11.1, iv x11.2], hp, none) := fun hp => f33_is ex11
    obtain ⟨x12, ex12, h⟩ := bindT h
    cases x12
    case false =>
     obtain rfl := inj_ok h
     simp [ex1, q2, e5, conv_5_3Law13, ex6, ex7, ex8a, ex8b, ex8c, q9, ex10, ex11, ex12]
     all_goals try (rw [mayStore_of [13, 15] (by kernel_rfl) (by simp [ex1, q2, e5, conv_5_3Law13, ex6, ex7, ex8a, ex8b, ex8c, q9, ex10, ex11, ex12])])
     all_goals try simp [ex1, q2, e5, conv_5_3Law13, ex6, ex7, ex8a, ex8b, ex8c, q9, ex10, ex11, ex12]
    obtain ⟨x13, ex13, h⟩ := bindT h
    cases x13
    case false =>
     obtain rfl := inj_ok h
     simp [ex1, q2, e5, conv_5_3Law13, ex6, ex7, ex8a, ex8b, ex8c, q9, ex10, ex11, ex12, ex13]
     all_goals try (rw [mayStore_of [13, 15] (by kernel_rfl) (by simp [ex1, q2, e5, conv_5_3Law13, ex6, ex7, ex8a, ex8b, ex8c, q9, ex10, ex11, ex12, ex13])])
     all_goals try simp [ex1, q2, e5, conv_5_3Law13, ex6, ex7, ex8a, ex8b, ex8c, q9, ex10, ex11, ex12, ex13]
    obtain ⟨x14, ex14, h⟩ := bindT h
    cases x14
    case false =>
     obtain rfl := inj_ok h
     simp [ex1, q2, e5, conv_5_3Law13, ex6, ex7, ex8a, ex8b, ex8c, q9, ex10, ex11, ex12, ex13, ex14]
     all_goals try (rw [mayStore_of [13, 15] (by kernel_rfl) (by simp [ex1, q2, e5, conv_5_3Law13, ex6, ex7, ex8a, ex8b, ex8c, q9, ex10, ex11, ex12, ex13, ex14])])
     all_goals try simp [ex1, q2, e5, conv_5_3Law13, ex6, ex7, ex8a, ex8b, ex8c, q9, ex10, ex11, ex12, ex13, ex14]
    obtain ⟨x15, ex15, h⟩ := bindT h
    obtain ⟨x16, ex16, h⟩ := bindT h
    cases x16
    case false =>
     obtain rfl := inj_ok h
     simp [ex1, q2, e5, conv_5_3Law13, ex6, ex7, ex8a, ex8b, ex8c, q9, ex10, ex11, ex12, ex13, ex14, ex15, ex16]
     all_goals try (rw [mayStore_of [13, 15] (by kernel_rfl) (by simp [ex1, q2, e5, conv_5_3Law13, ex6, ex7, ex8a, ex8b, ex8c, q9, ex10, ex11, ex12, ex13, ex14, ex15, ex16])])
     all_goals try simp [ex1, q2, e5, conv_5_3Law13, ex6, ex7, ex8a, ex8b, ex8c, q9, ex10, ex11, ex12, ex13, ex14, ex15, ex16]
    obtain ⟨b17, e18, h⟩ := bind_ok h
    have e18 : ∀ hp, E Tryd.prog Y0 18 [] hp = some (.v (.bool b17), hp, none) := fun hp => f18_is  e18
    obtain rfl := inj_ok h
    simp [ex1, q2, e5, conv_5_3Law13, ex6, ex7, ex8a, ex8b, ex8c, q9, ex10, ex11, ex12, ex13, ex14, ex15, ex16, e18]
    all_goals try (rw [mayStore_of [13, 15] (by kernel_rfl) (by simp [ex1, q2, e5, conv_5_3Law13, ex6, ex7, ex8a, ex8b, ex8c, q9, ex10, ex11, ex12, ex13, ex14, ex15, ex16, e18])])
    all_goals try simp [ex1, q2, e5, conv_5_3Law13, ex6, ex7, ex8a, ex8b, ex8c, q9, ex10, ex11, ex12, ex13, ex14, ex15, ex16, e18]
end Go.Proofs.YtcdhajbhpnbdkaaDoor
