/-
  StandPlayed
  Printed by wip/tools/walk.py. Conditions: none; definitions and lemmas.
-/
import Derived.Test.YtcdhajbhpnbdkaaDoorOut1
import Derived.Test.YtcdhajbhpnbdkaaDoorPurI
set_option linter.unusedSimpArgs false
set_option linter.unusedVariables false
namespace Go.Proofs.YtcdhajbhpnbdkaaDoor
open Go.Abs Go.Pur
set_option maxRecDepth 100000
set_option maxHeartbeats 2000000
attribute [local simp] EK_region EK_seq EK_cond EK_block EK_blk EK_loop EK_exit EK.ex EK_ret EK_skip EK_nil EO_cons EO_nil EO1_true EO1_false EO2_some EO3_some EB_true EB_false pwanted poper pq pev Go.Pur.look pputT isAssign drOf pinit Tr.get_set lget pvOf_int pvOf_bool pvOf_str pvOf_nil rdv_ak notOwn_ak prt_ak loose_ak rdv_own rdv_fz rdv_bor rdv_rf rdv_pt rdv_v rdv_a rdv_t rdv_r rdv_p rdv_s rdv_f pbin plen pload ppart idxAddr pcond Nat.blt goInt_eq prun_not prun_neg mayLoad ER_ret ER_normal presL presOne moved stor okDrop settle_v settle_l settle_a settle_p settle_f noref_v noref_fz noref_a norefs_nil norefs_cons pclose given dropB Y0_keep pevParts stors pvCells pvCells.go vcells pfill reps zipParts ownFz pcells cellOK one psrcLen srcFits psrc takeP pgrow take getPl setPl mapL plEq elder isList lowP pevs frzs addP partAt ble_lim24 killV_v killV_a killV_t killV_f killV_i killV_p killV_s killV_un killV_dead killV_lfz killV_lbor killV_lown killV_rfz killV_rbor killV_lak killV_rak frzV_v frzV_a frzV_t frzV_f frzV_i frzV_p frzV_s frzV_un frzV_dead frzV_lfz frzV_lbor frzV_lown frzV_rfz frzV_rbor frzV_lak frzV_rak killCell_v killCell_a killCell_t killCell_f killCell_i killCell_p killCell_s killCell_un killCell_dead killCell_lfz killCell_lbor killCell_lown killCell_rfz killCell_rbor killCell_lak killCell_rak killV_lrf killV_lpt killV_rpt frzV_lrf frzV_lpt frzV_rpt killCell_lrft killCell_lptt killCell_rptt killCell_lrfc killCell_lptc killCell_rptc argv_lak argv_rak argv_v argv_a argv_p argv_f argv_fz argv_bor argv_rf argv_pt argv_rc argv_own mayTurn_none argvs pcallOp firm refsTo_v refsTo_l refsTo_p refsTo_s refsTo_a refsTo_dead refsTo_nil refsTo_cons isOwn_lak ownFz_lak evSafe pskip plain pnewBlk fldAddr isOwn pput notOwn_fz notOwn_bor notOwn_own notOwn_rf notOwn_pt prt_fz prt_bor prt_own prt_rf prt_pt Go.Pur.freeze presM settles abin_and abin_or abin_andNot abin_mul abin_shr abin_shl abin_add abin_sub abin_eql abin_neq abin_lss abin_leq abin_gtr abin_geq keep14 sz3 by3 row3 zero3 sz4 by4 row4 zero4 sz5 by5 row5 zero5 sz9 by9 row9 shape9 zero9 sz22 by22 row22 shape22 zero22 sz24 by24 row24 zero24 parts24 field24_0 field24_1 sz27 by27 row27 zero27 parts27 field27_0 field27_1 sz28 by28 row28 zero28 sz32 by32 row32 shape32 zero32 sz46 by46 row46 shape46 zero46 sz54 by54 row54 shape54 zero54 parts54 sz56 by56 row56 zero56 parts56 field56_0 field56_1 field56_2 sz63 by63 row63 shape63 zero63 parts63 sz70 by70 row70 shape70 zero70 parts70 sz75 by75 row75 shape75 zero75 parts75 sz79 by79 row79 zero79 sz84 by84 row84 zero84 sz86 by86 row86 shape86 zero86 sz91 by91 row91 zero91 sz93 by93 row93 zero93 parts93 field93_0 sz97 by97 row97 zero97 sz100 by100 row100 zero100 sz102 by102 row102 zero102 sz105 by105 row105 zero105 parts105 field105_0 field105_1 field105_2 sz106 by106 row106 zero106 sz108 by108 row108 zero108 parts108 field108_0 field108_1 sz109 by109 row109 shape109 zero109 parts109 sz110 by110 row110 shape110 parts110 sz112 by112 row112 parts112 field112_0 field112_1 sz126 by126 row126 shape126 zero126 sz127 by127 row127 zero127 sz134 by134 row134 zero134 sz136 by136 row136 zero136 sz140 by140 row140 zero140 sz147 by147 row147 shape147 zero147 parts147 sz148 by148 row148 shape148 zero148 parts148 sz149 by149 row149 zero149 sz153 by153 row153 zero153 bs_size gAt gAt0 sAt sAt0 optPlain rows_len noMaker_eq kindOf vlOf abin_rem abin_quo mayTurn_none lowOf_none Go.Pur.partAt rows_nil rows_cons ble_add ble_add0 ble_same toPlain toPlain.go intIn2_0 intIn2_1 ble12 ble22 tv lv max_int min_int pplains ak_true ak_false apartP beq_add beq_add0 beq_add1 argv_s wok_none wok_low_iff lowOf_wok
attribute [local simp] ble_addc
theorem conv_5_3Law14 {z : Int} : prunP Tryd.prog (convert 5 3 (.int .u8 z)) = some (.int .i64 (IntKind.i64.wrap z)) := by kernel_rfl
def f14_L1 (F : Nat) (x120 : (List (Ck × List Int) × Int)) (l131 : List Int) (x137 : Int) (K : Unit → Option (Bool)) : Nat → Int → Option (Bool)
  | 0, _ => none
  | n + 1, v139 => (some (decide (v139 < x137))).bind fun x140 =>
    (match x140 with
    | true => ((gI l131 v139).bind fun y141 =>
    (gI x120.1 v139).bind fun y142 =>
    (f51S F y141).bind fun (c143, l144) =>
    (onS y142.2 (decide (y142.2 = l144))).bind fun x146 =>
    (match x146 with
    | true => ((some (IntKind.i64.wrap (v139 + 1))).bind fun x147 =>
    f14_L1 F x120 l131 x137 K n x147)
    | false => (some false)))
    | false => (K ()))
def f14_L0 (F : Nat) (x1 : (Int × List Int)) (x3 : Int) (K : List Int × Int × List Int → Option (Bool)) : Nat → List Int × Int × Int × Int × Int × List Int → Option (Bool)
  | 0, _ => none
  | n + 1, (v4, v5, v6, v7, v8, m9) => (some (decide (v8 < x3))).bind fun x10 =>
    (match x10 with
    | true => ((gI x1.2 v8).bind fun y11 =>
    (gI m9 v8).bind fun y12 =>
    (some (IntKind.i64.wrap y12)).bind fun x13 =>
    (some (Int.tmod x13 9)).bind fun x14 =>
    (some (IntKind.i64.wrap (x14 - 1))).bind fun x15 =>
    (some (decide (y12 < 240))).bind fun x16 =>
    (match x16 with
    | true => ((shrO .i64 v5 y11).bind fun x17 =>
    (some (andI .i64 x17 1)).bind fun x18 =>
    (some (decide (x18 = 0))).bind fun x19 =>
    (match x19 with
    | true => ((some (decide (v6 = x1.1))).bind fun x20 =>
    (match x20 with
    | true => ((f51S F v5).bind fun (c21, l22) =>
    (some ((l22.length : Int))).bind fun x24 =>
    (remO x13 x24).bind fun x25 =>
    (gI l22 x25).bind fun y26 =>
    (app1 v4 y26).bind fun x27 =>
    (some (decide (v7 = 0))).bind fun x28 =>
    (match x28 with
    | true => ((some (decide (y26 < 0))).bind fun x29 =>
    (match x29 with
    | true => ((shlO .i64 1 y11).bind fun x30 =>
    (some (orI .i64 v5 x30)).bind fun x31 =>
    (some (IntKind.i64.wrap (v6 + 1))).bind fun x32 =>
    (some (IntKind.i64.wrap (v8 + 1))).bind fun x33 =>
    f14_L0 F x1 x3 K n (x27, x31, x32, 2, x33, m9))
    | false => ((some (decide (5 < y26))).bind fun x34 =>
    (match x34 with
    | true => ((shlO .i64 1 y11).bind fun x35 =>
    (some (orI .i64 v5 x35)).bind fun x36 =>
    (some (IntKind.i64.wrap (v6 + 1))).bind fun x37 =>
    (some (IntKind.i64.wrap (v8 + 1))).bind fun x38 =>
    f14_L0 F x1 x3 K n (x27, x36, x37, 2, x38, m9))
    | false => ((shrO .i64 v5 y26).bind fun x39 =>
    (some (andI .i64 x39 1)).bind fun x40 =>
    (some (decide (x40 = 0))).bind fun x41 =>
    (match x41 with
    | true => ((shlO .i64 1 y11).bind fun x42 =>
    (some (orI .i64 v5 x42)).bind fun x43 =>
    (some (IntKind.i64.wrap (v6 + 1))).bind fun x44 =>
    (some (IntKind.i64.wrap (v8 + 1))).bind fun x45 =>
    f14_L0 F x1 x3 K n (x27, x43, x44, 2, x45, m9))
    | false => ((shlO .i64 1 y26).bind fun x46 =>
    (some (andNotI .i64 v5 x46)).bind fun x47 =>
    (some (IntKind.i64.wrap (v6 - 1))).bind fun x48 =>
    (shrO .i64 x47 y11).bind fun x49 =>
    (some (andI .i64 x49 1)).bind fun x50 =>
    (some (decide (x50 = 0))).bind fun x51 =>
    (match x51 with
    | true => ((shlO .i64 1 y11).bind fun x52 =>
    (some (orI .i64 x47 x52)).bind fun x53 =>
    (some (IntKind.i64.wrap (x48 + 1))).bind fun x54 =>
    (some (IntKind.i64.wrap (v8 + 1))).bind fun x55 =>
    f14_L0 F x1 x3 K n (x27, x53, x54, v7, x55, m9))
    | false => ((some (IntKind.i64.wrap (v8 + 1))).bind fun x56 =>
    f14_L0 F x1 x3 K n (x27, x47, x48, v7, x56, m9))))))))))
    | false => ((some (IntKind.i64.wrap (v8 + 1))).bind fun x57 =>
    f14_L0 F x1 x3 K n (x27, v5, v6, v7, x57, m9))))
    | false => ((app1 v4 (-1)).bind fun x58 =>
    (some (decide (v7 = 0))).bind fun x59 =>
    (match x59 with
    | true => ((shlO .i64 1 y11).bind fun x60 =>
    (some (orI .i64 v5 x60)).bind fun x61 =>
    (some (IntKind.i64.wrap (v6 + 1))).bind fun x62 =>
    (some (IntKind.i64.wrap (v8 + 1))).bind fun x63 =>
    f14_L0 F x1 x3 K n (x58, x61, x62, v7, x63, m9))
    | false => ((some (IntKind.i64.wrap (v8 + 1))).bind fun x64 =>
    f14_L0 F x1 x3 K n (x58, v5, v6, v7, x64, m9))))))
    | false => ((app1 v4 (-1)).bind fun x65 =>
    (some (decide (v7 = 0))).bind fun x66 =>
    (match x66 with
    | true => ((some (IntKind.i64.wrap (v8 + 1))).bind fun x67 =>
    f14_L0 F x1 x3 K n (x65, v5, v6, v7, x67, m9))
    | false => ((some (IntKind.i64.wrap (v8 + 1))).bind fun x68 =>
    f14_L0 F x1 x3 K n (x65, v5, v6, v7, x68, m9))))))
    | false => ((app1 v4 x15).bind fun x69 =>
    (some (decide (v7 = 0))).bind fun x70 =>
    (match x70 with
    | true => ((shrO .i64 v5 y11).bind fun x71 =>
    (some (andI .i64 x71 1)).bind fun x72 =>
    (some (decide (x72 = 0))).bind fun x73 =>
    (match x73 with
    | true => ((some (decide (v6 = x1.1))).bind fun x74 =>
    (match x74 with
    | true => ((some (decide (x15 < 0))).bind fun x75 =>
    (match x75 with
    | true => ((shlO .i64 1 y11).bind fun x76 =>
    (some (orI .i64 v5 x76)).bind fun x77 =>
    (some (IntKind.i64.wrap (v6 + 1))).bind fun x78 =>
    (some (IntKind.i64.wrap (v8 + 1))).bind fun x79 =>
    f14_L0 F x1 x3 K n (x69, x77, x78, 2, x79, m9))
    | false => ((some (decide (5 < x15))).bind fun x80 =>
    (match x80 with
    | true => ((shlO .i64 1 y11).bind fun x81 =>
    (some (orI .i64 v5 x81)).bind fun x82 =>
    (some (IntKind.i64.wrap (v6 + 1))).bind fun x83 =>
    (some (IntKind.i64.wrap (v8 + 1))).bind fun x84 =>
    f14_L0 F x1 x3 K n (x69, x82, x83, 2, x84, m9))
    | false => ((shrO .i64 v5 x15).bind fun x85 =>
    (some (andI .i64 x85 1)).bind fun x86 =>
    (some (decide (x86 = 0))).bind fun x87 =>
    (match x87 with
    | true => ((shlO .i64 1 y11).bind fun x88 =>
    (some (orI .i64 v5 x88)).bind fun x89 =>
    (some (IntKind.i64.wrap (v6 + 1))).bind fun x90 =>
    (some (IntKind.i64.wrap (v8 + 1))).bind fun x91 =>
    f14_L0 F x1 x3 K n (x69, x89, x90, 2, x91, m9))
    | false => ((shlO .i64 1 x15).bind fun x92 =>
    (some (andNotI .i64 v5 x92)).bind fun x93 =>
    (some (IntKind.i64.wrap (v6 - 1))).bind fun x94 =>
    (shrO .i64 x93 y11).bind fun x95 =>
    (some (andI .i64 x95 1)).bind fun x96 =>
    (some (decide (x96 = 0))).bind fun x97 =>
    (match x97 with
    | true => ((shlO .i64 1 y11).bind fun x98 =>
    (some (orI .i64 x93 x98)).bind fun x99 =>
    (some (IntKind.i64.wrap (x94 + 1))).bind fun x100 =>
    (some (IntKind.i64.wrap (v8 + 1))).bind fun x101 =>
    f14_L0 F x1 x3 K n (x69, x99, x100, v7, x101, m9))
    | false => ((some (IntKind.i64.wrap (v8 + 1))).bind fun x102 =>
    f14_L0 F x1 x3 K n (x69, x93, x94, v7, x102, m9))))))))))
    | false => ((some (decide (x15 = (-1)))).bind fun x103 =>
    (match x103 with
    | true => ((shlO .i64 1 y11).bind fun x104 =>
    (some (orI .i64 v5 x104)).bind fun x105 =>
    (some (IntKind.i64.wrap (v6 + 1))).bind fun x106 =>
    (some (IntKind.i64.wrap (v8 + 1))).bind fun x107 =>
    f14_L0 F x1 x3 K n (x69, x105, x106, v7, x107, m9))
    | false => ((shlO .i64 1 y11).bind fun x108 =>
    (some (orI .i64 v5 x108)).bind fun x109 =>
    (some (IntKind.i64.wrap (v6 + 1))).bind fun x110 =>
    (some (IntKind.i64.wrap (v8 + 1))).bind fun x111 =>
    f14_L0 F x1 x3 K n (x69, x109, x110, 15, x111, m9))))))
    | false => ((some (decide (x15 = (-1)))).bind fun x112 =>
    (match x112 with
    | true => ((some (IntKind.i64.wrap (v8 + 1))).bind fun x113 =>
    f14_L0 F x1 x3 K n (x69, v5, v6, v7, x113, m9))
    | false => ((some (IntKind.i64.wrap (v8 + 1))).bind fun x114 =>
    f14_L0 F x1 x3 K n (x69, v5, v6, 15, x114, m9))))))
    | false => ((some (IntKind.i64.wrap (v8 + 1))).bind fun x115 =>
    f14_L0 F x1 x3 K n (x69, v5, v6, v7, x115, m9))))))
    | false => (K (v4, v7, m9)))
def f14S (F : Nat) (p0a : Int) (p0b : Int) (p0c : Int) (p0d : Int) (p0e : Int) (p0f : Int) (p0g : Int) (p0h : Int) (p0i : Int) (p0j : Int) (p0k : Int) (p0l : Int) (p0m : Int) (p0n : Int) (p1a : Int) (p1b : Int) (p1c : Int) (p1d : Int) (p1e : Int) (p1f : Int) (p1g : Int) (p1h : Int) (p1i : Int) (p1j : Int) (p1k : Int) (p1l : Int) : Option (Bool) :=
  (madeS 3 12 p0a p0b [p0c, p0d, p0e, p0f, p0g, p0h, p0i, p0j, p0k, p0l, p0m, p0n]).bind fun x1 =>
  (some ((x1.2.length : Int))).bind fun x3 =>
  f14_L0 F x1 x3 (fun (v116, v117, m118) =>
    ((onS x1.2 (onS v116 (floorsOf x1.1 x1.2 v116).2)).bind id).bind fun x119 =>
    ((onS x1.2 (onS v116 (standL (floorsOf x1.1 x1.2 v116).1, (floorsOf x1.1 x1.2 v116).2.2))).bind id).bind fun x120 =>
    (f61S F .nz v116).bind fun (c121, l122) =>
    (app1 l122 (-1)).bind fun x124 =>
    ((onS x1.2 (onS x124 (floorsOf x1.1 x1.2 x124).2)).bind id).bind fun x125 =>
    (some (decide (x119.2 = v117))).bind fun x126 =>
    (match x126 with
    | true => ((some (decide (x120.2 = v117))).bind fun x127 =>
    (match x127 with
    | true => ((some (decide (x125.2 = 5))).bind fun x128 =>
    (match x128 with
    | true => ((some (decide (v117 = 0))).bind fun x129 =>
    (match x129 with
    | true => ((f50S F x1.1 x1.2 v116).bind fun ((c130, l131), x132, b133) =>
    (match b133 with
    | true => ((some (decide (x119.1 = x132))).bind fun x135 =>
    (match x135 with
    | true => ((some ((x120.1.length : Int))).bind fun x136 =>
    (some ((l131.length : Int))).bind fun x137 =>
    (some (decide (x136 = x137))).bind fun x138 =>
    (match x138 with
    | true => (f14_L1 F x120 l131 x137 (fun _ =>
      (f18S F ).bind fun b148 =>
      some b148) F 0)
    | false => (some false)))
    | false => (some false)))
    | false => (some false)))
    | false => ((some (decide (x119.1 = 0))).bind fun x150 =>
    (match x150 with
    | true => ((some ((x120.1.length : Int))).bind fun x151 =>
    (some (decide (x151 = 0))).bind fun x152 =>
    (match x152 with
    | true => ((f18S F ).bind fun b153 =>
    some b153)
    | false => (some false)))
    | false => (some false)))))
    | false => (some false)))
    | false => (some false)))
    | false => (some false))) F ([], 0, 0, 0, 0, [p1a, p1b, p1c, p1d, p1e, p1f, p1g, p1h, p1i, p1j, p1k, p1l])
theorem f14_is {p0a : Int} {p0b : Int} {p0c : Int} {p0d : Int} {p0e : Int} {p0f : Int} {p0g : Int} {p0h : Int} {p0i : Int} {p0j : Int} {p0k : Int} {p0l : Int} {p0m : Int} {p0n : Int} {p1a : Int} {p1b : Int} {p1c : Int} {p1d : Int} {p1e : Int} {p1f : Int} {p1g : Int} {p1h : Int} {p1i : Int} {p1j : Int} {p1k : Int} {p1l : Int} {hp : List (Option (List PV))} {F : Nat} {r : (Bool)}  (h : f14S F p0a p0b p0c p0d p0e p0f p0g p0h p0i p0j p0k p0l p0m p0n p1a p1b p1c p1d p1e p1f p1g p1h p1i p1j p1k p1l = some r) :
    E Tryd.prog Y0 14 [.a [kv .u8 p0a, kv .u8 p0b, kv .u8 p0c, kv .u8 p0d, kv .u8 p0e, kv .u8 p0f, kv .u8 p0g, kv .u8 p0h, kv .u8 p0i, kv .u8 p0j, kv .u8 p0k, kv .u8 p0l, kv .u8 p0m, kv .u8 p0n], .a [kv .u8 p1a, kv .u8 p1b, kv .u8 p1c, kv .u8 p1d, kv .u8 p1e, kv .u8 p1f, kv .u8 p1g, kv .u8 p1h, kv .u8 p1i, kv .u8 p1j, kv .u8 p1k, kv .u8 p1l]] hp = some (.v (.bool r), hp, none) := by
  rw [E_bodyN 2 body14 rfl (by decide) rfl]
  simp only [Tryd.f14, Option.get_some]
  unfold f14S at h
  obtain ⟨x1, ex1, h⟩ := bind_ok h
  have ex1 : ∀ hp, E Tryd.prog Y0 48 [.a [kv .u8 p0a, kv .u8 p0b, kv .u8 p0c, kv .u8 p0d, kv .u8 p0e, kv .u8 p0f, kv .u8 p0g, kv .u8 p0h, kv .u8 p0i, kv .u8 p0j, kv .u8 p0k, kv .u8 p0l, kv .u8 p0m, kv .u8 p0n], iv 3, iv 12] hp = some (.a [iv x1.1, .l .fz .nz x1.2.length (x1.2.map iv)], hp, none) := fun hp => f48_is rfl ex1
  have q2 : spliceP 0 [iv x1.1, .l .fz .nz x1.2.length (x1.2.map iv)] [iv 0, .l .own .nz 0 []] = some [iv x1.1, .l .fz .nz x1.2.length (x1.2.map iv)] := rfl
  obtain ⟨x3, ex3, h⟩ := bindT h
  simp [ex1, q2, ex3]
  have hL0 := h; clear h
  refine loopS (S := f14_L0 F x1 x3) (fun (v4, v5, v6, v7, v8, m9) σ => ∃ (ts : Tr PV) (w : Option Nat), wok hp.length w ∧ σ = ⟨[], ts, hp ++ [some [kv .u8 p0a, kv .u8 p0b, kv .u8 p0c, kv .u8 p0d, kv .u8 p0e, kv .u8 p0f, kv .u8 p0g, kv .u8 p0h, kv .u8 p0i, kv .u8 p0j, kv .u8 p0k, kv .u8 p0l, kv .u8 p0m, kv .u8 p0n], some (m9.map (kv .u8)), some [iv x1.1, .l .fz .nz x1.2.length (x1.2.map iv)]], w⟩ ∧ ts.get 3 = some (.p (hp.length + 1) 0) ∧ ts.get 5 = some (.p (hp.length + 2) 0) ∧ ts.get 6 = some (.l .own .nz v4.length (v4.map iv)) ∧ ts.get 7 = some (iv v5) ∧ ts.get 8 = some (iv v6) ∧ ts.get 9 = some (iv v7) ∧ ts.get 29 = some (.l .fz .nz x1.2.length (x1.2.map iv)) ∧ ts.get 30 = some (iv x3) ∧ ts.get 31 = some (iv v8) ∧ m9.length = 12 ∧ True) (fun (v116, v117, m118) σ => ∃ (ts : Tr PV) (w : Option Nat), wok hp.length w ∧ σ = ⟨[], ts, hp ++ [some [kv .u8 p0a, kv .u8 p0b, kv .u8 p0c, kv .u8 p0d, kv .u8 p0e, kv .u8 p0f, kv .u8 p0g, kv .u8 p0h, kv .u8 p0i, kv .u8 p0j, kv .u8 p0k, kv .u8 p0l, kv .u8 p0m, kv .u8 p0n], some (m118.map (kv .u8)), some [iv x1.1, .l .fz .nz x1.2.length (x1.2.map iv)]], w⟩ ∧ ts.get 5 = some (.p (hp.length + 2) 0) ∧ ts.get 6 = some (.l .own .nz v116.length (v116.map iv)) ∧ ts.get 9 = some (iv v117) ∧ m118.length = 12 ∧ True) (fun _ => rfl) hL0 ?_ ?_ ?_
  · exact ⟨_, _, by simp, rfl, by simp [ex1, q2, ex3]⟩
  · rintro ⟨v116, v117, m118⟩ σ ⟨ts, w, hw, rfl, g5, g6, g9, hl1, -⟩ h
    clear hL0
    try dsimp only at h
    obtain ⟨x119, ex119, h⟩ := bind_ok h
    have ex119 : ∀ hp, E Tryd.prog Y0 19 [.a [iv x1.1, .l .fz .nz x1.2.length (x1.2.map iv)], .l .bor .nz v116.length (v116.map iv)] hp = some (.t [iv x119.1, iv x119.2], hp, none) := fun hp => f19_is (a1 := true) (c1 := .nz) ex119
    obtain ⟨x120, ex120, h⟩ := bind_ok h
    have ex120 : ∀ hp, E Tryd.prog Y0 21 [.a [iv x1.1, .l .fz .nz x1.2.length (x1.2.map iv)], .l .bor .nz v116.length (v116.map iv)] hp = some (.t [.l .fz .nz x120.1.length (x120.1.map lv), iv x120.2], hp, none) := fun hp => f21_is (a1 := true) (c1 := .nz) ex120
    obtain ⟨⟨c121, l122⟩, e123, h⟩ := bind_ok h
    try dsimp only at h
    have e123 : ∀ hp, E Tryd.prog Y0 61 [.l .bor .nz v116.length (v116.map iv)] hp = some (.l (vlOf c121) c121 l122.length (l122.map iv), hp, none) := fun hp => f61_is (a0 := true) (c0 := .nz) e123
    cases c121 with
    | full =>
      obtain ⟨x124, ex124, h⟩ := bind_ok h
      obtain ⟨ex124a, ex124b, ex124c, ex124q⟩ := app1_ok iv ex124
      have ex124b := ex124b 10 (by decide)
      obtain ⟨x125, ex125, h⟩ := bind_ok h
      have ex125 : ∀ hp, E Tryd.prog Y0 19 [.a [iv x1.1, .l .fz .nz x1.2.length (x1.2.map iv)], .l .fz .nz x124.length (x124.map iv)] hp = some (.t [iv x125.1, iv x125.2], hp, none) := fun hp => f19_is (a1 := false) (c1 := .nz) ex125
      obtain ⟨x126, ex126, h⟩ := bindT h
      cases x126
      case false =>
       obtain rfl := inj_ok h
       simp [g5, g6, g9, hl1, ex119, ex120, e123, ex124a, ex124b, ex124c, ex125, ex126, hw]
      obtain ⟨x127, ex127, h⟩ := bindT h
      cases x127
      case false =>
       obtain rfl := inj_ok h
       simp [g5, g6, g9, hl1, ex119, ex120, e123, ex124a, ex124b, ex124c, ex125, ex126, ex127, hw]
      obtain ⟨x128, ex128, h⟩ := bindT h
      cases x128
      case false =>
       obtain rfl := inj_ok h
       simp [g5, g6, g9, hl1, ex119, ex120, e123, ex124a, ex124b, ex124c, ex125, ex126, ex127, ex128, hw]
      obtain ⟨x129, ex129, h⟩ := bindT h
      cases x129
      case false =>
       obtain ⟨x150, ex150, h⟩ := bindT h
       cases x150
       case false =>
        obtain rfl := inj_ok h
        simp [g5, g6, g9, hl1, ex119, ex120, e123, ex124a, ex124b, ex124c, ex125, ex126, ex127, ex128, ex129, ex150, hw]
       obtain ⟨x151, ex151, h⟩ := bindT h
       obtain ⟨x152, ex152, h⟩ := bindT h
       cases x152
       case false =>
        obtain rfl := inj_ok h
        simp [g5, g6, g9, hl1, ex119, ex120, e123, ex124a, ex124b, ex124c, ex125, ex126, ex127, ex128, ex129, ex150, ex151, ex152, hw]
       obtain ⟨b153, e154, h⟩ := bind_ok h
       have e154 : ∀ hp, E Tryd.prog Y0 18 [] hp = some (.v (.bool b153), hp, none) := fun hp => f18_is  e154
       obtain rfl := inj_ok h
       simp [g5, g6, g9, hl1, ex119, ex120, e123, ex124a, ex124b, ex124c, ex125, ex126, ex127, ex128, ex129, ex150, ex151, ex152, e154, hw]
      obtain ⟨⟨⟨c130, l131⟩, x132, b133⟩, e134, h⟩ := bind_ok h
      try dsimp only at h
      have e134 : ∀ hp, E Tryd.prog Y0 50 [.a [iv x1.1, .l .fz .nz x1.2.length (x1.2.map iv)], .l .bor .nz v116.length (v116.map iv)] hp = some (.t [.l .fz c130 l131.length (l131.map iv), iv x132, .v (.bool b133)], hp, none) := fun hp => f50_is (c0b := .nz) (a1 := true) (c1 := .nz) e134
      cases b133
      case false =>
       obtain rfl := inj_ok h
       simp [g5, g6, g9, hl1, ex119, ex120, e123, ex124a, ex124b, ex124c, ex125, ex126, ex127, ex128, ex129, e134, hw]
      obtain ⟨x135, ex135, h⟩ := bindT h
      cases x135
      case false =>
       obtain rfl := inj_ok h
       simp [g5, g6, g9, hl1, ex119, ex120, e123, ex124a, ex124b, ex124c, ex125, ex126, ex127, ex128, ex129, e134, ex135, hw]
      obtain ⟨x136, ex136, h⟩ := bindT h
      obtain ⟨x137, ex137, h⟩ := bindT h
      obtain ⟨x138, ex138, h⟩ := bindT h
      cases x138
      case false =>
       obtain rfl := inj_ok h
       simp [g5, g6, g9, hl1, ex119, ex120, e123, ex124a, ex124b, ex124c, ex125, ex126, ex127, ex128, ex129, e134, ex135, ex136, ex137, ex138, hw]
      simp [g5, g6, g9, hl1, ex119, ex120, e123, ex124a, ex124b, ex124c, ex125, ex126, ex127, ex128, ex129, e134, ex135, ex136, ex137, ex138]
      have hL1 := h; clear h
      refine loopS (S := f14_L1 F x120 l131 x137) (fun v139 σ => ∃ (ts : Tr PV) (w : Option Nat), wok hp.length w ∧ σ = ⟨[], ts, hp ++ [some [kv .u8 p0a, kv .u8 p0b, kv .u8 p0c, kv .u8 p0d, kv .u8 p0e, kv .u8 p0f, kv .u8 p0g, kv .u8 p0h, kv .u8 p0i, kv .u8 p0j, kv .u8 p0k, kv .u8 p0l, kv .u8 p0m, kv .u8 p0n], some (m118.map (kv .u8)), some [iv x1.1, .l .fz .nz x1.2.length (x1.2.map iv)]], w⟩ ∧ ts.get 17 = some (.l .fz .nz x120.1.length (x120.1.map lv)) ∧ ts.get 196 = some (.l .fz c130 l131.length (l131.map iv)) ∧ ts.get 197 = some (iv x137) ∧ ts.get 198 = some (iv v139) ∧ m118.length = 12 ∧ True) (fun _ σ => ∃ (ts : Tr PV) (w : Option Nat), wok hp.length w ∧ σ = ⟨[], ts, hp ++ [some [kv .u8 p0a, kv .u8 p0b, kv .u8 p0c, kv .u8 p0d, kv .u8 p0e, kv .u8 p0f, kv .u8 p0g, kv .u8 p0h, kv .u8 p0i, kv .u8 p0j, kv .u8 p0k, kv .u8 p0l, kv .u8 p0m, kv .u8 p0n], some (m118.map (kv .u8)), some [iv x1.1, .l .fz .nz x1.2.length (x1.2.map iv)]], w⟩ ∧ m118.length = 12 ∧ True) (fun _ => rfl) hL1 ?_ ?_ ?_
      · exact ⟨_, _, by simp [hw], rfl, by simp [g5, g6, g9, hl1, ex119, ex120, e123, ex124a, ex124b, ex124c, ex125, ex126, ex127, ex128, ex129, e134, ex135, ex136, ex137, ex138]⟩
      · rintro ⟨⟩ σ ⟨ts, w, hw, rfl, hl1, -⟩ h
        clear hL1
        try dsimp only at h
        obtain ⟨b148, e149, h⟩ := bind_ok h
        have e149 : ∀ hp, E Tryd.prog Y0 18 [] hp = some (.v (.bool b148), hp, none) := fun hp => f18_is  e149
        obtain rfl := inj_ok h
        simp [hl1, e149, hw]
      · rintro k n v139 σ ⟨ts, w, hw, rfl, g17, g196, g197, g198, hl1, -⟩ h ih ex
        clear hL1
        rw [f14_L1] at h
        obtain ⟨x140, ex140, h⟩ := bindT h
        cases x140
        case false =>
         simp [g17, g196, g197, g198, hl1, ex140]
         refine ex () _ ?_ h
         exact ⟨_, _, by simp [hw], rfl, by simp [g17, g196, g197, g198, hl1, ex140]⟩
        obtain ⟨y141, ey141, h⟩ := bind_ok h
        obtain ⟨ey141a, ey141e, ey141b, ey141c, ey141g⟩ := gI_ok rfl ey141
        obtain ⟨y142, ey142, h⟩ := bind_ok h
        obtain ⟨ey142a, ey142e, ey142b, ey142c, ey142g⟩ := gI_ok rfl ey142
        obtain ⟨⟨c143, l144⟩, e145, h⟩ := bind_ok h
        try dsimp only at h
        have e145 : ∀ hp, E Tryd.prog Y0 51 [iv y141] hp = some (.l .own c143 l144.length (l144.map iv), hp, none) := fun hp => f51_is  e145
        obtain ⟨x146, ex146, h⟩ := bind_ok h
        have ex146 : ∀ hp, E Tryd.prog Y0 32 [.l .fz y142.1 y142.2.length (y142.2.map iv), .l .fz c143 l144.length (l144.map iv)] hp = some (.v (.bool x146), hp, none) := fun hp => f32_is (a0 := false) (c0 := y142.1) (a1 := false) (c1 := c143) ex146
        cases x146
        case false =>
         obtain rfl := inj_ok h
         simp [g17, g196, g197, g198, hl1, ex140, ey141a, ey141b, ey141c, ey142a, ey142b, ey142c, lv, e145, ex146, hw]
        obtain ⟨x147, ex147, h⟩ := bindT h
        simp [g17, g196, g197, g198, hl1, ex140, ey141a, ey141b, ey141c, ey142a, ey142b, ey142c, lv, e145, ex146, ex147]
        refine ih x147 _ ?_ h
        exact ⟨_, _, by simp [hw], rfl, by simp [g17, g196, g197, g198, hl1, ex140, ey141a, ey141b, ey141c, ey142a, ey142b, ey142c, lv, e145, ex146, ex147]⟩
    | nz =>
      obtain ⟨x124, ex124, h⟩ := bind_ok h
      obtain ⟨ex124a, ex124b, ex124c, ex124q⟩ := app1_ok iv ex124
      have ex124b := ex124b 10 (by decide)
      obtain ⟨x125, ex125, h⟩ := bind_ok h
      have ex125 : ∀ hp, E Tryd.prog Y0 19 [.a [iv x1.1, .l .fz .nz x1.2.length (x1.2.map iv)], .l .fz .nz x124.length (x124.map iv)] hp = some (.t [iv x125.1, iv x125.2], hp, none) := fun hp => f19_is (a1 := false) (c1 := .nz) ex125
      obtain ⟨x126, ex126, h⟩ := bindT h
      cases x126
      case false =>
       obtain rfl := inj_ok h
       simp [g5, g6, g9, hl1, ex119, ex120, e123, ex124a, ex124b, ex124c, ex125, ex126, hw]
      obtain ⟨x127, ex127, h⟩ := bindT h
      cases x127
      case false =>
       obtain rfl := inj_ok h
       simp [g5, g6, g9, hl1, ex119, ex120, e123, ex124a, ex124b, ex124c, ex125, ex126, ex127, hw]
      obtain ⟨x128, ex128, h⟩ := bindT h
      cases x128
      case false =>
       obtain rfl := inj_ok h
       simp [g5, g6, g9, hl1, ex119, ex120, e123, ex124a, ex124b, ex124c, ex125, ex126, ex127, ex128, hw]
      obtain ⟨x129, ex129, h⟩ := bindT h
      cases x129
      case false =>
       obtain ⟨x150, ex150, h⟩ := bindT h
       cases x150
       case false =>
        obtain rfl := inj_ok h
        simp [g5, g6, g9, hl1, ex119, ex120, e123, ex124a, ex124b, ex124c, ex125, ex126, ex127, ex128, ex129, ex150, hw]
       obtain ⟨x151, ex151, h⟩ := bindT h
       obtain ⟨x152, ex152, h⟩ := bindT h
       cases x152
       case false =>
        obtain rfl := inj_ok h
        simp [g5, g6, g9, hl1, ex119, ex120, e123, ex124a, ex124b, ex124c, ex125, ex126, ex127, ex128, ex129, ex150, ex151, ex152, hw]
       obtain ⟨b153, e154, h⟩ := bind_ok h
       have e154 : ∀ hp, E Tryd.prog Y0 18 [] hp = some (.v (.bool b153), hp, none) := fun hp => f18_is  e154
       obtain rfl := inj_ok h
       simp [g5, g6, g9, hl1, ex119, ex120, e123, ex124a, ex124b, ex124c, ex125, ex126, ex127, ex128, ex129, ex150, ex151, ex152, e154, hw]
      obtain ⟨⟨⟨c130, l131⟩, x132, b133⟩, e134, h⟩ := bind_ok h
      try dsimp only at h
      have e134 : ∀ hp, E Tryd.prog Y0 50 [.a [iv x1.1, .l .fz .nz x1.2.length (x1.2.map iv)], .l .bor .nz v116.length (v116.map iv)] hp = some (.t [.l .fz c130 l131.length (l131.map iv), iv x132, .v (.bool b133)], hp, none) := fun hp => f50_is (c0b := .nz) (a1 := true) (c1 := .nz) e134
      cases b133
      case false =>
       obtain rfl := inj_ok h
       simp [g5, g6, g9, hl1, ex119, ex120, e123, ex124a, ex124b, ex124c, ex125, ex126, ex127, ex128, ex129, e134, hw]
      obtain ⟨x135, ex135, h⟩ := bindT h
      cases x135
      case false =>
       obtain rfl := inj_ok h
       simp [g5, g6, g9, hl1, ex119, ex120, e123, ex124a, ex124b, ex124c, ex125, ex126, ex127, ex128, ex129, e134, ex135, hw]
      obtain ⟨x136, ex136, h⟩ := bindT h
      obtain ⟨x137, ex137, h⟩ := bindT h
      obtain ⟨x138, ex138, h⟩ := bindT h
      cases x138
      case false =>
       obtain rfl := inj_ok h
       simp [g5, g6, g9, hl1, ex119, ex120, e123, ex124a, ex124b, ex124c, ex125, ex126, ex127, ex128, ex129, e134, ex135, ex136, ex137, ex138, hw]
      simp [g5, g6, g9, hl1, ex119, ex120, e123, ex124a, ex124b, ex124c, ex125, ex126, ex127, ex128, ex129, e134, ex135, ex136, ex137, ex138]
      have hL1 := h; clear h
      refine loopS (S := f14_L1 F x120 l131 x137) (fun v139 σ => ∃ (ts : Tr PV) (w : Option Nat), wok hp.length w ∧ σ = ⟨[], ts, hp ++ [some [kv .u8 p0a, kv .u8 p0b, kv .u8 p0c, kv .u8 p0d, kv .u8 p0e, kv .u8 p0f, kv .u8 p0g, kv .u8 p0h, kv .u8 p0i, kv .u8 p0j, kv .u8 p0k, kv .u8 p0l, kv .u8 p0m, kv .u8 p0n], some (m118.map (kv .u8)), some [iv x1.1, .l .fz .nz x1.2.length (x1.2.map iv)]], w⟩ ∧ ts.get 17 = some (.l .fz .nz x120.1.length (x120.1.map lv)) ∧ ts.get 196 = some (.l .fz c130 l131.length (l131.map iv)) ∧ ts.get 197 = some (iv x137) ∧ ts.get 198 = some (iv v139) ∧ m118.length = 12 ∧ True) (fun _ σ => ∃ (ts : Tr PV) (w : Option Nat), wok hp.length w ∧ σ = ⟨[], ts, hp ++ [some [kv .u8 p0a, kv .u8 p0b, kv .u8 p0c, kv .u8 p0d, kv .u8 p0e, kv .u8 p0f, kv .u8 p0g, kv .u8 p0h, kv .u8 p0i, kv .u8 p0j, kv .u8 p0k, kv .u8 p0l, kv .u8 p0m, kv .u8 p0n], some (m118.map (kv .u8)), some [iv x1.1, .l .fz .nz x1.2.length (x1.2.map iv)]], w⟩ ∧ m118.length = 12 ∧ True) (fun _ => rfl) hL1 ?_ ?_ ?_
      · exact ⟨_, _, by simp [hw], rfl, by simp [g5, g6, g9, hl1, ex119, ex120, e123, ex124a, ex124b, ex124c, ex125, ex126, ex127, ex128, ex129, e134, ex135, ex136, ex137, ex138]⟩
      · rintro ⟨⟩ σ ⟨ts, w, hw, rfl, hl1, -⟩ h
        clear hL1
        try dsimp only at h
        obtain ⟨b148, e149, h⟩ := bind_ok h
        have e149 : ∀ hp, E Tryd.prog Y0 18 [] hp = some (.v (.bool b148), hp, none) := fun hp => f18_is  e149
        obtain rfl := inj_ok h
        simp [hl1, e149, hw]
      · rintro k n v139 σ ⟨ts, w, hw, rfl, g17, g196, g197, g198, hl1, -⟩ h ih ex
        clear hL1
        rw [f14_L1] at h
        obtain ⟨x140, ex140, h⟩ := bindT h
        cases x140
        case false =>
         simp [g17, g196, g197, g198, hl1, ex140]
         refine ex () _ ?_ h
         exact ⟨_, _, by simp [hw], rfl, by simp [g17, g196, g197, g198, hl1, ex140]⟩
        obtain ⟨y141, ey141, h⟩ := bind_ok h
        obtain ⟨ey141a, ey141e, ey141b, ey141c, ey141g⟩ := gI_ok rfl ey141
        obtain ⟨y142, ey142, h⟩ := bind_ok h
        obtain ⟨ey142a, ey142e, ey142b, ey142c, ey142g⟩ := gI_ok rfl ey142
        obtain ⟨⟨c143, l144⟩, e145, h⟩ := bind_ok h
        try dsimp only at h
        have e145 : ∀ hp, E Tryd.prog Y0 51 [iv y141] hp = some (.l .own c143 l144.length (l144.map iv), hp, none) := fun hp => f51_is  e145
        obtain ⟨x146, ex146, h⟩ := bind_ok h
        have ex146 : ∀ hp, E Tryd.prog Y0 32 [.l .fz y142.1 y142.2.length (y142.2.map iv), .l .fz c143 l144.length (l144.map iv)] hp = some (.v (.bool x146), hp, none) := fun hp => f32_is (a0 := false) (c0 := y142.1) (a1 := false) (c1 := c143) ex146
        cases x146
        case false =>
         obtain rfl := inj_ok h
         simp [g17, g196, g197, g198, hl1, ex140, ey141a, ey141b, ey141c, ey142a, ey142b, ey142c, lv, e145, ex146, hw]
        obtain ⟨x147, ex147, h⟩ := bindT h
        simp [g17, g196, g197, g198, hl1, ex140, ey141a, ey141b, ey141c, ey142a, ey142b, ey142c, lv, e145, ex146, ex147]
        refine ih x147 _ ?_ h
        exact ⟨_, _, by simp [hw], rfl, by simp [g17, g196, g197, g198, hl1, ex140, ey141a, ey141b, ey141c, ey142a, ey142b, ey142c, lv, e145, ex146, ex147]⟩
    | any =>
      obtain ⟨x124, ex124, h⟩ := bind_ok h
      obtain ⟨ex124a, ex124b, ex124c, ex124q⟩ := app1_ok iv ex124
      have ex124b := ex124b 10 (by decide)
      obtain ⟨x125, ex125, h⟩ := bind_ok h
      have ex125 : ∀ hp, E Tryd.prog Y0 19 [.a [iv x1.1, .l .fz .nz x1.2.length (x1.2.map iv)], .l .fz .nz x124.length (x124.map iv)] hp = some (.t [iv x125.1, iv x125.2], hp, none) := fun hp => f19_is (a1 := false) (c1 := .nz) ex125
      obtain ⟨x126, ex126, h⟩ := bindT h
      cases x126
      case false =>
       obtain rfl := inj_ok h
       simp [g5, g6, g9, hl1, ex119, ex120, e123, ex124a, ex124b, ex124c, ex125, ex126, hw]
      obtain ⟨x127, ex127, h⟩ := bindT h
      cases x127
      case false =>
       obtain rfl := inj_ok h
       simp [g5, g6, g9, hl1, ex119, ex120, e123, ex124a, ex124b, ex124c, ex125, ex126, ex127, hw]
      obtain ⟨x128, ex128, h⟩ := bindT h
      cases x128
      case false =>
       obtain rfl := inj_ok h
       simp [g5, g6, g9, hl1, ex119, ex120, e123, ex124a, ex124b, ex124c, ex125, ex126, ex127, ex128, hw]
      obtain ⟨x129, ex129, h⟩ := bindT h
      cases x129
      case false =>
       obtain ⟨x150, ex150, h⟩ := bindT h
       cases x150
       case false =>
        obtain rfl := inj_ok h
        simp [g5, g6, g9, hl1, ex119, ex120, e123, ex124a, ex124b, ex124c, ex125, ex126, ex127, ex128, ex129, ex150, hw]
       obtain ⟨x151, ex151, h⟩ := bindT h
       obtain ⟨x152, ex152, h⟩ := bindT h
       cases x152
       case false =>
        obtain rfl := inj_ok h
        simp [g5, g6, g9, hl1, ex119, ex120, e123, ex124a, ex124b, ex124c, ex125, ex126, ex127, ex128, ex129, ex150, ex151, ex152, hw]
       obtain ⟨b153, e154, h⟩ := bind_ok h
       have e154 : ∀ hp, E Tryd.prog Y0 18 [] hp = some (.v (.bool b153), hp, none) := fun hp => f18_is  e154
       obtain rfl := inj_ok h
       simp [g5, g6, g9, hl1, ex119, ex120, e123, ex124a, ex124b, ex124c, ex125, ex126, ex127, ex128, ex129, ex150, ex151, ex152, e154, hw]
      obtain ⟨⟨⟨c130, l131⟩, x132, b133⟩, e134, h⟩ := bind_ok h
      try dsimp only at h
      have e134 : ∀ hp, E Tryd.prog Y0 50 [.a [iv x1.1, .l .fz .nz x1.2.length (x1.2.map iv)], .l .bor .nz v116.length (v116.map iv)] hp = some (.t [.l .fz c130 l131.length (l131.map iv), iv x132, .v (.bool b133)], hp, none) := fun hp => f50_is (c0b := .nz) (a1 := true) (c1 := .nz) e134
      cases b133
      case false =>
       obtain rfl := inj_ok h
       simp [g5, g6, g9, hl1, ex119, ex120, e123, ex124a, ex124b, ex124c, ex125, ex126, ex127, ex128, ex129, e134, hw]
      obtain ⟨x135, ex135, h⟩ := bindT h
      cases x135
      case false =>
       obtain rfl := inj_ok h
       simp [g5, g6, g9, hl1, ex119, ex120, e123, ex124a, ex124b, ex124c, ex125, ex126, ex127, ex128, ex129, e134, ex135, hw]
      obtain ⟨x136, ex136, h⟩ := bindT h
      obtain ⟨x137, ex137, h⟩ := bindT h
      obtain ⟨x138, ex138, h⟩ := bindT h
      cases x138
      case false =>
       obtain rfl := inj_ok h
       simp [g5, g6, g9, hl1, ex119, ex120, e123, ex124a, ex124b, ex124c, ex125, ex126, ex127, ex128, ex129, e134, ex135, ex136, ex137, ex138, hw]
      simp [g5, g6, g9, hl1, ex119, ex120, e123, ex124a, ex124b, ex124c, ex125, ex126, ex127, ex128, ex129, e134, ex135, ex136, ex137, ex138]
      have hL1 := h; clear h
      refine loopS (S := f14_L1 F x120 l131 x137) (fun v139 σ => ∃ (ts : Tr PV) (w : Option Nat), wok hp.length w ∧ σ = ⟨[], ts, hp ++ [some [kv .u8 p0a, kv .u8 p0b, kv .u8 p0c, kv .u8 p0d, kv .u8 p0e, kv .u8 p0f, kv .u8 p0g, kv .u8 p0h, kv .u8 p0i, kv .u8 p0j, kv .u8 p0k, kv .u8 p0l, kv .u8 p0m, kv .u8 p0n], some (m118.map (kv .u8)), some [iv x1.1, .l .fz .nz x1.2.length (x1.2.map iv)]], w⟩ ∧ ts.get 17 = some (.l .fz .nz x120.1.length (x120.1.map lv)) ∧ ts.get 196 = some (.l .fz c130 l131.length (l131.map iv)) ∧ ts.get 197 = some (iv x137) ∧ ts.get 198 = some (iv v139) ∧ m118.length = 12 ∧ True) (fun _ σ => ∃ (ts : Tr PV) (w : Option Nat), wok hp.length w ∧ σ = ⟨[], ts, hp ++ [some [kv .u8 p0a, kv .u8 p0b, kv .u8 p0c, kv .u8 p0d, kv .u8 p0e, kv .u8 p0f, kv .u8 p0g, kv .u8 p0h, kv .u8 p0i, kv .u8 p0j, kv .u8 p0k, kv .u8 p0l, kv .u8 p0m, kv .u8 p0n], some (m118.map (kv .u8)), some [iv x1.1, .l .fz .nz x1.2.length (x1.2.map iv)]], w⟩ ∧ m118.length = 12 ∧ True) (fun _ => rfl) hL1 ?_ ?_ ?_
      · exact ⟨_, _, by simp [hw], rfl, by simp [g5, g6, g9, hl1, ex119, ex120, e123, ex124a, ex124b, ex124c, ex125, ex126, ex127, ex128, ex129, e134, ex135, ex136, ex137, ex138]⟩
      · rintro ⟨⟩ σ ⟨ts, w, hw, rfl, hl1, -⟩ h
        clear hL1
        try dsimp only at h
        obtain ⟨b148, e149, h⟩ := bind_ok h
        have e149 : ∀ hp, E Tryd.prog Y0 18 [] hp = some (.v (.bool b148), hp, none) := fun hp => f18_is  e149
        obtain rfl := inj_ok h
        simp [hl1, e149, hw]
      · rintro k n v139 σ ⟨ts, w, hw, rfl, g17, g196, g197, g198, hl1, -⟩ h ih ex
        clear hL1
        rw [f14_L1] at h
        obtain ⟨x140, ex140, h⟩ := bindT h
        cases x140
        case false =>
         simp [g17, g196, g197, g198, hl1, ex140]
         refine ex () _ ?_ h
         exact ⟨_, _, by simp [hw], rfl, by simp [g17, g196, g197, g198, hl1, ex140]⟩
        obtain ⟨y141, ey141, h⟩ := bind_ok h
        obtain ⟨ey141a, ey141e, ey141b, ey141c, ey141g⟩ := gI_ok rfl ey141
        obtain ⟨y142, ey142, h⟩ := bind_ok h
        obtain ⟨ey142a, ey142e, ey142b, ey142c, ey142g⟩ := gI_ok rfl ey142
        obtain ⟨⟨c143, l144⟩, e145, h⟩ := bind_ok h
        try dsimp only at h
        have e145 : ∀ hp, E Tryd.prog Y0 51 [iv y141] hp = some (.l .own c143 l144.length (l144.map iv), hp, none) := fun hp => f51_is  e145
        obtain ⟨x146, ex146, h⟩ := bind_ok h
        have ex146 : ∀ hp, E Tryd.prog Y0 32 [.l .fz y142.1 y142.2.length (y142.2.map iv), .l .fz c143 l144.length (l144.map iv)] hp = some (.v (.bool x146), hp, none) := fun hp => f32_is (a0 := false) (c0 := y142.1) (a1 := false) (c1 := c143) ex146
        cases x146
        case false =>
         obtain rfl := inj_ok h
         simp [g17, g196, g197, g198, hl1, ex140, ey141a, ey141b, ey141c, ey142a, ey142b, ey142c, lv, e145, ex146, hw]
        obtain ⟨x147, ex147, h⟩ := bindT h
        simp [g17, g196, g197, g198, hl1, ex140, ey141a, ey141b, ey141c, ey142a, ey142b, ey142c, lv, e145, ex146, ex147]
        refine ih x147 _ ?_ h
        exact ⟨_, _, by simp [hw], rfl, by simp [g17, g196, g197, g198, hl1, ex140, ey141a, ey141b, ey141c, ey142a, ey142b, ey142c, lv, e145, ex146, ex147]⟩
  · rintro k n ⟨v4, v5, v6, v7, v8, m9⟩ σ ⟨ts, w, hw, rfl, g3, g5, g6, g7, g8, g9, g29, g30, g31, hl1, -⟩ h ih ex
    clear hL0
    rw [f14_L0] at h
    obtain ⟨x10, ex10, h⟩ := bindT h
    cases x10
    case false =>
     simp [g3, g5, g6, g7, g8, g9, g29, g30, g31, hl1, ex10]
     refine ex (v4, v7, m9) _ ?_ h
     exact ⟨_, _, by simp [hw], rfl, by simp [g3, g5, g6, g7, g8, g9, g29, g30, g31, hl1, ex10]⟩
    obtain ⟨y11, ey11, h⟩ := bind_ok h
    obtain ⟨ey11a, ey11e, ey11b, ey11c, ey11g⟩ := gI_ok rfl ey11
    obtain ⟨y12, ey12, h⟩ := bind_ok h
    obtain ⟨ey12a, ey12e, ey12b, ey12c, ey12g⟩ := gI_ok hl1 ey12
    obtain ⟨x13, ex13, h⟩ := bindT h
    obtain ⟨x14, ex14, h⟩ := bindT h
    obtain ⟨x15, ex15, h⟩ := bindT h
    obtain ⟨x16, ex16, h⟩ := bindT h
    cases x16
    case false =>
     obtain ⟨x69, ex69, h⟩ := bind_ok h
     obtain ⟨ex69a, ex69b, ex69c, ex69q⟩ := app1_ok iv ex69
     have ex69b := ex69b 10 (by decide)
     obtain ⟨x70, ex70, h⟩ := bindT h
     cases x70
     case false =>
      obtain ⟨x115, ex115, h⟩ := bindT h
      simp [g3, g5, g6, g7, g8, g9, g29, g30, g31, hl1, ex10, ey11a, ey11b, ey11c, ey12a, ey12b, ey12c, conv_5_3Law14, ex13, ex14, ex15, ex16, ex69a, ex69b, ex69c, ex70, ex115]
      refine ih (x69, v5, v6, v7, x115, m9) _ ?_ h
      exact ⟨_, _, by simp [hw], rfl, by simp [g3, g5, g6, g7, g8, g9, g29, g30, g31, hl1, ex10, ey11a, ey11b, ey11c, ey12a, ey12b, ey12c, conv_5_3Law14, ex13, ex14, ex15, ex16, ex69a, ex69b, ex69c, ex70, ex115]⟩
     obtain ⟨x71, ex71, h⟩ := bind_ok h
     obtain ⟨ex71a, ex71⟩ := shrO_ok ex71
     obtain ⟨x72, ex72, h⟩ := bindT h
     obtain ⟨x73, ex73, h⟩ := bindT h
     cases x73
     case false =>
      obtain ⟨x112, ex112, h⟩ := bindT h
      cases x112
      case true =>
       obtain ⟨x113, ex113, h⟩ := bindT h
       simp [g3, g5, g6, g7, g8, g9, g29, g30, g31, hl1, ex10, ey11a, ey11b, ey11c, ey12a, ey12b, ey12c, conv_5_3Law14, ex13, ex14, ex15, ex16, ex69a, ex69b, ex69c, ex70, ex71, ex71a, ex72, ex73, ex112, ex113]
       refine ih (x69, v5, v6, v7, x113, m9) _ ?_ h
       exact ⟨_, _, by simp [hw], rfl, by simp [g3, g5, g6, g7, g8, g9, g29, g30, g31, hl1, ex10, ey11a, ey11b, ey11c, ey12a, ey12b, ey12c, conv_5_3Law14, ex13, ex14, ex15, ex16, ex69a, ex69b, ex69c, ex70, ex71, ex71a, ex72, ex73, ex112, ex113]⟩
      obtain ⟨x114, ex114, h⟩ := bindT h
      simp [g3, g5, g6, g7, g8, g9, g29, g30, g31, hl1, ex10, ey11a, ey11b, ey11c, ey12a, ey12b, ey12c, conv_5_3Law14, ex13, ex14, ex15, ex16, ex69a, ex69b, ex69c, ex70, ex71, ex71a, ex72, ex73, ex112, ex114]
      refine ih (x69, v5, v6, 15, x114, m9) _ ?_ h
      exact ⟨_, _, by simp [hw], rfl, by simp [g3, g5, g6, g7, g8, g9, g29, g30, g31, hl1, ex10, ey11a, ey11b, ey11c, ey12a, ey12b, ey12c, conv_5_3Law14, ex13, ex14, ex15, ex16, ex69a, ex69b, ex69c, ex70, ex71, ex71a, ex72, ex73, ex112, ex114]⟩
     obtain ⟨x74, ex74, h⟩ := bindT h
     cases x74
     case false =>
      obtain ⟨x103, ex103, h⟩ := bindT h
      cases x103
      case true =>
       obtain ⟨x104, ex104, h⟩ := bind_ok h
       obtain ⟨ex104a, ex104⟩ := shlO_ok ex104
       obtain ⟨x105, ex105, h⟩ := bindT h
       obtain ⟨x106, ex106, h⟩ := bindT h
       obtain ⟨x107, ex107, h⟩ := bindT h
       simp [g3, g5, g6, g7, g8, g9, g29, g30, g31, hl1, ex10, ey11a, ey11b, ey11c, ey12a, ey12b, ey12c, conv_5_3Law14, ex13, ex14, ex15, ex16, ex69a, ex69b, ex69c, ex70, ex71, ex71a, ex72, ex73, ex74, ex103, ex104, ex104a, ex105, ex106, ex107]
       refine ih (x69, x105, x106, v7, x107, m9) _ ?_ h
       exact ⟨_, _, by simp [hw], rfl, by simp [g3, g5, g6, g7, g8, g9, g29, g30, g31, hl1, ex10, ey11a, ey11b, ey11c, ey12a, ey12b, ey12c, conv_5_3Law14, ex13, ex14, ex15, ex16, ex69a, ex69b, ex69c, ex70, ex71, ex71a, ex72, ex73, ex74, ex103, ex104, ex104a, ex105, ex106, ex107]⟩
      obtain ⟨x108, ex108, h⟩ := bind_ok h
      obtain ⟨ex108a, ex108⟩ := shlO_ok ex108
      obtain ⟨x109, ex109, h⟩ := bindT h
      obtain ⟨x110, ex110, h⟩ := bindT h
      obtain ⟨x111, ex111, h⟩ := bindT h
      simp [g3, g5, g6, g7, g8, g9, g29, g30, g31, hl1, ex10, ey11a, ey11b, ey11c, ey12a, ey12b, ey12c, conv_5_3Law14, ex13, ex14, ex15, ex16, ex69a, ex69b, ex69c, ex70, ex71, ex71a, ex72, ex73, ex74, ex103, ex108, ex108a, ex109, ex110, ex111]
      refine ih (x69, x109, x110, 15, x111, m9) _ ?_ h
      exact ⟨_, _, by simp [hw], rfl, by simp [g3, g5, g6, g7, g8, g9, g29, g30, g31, hl1, ex10, ey11a, ey11b, ey11c, ey12a, ey12b, ey12c, conv_5_3Law14, ex13, ex14, ex15, ex16, ex69a, ex69b, ex69c, ex70, ex71, ex71a, ex72, ex73, ex74, ex103, ex108, ex108a, ex109, ex110, ex111]⟩
     obtain ⟨x75, ex75, h⟩ := bindT h
     cases x75
     case true =>
      obtain ⟨x76, ex76, h⟩ := bind_ok h
      obtain ⟨ex76a, ex76⟩ := shlO_ok ex76
      obtain ⟨x77, ex77, h⟩ := bindT h
      obtain ⟨x78, ex78, h⟩ := bindT h
      obtain ⟨x79, ex79, h⟩ := bindT h
      simp [g3, g5, g6, g7, g8, g9, g29, g30, g31, hl1, ex10, ey11a, ey11b, ey11c, ey12a, ey12b, ey12c, conv_5_3Law14, ex13, ex14, ex15, ex16, ex69a, ex69b, ex69c, ex70, ex71, ex71a, ex72, ex73, ex74, ex75, ex76, ex76a, ex77, ex78, ex79]
      refine ih (x69, x77, x78, 2, x79, m9) _ ?_ h
      exact ⟨_, _, by simp [hw], rfl, by simp [g3, g5, g6, g7, g8, g9, g29, g30, g31, hl1, ex10, ey11a, ey11b, ey11c, ey12a, ey12b, ey12c, conv_5_3Law14, ex13, ex14, ex15, ex16, ex69a, ex69b, ex69c, ex70, ex71, ex71a, ex72, ex73, ex74, ex75, ex76, ex76a, ex77, ex78, ex79]⟩
     obtain ⟨x80, ex80, h⟩ := bindT h
     cases x80
     case true =>
      obtain ⟨x81, ex81, h⟩ := bind_ok h
      obtain ⟨ex81a, ex81⟩ := shlO_ok ex81
      obtain ⟨x82, ex82, h⟩ := bindT h
      obtain ⟨x83, ex83, h⟩ := bindT h
      obtain ⟨x84, ex84, h⟩ := bindT h
      simp [g3, g5, g6, g7, g8, g9, g29, g30, g31, hl1, ex10, ey11a, ey11b, ey11c, ey12a, ey12b, ey12c, conv_5_3Law14, ex13, ex14, ex15, ex16, ex69a, ex69b, ex69c, ex70, ex71, ex71a, ex72, ex73, ex74, ex75, ex80, ex81, ex81a, ex82, ex83, ex84]
      refine ih (x69, x82, x83, 2, x84, m9) _ ?_ h
      exact ⟨_, _, by simp [hw], rfl, by simp [g3, g5, g6, g7, g8, g9, g29, g30, g31, hl1, ex10, ey11a, ey11b, ey11c, ey12a, ey12b, ey12c, conv_5_3Law14, ex13, ex14, ex15, ex16, ex69a, ex69b, ex69c, ex70, ex71, ex71a, ex72, ex73, ex74, ex75, ex80, ex81, ex81a, ex82, ex83, ex84]⟩
     obtain ⟨x85, ex85, h⟩ := bind_ok h
     obtain ⟨ex85a, ex85⟩ := shrO_ok ex85
     obtain ⟨x86, ex86, h⟩ := bindT h
     obtain ⟨x87, ex87, h⟩ := bindT h
     cases x87
     case true =>
      obtain ⟨x88, ex88, h⟩ := bind_ok h
      obtain ⟨ex88a, ex88⟩ := shlO_ok ex88
      obtain ⟨x89, ex89, h⟩ := bindT h
      obtain ⟨x90, ex90, h⟩ := bindT h
      obtain ⟨x91, ex91, h⟩ := bindT h
      simp [g3, g5, g6, g7, g8, g9, g29, g30, g31, hl1, ex10, ey11a, ey11b, ey11c, ey12a, ey12b, ey12c, conv_5_3Law14, ex13, ex14, ex15, ex16, ex69a, ex69b, ex69c, ex70, ex71, ex71a, ex72, ex73, ex74, ex75, ex80, ex85, ex85a, ex86, ex87, ex88, ex88a, ex89, ex90, ex91]
      refine ih (x69, x89, x90, 2, x91, m9) _ ?_ h
      exact ⟨_, _, by simp [hw], rfl, by simp [g3, g5, g6, g7, g8, g9, g29, g30, g31, hl1, ex10, ey11a, ey11b, ey11c, ey12a, ey12b, ey12c, conv_5_3Law14, ex13, ex14, ex15, ex16, ex69a, ex69b, ex69c, ex70, ex71, ex71a, ex72, ex73, ex74, ex75, ex80, ex85, ex85a, ex86, ex87, ex88, ex88a, ex89, ex90, ex91]⟩
     obtain ⟨x92, ex92, h⟩ := bind_ok h
     obtain ⟨ex92a, ex92⟩ := shlO_ok ex92
     obtain ⟨x93, ex93, h⟩ := bindT h
     obtain ⟨x94, ex94, h⟩ := bindT h
     obtain ⟨x95, ex95, h⟩ := bind_ok h
     obtain ⟨ex95a, ex95⟩ := shrO_ok ex95
     obtain ⟨x96, ex96, h⟩ := bindT h
     obtain ⟨x97, ex97, h⟩ := bindT h
     cases x97
     case false =>
      obtain ⟨x102, ex102, h⟩ := bindT h
      simp [g3, g5, g6, g7, g8, g9, g29, g30, g31, hl1, ex10, ey11a, ey11b, ey11c, ey12a, ey12b, ey12c, conv_5_3Law14, ex13, ex14, ex15, ex16, ex69a, ex69b, ex69c, ex70, ex71, ex71a, ex72, ex73, ex74, ex75, ex80, ex85, ex85a, ex86, ex87, ex92, ex92a, ex93, ex94, ex95, ex95a, ex96, ex97, ex102]
      refine ih (x69, x93, x94, v7, x102, m9) _ ?_ h
      exact ⟨_, _, by simp [hw], rfl, by simp [g3, g5, g6, g7, g8, g9, g29, g30, g31, hl1, ex10, ey11a, ey11b, ey11c, ey12a, ey12b, ey12c, conv_5_3Law14, ex13, ex14, ex15, ex16, ex69a, ex69b, ex69c, ex70, ex71, ex71a, ex72, ex73, ex74, ex75, ex80, ex85, ex85a, ex86, ex87, ex92, ex92a, ex93, ex94, ex95, ex95a, ex96, ex97, ex102]⟩
     obtain ⟨x98, ex98, h⟩ := bind_ok h
     obtain ⟨ex98a, ex98⟩ := shlO_ok ex98
     obtain ⟨x99, ex99, h⟩ := bindT h
     obtain ⟨x100, ex100, h⟩ := bindT h
     obtain ⟨x101, ex101, h⟩ := bindT h
     simp [g3, g5, g6, g7, g8, g9, g29, g30, g31, hl1, ex10, ey11a, ey11b, ey11c, ey12a, ey12b, ey12c, conv_5_3Law14, ex13, ex14, ex15, ex16, ex69a, ex69b, ex69c, ex70, ex71, ex71a, ex72, ex73, ex74, ex75, ex80, ex85, ex85a, ex86, ex87, ex92, ex92a, ex93, ex94, ex95, ex95a, ex96, ex97, ex98, ex98a, ex99, ex100, ex101]
     refine ih (x69, x99, x100, v7, x101, m9) _ ?_ h
     exact ⟨_, _, by simp [hw], rfl, by simp [g3, g5, g6, g7, g8, g9, g29, g30, g31, hl1, ex10, ey11a, ey11b, ey11c, ey12a, ey12b, ey12c, conv_5_3Law14, ex13, ex14, ex15, ex16, ex69a, ex69b, ex69c, ex70, ex71, ex71a, ex72, ex73, ex74, ex75, ex80, ex85, ex85a, ex86, ex87, ex92, ex92a, ex93, ex94, ex95, ex95a, ex96, ex97, ex98, ex98a, ex99, ex100, ex101]⟩
    obtain ⟨x17, ex17, h⟩ := bind_ok h
    obtain ⟨ex17a, ex17⟩ := shrO_ok ex17
    obtain ⟨x18, ex18, h⟩ := bindT h
    obtain ⟨x19, ex19, h⟩ := bindT h
    cases x19
    case false =>
     obtain ⟨x65, ex65, h⟩ := bind_ok h
     obtain ⟨ex65a, ex65b, ex65c, ex65q⟩ := app1_ok iv ex65
     have ex65b := ex65b 10 (by decide)
     obtain ⟨x66, ex66, h⟩ := bindT h
     cases x66
     case true =>
      obtain ⟨x67, ex67, h⟩ := bindT h
      simp [g3, g5, g6, g7, g8, g9, g29, g30, g31, hl1, ex10, ey11a, ey11b, ey11c, ey12a, ey12b, ey12c, conv_5_3Law14, ex13, ex14, ex15, ex16, ex17, ex17a, ex18, ex19, ex65a, ex65b, ex65c, ex66, ex67]
      refine ih (x65, v5, v6, v7, x67, m9) _ ?_ h
      exact ⟨_, _, by simp [hw], rfl, by simp [g3, g5, g6, g7, g8, g9, g29, g30, g31, hl1, ex10, ey11a, ey11b, ey11c, ey12a, ey12b, ey12c, conv_5_3Law14, ex13, ex14, ex15, ex16, ex17, ex17a, ex18, ex19, ex65a, ex65b, ex65c, ex66, ex67]⟩
     obtain ⟨x68, ex68, h⟩ := bindT h
     simp [g3, g5, g6, g7, g8, g9, g29, g30, g31, hl1, ex10, ey11a, ey11b, ey11c, ey12a, ey12b, ey12c, conv_5_3Law14, ex13, ex14, ex15, ex16, ex17, ex17a, ex18, ex19, ex65a, ex65b, ex65c, ex66, ex68]
     refine ih (x65, v5, v6, v7, x68, m9) _ ?_ h
     exact ⟨_, _, by simp [hw], rfl, by simp [g3, g5, g6, g7, g8, g9, g29, g30, g31, hl1, ex10, ey11a, ey11b, ey11c, ey12a, ey12b, ey12c, conv_5_3Law14, ex13, ex14, ex15, ex16, ex17, ex17a, ex18, ex19, ex65a, ex65b, ex65c, ex66, ex68]⟩
    obtain ⟨x20, ex20, h⟩ := bindT h
    cases x20
    case false =>
     obtain ⟨x58, ex58, h⟩ := bind_ok h
     obtain ⟨ex58a, ex58b, ex58c, ex58q⟩ := app1_ok iv ex58
     have ex58b := ex58b 10 (by decide)
     obtain ⟨x59, ex59, h⟩ := bindT h
     cases x59
     case false =>
      obtain ⟨x64, ex64, h⟩ := bindT h
      simp [g3, g5, g6, g7, g8, g9, g29, g30, g31, hl1, ex10, ey11a, ey11b, ey11c, ey12a, ey12b, ey12c, conv_5_3Law14, ex13, ex14, ex15, ex16, ex17, ex17a, ex18, ex19, ex20, ex58a, ex58b, ex58c, ex59, ex64]
      refine ih (x58, v5, v6, v7, x64, m9) _ ?_ h
      exact ⟨_, _, by simp [hw], rfl, by simp [g3, g5, g6, g7, g8, g9, g29, g30, g31, hl1, ex10, ey11a, ey11b, ey11c, ey12a, ey12b, ey12c, conv_5_3Law14, ex13, ex14, ex15, ex16, ex17, ex17a, ex18, ex19, ex20, ex58a, ex58b, ex58c, ex59, ex64]⟩
     obtain ⟨x60, ex60, h⟩ := bind_ok h
     obtain ⟨ex60a, ex60⟩ := shlO_ok ex60
     obtain ⟨x61, ex61, h⟩ := bindT h
     obtain ⟨x62, ex62, h⟩ := bindT h
     obtain ⟨x63, ex63, h⟩ := bindT h
     simp [g3, g5, g6, g7, g8, g9, g29, g30, g31, hl1, ex10, ey11a, ey11b, ey11c, ey12a, ey12b, ey12c, conv_5_3Law14, ex13, ex14, ex15, ex16, ex17, ex17a, ex18, ex19, ex20, ex58a, ex58b, ex58c, ex59, ex60, ex60a, ex61, ex62, ex63]
     refine ih (x58, x61, x62, v7, x63, m9) _ ?_ h
     exact ⟨_, _, by simp [hw], rfl, by simp [g3, g5, g6, g7, g8, g9, g29, g30, g31, hl1, ex10, ey11a, ey11b, ey11c, ey12a, ey12b, ey12c, conv_5_3Law14, ex13, ex14, ex15, ex16, ex17, ex17a, ex18, ex19, ex20, ex58a, ex58b, ex58c, ex59, ex60, ex60a, ex61, ex62, ex63]⟩
    obtain ⟨⟨c21, l22⟩, e23, h⟩ := bind_ok h
    try dsimp only at h
    have e23 : ∀ hp, E Tryd.prog Y0 51 [iv v5] hp = some (.l .own c21 l22.length (l22.map iv), hp, none) := fun hp => f51_is  e23
    obtain ⟨x24, ex24, h⟩ := bindT h
    obtain ⟨x25, ex25, h⟩ := bind_ok h
    obtain ⟨ex25a, ex25⟩ := remO_ok ex25
    obtain ⟨y26, ey26, h⟩ := bind_ok h
    obtain ⟨ey26a, ey26e, ey26b, ey26c, ey26g⟩ := gI_ok rfl ey26
    obtain ⟨x27, ex27, h⟩ := bind_ok h
    obtain ⟨ex27a, ex27b, ex27c, ex27q⟩ := app1_ok iv ex27
    have ex27b := ex27b 10 (by decide)
    obtain ⟨x28, ex28, h⟩ := bindT h
    cases x28
    case false =>
     obtain ⟨x57, ex57, h⟩ := bindT h
     simp [g3, g5, g6, g7, g8, g9, g29, g30, g31, hl1, ex10, ey11a, ey11b, ey11c, ey12a, ey12b, ey12c, conv_5_3Law14, ex13, ex14, ex15, ex16, ex17, ex17a, ex18, ex19, ex20, e23, ex24, ex25, ex25a, ey26a, ey26b, ey26c, ex27a, ex27b, ex27c, ex28, ex57]
     refine ih (x27, v5, v6, v7, x57, m9) _ ?_ h
     exact ⟨_, _, by simp [hw], rfl, by simp [g3, g5, g6, g7, g8, g9, g29, g30, g31, hl1, ex10, ey11a, ey11b, ey11c, ey12a, ey12b, ey12c, conv_5_3Law14, ex13, ex14, ex15, ex16, ex17, ex17a, ex18, ex19, ex20, e23, ex24, ex25, ex25a, ey26a, ey26b, ey26c, ex27a, ex27b, ex27c, ex28, ex57]⟩
    obtain ⟨x29, ex29, h⟩ := bindT h
    cases x29
    case true =>
     obtain ⟨x30, ex30, h⟩ := bind_ok h
     obtain ⟨ex30a, ex30⟩ := shlO_ok ex30
     obtain ⟨x31, ex31, h⟩ := bindT h
     obtain ⟨x32, ex32, h⟩ := bindT h
     obtain ⟨x33, ex33, h⟩ := bindT h
     simp [g3, g5, g6, g7, g8, g9, g29, g30, g31, hl1, ex10, ey11a, ey11b, ey11c, ey12a, ey12b, ey12c, conv_5_3Law14, ex13, ex14, ex15, ex16, ex17, ex17a, ex18, ex19, ex20, e23, ex24, ex25, ex25a, ey26a, ey26b, ey26c, ex27a, ex27b, ex27c, ex28, ex29, ex30, ex30a, ex31, ex32, ex33]
     refine ih (x27, x31, x32, 2, x33, m9) _ ?_ h
     exact ⟨_, _, by simp [hw], rfl, by simp [g3, g5, g6, g7, g8, g9, g29, g30, g31, hl1, ex10, ey11a, ey11b, ey11c, ey12a, ey12b, ey12c, conv_5_3Law14, ex13, ex14, ex15, ex16, ex17, ex17a, ex18, ex19, ex20, e23, ex24, ex25, ex25a, ey26a, ey26b, ey26c, ex27a, ex27b, ex27c, ex28, ex29, ex30, ex30a, ex31, ex32, ex33]⟩
    obtain ⟨x34, ex34, h⟩ := bindT h
    cases x34
    case true =>
     obtain ⟨x35, ex35, h⟩ := bind_ok h
     obtain ⟨ex35a, ex35⟩ := shlO_ok ex35
     obtain ⟨x36, ex36, h⟩ := bindT h
     obtain ⟨x37, ex37, h⟩ := bindT h
     obtain ⟨x38, ex38, h⟩ := bindT h
     simp [g3, g5, g6, g7, g8, g9, g29, g30, g31, hl1, ex10, ey11a, ey11b, ey11c, ey12a, ey12b, ey12c, conv_5_3Law14, ex13, ex14, ex15, ex16, ex17, ex17a, ex18, ex19, ex20, e23, ex24, ex25, ex25a, ey26a, ey26b, ey26c, ex27a, ex27b, ex27c, ex28, ex29, ex34, ex35, ex35a, ex36, ex37, ex38]
     refine ih (x27, x36, x37, 2, x38, m9) _ ?_ h
     exact ⟨_, _, by simp [hw], rfl, by simp [g3, g5, g6, g7, g8, g9, g29, g30, g31, hl1, ex10, ey11a, ey11b, ey11c, ey12a, ey12b, ey12c, conv_5_3Law14, ex13, ex14, ex15, ex16, ex17, ex17a, ex18, ex19, ex20, e23, ex24, ex25, ex25a, ey26a, ey26b, ey26c, ex27a, ex27b, ex27c, ex28, ex29, ex34, ex35, ex35a, ex36, ex37, ex38]⟩
    obtain ⟨x39, ex39, h⟩ := bind_ok h
    obtain ⟨ex39a, ex39⟩ := shrO_ok ex39
    obtain ⟨x40, ex40, h⟩ := bindT h
    obtain ⟨x41, ex41, h⟩ := bindT h
    cases x41
    case true =>
     obtain ⟨x42, ex42, h⟩ := bind_ok h
     obtain ⟨ex42a, ex42⟩ := shlO_ok ex42
     obtain ⟨x43, ex43, h⟩ := bindT h
     obtain ⟨x44, ex44, h⟩ := bindT h
     obtain ⟨x45, ex45, h⟩ := bindT h
     simp [g3, g5, g6, g7, g8, g9, g29, g30, g31, hl1, ex10, ey11a, ey11b, ey11c, ey12a, ey12b, ey12c, conv_5_3Law14, ex13, ex14, ex15, ex16, ex17, ex17a, ex18, ex19, ex20, e23, ex24, ex25, ex25a, ey26a, ey26b, ey26c, ex27a, ex27b, ex27c, ex28, ex29, ex34, ex39, ex39a, ex40, ex41, ex42, ex42a, ex43, ex44, ex45]
     refine ih (x27, x43, x44, 2, x45, m9) _ ?_ h
     exact ⟨_, _, by simp [hw], rfl, by simp [g3, g5, g6, g7, g8, g9, g29, g30, g31, hl1, ex10, ey11a, ey11b, ey11c, ey12a, ey12b, ey12c, conv_5_3Law14, ex13, ex14, ex15, ex16, ex17, ex17a, ex18, ex19, ex20, e23, ex24, ex25, ex25a, ey26a, ey26b, ey26c, ex27a, ex27b, ex27c, ex28, ex29, ex34, ex39, ex39a, ex40, ex41, ex42, ex42a, ex43, ex44, ex45]⟩
    obtain ⟨x46, ex46, h⟩ := bind_ok h
    obtain ⟨ex46a, ex46⟩ := shlO_ok ex46
    obtain ⟨x47, ex47, h⟩ := bindT h
    obtain ⟨x48, ex48, h⟩ := bindT h
    obtain ⟨x49, ex49, h⟩ := bind_ok h
    obtain ⟨ex49a, ex49⟩ := shrO_ok ex49
    obtain ⟨x50, ex50, h⟩ := bindT h
    obtain ⟨x51, ex51, h⟩ := bindT h
    cases x51
    case false =>
     obtain ⟨x56, ex56, h⟩ := bindT h
     simp [g3, g5, g6, g7, g8, g9, g29, g30, g31, hl1, ex10, ey11a, ey11b, ey11c, ey12a, ey12b, ey12c, conv_5_3Law14, ex13, ex14, ex15, ex16, ex17, ex17a, ex18, ex19, ex20, e23, ex24, ex25, ex25a, ey26a, ey26b, ey26c, ex27a, ex27b, ex27c, ex28, ex29, ex34, ex39, ex39a, ex40, ex41, ex46, ex46a, ex47, ex48, ex49, ex49a, ex50, ex51, ex56]
     refine ih (x27, x47, x48, v7, x56, m9) _ ?_ h
     exact ⟨_, _, by simp [hw], rfl, by simp [g3, g5, g6, g7, g8, g9, g29, g30, g31, hl1, ex10, ey11a, ey11b, ey11c, ey12a, ey12b, ey12c, conv_5_3Law14, ex13, ex14, ex15, ex16, ex17, ex17a, ex18, ex19, ex20, e23, ex24, ex25, ex25a, ey26a, ey26b, ey26c, ex27a, ex27b, ex27c, ex28, ex29, ex34, ex39, ex39a, ex40, ex41, ex46, ex46a, ex47, ex48, ex49, ex49a, ex50, ex51, ex56]⟩
    obtain ⟨x52, ex52, h⟩ := bind_ok h
    obtain ⟨ex52a, ex52⟩ := shlO_ok ex52
    obtain ⟨x53, ex53, h⟩ := bindT h
    obtain ⟨x54, ex54, h⟩ := bindT h
    obtain ⟨x55, ex55, h⟩ := bindT h
    simp [g3, g5, g6, g7, g8, g9, g29, g30, g31, hl1, ex10, ey11a, ey11b, ey11c, ey12a, ey12b, ey12c, conv_5_3Law14, ex13, ex14, ex15, ex16, ex17, ex17a, ex18, ex19, ex20, e23, ex24, ex25, ex25a, ey26a, ey26b, ey26c, ex27a, ex27b, ex27c, ex28, ex29, ex34, ex39, ex39a, ex40, ex41, ex46, ex46a, ex47, ex48, ex49, ex49a, ex50, ex51, ex52, ex52a, ex53, ex54, ex55]
    refine ih (x27, x53, x54, v7, x55, m9) _ ?_ h
    exact ⟨_, _, by simp [hw], rfl, by simp [g3, g5, g6, g7, g8, g9, g29, g30, g31, hl1, ex10, ey11a, ey11b, ey11c, ey12a, ey12b, ey12c, conv_5_3Law14, ex13, ex14, ex15, ex16, ex17, ex17a, ex18, ex19, ex20, e23, ex24, ex25, ex25a, ey26a, ey26b, ey26c, ex27a, ex27b, ex27c, ex28, ex29, ex34, ex39, ex39a, ex40, ex41, ex46, ex46a, ex47, ex48, ex49, ex49a, ex50, ex51, ex52, ex52a, ex53, ex54, ex55]⟩
end Go.Proofs.YtcdhajbhpnbdkaaDoor
