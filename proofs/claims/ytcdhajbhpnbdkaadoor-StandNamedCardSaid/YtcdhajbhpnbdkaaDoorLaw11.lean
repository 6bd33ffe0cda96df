/-
  StandNamed
  Printed by wip/tools/walk.py. Conditions: none; definitions and lemmas.
-/
import Derived.Test.YtcdhajbhpnbdkaaDoorOut1
import Derived.Test.YtcdhajbhpnbdkaaDoorPurI
set_option linter.unusedSimpArgs false
set_option linter.unusedVariables false
namespace Go.Proofs.YtcdhajbhpnbdkaaDoor
open Go.Abs Go.Pur
set_option maxRecDepth 100000
set_option maxHeartbeats 2000000
attribute [local simp] EK_region EK_seq EK_cond EK_block EK_blk EK_loop EK_exit EK.ex EK_ret EK_skip EK_nil EO_cons EO_nil EO1_true EO1_false EO2_some EO3_some EB_true EB_false pwanted poper pq pev Go.Pur.look pputT isAssign drOf pinit Tr.get_set lget pvOf_int pvOf_bool pvOf_str pvOf_nil rdv_ak notOwn_ak prt_ak loose_ak rdv_own rdv_fz rdv_bor rdv_rf rdv_pt rdv_v rdv_a rdv_t rdv_r rdv_p rdv_s rdv_f pbin plen pload ppart idxAddr pcond Nat.blt goInt_eq prun_not prun_neg mayLoad ER_ret ER_normal presL presOne moved stor okDrop settle_v settle_l settle_a settle_p settle_f noref_v noref_fz noref_a norefs_nil norefs_cons pclose given dropB Y0_keep pevParts stors pvCells pvCells.go vcells pfill reps zipParts ownFz pcells cellOK one psrcLen srcFits psrc takeP pgrow take getPl setPl mapL plEq elder isList lowP pevs frzs addP partAt ble_lim24 killV_v killV_a killV_t killV_f killV_i killV_p killV_s killV_un killV_dead killV_lfz killV_lbor killV_lown killV_rfz killV_rbor killV_lak killV_rak frzV_v frzV_a frzV_t frzV_f frzV_i frzV_p frzV_s frzV_un frzV_dead frzV_lfz frzV_lbor frzV_lown frzV_rfz frzV_rbor frzV_lak frzV_rak killCell_v killCell_a killCell_t killCell_f killCell_i killCell_p killCell_s killCell_un killCell_dead killCell_lfz killCell_lbor killCell_lown killCell_rfz killCell_rbor killCell_lak killCell_rak killV_lrf killV_lpt killV_rpt frzV_lrf frzV_lpt frzV_rpt killCell_lrft killCell_lptt killCell_rptt killCell_lrfc killCell_lptc killCell_rptc argv_lak argv_rak argv_v argv_a argv_p argv_f argv_fz argv_bor argv_rf argv_pt argv_rc argv_own mayTurn_none argvs pcallOp firm refsTo_v refsTo_l refsTo_p refsTo_s refsTo_a refsTo_dead refsTo_nil refsTo_cons isOwn_lak ownFz_lak evSafe pskip plain pnewBlk fldAddr isOwn pput notOwn_fz notOwn_bor notOwn_own notOwn_rf notOwn_pt prt_fz prt_bor prt_own prt_rf prt_pt Go.Pur.freeze presM settles abin_and abin_or abin_andNot abin_mul abin_shr abin_shl abin_add abin_sub abin_eql abin_neq abin_lss abin_leq abin_gtr abin_geq keep11 sz3 by3 row3 zero3 sz4 by4 row4 zero4 sz5 by5 row5 zero5 sz9 by9 row9 shape9 zero9 sz22 by22 row22 shape22 zero22 sz24 by24 row24 zero24 parts24 field24_0 field24_1 sz27 by27 row27 zero27 parts27 field27_0 field27_1 sz28 by28 row28 zero28 sz32 by32 row32 shape32 zero32 sz46 by46 row46 shape46 zero46 sz54 by54 row54 shape54 zero54 parts54 sz56 by56 row56 zero56 parts56 field56_0 field56_1 field56_2 sz63 by63 row63 shape63 zero63 parts63 sz70 by70 row70 shape70 zero70 parts70 sz75 by75 row75 shape75 zero75 parts75 sz79 by79 row79 zero79 sz84 by84 row84 zero84 sz86 by86 row86 shape86 zero86 sz91 by91 row91 zero91 sz93 by93 row93 zero93 parts93 field93_0 sz97 by97 row97 zero97 sz100 by100 row100 zero100 sz102 by102 row102 zero102 sz105 by105 row105 zero105 parts105 field105_0 field105_1 field105_2 sz106 by106 row106 zero106 sz108 by108 row108 zero108 parts108 field108_0 field108_1 sz109 by109 row109 shape109 zero109 parts109 sz110 by110 row110 shape110 parts110 sz112 by112 row112 parts112 field112_0 field112_1 sz126 by126 row126 shape126 zero126 sz127 by127 row127 zero127 sz134 by134 row134 zero134 sz136 by136 row136 zero136 sz140 by140 row140 zero140 sz147 by147 row147 shape147 zero147 parts147 sz148 by148 row148 shape148 zero148 parts148 sz149 by149 row149 zero149 sz153 by153 row153 zero153 bs_size gAt gAt0 sAt sAt0 optPlain rows_len noMaker_eq kindOf vlOf abin_rem abin_quo mayTurn_none lowOf_none Go.Pur.partAt rows_nil rows_cons ble_add ble_add0 ble_same toPlain toPlain.go intIn2_0 intIn2_1 ble12 ble22 tv lv max_int min_int pplains ak_true ak_false apartP beq_add beq_add0 beq_add1 argv_s wok_none wok_low_iff lowOf_wok
attribute [local simp] ble_addc
theorem conv_5_3Law11 {z : Int} : prunP Tryd.prog (convert 5 3 (.int .u8 z)) = some (.int .i64 (IntKind.i64.wrap z)) := by kernel_rfl
theorem k11_256 : keepOf 11 256 = false := by kernel_rfl
theorem k11_257 : keepOf 11 257 = false := by kernel_rfl
theorem k11_258 : keepOf 11 258 = false := by kernel_rfl
theorem k11_259 : keepOf 11 259 = false := by kernel_rfl
theorem k11_260 : keepOf 11 260 = false := by kernel_rfl
theorem k11_261 : keepOf 11 261 = false := by kernel_rfl
theorem k11_262 : keepOf 11 262 = false := by kernel_rfl
theorem k11_263 : keepOf 11 263 = false := by kernel_rfl
theorem k11_264 : keepOf 11 264 = false := by kernel_rfl
theorem k11_265 : keepOf 11 265 = false := by kernel_rfl
theorem k11_266 : keepOf 11 266 = false := by kernel_rfl
theorem k11_267 : keepOf 11 267 = false := by kernel_rfl
theorem k11_268 : keepOf 11 268 = false := by kernel_rfl
theorem k11_269 : keepOf 11 269 = false := by kernel_rfl
theorem k11_270 : keepOf 11 270 = true := by kernel_rfl
theorem k11_271 : keepOf 11 271 = false := by kernel_rfl
theorem k11_272 : keepOf 11 272 = false := by kernel_rfl
theorem k11_273 : keepOf 11 273 = false := by kernel_rfl
theorem k11_274 : keepOf 11 274 = false := by kernel_rfl
theorem k11_275 : keepOf 11 275 = false := by kernel_rfl
theorem k11_276 : keepOf 11 276 = false := by kernel_rfl
theorem k11_277 : keepOf 11 277 = false := by kernel_rfl
theorem k11_278 : keepOf 11 278 = false := by kernel_rfl
theorem k11_279 : keepOf 11 279 = false := by kernel_rfl
theorem k11_280 : keepOf 11 280 = false := by kernel_rfl
theorem k11_281 : keepOf 11 281 = false := by kernel_rfl
theorem k11_282 : keepOf 11 282 = false := by kernel_rfl
theorem k11_283 : keepOf 11 283 = false := by kernel_rfl
theorem k11_284 : keepOf 11 284 = false := by kernel_rfl
theorem k11_285 : keepOf 11 285 = false := by kernel_rfl
theorem k11_286 : keepOf 11 286 = false := by kernel_rfl
theorem k11_287 : keepOf 11 287 = false := by kernel_rfl
theorem k11_288 : keepOf 11 288 = false := by kernel_rfl
theorem k11_289 : keepOf 11 289 = false := by kernel_rfl
theorem k11_290 : keepOf 11 290 = false := by kernel_rfl
theorem k11_291 : keepOf 11 291 = false := by kernel_rfl
theorem k11_292 : keepOf 11 292 = false := by kernel_rfl
theorem k11_293 : keepOf 11 293 = false := by kernel_rfl
theorem k11_294 : keepOf 11 294 = false := by kernel_rfl
theorem k11_295 : keepOf 11 295 = false := by kernel_rfl
theorem k11_296 : keepOf 11 296 = false := by kernel_rfl
theorem k11_297 : keepOf 11 297 = false := by kernel_rfl
theorem k11_298 : keepOf 11 298 = false := by kernel_rfl
theorem k11_299 : keepOf 11 299 = false := by kernel_rfl
theorem k11_300 : keepOf 11 300 = false := by kernel_rfl
theorem k11_301 : keepOf 11 301 = false := by kernel_rfl
theorem k11_302 : keepOf 11 302 = false := by kernel_rfl
theorem k11_303 : keepOf 11 303 = false := by kernel_rfl
theorem k11_304 : keepOf 11 304 = false := by kernel_rfl
theorem k11_305 : keepOf 11 305 = false := by kernel_rfl
theorem k11_306 : keepOf 11 306 = false := by kernel_rfl
theorem k11_307 : keepOf 11 307 = false := by kernel_rfl
theorem k11_308 : keepOf 11 308 = false := by kernel_rfl
theorem k11_309 : keepOf 11 309 = false := by kernel_rfl
theorem k11_310 : keepOf 11 310 = false := by kernel_rfl
theorem k11_311 : keepOf 11 311 = false := by kernel_rfl
theorem k11_312 : keepOf 11 312 = false := by kernel_rfl
theorem k11_313 : keepOf 11 313 = false := by kernel_rfl
theorem k11_314 : keepOf 11 314 = false := by kernel_rfl
theorem k11_315 : keepOf 11 315 = false := by kernel_rfl
attribute [local simp ↓] k11_256 k11_257 k11_258 k11_259 k11_260 k11_261 k11_262 k11_263 k11_264 k11_265 k11_266 k11_267 k11_268 k11_269 k11_270 k11_271 k11_272 k11_273 k11_274 k11_275 k11_276 k11_277 k11_278 k11_279 k11_280 k11_281 k11_282 k11_283 k11_284 k11_285 k11_286 k11_287 k11_288 k11_289 k11_290 k11_291 k11_292 k11_293 k11_294 k11_295 k11_296 k11_297 k11_298 k11_299 k11_300 k11_301 k11_302 k11_303 k11_304 k11_305 k11_306 k11_307 k11_308 k11_309 k11_310 k11_311 k11_312 k11_313 k11_314 k11_315
def f11_L2 (F : Nat) (m20 : List Int) (x53 : (List Int × Int)) (x54 : (List Int × Int)) (x55 : (List Int × Int)) (x56 : (List Int × Int)) (x61 : Int) (K : Unit → Option (Bool)) : Nat → Int → Option (Bool)
  | 0, _ => none
  | n + 1, v70 => (some (decide (v70 < x61))).bind fun x71 =>
    (match x71 with
    | true => ((gI x53.1 v70).bind fun y72 =>
    (some (decide (5 < y72))).bind fun x73 =>
    (match x73 with
    | true => (some false)
    | false => ((gI x55.1 v70).bind fun y74 =>
    (some (decide (5 < y74))).bind fun x75 =>
    (match x75 with
    | true => (some false)
    | false => ((some (decide (0 ≤ y72))).bind fun x76 =>
    (match x76 with
    | true => ((gI x54.1 v70).bind fun y77 =>
    (gI m20 y72).bind fun y78 =>
    (some (decide (y77 = y78))).bind fun x79 =>
    (match x79 with
    | true => ((some (decide (0 ≤ y74))).bind fun x80 =>
    (match x80 with
    | true => ((gI x56.1 v70).bind fun y81 =>
    (gI m20 y74).bind fun y82 =>
    (some (decide (y81 = y82))).bind fun x83 =>
    (match x83 with
    | true => ((some (IntKind.i64.wrap (v70 + 1))).bind fun x84 =>
    f11_L2 F m20 x53 x54 x55 x56 x61 K n x84)
    | false => (some false)))
    | false => ((some (IntKind.i64.wrap (v70 + 1))).bind fun x85 =>
    f11_L2 F m20 x53 x54 x55 x56 x61 K n x85)))
    | false => (some false)))
    | false => ((some (decide (0 ≤ y74))).bind fun x86 =>
    (match x86 with
    | true => ((gI x56.1 v70).bind fun y87 =>
    (gI m20 y74).bind fun y88 =>
    (some (decide (y87 = y88))).bind fun x89 =>
    (match x89 with
    | true => ((some (IntKind.i64.wrap (v70 + 1))).bind fun x90 =>
    f11_L2 F m20 x53 x54 x55 x56 x61 K n x90)
    | false => (some false)))
    | false => ((some (IntKind.i64.wrap (v70 + 1))).bind fun x91 =>
    f11_L2 F m20 x53 x54 x55 x56 x61 K n x91)))))))))
    | false => (K ()))
def f11_L1 (F : Nat) (x1 : (Int × List Int)) (m20 : List Int) (x22 : Int) (K : List Int → Option (Bool)) : Nat → Int × List Int → Option (Bool)
  | 0, _ => none
  | n + 1, (v23, v24) => (some (decide (v23 < x22))).bind fun x25 =>
    (match x25 with
    | true => ((gI x1.2 v23).bind fun y26 =>
    (gI m20 y26).bind fun y27 =>
    (app1 v24 y27).bind fun x28 =>
    (some (IntKind.i64.wrap (v23 + 1))).bind fun x30 =>
    f11_L1 F x1 m20 x22 K n (x30, x28))
    | false => (K v24))
def f11_L0 (F : Nat) (K : List Int × List Int → Option (Bool)) : Nat → Int × List Int × List Int → Option (Bool)
  | 0, _ => none
  | n + 1, (v4, m5, m6) => (some (decide (v4 < 6))).bind fun x7 =>
    (match x7 with
    | true => ((gI m6 v4).bind fun y8 =>
    (sI m6 v4 v4).bind fun m9 =>
    (gI m5 v4).bind fun y10 =>
    (some (IntKind.i64.wrap y10)).bind fun x11 =>
    (some (IntKind.i64.wrap (v4 + 1))).bind fun x12 =>
    (remO x11 x12).bind fun x13 =>
    (gI m9 x13).bind fun y14 =>
    (gI m9 v4).bind fun y15 =>
    (sI m9 v4 y14).bind fun m16 =>
    (gI m16 x13).bind fun y17 =>
    (sI m16 x13 y15).bind fun m18 =>
    f11_L0 F K n (x12, m5, m18))
    | false => (K (m5, m6)))
def f11S (F : Nat) (p0a : Int) (p0b : Int) (p0c : Int) (p0d : Int) (p0e : Int) (p0f : Int) (p0g : Int) (p0h : Int) (p0i : Int) (p0j : Int) (p0k : Int) (p0l : Int) (p0m : Int) (p0n : Int) (p1a : Int) (p1b : Int) (p1c : Int) (p1d : Int) (p1e : Int) (p1f : Int) : Option (Bool) :=
  (madeS 5 12 p0a p0b [p0c, p0d, p0e, p0f, p0g, p0h, p0i, p0j, p0k, p0l, p0m, p0n]).bind fun x1 =>
  f11_L0 F (fun (m19, m20) =>
    (some ((x1.2.length : Int))).bind fun x22 =>
    f11_L1 F x1 m20 x22 (fun v31 =>
      (onS x1.2 (fewS x1.1 x1.2, chk x1.1 x1.2)).bind fun x32 =>
      (onS v31 (fewS x1.1 v31, chk x1.1 v31)).bind fun x33 =>
      (onS x1.2 (cntS x1.1 x1.2, chk x1.1 x1.2)).bind fun x34 =>
      (onS v31 (cntS x1.1 v31, chk x1.1 v31)).bind fun x35 =>
      (f43S F x1.1 x1.2).bind fun ((c36, l37), x38) =>
      (f43S F x1.1 v31).bind fun ((c40, l41), x42) =>
      (some (decide (x32.2 = 0))).bind fun x44 =>
      (match x44 with
      | true => ((some (decide (x33.2 = 0))).bind fun x45 =>
      (match x45 with
      | true => ((some (decide (x34.2 = 0))).bind fun x46 =>
      (match x46 with
      | true => ((some (decide (x35.2 = 0))).bind fun x47 =>
      (match x47 with
      | true => ((some (decide (x38 = 0))).bind fun x48 =>
      (match x48 with
      | true => ((some (decide (x42 = 0))).bind fun x49 =>
      (match x49 with
      | true => ((some (decide (x32.1 = x33.1))).bind fun x50 =>
      (match x50 with
      | true => ((some (decide (x34.1 = x35.1))).bind fun x51 =>
      (match x51 with
      | true => ((onS l37 (decide (l37 = l41))).bind fun x52 =>
      (match x52 with
      | true => ((onS x1.2 (refPlan false true x1.1 x1.2, chk x1.1 x1.2)).bind fun x53 =>
      (onS v31 (refPlan false true x1.1 v31, chk x1.1 v31)).bind fun x54 =>
      (onS x1.2 (refPlan false false x1.1 x1.2, chk x1.1 x1.2)).bind fun x55 =>
      (onS v31 (refPlan false false x1.1 v31, chk x1.1 v31)).bind fun x56 =>
      (some (decide (x53.2 = 0))).bind fun x57 =>
      (match x57 with
      | true => ((some (decide (x54.2 = 0))).bind fun x58 =>
      (match x58 with
      | true => ((some (decide (x55.2 = 0))).bind fun x59 =>
      (match x59 with
      | true => ((some (decide (x56.2 = 0))).bind fun x60 =>
      (match x60 with
      | true => ((some ((x53.1.length : Int))).bind fun x61 =>
      (some ((x54.1.length : Int))).bind fun x62 =>
      (some (decide (x61 = x62))).bind fun x63 =>
      (match x63 with
      | true => ((some ((x55.1.length : Int))).bind fun x64 =>
      (some ((x56.1.length : Int))).bind fun x65 =>
      (some (decide (x64 = x65))).bind fun x66 =>
      (match x66 with
      | true => ((some ((x1.2.length : Int))).bind fun x67 =>
      (some (decide (x61 = x67))).bind fun x68 =>
      (match x68 with
      | true => ((some (decide (x64 = x61))).bind fun x69 =>
      (match x69 with
      | true => (f11_L2 F m20 x53 x54 x55 x56 x61 (fun _ =>
        (onS x1.2 (refPlan true false x1.1 x1.2, chk x1.1 x1.2)).bind fun x92 =>
        (onS v31 (refPlan true false x1.1 v31, chk x1.1 v31)).bind fun x93 =>
        (f50S F x1.1 x1.2 x92.1).bind fun ((c94, l95), x96, b97) =>
        (f50S F x1.1 v31 x93.1).bind fun ((c99, l100), x101, b102) =>
        (some (decide (x92.2 = 0))).bind fun x104 =>
        (match x104 with
        | true => ((some (decide (x93.2 = 0))).bind fun x105 =>
        (match x105 with
        | true => ((match b97 with
        | true => ((match b102 with
        | true => ((some (decide (x96 = x101))).bind fun x106 =>
        (match x106 with
        | true => ((f18S F ).bind fun b107 =>
        some b107)
        | false => (some false)))
        | false => (some false)))
        | false => (some false)))
        | false => (some false)))
        | false => (some false))) F 0)
      | false => (some false)))
      | false => (some false)))
      | false => (some false)))
      | false => (some false)))
      | false => (some false)))
      | false => (some false)))
      | false => (some false)))
      | false => (some false)))
      | false => (some false)))
      | false => (some false)))
      | false => (some false)))
      | false => (some false)))
      | false => (some false)))
      | false => (some false)))
      | false => (some false)))
      | false => (some false)))
      | false => (some false))) F (0, [])) F (0, [p1a, p1b, p1c, p1d, p1e, p1f], [0, 0, 0, 0, 0, 0])
theorem f11_is {p0a : Int} {p0b : Int} {p0c : Int} {p0d : Int} {p0e : Int} {p0f : Int} {p0g : Int} {p0h : Int} {p0i : Int} {p0j : Int} {p0k : Int} {p0l : Int} {p0m : Int} {p0n : Int} {p1a : Int} {p1b : Int} {p1c : Int} {p1d : Int} {p1e : Int} {p1f : Int} {hp : List (Option (List PV))} {F : Nat} {r : (Bool)}  (h : f11S F p0a p0b p0c p0d p0e p0f p0g p0h p0i p0j p0k p0l p0m p0n p1a p1b p1c p1d p1e p1f = some r) :
    E Tryd.prog Y0 11 [.a [kv .u8 p0a, kv .u8 p0b, kv .u8 p0c, kv .u8 p0d, kv .u8 p0e, kv .u8 p0f, kv .u8 p0g, kv .u8 p0h, kv .u8 p0i, kv .u8 p0j, kv .u8 p0k, kv .u8 p0l, kv .u8 p0m, kv .u8 p0n], .a [kv .u8 p1a, kv .u8 p1b, kv .u8 p1c, kv .u8 p1d, kv .u8 p1e, kv .u8 p1f]] hp = some (.v (.bool r), hp, none) := by
  rw [E_bodyN 2 body11 rfl (by decide) rfl]
  simp only [Tryd.f11, Option.get_some]
  unfold f11S at h
  replace h := bind_ok h; obtain ⟨x1, ex1, h⟩ := h
  have ex1 : ∀ hp, E Tryd.prog Y0 48 [.a [kv .u8 p0a, kv .u8 p0b, kv .u8 p0c, kv .u8 p0d, kv .u8 p0e, kv .u8 p0f, kv .u8 p0g, kv .u8 p0h, kv .u8 p0i, kv .u8 p0j, kv .u8 p0k, kv .u8 p0l, kv .u8 p0m, kv .u8 p0n], iv 5, iv 12] hp = some (.a [iv x1.1, .l .fz .nz x1.2.length (x1.2.map iv)], hp, none) := fun hp => f48_is rfl ex1
  have q2 : spliceP 0 [iv x1.1, .l .fz .nz x1.2.length (x1.2.map iv)] [iv 0, .l .own .nz 0 []] = some [iv x1.1, .l .fz .nz x1.2.length (x1.2.map iv)] := rfl
  have q3 : spliceP 0 [iv 0, iv 0, iv 0, iv 0, iv 0, iv 0] [iv 0, iv 0, iv 0, iv 0, iv 0, iv 0] = some [iv 0, iv 0, iv 0, iv 0, iv 0, iv 0] := rfl
  simp [ex1, q2, q3]
  have hL0 := h; clear h
  refine loopS (S := f11_L0 F) (fun (v4, m5, m6) σ => ∃ (ts : Tr PV) (w : Option Nat), wok hp.length w ∧ σ = ⟨[], ts, hp ++ [some [kv .u8 p0a, kv .u8 p0b, kv .u8 p0c, kv .u8 p0d, kv .u8 p0e, kv .u8 p0f, kv .u8 p0g, kv .u8 p0h, kv .u8 p0i, kv .u8 p0j, kv .u8 p0k, kv .u8 p0l, kv .u8 p0m, kv .u8 p0n], some (m5.map (kv .u8)), some [iv x1.1, .l .fz .nz x1.2.length (x1.2.map iv)], some (m6.map iv)], w⟩ ∧ ts.get 3 = some (.p (hp.length + 1) 0) ∧ ts.get 5 = some (.p (hp.length + 2) 0) ∧ ts.get 6 = some (.p (hp.length + 3) 0) ∧ ts.get 40 = some (iv v4) ∧ m5.length = 6 ∧ m6.length = 6 ∧ True) (fun (m19, m20) σ => ∃ (ts : Tr PV) (w : Option Nat), wok hp.length w ∧ σ = ⟨[], ts, hp ++ [some [kv .u8 p0a, kv .u8 p0b, kv .u8 p0c, kv .u8 p0d, kv .u8 p0e, kv .u8 p0f, kv .u8 p0g, kv .u8 p0h, kv .u8 p0i, kv .u8 p0j, kv .u8 p0k, kv .u8 p0l, kv .u8 p0m, kv .u8 p0n], some (m19.map (kv .u8)), some [iv x1.1, .l .fz .nz x1.2.length (x1.2.map iv)], some (m20.map iv)], w⟩ ∧ ts.get 5 = some (.p (hp.length + 2) 0) ∧ ts.get 6 = some (.p (hp.length + 3) 0) ∧ m19.length = 6 ∧ m20.length = 6 ∧ True) (fun _ => rfl) hL0 ?_ ?_ ?_
  · exact ⟨_, _, by simp, rfl, by simp [ex1, q2, q3]⟩
  · rintro ⟨m19, m20⟩ σ ⟨ts, w, hw, rfl, g5, g6, hl1, hl3, -⟩ h
    clear hL0
    try dsimp only at h
    have q21 : spliceP 0 [iv x1.1, .l .own .nz 0 []] [iv 0, .l .own .nz 0 []] = some [iv x1.1, .l .own .nz 0 []] := rfl
    replace h := bindT h; obtain ⟨x22, ex22, h⟩ := h
    simp [g5, g6, hl1, hl3, q21, ex22]
    have hL1 := h; clear h
    refine loopS (S := f11_L1 F x1 m20 x22) (fun (v23, v24) σ => ∃ (ts : Tr PV) (w : Option Nat), wok hp.length w ∧ σ = ⟨[], ts, hp ++ [some [kv .u8 p0a, kv .u8 p0b, kv .u8 p0c, kv .u8 p0d, kv .u8 p0e, kv .u8 p0f, kv .u8 p0g, kv .u8 p0h, kv .u8 p0i, kv .u8 p0j, kv .u8 p0k, kv .u8 p0l, kv .u8 p0m, kv .u8 p0n], some (m19.map (kv .u8)), some [iv x1.1, .l .fz .nz x1.2.length (x1.2.map iv)], some (m20.map iv), some [iv x1.1, .l .own .nz v24.length (v24.map iv)]], w⟩ ∧ ts.get 5 = some (.p (hp.length + 2) 0) ∧ ts.get 6 = some (.p (hp.length + 3) 0) ∧ ts.get 9 = some (.p (hp.length + 4) 0) ∧ ts.get 68 = some (.l .fz .nz x1.2.length (x1.2.map iv)) ∧ ts.get 69 = some (iv x22) ∧ ts.get 70 = some (iv v23) ∧ m19.length = 6 ∧ m20.length = 6 ∧ True) (fun v31 σ => ∃ (ts : Tr PV) (w : Option Nat), wok hp.length w ∧ σ = ⟨[], ts, hp ++ [some [kv .u8 p0a, kv .u8 p0b, kv .u8 p0c, kv .u8 p0d, kv .u8 p0e, kv .u8 p0f, kv .u8 p0g, kv .u8 p0h, kv .u8 p0i, kv .u8 p0j, kv .u8 p0k, kv .u8 p0l, kv .u8 p0m, kv .u8 p0n], some (m19.map (kv .u8)), some [iv x1.1, .l .fz .nz x1.2.length (x1.2.map iv)], some (m20.map iv), some [iv x1.1, .l .own .nz v31.length (v31.map iv)]], w⟩ ∧ ts.get 5 = some (.p (hp.length + 2) 0) ∧ ts.get 6 = some (.p (hp.length + 3) 0) ∧ ts.get 9 = some (.p (hp.length + 4) 0) ∧ m19.length = 6 ∧ m20.length = 6 ∧ True) (fun _ => rfl) hL1 ?_ ?_ ?_
    · exact ⟨_, _, by simp [hw], rfl, by simp [g5, g6, hl1, hl3, q21, ex22]⟩
    · rintro v31 σ ⟨ts, w, hw, rfl, g5, g6, g9, hl1, hl3, -⟩ h
      clear hL1
      try dsimp only at h
      replace h := bind_ok h; obtain ⟨x32, ex32, h⟩ := h
      have ex32 : ∀ hp, E Tryd.prog Y0 33 [.a [iv x1.1, .l .fz .nz x1.2.length (x1.2.map iv)]] hp = some (.t [iv x32.1, iv x32.2], hp, none) := fun hp => f33_is ex32
      replace h := bind_ok h; obtain ⟨x33, ex33, h⟩ := h
      have ex33 : ∀ hp, E Tryd.prog Y0 33 [.a [iv x1.1, .l .fz .nz v31.length (v31.map iv)]] hp = some (.t [iv x33.1, iv x33.2], hp, none) := fun hp => f33_is ex33
      replace h := bind_ok h; obtain ⟨x34, ex34, h⟩ := h
      have ex34 : ∀ hp, E Tryd.prog Y0 37 [.a [iv x1.1, .l .fz .nz x1.2.length (x1.2.map iv)]] hp = some (.t [iv x34.1, iv x34.2], hp, none) := fun hp => f37_is ex34
      replace h := bind_ok h; obtain ⟨x35, ex35, h⟩ := h
      have ex35 : ∀ hp, E Tryd.prog Y0 37 [.a [iv x1.1, .l .fz .nz v31.length (v31.map iv)]] hp = some (.t [iv x35.1, iv x35.2], hp, none) := fun hp => f37_is ex35
      replace h := bind_ok h; obtain ⟨⟨⟨c36, l37⟩, x38⟩, e39, h⟩ := h
      try dsimp only at h
      have e39 : ∀ hp, E Tryd.prog Y0 43 [.a [iv x1.1, .l .fz .nz x1.2.length (x1.2.map iv)]] hp = some (.t [.l .fz c36 l37.length (l37.map iv), iv x38], hp, none) := fun hp => f43_is (c0b := .nz) e39
      replace h := bind_ok h; obtain ⟨⟨⟨c40, l41⟩, x42⟩, e43, h⟩ := h
      try dsimp only at h
      have e43 : ∀ hp, E Tryd.prog Y0 43 [.a [iv x1.1, .l .fz .nz v31.length (v31.map iv)]] hp = some (.t [.l .fz c40 l41.length (l41.map iv), iv x42], hp, none) := fun hp => f43_is (c0b := .nz) e43
      replace h := bindT h; obtain ⟨x44, ex44, h⟩ := h
      cases x44
      case false =>
       obtain rfl := inj_ok h
       simp [g5, g6, g9, hl1, hl3, ex32, ex33, ex34, ex35, e39, e43, ex44, hw]
      replace h := bindT h; obtain ⟨x45, ex45, h⟩ := h
      cases x45
      case false =>
       obtain rfl := inj_ok h
       simp [g5, g6, g9, hl1, hl3, ex32, ex33, ex34, ex35, e39, e43, ex44, ex45, hw]
      replace h := bindT h; obtain ⟨x46, ex46, h⟩ := h
      cases x46
      case false =>
       obtain rfl := inj_ok h
       simp [g5, g6, g9, hl1, hl3, ex32, ex33, ex34, ex35, e39, e43, ex44, ex45, ex46, hw]
      replace h := bindT h; obtain ⟨x47, ex47, h⟩ := h
      cases x47
      case false =>
       obtain rfl := inj_ok h
       simp [g5, g6, g9, hl1, hl3, ex32, ex33, ex34, ex35, e39, e43, ex44, ex45, ex46, ex47, hw]
      replace h := bindT h; obtain ⟨x48, ex48, h⟩ := h
      cases x48
      case false =>
       obtain rfl := inj_ok h
       simp [g5, g6, g9, hl1, hl3, ex32, ex33, ex34, ex35, e39, e43, ex44, ex45, ex46, ex47, ex48, hw]
      replace h := bindT h; obtain ⟨x49, ex49, h⟩ := h
      cases x49
      case false =>
       obtain rfl := inj_ok h
       simp [g5, g6, g9, hl1, hl3, ex32, ex33, ex34, ex35, e39, e43, ex44, ex45, ex46, ex47, ex48, ex49, hw]
      replace h := bindT h; obtain ⟨x50, ex50, h⟩ := h
      cases x50
      case false =>
       obtain rfl := inj_ok h
       simp [g5, g6, g9, hl1, hl3, ex32, ex33, ex34, ex35, e39, e43, ex44, ex45, ex46, ex47, ex48, ex49, ex50, hw]
      replace h := bindT h; obtain ⟨x51, ex51, h⟩ := h
      cases x51
      case false =>
       obtain rfl := inj_ok h
       simp [g5, g6, g9, hl1, hl3, ex32, ex33, ex34, ex35, e39, e43, ex44, ex45, ex46, ex47, ex48, ex49, ex50, ex51, hw]
      replace h := bind_ok h; obtain ⟨x52, ex52, h⟩ := h
      have ex52 : ∀ hp, E Tryd.prog Y0 32 [.l .fz c36 l37.length (l37.map iv), .l .fz c40 l41.length (l41.map iv)] hp = some (.v (.bool x52), hp, none) := fun hp => f32_is (a0 := false) (c0 := c36) (a1 := false) (c1 := c40) ex52
      cases x52
      case false =>
       obtain rfl := inj_ok h
       simp [g5, g6, g9, hl1, hl3, ex32, ex33, ex34, ex35, e39, e43, ex44, ex45, ex46, ex47, ex48, ex49, ex50, ex51, ex52, hw]
      replace h := bind_ok h; obtain ⟨x53, ex53, h⟩ := h
      have ex53 : ∀ hp, E Tryd.prog Y0 30 [.a [iv x1.1, .l .fz .nz x1.2.length (x1.2.map iv)]] hp = some (.t [.l .fz .nz x53.1.length (x53.1.map iv), iv x53.2], hp, none) := fun hp => f30_is ex53
      replace h := bind_ok h; obtain ⟨x54, ex54, h⟩ := h
      have ex54 : ∀ hp, E Tryd.prog Y0 30 [.a [iv x1.1, .l .fz .nz v31.length (v31.map iv)]] hp = some (.t [.l .fz .nz x54.1.length (x54.1.map iv), iv x54.2], hp, none) := fun hp => f30_is ex54
      replace h := bind_ok h; obtain ⟨x55, ex55, h⟩ := h
      have ex55 : ∀ hp, E Tryd.prog Y0 28 [.a [iv x1.1, .l .fz .nz x1.2.length (x1.2.map iv)]] hp = some (.t [.l .fz .nz x55.1.length (x55.1.map iv), iv x55.2], hp, none) := fun hp => f28_is ex55
      replace h := bind_ok h; obtain ⟨x56, ex56, h⟩ := h
      have ex56 : ∀ hp, E Tryd.prog Y0 28 [.a [iv x1.1, .l .fz .nz v31.length (v31.map iv)]] hp = some (.t [.l .fz .nz x56.1.length (x56.1.map iv), iv x56.2], hp, none) := fun hp => f28_is ex56
      replace h := bindT h; obtain ⟨x57, ex57, h⟩ := h
      cases x57
      case false =>
       obtain rfl := inj_ok h
       simp [g5, g6, g9, hl1, hl3, ex32, ex33, ex34, ex35, e39, e43, ex44, ex45, ex46, ex47, ex48, ex49, ex50, ex51, ex52, ex53, ex54, ex55, ex56, ex57, hw]
      replace h := bindT h; obtain ⟨x58, ex58, h⟩ := h
      cases x58
      case false =>
       obtain rfl := inj_ok h
       simp [g5, g6, g9, hl1, hl3, ex32, ex33, ex34, ex35, e39, e43, ex44, ex45, ex46, ex47, ex48, ex49, ex50, ex51, ex52, ex53, ex54, ex55, ex56, ex57, ex58, hw]
      replace h := bindT h; obtain ⟨x59, ex59, h⟩ := h
      cases x59
      case false =>
       obtain rfl := inj_ok h
       simp [g5, g6, g9, hl1, hl3, ex32, ex33, ex34, ex35, e39, e43, ex44, ex45, ex46, ex47, ex48, ex49, ex50, ex51, ex52, ex53, ex54, ex55, ex56, ex57, ex58, ex59, hw]
      replace h := bindT h; obtain ⟨x60, ex60, h⟩ := h
      cases x60
      case false =>
       obtain rfl := inj_ok h
       simp [g5, g6, g9, hl1, hl3, ex32, ex33, ex34, ex35, e39, e43, ex44, ex45, ex46, ex47, ex48, ex49, ex50, ex51, ex52, ex53, ex54, ex55, ex56, ex57, ex58, ex59, ex60, hw]
      replace h := bindT h; obtain ⟨x61, ex61, h⟩ := h
      replace h := bindT h; obtain ⟨x62, ex62, h⟩ := h
      replace h := bindT h; obtain ⟨x63, ex63, h⟩ := h
      cases x63
      case false =>
       obtain rfl := inj_ok h
       simp [g5, g6, g9, hl1, hl3, ex32, ex33, ex34, ex35, e39, e43, ex44, ex45, ex46, ex47, ex48, ex49, ex50, ex51, ex52, ex53, ex54, ex55, ex56, ex57, ex58, ex59, ex60, ex61, ex62, ex63, hw]
      replace h := bindT h; obtain ⟨x64, ex64, h⟩ := h
      replace h := bindT h; obtain ⟨x65, ex65, h⟩ := h
      replace h := bindT h; obtain ⟨x66, ex66, h⟩ := h
      cases x66
      case false =>
       obtain rfl := inj_ok h
       simp [g5, g6, g9, hl1, hl3, ex32, ex33, ex34, ex35, e39, e43, ex44, ex45, ex46, ex47, ex48, ex49, ex50, ex51, ex52, ex53, ex54, ex55, ex56, ex57, ex58, ex59, ex60, ex61, ex62, ex63, ex64, ex65, ex66, hw]
      replace h := bindT h; obtain ⟨x67, ex67, h⟩ := h
      replace h := bindT h; obtain ⟨x68, ex68, h⟩ := h
      cases x68
      case false =>
       obtain rfl := inj_ok h
       simp [g5, g6, g9, hl1, hl3, ex32, ex33, ex34, ex35, e39, e43, ex44, ex45, ex46, ex47, ex48, ex49, ex50, ex51, ex52, ex53, ex54, ex55, ex56, ex57, ex58, ex59, ex60, ex61, ex62, ex63, ex64, ex65, ex66, ex67, ex68, hw]
      replace h := bindT h; obtain ⟨x69, ex69, h⟩ := h
      cases x69
      case false =>
       obtain rfl := inj_ok h
       simp [g5, g6, g9, hl1, hl3, ex32, ex33, ex34, ex35, e39, e43, ex44, ex45, ex46, ex47, ex48, ex49, ex50, ex51, ex52, ex53, ex54, ex55, ex56, ex57, ex58, ex59, ex60, ex61, ex62, ex63, ex64, ex65, ex66, ex67, ex68, ex69, hw]
      simp [g5, g6, g9, hl1, hl3, ex32, ex33, ex34, ex35, e39, e43, ex44, ex45, ex46, ex47, ex48, ex49, ex50, ex51, ex52, ex53, ex54, ex55, ex56, ex57, ex58, ex59, ex60, ex61, ex62, ex63, ex64, ex65, ex66, ex67, ex68, ex69]
      have hL2 := h; clear h
      refine loopS (S := f11_L2 F m20 x53 x54 x55 x56 x61) (fun v70 σ => ∃ (ts : Tr PV) (w : Option Nat), wok hp.length w ∧ σ = ⟨[], ts, hp ++ [some [kv .u8 p0a, kv .u8 p0b, kv .u8 p0c, kv .u8 p0d, kv .u8 p0e, kv .u8 p0f, kv .u8 p0g, kv .u8 p0h, kv .u8 p0i, kv .u8 p0j, kv .u8 p0k, kv .u8 p0l, kv .u8 p0m, kv .u8 p0n], some (m19.map (kv .u8)), some [iv x1.1, .l .fz .nz x1.2.length (x1.2.map iv)], some (m20.map iv), some [iv x1.1, .l .fz .nz v31.length (v31.map iv)]], w⟩ ∧ ts.get 5 = some (.p (hp.length + 2) 0) ∧ ts.get 6 = some (.p (hp.length + 3) 0) ∧ ts.get 9 = some (.p (hp.length + 4) 0) ∧ ts.get 24 = some (.l .fz .nz x53.1.length (x53.1.map iv)) ∧ ts.get 25 = some (.l .fz .nz x54.1.length (x54.1.map iv)) ∧ ts.get 26 = some (.l .fz .nz x55.1.length (x55.1.map iv)) ∧ ts.get 27 = some (.l .fz .nz x56.1.length (x56.1.map iv)) ∧ ts.get 215 = some (iv x61) ∧ ts.get 216 = some (iv v70) ∧ m19.length = 6 ∧ m20.length = 6 ∧ True) (fun _ σ => ∃ (ts : Tr PV) (w : Option Nat), wok hp.length w ∧ σ = ⟨[], ts, hp ++ [some [kv .u8 p0a, kv .u8 p0b, kv .u8 p0c, kv .u8 p0d, kv .u8 p0e, kv .u8 p0f, kv .u8 p0g, kv .u8 p0h, kv .u8 p0i, kv .u8 p0j, kv .u8 p0k, kv .u8 p0l, kv .u8 p0m, kv .u8 p0n], some (m19.map (kv .u8)), some [iv x1.1, .l .fz .nz x1.2.length (x1.2.map iv)], some (m20.map iv), some [iv x1.1, .l .fz .nz v31.length (v31.map iv)]], w⟩ ∧ ts.get 5 = some (.p (hp.length + 2) 0) ∧ ts.get 9 = some (.p (hp.length + 4) 0) ∧ m19.length = 6 ∧ m20.length = 6 ∧ True) (fun _ => rfl) hL2 ?_ ?_ ?_
      · exact ⟨_, _, by simp [hw], rfl, by simp [g5, g6, g9, hl1, hl3, ex32, ex33, ex34, ex35, e39, e43, ex44, ex45, ex46, ex47, ex48, ex49, ex50, ex51, ex52, ex53, ex54, ex55, ex56, ex57, ex58, ex59, ex60, ex61, ex62, ex63, ex64, ex65, ex66, ex67, ex68, ex69]⟩
      · rintro ⟨⟩ σ ⟨ts, w, hw, rfl, g5, g9, hl1, hl3, -⟩ h
        clear hL2
        try dsimp only at h
        replace h := bind_ok h; obtain ⟨x92, ex92, h⟩ := h
        have ex92 : ∀ hp, E Tryd.prog Y0 26 [.a [iv x1.1, .l .fz .nz x1.2.length (x1.2.map iv)]] hp = some (.t [.l .fz .nz x92.1.length (x92.1.map iv), iv x92.2], hp, none) := fun hp => f26_is ex92
        replace h := bind_ok h; obtain ⟨x93, ex93, h⟩ := h
        have ex93 : ∀ hp, E Tryd.prog Y0 26 [.a [iv x1.1, .l .fz .nz v31.length (v31.map iv)]] hp = some (.t [.l .fz .nz x93.1.length (x93.1.map iv), iv x93.2], hp, none) := fun hp => f26_is ex93
        replace h := bind_ok h; obtain ⟨⟨⟨c94, l95⟩, x96, b97⟩, e98, h⟩ := h
        try dsimp only at h
        have e98 : ∀ hp, E Tryd.prog Y0 50 [.a [iv x1.1, .l .fz .nz x1.2.length (x1.2.map iv)], .l .fz .nz x92.1.length (x92.1.map iv)] hp = some (.t [.l .fz c94 l95.length (l95.map iv), iv x96, .v (.bool b97)], hp, none) := fun hp => f50_is (c0b := .nz) (a1 := false) (c1 := .nz) e98
        replace h := bind_ok h; obtain ⟨⟨⟨c99, l100⟩, x101, b102⟩, e103, h⟩ := h
        try dsimp only at h
        have e103 : ∀ hp, E Tryd.prog Y0 50 [.a [iv x1.1, .l .fz .nz v31.length (v31.map iv)], .l .fz .nz x93.1.length (x93.1.map iv)] hp = some (.t [.l .fz c99 l100.length (l100.map iv), iv x101, .v (.bool b102)], hp, none) := fun hp => f50_is (c0b := .nz) (a1 := false) (c1 := .nz) e103
        replace h := bindT h; obtain ⟨x104, ex104, h⟩ := h
        cases x104
        case false =>
         obtain rfl := inj_ok h
         simp [g5, g9, hl1, hl3, ex92, ex93, e98, e103, ex104, hw]
        replace h := bindT h; obtain ⟨x105, ex105, h⟩ := h
        cases x105
        case false =>
         obtain rfl := inj_ok h
         simp [g5, g9, hl1, hl3, ex92, ex93, e98, e103, ex104, ex105, hw]
        cases b97
        case false =>
         obtain rfl := inj_ok h
         simp [g5, g9, hl1, hl3, ex92, ex93, e98, e103, ex104, ex105, hw]
        cases b102
        case false =>
         obtain rfl := inj_ok h
         simp [g5, g9, hl1, hl3, ex92, ex93, e98, e103, ex104, ex105, hw]
        replace h := bindT h; obtain ⟨x106, ex106, h⟩ := h
        cases x106
        case false =>
         obtain rfl := inj_ok h
         simp [g5, g9, hl1, hl3, ex92, ex93, e98, e103, ex104, ex105, ex106, hw]
        replace h := bind_ok h; obtain ⟨b107, e108, h⟩ := h
        have e108 : ∀ hp, E Tryd.prog Y0 18 [] hp = some (.v (.bool b107), hp, none) := fun hp => f18_is  e108
        obtain rfl := inj_ok h
        simp [g5, g9, hl1, hl3, ex92, ex93, e98, e103, ex104, ex105, ex106, e108, hw]
      · rintro k n v70 σ ⟨ts, w, hw, rfl, g5, g6, g9, g24, g25, g26, g27, g215, g216, hl1, hl3, -⟩ h ih ex
        clear hL2
        rw [f11_L2] at h
        replace h := bindT h; obtain ⟨x71, ex71, h⟩ := h
        cases x71
        case false =>
         simp [g5, g6, g9, g24, g25, g26, g27, g215, g216, hl1, hl3, ex71]
         refine ex () _ ?_ h
         exact ⟨_, _, by simp [hw], rfl, by simp [g5, g6, g9, g24, g25, g26, g27, g215, g216, hl1, hl3, ex71]⟩
        replace h := bind_ok h; obtain ⟨y72, ey72, h⟩ := h
        obtain ⟨ey72a, ey72e, ey72b, ey72c, ey72g⟩ := gI_ok rfl ey72
        replace h := bindT h; obtain ⟨x73, ex73, h⟩ := h
        cases x73
        case true =>
         obtain rfl := inj_ok h
         simp [g5, g6, g9, g24, g25, g26, g27, g215, g216, hl1, hl3, ex71, ey72a, ey72b, ey72c, ex73, hw]
        replace h := bind_ok h; obtain ⟨y74, ey74, h⟩ := h
        obtain ⟨ey74a, ey74e, ey74b, ey74c, ey74g⟩ := gI_ok rfl ey74
        replace h := bindT h; obtain ⟨x75, ex75, h⟩ := h
        cases x75
        case true =>
         obtain rfl := inj_ok h
         simp [g5, g6, g9, g24, g25, g26, g27, g215, g216, hl1, hl3, ex71, ey72a, ey72b, ey72c, ex73, ey74a, ey74b, ey74c, ex75, hw]
        replace h := bindT h; obtain ⟨x76, ex76, h⟩ := h
        cases x76
        case false =>
         replace h := bindT h; obtain ⟨x86, ex86, h⟩ := h
         cases x86
         case false =>
          replace h := bindT h; obtain ⟨x91, ex91, h⟩ := h
          simp [g5, g6, g9, g24, g25, g26, g27, g215, g216, hl1, hl3, ex71, ey72a, ey72b, ey72c, ex73, ey74a, ey74b, ey74c, ex75, ex76, ex86, ex91]
          refine ih x91 _ ?_ h
          exact ⟨_, _, by simp [hw], rfl, by simp [g5, g6, g9, g24, g25, g26, g27, g215, g216, hl1, hl3, ex71, ey72a, ey72b, ey72c, ex73, ey74a, ey74b, ey74c, ex75, ex76, ex86, ex91]⟩
         replace h := bind_ok h; obtain ⟨y87, ey87, h⟩ := h
         obtain ⟨ey87a, ey87e, ey87b, ey87c, ey87g⟩ := gI_ok rfl ey87
         replace h := bind_ok h; obtain ⟨y88, ey88, h⟩ := h
         obtain ⟨ey88a, ey88e, ey88b, ey88c, ey88g⟩ := gI_ok hl3 ey88
         replace h := bindT h; obtain ⟨x89, ex89, h⟩ := h
         cases x89
         case false =>
          obtain rfl := inj_ok h
          simp [g5, g6, g9, g24, g25, g26, g27, g215, g216, hl1, hl3, ex71, ey72a, ey72b, ey72c, ex73, ey74a, ey74b, ey74c, ex75, ex76, ex86, ey87a, ey87b, ey87c, ey88a, ey88b, ey88c, ex89, hw]
         replace h := bindT h; obtain ⟨x90, ex90, h⟩ := h
         simp [g5, g6, g9, g24, g25, g26, g27, g215, g216, hl1, hl3, ex71, ey72a, ey72b, ey72c, ex73, ey74a, ey74b, ey74c, ex75, ex76, ex86, ey87a, ey87b, ey87c, ey88a, ey88b, ey88c, ex89, ex90]
         refine ih x90 _ ?_ h
         exact ⟨_, _, by simp [hw], rfl, by simp [g5, g6, g9, g24, g25, g26, g27, g215, g216, hl1, hl3, ex71, ey72a, ey72b, ey72c, ex73, ey74a, ey74b, ey74c, ex75, ex76, ex86, ey87a, ey87b, ey87c, ey88a, ey88b, ey88c, ex89, ex90]⟩
        replace h := bind_ok h; obtain ⟨y77, ey77, h⟩ := h
        obtain ⟨ey77a, ey77e, ey77b, ey77c, ey77g⟩ := gI_ok rfl ey77
        replace h := bind_ok h; obtain ⟨y78, ey78, h⟩ := h
        obtain ⟨ey78a, ey78e, ey78b, ey78c, ey78g⟩ := gI_ok hl3 ey78
        replace h := bindT h; obtain ⟨x79, ex79, h⟩ := h
        cases x79
        case false =>
         obtain rfl := inj_ok h
         simp [g5, g6, g9, g24, g25, g26, g27, g215, g216, hl1, hl3, ex71, ey72a, ey72b, ey72c, ex73, ey74a, ey74b, ey74c, ex75, ex76, ey77a, ey77b, ey77c, ey78a, ey78b, ey78c, ex79, hw]
        replace h := bindT h; obtain ⟨x80, ex80, h⟩ := h
        cases x80
        case false =>
         replace h := bindT h; obtain ⟨x85, ex85, h⟩ := h
         simp [g5, g6, g9, g24, g25, g26, g27, g215, g216, hl1, hl3, ex71, ey72a, ey72b, ey72c, ex73, ey74a, ey74b, ey74c, ex75, ex76, ey77a, ey77b, ey77c, ey78a, ey78b, ey78c, ex79, ex80, ex85]
         refine ih x85 _ ?_ h
         exact ⟨_, _, by simp [hw], rfl, by simp [g5, g6, g9, g24, g25, g26, g27, g215, g216, hl1, hl3, ex71, ey72a, ey72b, ey72c, ex73, ey74a, ey74b, ey74c, ex75, ex76, ey77a, ey77b, ey77c, ey78a, ey78b, ey78c, ex79, ex80, ex85]⟩
        replace h := bind_ok h; obtain ⟨y81, ey81, h⟩ := h
        obtain ⟨ey81a, ey81e, ey81b, ey81c, ey81g⟩ := gI_ok rfl ey81
        replace h := bind_ok h; obtain ⟨y82, ey82, h⟩ := h
        obtain ⟨ey82a, ey82e, ey82b, ey82c, ey82g⟩ := gI_ok hl3 ey82
        replace h := bindT h; obtain ⟨x83, ex83, h⟩ := h
        cases x83
        case false =>
         obtain rfl := inj_ok h
         simp [g5, g6, g9, g24, g25, g26, g27, g215, g216, hl1, hl3, ex71, ey72a, ey72b, ey72c, ex73, ey74a, ey74b, ey74c, ex75, ex76, ey77a, ey77b, ey77c, ey78a, ey78b, ey78c, ex79, ex80, ey81a, ey81b, ey81c, ey82a, ey82b, ey82c, ex83, hw]
        replace h := bindT h; obtain ⟨x84, ex84, h⟩ := h
        simp [g5, g6, g9, g24, g25, g26, g27, g215, g216, hl1, hl3, ex71, ey72a, ey72b, ey72c, ex73, ey74a, ey74b, ey74c, ex75, ex76, ey77a, ey77b, ey77c, ey78a, ey78b, ey78c, ex79, ex80, ey81a, ey81b, ey81c, ey82a, ey82b, ey82c, ex83, ex84]
        refine ih x84 _ ?_ h
        exact ⟨_, _, by simp [hw], rfl, by simp [g5, g6, g9, g24, g25, g26, g27, g215, g216, hl1, hl3, ex71, ey72a, ey72b, ey72c, ex73, ey74a, ey74b, ey74c, ex75, ex76, ey77a, ey77b, ey77c, ey78a, ey78b, ey78c, ex79, ex80, ey81a, ey81b, ey81c, ey82a, ey82b, ey82c, ex83, ex84]⟩
    · rintro k n ⟨v23, v24⟩ σ ⟨ts, w, hw, rfl, g5, g6, g9, g68, g69, g70, hl1, hl3, -⟩ h ih ex
      clear hL1
      rw [f11_L1] at h
      replace h := bindT h; obtain ⟨x25, ex25, h⟩ := h
      cases x25
      case false =>
       simp [g5, g6, g9, g68, g69, g70, hl1, hl3, ex25]
       refine ex v24 _ ?_ h
       exact ⟨_, _, by simp [hw], rfl, by simp [g5, g6, g9, g68, g69, g70, hl1, hl3, ex25]⟩
      replace h := bind_ok h; obtain ⟨y26, ey26, h⟩ := h
      obtain ⟨ey26a, ey26e, ey26b, ey26c, ey26g⟩ := gI_ok rfl ey26
      replace h := bind_ok h; obtain ⟨y27, ey27, h⟩ := h
      obtain ⟨ey27a, ey27e, ey27b, ey27c, ey27g⟩ := gI_ok hl3 ey27
      replace h := bind_ok h; obtain ⟨x28, ex28, h⟩ := h
      obtain ⟨ex28a, ex28b, ex28c, ex28q⟩ := app1_ok iv ex28
      have ex28b := ex28b 10 (by decide)
      have q29 : spliceP 1 [.l .own .nz x28.length (x28.map iv)] [iv x1.1, .dead] = some [iv x1.1, .l .own .nz x28.length (x28.map iv)] := rfl
      replace h := bindT h; obtain ⟨x30, ex30, h⟩ := h
      simp [g5, g6, g9, g68, g69, g70, hl1, hl3, ex25, ey26a, ey26b, ey26c, ey27a, ey27b, ey27c, ex28a, ex28b, ex28c, q29, ex30]
      all_goals try (generalize hmt : mayTurn _ = mb; obtain rfl : mb = true := hmt.symm.trans (by kernel_rfl); clear hmt)
      all_goals try simp [g5, g6, g9, g68, g69, g70, hl1, hl3, ex25, ey26a, ey26b, ey26c, ey27a, ey27b, ey27c, ex28a, ex28b, ex28c, q29, ex30]
      all_goals try (generalize hmt : mayTurn _ = mb; obtain rfl : mb = true := hmt.symm.trans (by kernel_rfl); clear hmt)
      all_goals try simp [g5, g6, g9, g68, g69, g70, hl1, hl3, ex25, ey26a, ey26b, ey26c, ey27a, ey27b, ey27c, ex28a, ex28b, ex28c, q29, ex30]
      refine ih (x30, x28) _ ?_ h
      exact ⟨_, _, by simp [hw], rfl, by simp [g5, g6, g9, g68, g69, g70, hl1, hl3, ex25, ey26a, ey26b, ey26c, ey27a, ey27b, ey27c, ex28a, ex28b, ex28c, q29, ex30]⟩
  · rintro k n ⟨v4, m5, m6⟩ σ ⟨ts, w, hw, rfl, g3, g5, g6, g40, hl1, hl3, -⟩ h ih ex
    clear hL0
    rw [f11_L0] at h
    replace h := bindT h; obtain ⟨x7, ex7, h⟩ := h
    cases x7
    case false =>
     simp [g3, g5, g6, g40, hl1, hl3, ex7]
     refine ex (m5, m6) _ ?_ h
     exact ⟨_, _, by simp [hw], rfl, by simp [g3, g5, g6, g40, hl1, hl3, ex7]⟩
    replace h := bind_ok h; obtain ⟨y8, ey8, h⟩ := h
    obtain ⟨ey8a, ey8e, ey8b, ey8c, ey8g⟩ := gI_ok hl3 ey8
    replace h := bind_ok h; obtain ⟨m9, em9, h⟩ := h
    obtain ⟨em9a, em9e, em9l, em9s, em9q⟩ := sI_ok iv hl3 em9
    have hl3 := em9l
    replace h := bind_ok h; obtain ⟨y10, ey10, h⟩ := h
    obtain ⟨ey10a, ey10e, ey10b, ey10c, ey10g⟩ := gI_ok hl1 ey10
    replace h := bindT h; obtain ⟨x11, ex11, h⟩ := h
    replace h := bindT h; obtain ⟨x12, ex12, h⟩ := h
    replace h := bind_ok h; obtain ⟨x13, ex13, h⟩ := h
    obtain ⟨ex13a, ex13⟩ := remO_ok ex13
    replace h := bind_ok h; obtain ⟨y14, ey14, h⟩ := h
    obtain ⟨ey14a, ey14e, ey14b, ey14c, ey14g⟩ := gI_ok hl3 ey14
    replace h := bind_ok h; obtain ⟨y15, ey15, h⟩ := h
    obtain ⟨ey15a, ey15e, ey15b, ey15c, ey15g⟩ := gI_ok hl3 ey15
    replace h := bind_ok h; obtain ⟨m16, em16, h⟩ := h
    obtain ⟨em16a, em16e, em16l, em16s, em16q⟩ := sI_ok iv hl3 em16
    have hl3 := em16l
    replace h := bind_ok h; obtain ⟨y17, ey17, h⟩ := h
    obtain ⟨ey17a, ey17e, ey17b, ey17c, ey17g⟩ := gI_ok hl3 ey17
    replace h := bind_ok h; obtain ⟨m18, em18, h⟩ := h
    obtain ⟨em18a, em18e, em18l, em18s, em18q⟩ := sI_ok iv hl3 em18
    have hl3 := em18l
    simp [g3, g5, g6, g40, hl1, hl3, ex7, ey8a, ey8b, ey8c, em9a, em9s, ey10a, ey10b, ey10c, conv_5_3Law11, ex11, ex12, ex13, ex13a, ey14a, ey14b, ey14c, ey15a, ey15b, ey15c, em16a, em16s, ey17a, ey17b, ey17c, em18a, em18s]
    all_goals try (generalize hmt : mayTurn _ = mb; obtain rfl : mb = true := hmt.symm.trans (by kernel_rfl); clear hmt)
    all_goals try simp [g3, g5, g6, g40, hl1, hl3, ex7, ey8a, ey8b, ey8c, em9a, em9s, ey10a, ey10b, ey10c, conv_5_3Law11, ex11, ex12, ex13, ex13a, ey14a, ey14b, ey14c, ey15a, ey15b, ey15c, em16a, em16s, ey17a, ey17b, ey17c, em18a, em18s]
    all_goals try (generalize hmt : mayTurn _ = mb; obtain rfl : mb = true := hmt.symm.trans (by kernel_rfl); clear hmt)
    all_goals try simp [g3, g5, g6, g40, hl1, hl3, ex7, ey8a, ey8b, ey8c, em9a, em9s, ey10a, ey10b, ey10c, conv_5_3Law11, ex11, ex12, ex13, ex13a, ey14a, ey14b, ey14c, ey15a, ey15b, ey15c, em16a, em16s, ey17a, ey17b, ey17c, em18a, em18s]
    refine ih (x12, m5, m18) _ ?_ h
    exact ⟨_, _, by simp [hw], rfl, by simp [g3, g5, g6, g40, hl1, hl3, ex7, ey8a, ey8b, ey8c, em9a, em9s, ey10a, ey10b, ey10c, conv_5_3Law11, ex11, ex12, ex13, ex13a, ey14a, ey14b, ey14c, ey15a, ey15b, ey15c, em16a, em16s, ey17a, ey17b, ey17c, em18a, em18s]⟩
end Go.Proofs.YtcdhajbhpnbdkaaDoor
