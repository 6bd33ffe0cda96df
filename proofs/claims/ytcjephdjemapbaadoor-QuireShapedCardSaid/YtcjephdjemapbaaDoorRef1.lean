/-
  the reference's functions, and small ones
  Printed by wip/tools/walk.py. Conditions: none; definitions and lemmas.
-/
import Derived.Test.YtcjephdjemapbaaDoorLeafLaw
set_option linter.unusedSimpArgs false
set_option linter.unusedVariables false
namespace Go.Proofs.YtcjephdjemapbaaDoor
open Go.Abs Go.Pur
set_option maxRecDepth 100000
set_option maxHeartbeats 2000000
attribute [local simp] EK_region EK_seq EK_cond EK_block EK_blk EK_loop EK_exit EK.ex EK_ret EK_skip EK_nil EO_cons EO_nil EO1_true EO1_false EO2_some EO3_some EB_true EB_false pwanted poper pq pev Go.Pur.look pputT isAssign drOf pinit Tr.get_set lget pvOf_int pvOf_bool pvOf_str pvOf_nil rdv_ak notOwn_ak prt_ak loose_ak rdv_own rdv_fz rdv_bor rdv_rf rdv_pt rdv_v rdv_a rdv_t rdv_r rdv_p rdv_s rdv_f pbin plen pload ppart idxAddr pcond Nat.blt goInt_eq prun_not prun_neg mayLoad ER_ret ER_normal presL presOne moved stor okDrop settle_v settle_l settle_a settle_p settle_f noref_v noref_fz noref_a norefs_nil norefs_cons pclose given dropB Y0_keep pevParts stors pvCells pvCells.go vcells pfill reps zipParts ownFz pcells cellOK one psrcLen srcFits psrc takeP pgrow take getPl setPl mapL plEq elder isList lowP pevs frzs addP partAt ble_lim24 killV_v killV_a killV_t killV_f killV_i killV_p killV_s killV_un killV_dead killV_lfz killV_lbor killV_lown killV_rfz killV_rbor killV_lak killV_rak frzV_v frzV_a frzV_t frzV_f frzV_i frzV_p frzV_s frzV_un frzV_dead frzV_lfz frzV_lbor frzV_lown frzV_rfz frzV_rbor frzV_lak frzV_rak killCell_v killCell_a killCell_t killCell_f killCell_i killCell_p killCell_s killCell_un killCell_dead killCell_lfz killCell_lbor killCell_lown killCell_rfz killCell_rbor killCell_lak killCell_rak killV_lrf killV_lpt killV_rpt frzV_lrf frzV_lpt frzV_rpt killCell_lrft killCell_lptt killCell_rptt killCell_lrfc killCell_lptc killCell_rptc argv_lak argv_rak argv_v argv_a argv_p argv_f argv_fz argv_bor argv_rf argv_pt argv_rc argv_own mayTurn_none argvs pcallOp firm refsTo_v refsTo_l refsTo_p refsTo_s refsTo_a refsTo_dead refsTo_nil refsTo_cons isOwn_lak ownFz_lak evSafe pskip plain pnewBlk fldAddr isOwn pput notOwn_fz notOwn_bor notOwn_own notOwn_rf notOwn_pt prt_fz prt_bor prt_own prt_rf prt_pt Go.Pur.freeze presM settles abin_and abin_or abin_andNot abin_mul abin_shr abin_shl abin_add abin_sub abin_eql abin_neq abin_lss abin_leq abin_gtr abin_geq keep18 keep19 keep21 keep23 keep24 keep26 keep36 keep47 keep48 keep49 keep50 keep51 keep56 keep59 keep63 keep64 keep65 keep66 keep67 keep68 keep69 keep82 keep83 sz3 by3 row3 zero3 sz4 by4 row4 zero4 sz5 by5 row5 zero5 sz9 by9 row9 shape9 zero9 sz21 by21 row21 zero21 sz23 by23 row23 shape23 zero23 sz24 by24 row24 zero24 sz38 by38 row38 shape38 zero38 sz47 by47 row47 shape47 zero47 parts47 sz51 by51 row51 zero51 sz54 by54 row54 shape54 zero54 sz55 by55 row55 shape55 zero55 sz58 by58 row58 shape58 zero58 sz60 by60 row60 zero60 sz63 by63 row63 shape63 zero63 sz73 by73 row73 shape73 zero73 parts73 sz79 by79 row79 shape79 zero79 sz81 by81 row81 shape81 zero81 parts81 sz86 by86 row86 shape86 parts86 sz90 by90 row90 zero90 sz92 by92 row92 zero92 sz96 by96 row96 zero96 parts96 field96_0 field96_1 sz99 by99 row99 zero99 sz104 by104 row104 zero104 sz106 by106 row106 zero106 parts106 field106_0 field106_1 sz119 by119 row119 zero119 sz123 by123 row123 zero123 sz124 by124 row124 shape124 zero124 parts124 sz125 by125 row125 shape125 zero125 parts125 sz126 by126 row126 shape126 parts126 sz128 by128 row128 zero128 parts128 field128_0 field128_1 sz129 by129 row129 shape129 zero129 parts129 sz133 by133 row133 zero133 bs_size gAt gAt0 sAt sAt0 optPlain rows_len noMaker_eq kindOf vlOf abin_rem abin_quo mayTurn_none lowOf_none Go.Pur.partAt rows_nil rows_cons ble_add ble_add0 ble_same toPlain toPlain.go intIn2_0 intIn2_1 ble12 ble22 tv lv max_int min_int pplains ak_true ak_false apartP beq_add beq_add0 beq_add1 argv_s wok_none wok_low_iff lowOf_wok
theorem bool_neq_4Ref1 {x y : Operand} {a b : Bool} : abin Tryd.prog .neq 4 x y (.bool a) (.bool b) = some (.bool (a != b)) := by cases a <;> cases b <;> kernel_rfl
theorem bool_eql_4Ref1 {x y : Operand} {a b : Bool} : abin Tryd.prog .eql 4 x y (.bool a) (.bool b) = some (.bool (a == b)) := by cases a <;> cases b <;> kernel_rfl
theorem convn_79_9Ref1 : prunP Tryd.prog (convert 79 9 (.slice none 0 0)) = some (.string ByteArray.empty) := by kernel_rfl
theorem elm23Ref1 : elemSz Tryd.prog 23 = some 1 := by kernel_rfl
theorem conv_3_99Ref1 {z : Int} : prunP Tryd.prog (convert 3 99 (.int .i64 z)) = some (.int .u64 (IntKind.u64.wrap z)) := by kernel_rfl
def f82_L0 (F : Nat) (p0 : Int) (K : Int → Option (Int)) : Nat → Int × Int → Option (Int)
  | 0, _ => none
  | n + 1, (v1, v2) => (some (decide (v2 < p0))).bind fun x3 =>
    (match x3 with
    | true => ((some (mulI .i64 2 v1)).bind fun x4 =>
    (some (IntKind.i64.wrap (v2 + 1))).bind fun x5 =>
    f82_L0 F p0 K n (x4, x5))
    | false => (K v1))
def f82S (F : Nat) (p0 : Int) : Option (Int) :=
  f82_L0 F p0 (fun v6 =>
    some v6) F (1, 0)
theorem f82_is {p0 : Int} {hp : List (Option (List PV))} {F : Nat} {r : (Int)}  (h : f82S F p0 = some r) :
    E Tryd.prog Y0 82 [iv p0] hp = some (iv r, hp, none) := by
  rw [E_bodyN 1 body82 rfl (by decide) rfl]
  simp only [Tryd.f82, Option.get_some]
  unfold f82S at h
  simp
  have hL0 := h; clear h
  refine loopS (S := f82_L0 F p0) (fun (v1, v2) σ => ∃ (ts : Tr PV) (w : Option Nat), wok hp.length w ∧ σ = ⟨[], ts, hp, w⟩ ∧ ts.get 0 = some (iv p0) ∧ ts.get 3 = some (iv v1) ∧ ts.get 4 = some (iv v2) ∧ True) (fun v6 σ => ∃ (ts : Tr PV) (w : Option Nat), wok hp.length w ∧ σ = ⟨[], ts, hp, w⟩ ∧ ts.get 3 = some (iv v6) ∧ True) (fun _ => rfl) hL0 ?_ ?_ ?_
  · exact ⟨_, _, by simp, rfl, by simp⟩
  · rintro v6 σ ⟨ts, w, hw, rfl, g3, -⟩ h
    clear hL0
    try dsimp only at h
    obtain rfl := inj_ok h
    simp [g3, hw]
  · rintro k n ⟨v1, v2⟩ σ ⟨ts, w, hw, rfl, g0, g3, g4, -⟩ h ih ex
    clear hL0
    rw [f82_L0] at h
    obtain ⟨x3, ex3, h⟩ := bindT h
    cases x3
    case false =>
     simp [g0, g3, g4, ex3]
     refine ex v1 _ ?_ h
     exact ⟨_, _, by simp [hw], rfl, by simp [g0, g3, g4, ex3]⟩
    obtain ⟨x4, ex4, h⟩ := bindT h
    obtain ⟨x5, ex5, h⟩ := bindT h
    simp [g0, g3, g4, ex3, ex4, ex5]
    refine ih (x4, x5) _ ?_ h
    exact ⟨_, _, by simp [hw], rfl, by simp [g0, g3, g4, ex3, ex4, ex5]⟩
def f47S (F : Nat) (c0 : Ck) (p0 : List Int) : Option ((Ck × List Int)) :=
  some (c0, p0)
theorem f47_is {c0 : Ck} {p0 : List Int} {hp : List (Option (List PV))} {F : Nat} {r : ((Ck × List Int))}  (h : f47S F c0 p0 = some r) :
    E Tryd.prog Y0 47 [.l .fz c0 p0.length (p0.map iv)] hp = some (.l .fz r.1 r.2.length (r.2.map iv), hp, none) := by
  rw [E_bodyN 1 body47 rfl (by decide) rfl]
  simp only [Tryd.f47, Option.get_some]
  unfold f47S at h
  obtain rfl := inj_ok h
  simp
def f48_L0 (F : Nat) (p0 : List Int) (K : List (Int × Int) → Option ((Ck × List (Int × Int)))) : Nat → List (Int × Int) × Int → Option ((Ck × List (Int × Int)))
  | 0, _ => none
  | n + 1, (v1, v2) => (some (IntKind.i64.wrap (v2 + 1))).bind fun x3 =>
    (some ((p0.length : Int))).bind fun x4 =>
    (some (decide (x3 < x4))).bind fun x5 =>
    (match x5 with
    | true => ((gI p0 v2).bind fun y6 =>
    (gI p0 x3).bind fun y7 =>
    (app1 v1 (y6, y7)).bind fun x8 =>
    (some (IntKind.i64.wrap (v2 + 2))).bind fun x9 =>
    f48_L0 F p0 K n (x8, x9))
    | false => (K v1))
def f48S (F : Nat) (p0 : List Int) : Option ((Ck × List (Int × Int))) :=
  f48_L0 F p0 (fun v10 =>
    some (.nz, v10)) F ([], 0)
theorem f48_is {a0 : Bool} {c0 : Ck} {p0 : List Int} {hp : List (Option (List PV))} {F : Nat} {r : ((Ck × List (Int × Int)))}  (h : f48S F p0 = some r) :
    E Tryd.prog Y0 48 [.l (ak a0) c0 p0.length (p0.map iv)] hp = some (.l .own r.1 r.2.length (rows r.2), hp, none) := by
  rw [E_bodyN 1 body48 rfl (by decide) rfl]
  simp only [Tryd.f48, Option.get_some]
  unfold f48S at h
  simp
  have hL0 := h; clear h
  refine loopS (S := f48_L0 F p0) (fun (v1, v2) σ => ∃ (ts : Tr PV) (w : Option Nat), wok hp.length w ∧ σ = ⟨[], ts, hp, w⟩ ∧ ts.get 0 = some (.l (ak a0) c0 p0.length (p0.map iv)) ∧ ts.get 3 = some (.l .own .nz v1.length (rows v1)) ∧ ts.get 4 = some (iv v2) ∧ True) (fun v10 σ => ∃ (ts : Tr PV) (w : Option Nat), wok hp.length w ∧ σ = ⟨[], ts, hp, w⟩ ∧ ts.get 3 = some (.l .own .nz v10.length (rows v10)) ∧ True) (fun _ => rfl) hL0 ?_ ?_ ?_
  · exact ⟨_, _, by simp, rfl, by simp⟩
  · rintro v10 σ ⟨ts, w, hw, rfl, g3, -⟩ h
    clear hL0
    try dsimp only at h
    obtain rfl := inj_ok h
    simp [g3, hw]
  · rintro k n ⟨v1, v2⟩ σ ⟨ts, w, hw, rfl, g0, g3, g4, -⟩ h ih ex
    clear hL0
    rw [f48_L0] at h
    obtain ⟨x3, ex3, h⟩ := bindT h
    obtain ⟨x4, ex4, h⟩ := bindT h
    obtain ⟨x5, ex5, h⟩ := bindT h
    cases x5
    case false =>
     simp [g0, g3, g4, ex3, ex4, ex5]
     refine ex v1 _ ?_ h
     exact ⟨_, _, by simp [hw], rfl, by simp [g0, g3, g4, ex3, ex4, ex5]⟩
    obtain ⟨y6, ey6, h⟩ := bind_ok h
    obtain ⟨ey6a, ey6e, ey6b, ey6c, ey6g⟩ := gI_ok rfl ey6
    obtain ⟨y7, ey7, h⟩ := bind_ok h
    obtain ⟨ey7a, ey7e, ey7b, ey7c, ey7g⟩ := gI_ok rfl ey7
    obtain ⟨x8, ex8, h⟩ := bind_ok h
    obtain ⟨ex8a, ex8b, ex8c, ex8q⟩ := app1_rows ex8
    have ex8b := ex8b 19 (by decide)
    obtain ⟨x9, ex9, h⟩ := bindT h
    simp [g0, g3, g4, ex3, ex4, ex5, ey6a, ey6b, ey6c, ey7a, ey7b, ey7c, ex8a, ex8b, ex8c, ex9]
    all_goals try (generalize hmt : mayTurn _ = mb; obtain rfl : mb = true := hmt.symm.trans (by kernel_rfl); clear hmt)
    all_goals try simp [g0, g3, g4, ex3, ex4, ex5, ey6a, ey6b, ey6c, ey7a, ey7b, ey7c, ex8a, ex8b, ex8c, ex9]
    refine ih (x8, x9) _ ?_ h
    exact ⟨_, _, by simp [hw], rfl, by simp [g0, g3, g4, ex3, ex4, ex5, ey6a, ey6b, ey6c, ey7a, ey7b, ey7c, ex8a, ex8b, ex8c, ex9]⟩
def f59_L0 (F : Nat) (p0 : List UInt8) (K : Ck × List (Int × Int) → Option ((Ck × List (Int × Int)))) : Nat → Int × Int × Int × Int × Ck × List (Int × Int) × Int → Option ((Ck × List (Int × Int)))
  | 0, _ => none
  | n + 1, (v1, v2, v3, v4, c5, v6, v7) => (some ((p0.length : Int))).bind fun x8 =>
    (some (decide (v7 < x8))).bind fun x9 =>
    (match x9 with
    | true => ((gS p0 v7).bind fun x10 =>
    (some (decide (x10 = 118))).bind fun x11 =>
    (match x11 with
    | true => ((some (IntKind.i64.wrap (-v4))).bind fun x12 =>
    (some (IntKind.i64.wrap (v1 + x12))).bind fun x13 =>
    (some (IntKind.i64.wrap (v2 + v3))).bind fun x14 =>
    (app1 v6 (x13, x14)).bind fun x15 =>
    (some (IntKind.i64.wrap (v7 + 1))).bind fun x16 =>
    f59_L0 F p0 K n (x13, x14, x12, v3, .nz, x15, x16))
    | false => ((some (IntKind.i64.wrap (-v3))).bind fun x17 =>
    (some (IntKind.i64.wrap (v1 + v4))).bind fun x18 =>
    (some (IntKind.i64.wrap (v2 + x17))).bind fun x19 =>
    (app1 v6 (x18, x19)).bind fun x20 =>
    (some (IntKind.i64.wrap (v7 + 1))).bind fun x21 =>
    f59_L0 F p0 K n (x18, x19, v4, x17, .nz, x20, x21))))
    | false => (K (c5, v6)))
def f59S (F : Nat) (p0 : List UInt8) : Option ((Ck × List (Int × Int))) :=
  f59_L0 F p0 (fun (c22, v23) =>
    some (c22, v23)) F (1, 0, 1, 0, .full, [(0, 0), (1, 0)], 0)
theorem f59_is {p0 : List UInt8} {hp : List (Option (List PV))} {F : Nat} {r : ((Ck × List (Int × Int)))}  (h : f59S F p0 = some r) :
    E Tryd.prog Y0 59 [.v (.string (bs p0))] hp = some (.l (vlOf r.1) r.1 r.2.length (rows r.2), hp, none) := by
  rw [E_bodyN 1 body59 rfl (by decide) rfl]
  simp only [Tryd.f59, Option.get_some]
  unfold f59S at h
  simp
  have hL0 := h; clear h
  refine loopS (S := f59_L0 F p0) (fun (v1, v2, v3, v4, c5, v6, v7) σ => ∃ (ts : Tr PV) (w : Option Nat), wok hp.length w ∧ σ = ⟨[], ts, hp, w⟩ ∧ ts.get 0 = some (.v (.string (bs p0))) ∧ ts.get 3 = some (iv v1) ∧ ts.get 4 = some (iv v2) ∧ ts.get 5 = some (iv v3) ∧ ts.get 6 = some (iv v4) ∧ ts.get 7 = some (.l (vlOf c5) c5 v6.length (rows v6)) ∧ ts.get 8 = some (iv v7) ∧ True) (fun (c22, v23) σ => ∃ (ts : Tr PV) (w : Option Nat), wok hp.length w ∧ σ = ⟨[], ts, hp, w⟩ ∧ ts.get 7 = some (.l (vlOf c22) c22 v23.length (rows v23)) ∧ True) (fun _ => rfl) hL0 ?_ ?_ ?_
  · exact ⟨_, _, by simp, rfl, by simp⟩
  · rintro ⟨c22, v23⟩ σ ⟨ts, w, hw, rfl, g7, -⟩ h
    clear hL0
    try dsimp only at h
    cases c22 with
    | full =>
      obtain rfl := inj_ok h
      simp [g7, hw]
    | nz =>
      obtain rfl := inj_ok h
      simp [g7, hw]
    | any =>
      obtain rfl := inj_ok h
      simp [g7, hw]
  · rintro k n ⟨v1, v2, v3, v4, c5, v6, v7⟩ σ ⟨ts, w, hw, rfl, g0, g3, g4, g5, g6, g7, g8, -⟩ h ih ex
    clear hL0
    rw [f59_L0] at h
    cases c5 with
    | full =>
      obtain ⟨x8, ex8, h⟩ := bindT h
      obtain ⟨x9, ex9, h⟩ := bindT h
      cases x9
      case false =>
       simp [g0, g3, g4, g5, g6, g7, g8, ex8, ex9]
       refine ex (Ck.full, v6) _ ?_ h
       exact ⟨_, _, by simp [hw], rfl, by simp [g0, g3, g4, g5, g6, g7, g8, ex8, ex9]⟩
      obtain ⟨x10, ex10, h⟩ := bind_ok h
      have ex10 := (gS_ok (P := Tryd.prog) (t := 9) (k := .i64) Tryd.underlying9 shape9 ex10).1
      obtain ⟨x11, ex11, h⟩ := bindT h
      cases x11
      case true =>
       obtain ⟨x12, ex12, h⟩ := bindT h
       obtain ⟨x13, ex13, h⟩ := bindT h
       obtain ⟨x14, ex14, h⟩ := bindT h
       obtain ⟨x15, ex15, h⟩ := bind_ok h
       obtain ⟨ex15a, ex15b, ex15c, ex15q⟩ := app1_rows ex15
       have ex15b := ex15b 19 (by decide)
       obtain ⟨x16, ex16, h⟩ := bindT h
       simp [g0, g3, g4, g5, g6, g7, g8, ex8, ex9, ex10, ex11, ex12, ex13, ex14, ex15a, ex15b, ex15c, ex16]
       refine ih (x13, x14, x12, v3, .nz, x15, x16) _ ?_ h
       exact ⟨_, _, by simp [hw], rfl, by simp [g0, g3, g4, g5, g6, g7, g8, ex8, ex9, ex10, ex11, ex12, ex13, ex14, ex15a, ex15b, ex15c, ex16]⟩
      obtain ⟨x17, ex17, h⟩ := bindT h
      obtain ⟨x18, ex18, h⟩ := bindT h
      obtain ⟨x19, ex19, h⟩ := bindT h
      obtain ⟨x20, ex20, h⟩ := bind_ok h
      obtain ⟨ex20a, ex20b, ex20c, ex20q⟩ := app1_rows ex20
      have ex20b := ex20b 19 (by decide)
      obtain ⟨x21, ex21, h⟩ := bindT h
      simp [g0, g3, g4, g5, g6, g7, g8, ex8, ex9, ex10, ex11, ex17, ex18, ex19, ex20a, ex20b, ex20c, ex21]
      refine ih (x18, x19, v4, x17, .nz, x20, x21) _ ?_ h
      exact ⟨_, _, by simp [hw], rfl, by simp [g0, g3, g4, g5, g6, g7, g8, ex8, ex9, ex10, ex11, ex17, ex18, ex19, ex20a, ex20b, ex20c, ex21]⟩
    | nz =>
      obtain ⟨x8, ex8, h⟩ := bindT h
      obtain ⟨x9, ex9, h⟩ := bindT h
      cases x9
      case false =>
       simp [g0, g3, g4, g5, g6, g7, g8, ex8, ex9]
       refine ex (Ck.nz, v6) _ ?_ h
       exact ⟨_, _, by simp [hw], rfl, by simp [g0, g3, g4, g5, g6, g7, g8, ex8, ex9]⟩
      obtain ⟨x10, ex10, h⟩ := bind_ok h
      have ex10 := (gS_ok (P := Tryd.prog) (t := 9) (k := .i64) Tryd.underlying9 shape9 ex10).1
      obtain ⟨x11, ex11, h⟩ := bindT h
      cases x11
      case true =>
       obtain ⟨x12, ex12, h⟩ := bindT h
       obtain ⟨x13, ex13, h⟩ := bindT h
       obtain ⟨x14, ex14, h⟩ := bindT h
       obtain ⟨x15, ex15, h⟩ := bind_ok h
       obtain ⟨ex15a, ex15b, ex15c, ex15q⟩ := app1_rows ex15
       have ex15b := ex15b 19 (by decide)
       obtain ⟨x16, ex16, h⟩ := bindT h
       simp [g0, g3, g4, g5, g6, g7, g8, ex8, ex9, ex10, ex11, ex12, ex13, ex14, ex15a, ex15b, ex15c, ex16]
       refine ih (x13, x14, x12, v3, .nz, x15, x16) _ ?_ h
       exact ⟨_, _, by simp [hw], rfl, by simp [g0, g3, g4, g5, g6, g7, g8, ex8, ex9, ex10, ex11, ex12, ex13, ex14, ex15a, ex15b, ex15c, ex16]⟩
      obtain ⟨x17, ex17, h⟩ := bindT h
      obtain ⟨x18, ex18, h⟩ := bindT h
      obtain ⟨x19, ex19, h⟩ := bindT h
      obtain ⟨x20, ex20, h⟩ := bind_ok h
      obtain ⟨ex20a, ex20b, ex20c, ex20q⟩ := app1_rows ex20
      have ex20b := ex20b 19 (by decide)
      obtain ⟨x21, ex21, h⟩ := bindT h
      simp [g0, g3, g4, g5, g6, g7, g8, ex8, ex9, ex10, ex11, ex17, ex18, ex19, ex20a, ex20b, ex20c, ex21]
      refine ih (x18, x19, v4, x17, .nz, x20, x21) _ ?_ h
      exact ⟨_, _, by simp [hw], rfl, by simp [g0, g3, g4, g5, g6, g7, g8, ex8, ex9, ex10, ex11, ex17, ex18, ex19, ex20a, ex20b, ex20c, ex21]⟩
    | any =>
      obtain ⟨x8, ex8, h⟩ := bindT h
      obtain ⟨x9, ex9, h⟩ := bindT h
      cases x9
      case false =>
       simp [g0, g3, g4, g5, g6, g7, g8, ex8, ex9]
       refine ex (Ck.any, v6) _ ?_ h
       exact ⟨_, _, by simp [hw], rfl, by simp [g0, g3, g4, g5, g6, g7, g8, ex8, ex9]⟩
      obtain ⟨x10, ex10, h⟩ := bind_ok h
      have ex10 := (gS_ok (P := Tryd.prog) (t := 9) (k := .i64) Tryd.underlying9 shape9 ex10).1
      obtain ⟨x11, ex11, h⟩ := bindT h
      cases x11
      case true =>
       obtain ⟨x12, ex12, h⟩ := bindT h
       obtain ⟨x13, ex13, h⟩ := bindT h
       obtain ⟨x14, ex14, h⟩ := bindT h
       obtain ⟨x15, ex15, h⟩ := bind_ok h
       obtain ⟨ex15a, ex15b, ex15c, ex15q⟩ := app1_rows ex15
       have ex15b := ex15b 19 (by decide)
       obtain ⟨x16, ex16, h⟩ := bindT h
       simp [g0, g3, g4, g5, g6, g7, g8, ex8, ex9, ex10, ex11, ex12, ex13, ex14, ex15a, ex15b, ex15c, ex16]
       refine ih (x13, x14, x12, v3, .nz, x15, x16) _ ?_ h
       exact ⟨_, _, by simp [hw], rfl, by simp [g0, g3, g4, g5, g6, g7, g8, ex8, ex9, ex10, ex11, ex12, ex13, ex14, ex15a, ex15b, ex15c, ex16]⟩
      obtain ⟨x17, ex17, h⟩ := bindT h
      obtain ⟨x18, ex18, h⟩ := bindT h
      obtain ⟨x19, ex19, h⟩ := bindT h
      obtain ⟨x20, ex20, h⟩ := bind_ok h
      obtain ⟨ex20a, ex20b, ex20c, ex20q⟩ := app1_rows ex20
      have ex20b := ex20b 19 (by decide)
      obtain ⟨x21, ex21, h⟩ := bindT h
      simp [g0, g3, g4, g5, g6, g7, g8, ex8, ex9, ex10, ex11, ex17, ex18, ex19, ex20a, ex20b, ex20c, ex21]
      refine ih (x18, x19, v4, x17, .nz, x20, x21) _ ?_ h
      exact ⟨_, _, by simp [hw], rfl, by simp [g0, g3, g4, g5, g6, g7, g8, ex8, ex9, ex10, ex11, ex17, ex18, ex19, ex20a, ex20b, ex20c, ex21]⟩
def f83_L1 (F : Nat) (y8 : (Ck × List Int)) (K : List Int → Option ((Ck × List (Ck × List Int)))) : Nat → List Int × Int → Option ((Ck × List (Ck × List Int)))
  | 0, _ => none
  | n + 1, (v11, v12) => (some (decide (0 ≤ v12))).bind fun x13 =>
    (match x13 with
    | true => ((gI y8.2 v12).bind fun y14 =>
    (app1 v11 y14).bind fun x15 =>
    (some (IntKind.i64.wrap (v12 - 1))).bind fun x16 =>
    f83_L1 F y8 K n (x15, x16))
    | false => (K v11))
def f83_L0 (F : Nat) (p0 : List (Ck × List Int)) (p1 : Int) (K : List (Ck × List Int) → Option ((Ck × List (Ck × List Int)))) : Nat → List (Ck × List Int) × Int → Option ((Ck × List (Ck × List Int)))
  | 0, _ => none
  | n + 1, (v1, v2) => (some ((p0.length : Int))).bind fun x3 =>
    (some (IntKind.i64.wrap (Int.tdiv x3 2))).bind fun x4 =>
    (some (decide (v2 < x4))).bind fun x5 =>
    (match x5 with
    | true => ((some (IntKind.i64.wrap (x3 - 1))).bind fun x6 =>
    (some (IntKind.i64.wrap (x6 - v2))).bind fun x7 =>
    (gI p0 x7).bind fun y8 =>
    (some ((y8.2.length : Int))).bind fun x9 =>
    (some (IntKind.i64.wrap (x9 - 1))).bind fun x10 =>
    f83_L1 F y8 (fun v17 =>
      (gI p0 v2).bind fun y18 =>
      (neL y18.2).bind fun x19 =>
      (some (decide (p1 = 111))).bind fun x20 =>
      (match x20 with
      | true => ((appL v17 y18.2).bind fun x21 =>
      (app1 v1 (.nz, x21)).bind fun x22 =>
      (some (IntKind.i64.wrap (v2 + 1))).bind fun x23 =>
      f83_L0 F p0 p1 K n (x22, x23))
      | false => ((appL y18.2 v17).bind fun x24 =>
      (app1 v1 (.nz, x24)).bind fun x25 =>
      (some (IntKind.i64.wrap (v2 + 1))).bind fun x26 =>
      f83_L0 F p0 p1 K n (x25, x26)))) F ([], x10))
    | false => (K v1))
def f83S (F : Nat) (p0 : List (Ck × List Int)) (p1 : Int) : Option ((Ck × List (Ck × List Int))) :=
  f83_L0 F p0 p1 (fun v27 =>
    some (.nz, v27)) F ([], 0)
theorem f83_is {a0 : Bool} {c0 : Ck} {p0 : List (Ck × List Int)} {p1 : Int} {hp : List (Option (List PV))} {F : Nat} {r : ((Ck × List (Ck × List Int)))}  (h : f83S F p0 p1 = some r) :
    E Tryd.prog Y0 83 [.l (ak a0) c0 p0.length (p0.map lv), kv .u8 p1] hp = some (.l .own r.1 r.2.length (r.2.map lv), hp, none) := by
  rw [E_bodyN 2 body83 rfl (by decide) rfl]
  simp only [Tryd.f83, Option.get_some]
  unfold f83S at h
  simp
  have hL0 := h; clear h
  refine loopS (S := f83_L0 F p0 p1) (fun (v1, v2) σ => ∃ (ts : Tr PV) (w : Option Nat), wok hp.length w ∧ σ = ⟨[], ts, hp, w⟩ ∧ ts.get 0 = some (.l (ak a0) c0 p0.length (p0.map lv)) ∧ ts.get 1 = some (kv .u8 p1) ∧ ts.get 5 = some (.l .own .nz v1.length (v1.map lv)) ∧ ts.get 6 = some (iv v2) ∧ True) (fun v27 σ => ∃ (ts : Tr PV) (w : Option Nat), wok hp.length w ∧ σ = ⟨[], ts, hp, w⟩ ∧ ts.get 5 = some (.l .own .nz v27.length (v27.map lv)) ∧ True) (fun _ => rfl) hL0 ?_ ?_ ?_
  · exact ⟨_, _, by simp, rfl, by simp⟩
  · rintro v27 σ ⟨ts, w, hw, rfl, g5, -⟩ h
    clear hL0
    try dsimp only at h
    obtain rfl := inj_ok h
    simp [g5, hw]
  · rintro k n ⟨v1, v2⟩ σ ⟨ts, w, hw, rfl, g0, g1, g5, g6, -⟩ h ih ex
    clear hL0
    rw [f83_L0] at h
    obtain ⟨x3, ex3, h⟩ := bindT h
    obtain ⟨x4, ex4, h⟩ := bindT h
    obtain ⟨x5, ex5, h⟩ := bindT h
    cases x5
    case false =>
     simp [g0, g1, g5, g6, ex3, ex4, ex5]
     refine ex v1 _ ?_ h
     exact ⟨_, _, by simp [hw], rfl, by simp [g0, g1, g5, g6, ex3, ex4, ex5]⟩
    obtain ⟨x6, ex6, h⟩ := bindT h
    obtain ⟨x7, ex7, h⟩ := bindT h
    obtain ⟨y8, ey8, h⟩ := bind_ok h
    obtain ⟨ey8a, ey8e, ey8b, ey8c, ey8g⟩ := gI_ok rfl ey8
    obtain ⟨x9, ex9, h⟩ := bindT h
    obtain ⟨x10, ex10, h⟩ := bindT h
    simp [g0, g1, g5, g6, ex3, ex4, ex5, ex6, ex7, ey8a, ey8b, ey8c, lv, ex9, ex10]
    have hL1 := h; clear h
    refine loopS (S := f83_L1 F y8) (fun (v11, v12) σ => ∃ (ts : Tr PV) (w : Option Nat), wok hp.length w ∧ σ = ⟨[], ts, hp, w⟩ ∧ ts.get 0 = some (.l (ak a0) c0 p0.length (p0.map lv)) ∧ ts.get 1 = some (kv .u8 p1) ∧ ts.get 5 = some (.l .own .nz v1.length (v1.map lv)) ∧ ts.get 6 = some (iv v2) ∧ ts.get 7 = some (.l .own .nz v11.length (v11.map iv)) ∧ ts.get 8 = some (.l .fz y8.1 y8.2.length (y8.2.map iv)) ∧ ts.get 9 = some (iv v12) ∧ True) (fun v17 σ => ∃ (ts : Tr PV) (w : Option Nat), wok hp.length w ∧ σ = ⟨[], ts, hp, w⟩ ∧ ts.get 0 = some (.l (ak a0) c0 p0.length (p0.map lv)) ∧ ts.get 1 = some (kv .u8 p1) ∧ ts.get 5 = some (.l .own .nz v1.length (v1.map lv)) ∧ ts.get 6 = some (iv v2) ∧ ts.get 7 = some (.l .own .nz v17.length (v17.map iv)) ∧ True) (fun _ => rfl) hL1 ?_ ?_ ?_
    · exact ⟨_, _, by simp [hw], rfl, by simp [g0, g1, g5, g6, ex3, ex4, ex5, ex6, ex7, ey8a, ey8b, ey8c, lv, ex9, ex10]⟩
    · rintro v17 σ ⟨ts, w, hw, rfl, g0, g1, g5, g6, g7, -⟩ h
      clear hL1
      try dsimp only at h
      obtain ⟨y18, ey18, h⟩ := bind_ok h
      obtain ⟨ey18a, ey18e, ey18b, ey18c, ey18g⟩ := gI_ok rfl ey18
      obtain ⟨x19, ex19, h⟩ := bind_ok h
      obtain ⟨ex19a, ex19c, ex19f⟩ := neL_ok iv ex19
      have ex19c := ex19c 10 (by decide)
      obtain ⟨x20, ex20, h⟩ := bindT h
      cases x20
      case true =>
       obtain ⟨x21, ex21, h⟩ := bind_ok h
       obtain ⟨ex21a, ex21b, ex21c, ex21d, ex21f, ex21q⟩ := appL_ok iv ex21
       have ex21c := ex21c 10 (by decide)
       obtain ⟨x22, ex22, h⟩ := bind_ok h
       obtain ⟨ex22a, ex22b, ex22c, ex22q⟩ := app1_ok lv ex22
       have ex22b := ex22b 26 (by decide)
       simp [lv, tv] at ex22c
       obtain ⟨x23, ex23, h⟩ := bindT h
       simp [g0, g1, g5, g6, g7, ey18a, ey18b, ey18c, lv, ex19a, ex19c, ex19f, ex20, ex21a, ex21b, ex21c, ex21d, ex21f, ex22a, ex22b, ex22c, ex23]
       refine ih (x22, x23) _ ?_ h
       exact ⟨_, _, by simp [hw], rfl, by simp [g0, g1, g5, g6, g7, ey18a, ey18b, ey18c, lv, ex19a, ex19c, ex19f, ex20, ex21a, ex21b, ex21c, ex21d, ex21f, ex22a, ex22b, ex22c, ex23]⟩
      obtain ⟨x24, ex24, h⟩ := bind_ok h
      obtain ⟨ex24a, ex24b, ex24c, ex24d, ex24f, ex24q⟩ := appL_ok iv ex24
      have ex24c := ex24c 10 (by decide)
      obtain ⟨x25, ex25, h⟩ := bind_ok h
      obtain ⟨ex25a, ex25b, ex25c, ex25q⟩ := app1_ok lv ex25
      have ex25b := ex25b 26 (by decide)
      simp [lv, tv] at ex25c
      obtain ⟨x26, ex26, h⟩ := bindT h
      simp [g0, g1, g5, g6, g7, ey18a, ey18b, ey18c, lv, ex19a, ex19c, ex19f, ex20, ex24a, ex24b, ex24c, ex24d, ex24f, ex25a, ex25b, ex25c, ex26]
      refine ih (x25, x26) _ ?_ h
      exact ⟨_, _, by simp [hw], rfl, by simp [g0, g1, g5, g6, g7, ey18a, ey18b, ey18c, lv, ex19a, ex19c, ex19f, ex20, ex24a, ex24b, ex24c, ex24d, ex24f, ex25a, ex25b, ex25c, ex26]⟩
    · rintro k n ⟨v11, v12⟩ σ ⟨ts, w, hw, rfl, g0, g1, g5, g6, g7, g8, g9, -⟩ h ih ex
      clear hL1
      rw [f83_L1] at h
      obtain ⟨x13, ex13, h⟩ := bindT h
      cases x13
      case false =>
       simp [g0, g1, g5, g6, g7, g8, g9, ex13]
       refine ex v11 _ ?_ h
       exact ⟨_, _, by simp [hw], rfl, by simp [g0, g1, g5, g6, g7, g8, g9, ex13]⟩
      obtain ⟨y14, ey14, h⟩ := bind_ok h
      obtain ⟨ey14a, ey14e, ey14b, ey14c, ey14g⟩ := gI_ok rfl ey14
      obtain ⟨x15, ex15, h⟩ := bind_ok h
      obtain ⟨ex15a, ex15b, ex15c, ex15q⟩ := app1_ok iv ex15
      have ex15b := ex15b 10 (by decide)
      obtain ⟨x16, ex16, h⟩ := bindT h
      simp [g0, g1, g5, g6, g7, g8, g9, ex13, ey14a, ey14b, ey14c, ex15a, ex15b, ex15c, ex16]
      refine ih (x15, x16) _ ?_ h
      exact ⟨_, _, by simp [hw], rfl, by simp [g0, g1, g5, g6, g7, g8, g9, ex13, ey14a, ey14b, ey14c, ex15a, ex15b, ex15c, ex16]⟩
def f56_L4 (F : Nat) (v20 : List (Ck × List Int)) (v76 : Int) (K : List Int × List Int → Option ((Ck × List Int) × (Ck × List Int) × List UInt8)) : Nat → Int × List Int × List Int → Option ((Ck × List Int) × (Ck × List Int) × List UInt8)
  | 0, _ => none
  | n + 1, (v81, m82, m83) => (gI v20 v76).bind fun y84 =>
    (some ((y84.2.length : Int))).bind fun x85 =>
    (some (decide (v81 < x85))).bind fun x86 =>
    (match x86 with
    | true => ((gI y84.2 v81).bind fun y87 =>
    (gI m82 y87).bind fun y88 =>
    (some (IntKind.i64.wrap (y88 + 1))).bind fun x89 =>
    (sI m82 y87 x89).bind fun m90 =>
    (some (IntKind.i64.wrap (v81 + 1))).bind fun x91 =>
    f56_L4 F v20 v76 K n (x91, m90, m83))
    | false => (K (m82, m83)))
def f56_L3 (F : Nat) (v20 : List (Ck × List Int)) (K : List Int × List Int → Option ((Ck × List Int) × (Ck × List Int) × List UInt8)) : Nat → Int × List Int × List Int → Option ((Ck × List Int) × (Ck × List Int) × List UInt8)
  | 0, _ => none
  | n + 1, (v76, m77, m78) => (some ((v20.length : Int))).bind fun x79 =>
    (some (decide (v76 < x79))).bind fun x80 =>
    (match x80 with
    | true => (f56_L4 F v20 v76 (fun (m92, m93) =>
      (some (IntKind.i64.wrap (v76 + 1))).bind fun x94 =>
      f56_L3 F v20 K n (x94, m92, m93)) F (0, m77, m78))
    | false => (K (m77, m78)))
def f56_L2 (F : Nat) (p0 : List UInt8) (x10 : Nat) (v20 : List (Ck × List Int)) (v21 : Int) (x27 : Int) (K : List Int × List Int → Option ((Ck × List Int) × (Ck × List Int) × List UInt8)) : Nat → Int × List Int × List Int → Option ((Ck × List Int) × (Ck × List Int) × List UInt8)
  | 0, _ => none
  | n + 1, (v28, m29, m30) => (some (IntKind.i64.wrap ((x10 : Int) - 1))).bind fun x31 =>
    (some (decide (v28 < x31))).bind fun x32 =>
    (match x32 with
    | true => ((some (IntKind.i64.wrap (x27 - 1))).bind fun x33 =>
    (gI v20 x33).bind fun y34 =>
    (gI v20 x27).bind fun y35 =>
    (hasO y34.2 v28).bind fun x36 =>
    (match x36 with
    | true => ((some (IntKind.i64.wrap (v28 + 1))).bind fun x37 =>
    (hasO y35.2 x37).bind fun x38 =>
    (match x38 with
    | true => ((gI m30 v28).bind fun y39 =>
    (sI m30 v28 104).bind fun m40 =>
    (gS p0 v21).bind fun x41 =>
    (some (decide (x41 = 111))).bind fun x42 =>
    (gI m29 v28).bind fun y43 =>
    (some (Int.tmod y43 2)).bind fun x44 =>
    (some (decide (x44 = 0))).bind fun x45 =>
    (some ((x42 == x45))).bind fun x46 =>
    (match x46 with
    | true => ((gI m40 v28).bind fun y47 =>
    (sI m40 v28 118).bind fun m48 =>
    f56_L2 F p0 x10 v20 v21 x27 K n (x37, m29, m48))
    | false => (f56_L2 F p0 x10 v20 v21 x27 K n (x37, m29, m40))))
    | false => ((hasO y34.2 x37).bind fun x49 =>
    (match x49 with
    | true => ((hasO y35.2 v28).bind fun x50 =>
    (match x50 with
    | true => ((gI m30 v28).bind fun y51 =>
    (sI m30 v28 104).bind fun m52 =>
    (gS p0 v21).bind fun x53 =>
    (some (decide (x53 = 111))).bind fun x54 =>
    (gI m29 v28).bind fun y55 =>
    (some (Int.tmod y55 2)).bind fun x56 =>
    (some (decide (x56 = 0))).bind fun x57 =>
    (some ((x54 == x57))).bind fun x58 =>
    (match x58 with
    | true => ((gI m52 v28).bind fun y59 =>
    (sI m52 v28 118).bind fun m60 =>
    f56_L2 F p0 x10 v20 v21 x27 K n (x37, m29, m60))
    | false => (f56_L2 F p0 x10 v20 v21 x27 K n (x37, m29, m52))))
    | false => (f56_L2 F p0 x10 v20 v21 x27 K n (x37, m29, m30))))
    | false => (f56_L2 F p0 x10 v20 v21 x27 K n (x37, m29, m30))))))
    | false => ((some (IntKind.i64.wrap (v28 + 1))).bind fun x61 =>
    (hasO y34.2 x61).bind fun x62 =>
    (match x62 with
    | true => ((hasO y35.2 v28).bind fun x63 =>
    (match x63 with
    | true => ((gI m30 v28).bind fun y64 =>
    (sI m30 v28 104).bind fun m65 =>
    (gS p0 v21).bind fun x66 =>
    (some (decide (x66 = 111))).bind fun x67 =>
    (gI m29 v28).bind fun y68 =>
    (some (Int.tmod y68 2)).bind fun x69 =>
    (some (decide (x69 = 0))).bind fun x70 =>
    (some ((x67 == x70))).bind fun x71 =>
    (match x71 with
    | true => ((gI m65 v28).bind fun y72 =>
    (sI m65 v28 118).bind fun m73 =>
    f56_L2 F p0 x10 v20 v21 x27 K n (x61, m29, m73))
    | false => (f56_L2 F p0 x10 v20 v21 x27 K n (x61, m29, m65))))
    | false => (f56_L2 F p0 x10 v20 v21 x27 K n (x61, m29, m30))))
    | false => (f56_L2 F p0 x10 v20 v21 x27 K n (x61, m29, m30))))))
    | false => (K (m29, m30)))
def f56_L1 (F : Nat) (p0 : List UInt8) (x10 : Nat) (K : Ck × List (Ck × List Int) × List Int × List Int → Option ((Ck × List Int) × (Ck × List Int) × List UInt8)) : Nat → Ck × List (Ck × List Int) × Int × List Int × List Int → Option ((Ck × List Int) × (Ck × List Int) × List UInt8)
  | 0, _ => none
  | n + 1, (c19, v20, v21, m22, m23) => (some ((p0.length : Int))).bind fun x24 =>
    (some (decide (v21 < x24))).bind fun x25 =>
    (match x25 with
    | true => ((some ((v20.length : Int))).bind fun x26 =>
    (some (IntKind.i64.wrap (Int.tdiv x26 2))).bind fun x27 =>
    f56_L2 F p0 x10 v20 v21 x27 (fun (m74, m75) =>
      f56_L3 F v20 (fun (m95, m96) =>
        (gS p0 v21).bind fun x97 =>
        (f83S F v20 x97).bind fun (c98, l99) =>
        (some (IntKind.i64.wrap (v21 + 1))).bind fun x101 =>
        f56_L1 F p0 x10 K n (c98, l99, x101, m95, m96)) F (x27, m74, m75)) F (0, m22, m23))
    | false => (K (c19, v20, m22, m23)))
def f56_L0 (F : Nat) (x2 : Int) (K : List (Ck × List Int) → Option ((Ck × List Int) × (Ck × List Int) × List UInt8)) : Nat → List (Ck × List Int) × Int → Option ((Ck × List Int) × (Ck × List Int) × List UInt8)
  | 0, _ => none
  | n + 1, (v4, v5) => (some (decide (v5 < x2))).bind fun x6 =>
    (match x6 with
    | true => ((app1 v4 (.full, [v5])).bind fun x7 =>
    (some (IntKind.i64.wrap (v5 + 1))).bind fun x8 =>
    f56_L0 F x2 K n (x7, x8))
    | false => (K v4))
def f56S (F : Nat) (p0 : List UInt8) : Option ((Ck × List Int) × (Ck × List Int) × List UInt8) :=
  (some ((p0.length : Int))).bind fun x1 =>
  (f82S F x1).bind fun x2 =>
  f56_L0 F x2 (fun v9 =>
    (mkN x2).bind fun x10 =>
    (gN x10).bind fun x11 =>
    (some (List.replicate x10 (0 : Int))).bind fun m13 =>
    (some (IntKind.i64.wrap ((x10 : Int) - 1))).bind fun x14 =>
    (mkN x14).bind fun x15 =>
    (gN x15).bind fun x16 =>
    (some (List.replicate x15 (0 : Int))).bind fun m18 =>
    f56_L1 F p0 x10 (fun (c102, v103, m104, m105) =>
      (gI v103 0).bind fun y106 =>
      (some (bytesN m105)).bind fun x107 =>
      some ((y106.1, y106.2), (.any, m104), x107)) F (.nz, v9, 0, m13, m18)) F ([], 0)
theorem f56_is {p0 : List UInt8} {hp : List (Option (List PV))} {F : Nat} {r : ((Ck × List Int) × (Ck × List Int) × List UInt8)}  (h : f56S F p0 = some r) :
    E Tryd.prog Y0 56 [.v (.string (bs p0))] hp = some (.t [.l .fz r.1.1 r.1.2.length (r.1.2.map iv), .l .fz r.2.1.1 r.2.1.2.length (r.2.1.2.map iv), .v (.string (bs r.2.2))], hp, none) := by
  rw [E_bodyN 1 body56 rfl (by decide) rfl]
  simp only [Tryd.f56, Option.get_some]
  unfold f56S at h
  replace h := bindT h; obtain ⟨x1, ex1, h⟩ := h
  replace h := bind_ok h; obtain ⟨x2, e3, h⟩ := h
  have e3 : ∀ hp, E Tryd.prog Y0 82 [iv x1] hp = some (iv x2, hp, none) := fun hp => f82_is  e3
  simp [ex1, e3]
  have hL0 := h; clear h
  refine loopS (S := f56_L0 F x2) (fun (v4, v5) σ => ∃ (ts : Tr PV) (w : Option Nat), wok hp.length w ∧ σ = ⟨[], ts, hp, w⟩ ∧ ts.get 0 = some (.v (.string (bs p0))) ∧ ts.get 5 = some (iv x2) ∧ ts.get 6 = some (.l .own .nz v4.length (v4.map lv)) ∧ ts.get 7 = some (iv v5) ∧ True) (fun v9 σ => ∃ (ts : Tr PV) (w : Option Nat), wok hp.length w ∧ σ = ⟨[], ts, hp, w⟩ ∧ ts.get 0 = some (.v (.string (bs p0))) ∧ ts.get 5 = some (iv x2) ∧ ts.get 6 = some (.l .own .nz v9.length (v9.map lv)) ∧ True) (fun _ => rfl) hL0 ?_ ?_ ?_
  · exact ⟨_, _, by simp, rfl, by simp [ex1, e3]⟩
  · rintro v9 σ ⟨ts, w, hw, rfl, g0, g5, g6, -⟩ h
    clear hL0
    try dsimp only at h
    replace h := bind_ok h; obtain ⟨x10, ex10, h⟩ := h
    obtain ⟨ex10a, ex10b, ex10c⟩ := mkN_ok ex10
    subst ex10a
    replace h := bind_ok h; obtain ⟨x11, ex11, h⟩ := h
    have ex11 := gN_ok ex11 10 (by decide)
    replace h := bind_ok h; obtain ⟨m13, em13, h⟩ := h
    have em13 := inj_ok em13
    have em13r : reps [iv 0] x10 = m13.map iv := by rw [← em13]; exact reps_rep
    have hl0 : m13.length = x10 := by rw [← em13]; exact rep_len
    replace h := bindT h; obtain ⟨x14, ex14, h⟩ := h
    replace h := bind_ok h; obtain ⟨x15, ex15, h⟩ := h
    obtain ⟨ex15a, ex15b, ex15c⟩ := mkN_ok ex15
    subst ex15a
    replace h := bind_ok h; obtain ⟨x16, ex16, h⟩ := h
    have ex16 := gN_ok ex16 3 (by decide)
    replace h := bind_ok h; obtain ⟨m18, em18, h⟩ := h
    have em18 := inj_ok em18
    have em18r : reps [(kv .u8) 0] x15 = m18.map (kv .u8) := by rw [← em18]; exact reps_rep
    have hl1 : m18.length = x15 := by rw [← em18]; exact rep_len
    simp [g0, g5, g6, ex11, em13r, hl0, ex14, ex16, em18r, hl1]
    have hL1 := h; clear h
    refine loopS (S := f56_L1 F p0 x10) (fun (c19, v20, v21, m22, m23) σ => ∃ (ts : Tr PV) (w : Option Nat), wok hp.length w ∧ σ = ⟨[], ts, hp ++ [some (m22.map iv), some (m23.map (kv .u8))], w⟩ ∧ ts.get 0 = some (.v (.string (bs p0))) ∧ ts.get 5 = some (iv (x10 : Int)) ∧ ts.get 6 = some (.l .own c19 v20.length (v20.map lv)) ∧ ts.get 8 = some (.s hp.length 0 x10 x10) ∧ ts.get 9 = some (.s (hp.length + 1) 0 x15 x15) ∧ ts.get 10 = some (iv v21) ∧ m22.length = x10 ∧ m23.length = x15 ∧ True) (fun (c102, v103, m104, m105) σ => ∃ (ts : Tr PV) (w : Option Nat), wok hp.length w ∧ σ = ⟨[], ts, hp ++ [some (m104.map iv), some (m105.map (kv .u8))], w⟩ ∧ ts.get 6 = some (.l .own c102 v103.length (v103.map lv)) ∧ ts.get 8 = some (.s hp.length 0 x10 x10) ∧ ts.get 9 = some (.s (hp.length + 1) 0 x15 x15) ∧ m104.length = x10 ∧ m105.length = x15 ∧ True) (fun _ => rfl) hL1 ?_ ?_ ?_
    · exact ⟨_, _, by simp [hw], rfl, by simp [g0, g5, g6, ex11, em13r, hl0, ex14, ex16, em18r, hl1]⟩
    · rintro ⟨c102, v103, m104, m105⟩ σ ⟨ts, w, hw, rfl, g6, g8, g9, hl0, hl1, -⟩ h
      clear hL1
      try dsimp only at h
      replace h := bind_ok h; obtain ⟨y106, ey106, h⟩ := h
      obtain ⟨ey106a, ey106b, ey106c⟩ := gI_lit (k := 0) rfl ey106
      have ey106a : ∀ j, intIn v103.length (.int j 0) = some 0 := ey106a
      replace h := bind_ok h; obtain ⟨x107, ex107, h⟩ := h
      have ex107 := inj_ok ex107
      have ex107 := fun (x : Operand) (σ : St) (dr : Dr) hx hb hm => pbytes_list (dr := dr) (hm := hm) (P := Tryd.prog) (Y := Y0) (f := 56) (src := 79) (dst := 9) (x := x) (σ := σ) (b := (hp.length + 1)) (cap := x15) Tryd.underlying79 Tryd.underlying5 Tryd.underlying9 hx hb hl1 ex107 convn_79_9Ref1
      have st108 := settle_list (sz := elemSz Tryd.prog) (base := hp.length) (hp := hp ++ [some (m104.map iv), some (m105.map (kv .u8))]) (t := 23) (b := hp.length) (cap := x10) iv (by omega) elm23Ref1 (by simp) hl0 (by intro z; rfl)
      obtain rfl := inj_ok h
      simp [g6, g8, g9, hl0, hl1, ey106a, ey106b, ey106c, lv, st108, hw]
      rw [ex107 _ _ _ (by simp) (by simp) (by kernel_rfl)]
      simp [g6, g8, g9, hl0, hl1, ey106a, ey106b, ey106c, lv, st108, hw]
    · rintro k n ⟨c19, v20, v21, m22, m23⟩ σ ⟨ts, w, hw, rfl, g0, g5, g6, g8, g9, g10, hl0, hl1, -⟩ h ih ex
      clear hL1
      rw [f56_L1] at h
      replace h := bindT h; obtain ⟨x24, ex24, h⟩ := h
      replace h := bindT h; obtain ⟨x25, ex25, h⟩ := h
      cases x25
      case false =>
       simp [g0, g5, g6, g8, g9, g10, hl0, hl1, ex24, ex25]
       refine ex (c19, v20, m22, m23) _ ?_ h
       exact ⟨_, _, by simp [hw], rfl, by simp [g0, g5, g6, g8, g9, g10, hl0, hl1, ex24, ex25]⟩
      replace h := bindT h; obtain ⟨x26, ex26, h⟩ := h
      replace h := bindT h; obtain ⟨x27, ex27, h⟩ := h
      simp [g0, g5, g6, g8, g9, g10, hl0, hl1, ex24, ex25, ex26, ex27]
      have hL2 := h; clear h
      refine loopS (S := f56_L2 F p0 x10 v20 v21 x27) (fun (v28, m29, m30) σ => ∃ (ts : Tr PV) (w : Option Nat), wok hp.length w ∧ σ = ⟨[], ts, hp ++ [some (m29.map iv), some (m30.map (kv .u8))], w⟩ ∧ ts.get 0 = some (.v (.string (bs p0))) ∧ ts.get 5 = some (iv (x10 : Int)) ∧ ts.get 6 = some (.l .own c19 v20.length (v20.map lv)) ∧ ts.get 8 = some (.s hp.length 0 x10 x10) ∧ ts.get 9 = some (.s (hp.length + 1) 0 x15 x15) ∧ ts.get 10 = some (iv v21) ∧ ts.get 11 = some (iv x27) ∧ ts.get 12 = some (iv v28) ∧ m29.length = x10 ∧ m30.length = x15 ∧ True) (fun (m74, m75) σ => ∃ (ts : Tr PV) (w : Option Nat), wok hp.length w ∧ σ = ⟨[], ts, hp ++ [some (m74.map iv), some (m75.map (kv .u8))], w⟩ ∧ ts.get 0 = some (.v (.string (bs p0))) ∧ ts.get 5 = some (iv (x10 : Int)) ∧ ts.get 6 = some (.l .own c19 v20.length (v20.map lv)) ∧ ts.get 8 = some (.s hp.length 0 x10 x10) ∧ ts.get 9 = some (.s (hp.length + 1) 0 x15 x15) ∧ ts.get 10 = some (iv v21) ∧ ts.get 11 = some (iv x27) ∧ m74.length = x10 ∧ m75.length = x15 ∧ True) (fun _ => rfl) hL2 ?_ ?_ ?_
      · exact ⟨_, _, by simp [hw], rfl, by simp [g0, g5, g6, g8, g9, g10, hl0, hl1, ex24, ex25, ex26, ex27]⟩
      · rintro ⟨m74, m75⟩ σ ⟨ts, w, hw, rfl, g0, g5, g6, g8, g9, g10, g11, hl0, hl1, -⟩ h
        clear hL2
        try dsimp only at h
        simp [g0, g5, g6, g8, g9, g10, g11, hl0, hl1]
        have hL3 := h; clear h
        refine loopS (S := f56_L3 F v20) (fun (v76, m77, m78) σ => ∃ (ts : Tr PV) (w : Option Nat), wok hp.length w ∧ σ = ⟨[], ts, hp ++ [some (m77.map iv), some (m78.map (kv .u8))], w⟩ ∧ ts.get 0 = some (.v (.string (bs p0))) ∧ ts.get 5 = some (iv (x10 : Int)) ∧ ts.get 6 = some (.l .own c19 v20.length (v20.map lv)) ∧ ts.get 8 = some (.s hp.length 0 x10 x10) ∧ ts.get 9 = some (.s (hp.length + 1) 0 x15 x15) ∧ ts.get 10 = some (iv v21) ∧ ts.get 15 = some (iv v76) ∧ m77.length = x10 ∧ m78.length = x15 ∧ True) (fun (m95, m96) σ => ∃ (ts : Tr PV) (w : Option Nat), wok hp.length w ∧ σ = ⟨[], ts, hp ++ [some (m95.map iv), some (m96.map (kv .u8))], w⟩ ∧ ts.get 0 = some (.v (.string (bs p0))) ∧ ts.get 5 = some (iv (x10 : Int)) ∧ ts.get 6 = some (.l .own c19 v20.length (v20.map lv)) ∧ ts.get 8 = some (.s hp.length 0 x10 x10) ∧ ts.get 9 = some (.s (hp.length + 1) 0 x15 x15) ∧ ts.get 10 = some (iv v21) ∧ m95.length = x10 ∧ m96.length = x15 ∧ True) (fun _ => rfl) hL3 ?_ ?_ ?_
        · exact ⟨_, _, by simp [hw], rfl, by simp [g0, g5, g6, g8, g9, g10, g11, hl0, hl1]⟩
        · rintro ⟨m95, m96⟩ σ ⟨ts, w, hw, rfl, g0, g5, g6, g8, g9, g10, hl0, hl1, -⟩ h
          clear hL3
          try dsimp only at h
          replace h := bind_ok h; obtain ⟨x97, ex97, h⟩ := h
          have ex97 := (gS_ok (P := Tryd.prog) (t := 9) (k := .i64) Tryd.underlying9 shape9 ex97).1
          replace h := bind_ok h; obtain ⟨⟨c98, l99⟩, e100, h⟩ := h
          try dsimp only at h
          have e100 : ∀ hp, E Tryd.prog Y0 83 [.l .bor c19 v20.length (v20.map lv), kv .u8 x97] hp = some (.l .own c98 l99.length (l99.map lv), hp, none) := fun hp => f83_is (a0 := true) (c0 := c19) e100
          replace h := bindT h; obtain ⟨x101, ex101, h⟩ := h
          simp [g0, g5, g6, g8, g9, g10, hl0, hl1, ex97, e100, ex101]
          refine ih (c98, l99, x101, m95, m96) _ ?_ h
          exact ⟨_, _, by simp [hw], rfl, by simp [g0, g5, g6, g8, g9, g10, hl0, hl1, ex97, e100, ex101]⟩
        · rintro k n ⟨v76, m77, m78⟩ σ ⟨ts, w, hw, rfl, g0, g5, g6, g8, g9, g10, g15, hl0, hl1, -⟩ h ih ex
          clear hL3
          rw [f56_L3] at h
          replace h := bindT h; obtain ⟨x79, ex79, h⟩ := h
          replace h := bindT h; obtain ⟨x80, ex80, h⟩ := h
          cases x80
          case false =>
           simp [g0, g5, g6, g8, g9, g10, g15, hl0, hl1, ex79, ex80]
           refine ex (m77, m78) _ ?_ h
           exact ⟨_, _, by simp [hw], rfl, by simp [g0, g5, g6, g8, g9, g10, g15, hl0, hl1, ex79, ex80]⟩
          simp [g0, g5, g6, g8, g9, g10, g15, hl0, hl1, ex79, ex80]
          have hL4 := h; clear h
          refine loopS (S := f56_L4 F v20 v76) (fun (v81, m82, m83) σ => ∃ (ts : Tr PV) (w : Option Nat), wok hp.length w ∧ σ = ⟨[], ts, hp ++ [some (m82.map iv), some (m83.map (kv .u8))], w⟩ ∧ ts.get 0 = some (.v (.string (bs p0))) ∧ ts.get 5 = some (iv (x10 : Int)) ∧ ts.get 6 = some (.l .own c19 v20.length (v20.map lv)) ∧ ts.get 8 = some (.s hp.length 0 x10 x10) ∧ ts.get 9 = some (.s (hp.length + 1) 0 x15 x15) ∧ ts.get 10 = some (iv v21) ∧ ts.get 15 = some (iv v76) ∧ ts.get 16 = some (iv v81) ∧ m82.length = x10 ∧ m83.length = x15 ∧ True) (fun (m92, m93) σ => ∃ (ts : Tr PV) (w : Option Nat), wok hp.length w ∧ σ = ⟨[], ts, hp ++ [some (m92.map iv), some (m93.map (kv .u8))], w⟩ ∧ ts.get 0 = some (.v (.string (bs p0))) ∧ ts.get 5 = some (iv (x10 : Int)) ∧ ts.get 6 = some (.l .own c19 v20.length (v20.map lv)) ∧ ts.get 8 = some (.s hp.length 0 x10 x10) ∧ ts.get 9 = some (.s (hp.length + 1) 0 x15 x15) ∧ ts.get 10 = some (iv v21) ∧ ts.get 15 = some (iv v76) ∧ m92.length = x10 ∧ m93.length = x15 ∧ True) (fun _ => rfl) hL4 ?_ ?_ ?_
          · exact ⟨_, _, by simp [hw], rfl, by simp [g0, g5, g6, g8, g9, g10, g15, hl0, hl1, ex79, ex80]⟩
          · rintro ⟨m92, m93⟩ σ ⟨ts, w, hw, rfl, g0, g5, g6, g8, g9, g10, g15, hl0, hl1, -⟩ h
            clear hL4
            try dsimp only at h
            replace h := bindT h; obtain ⟨x94, ex94, h⟩ := h
            simp [g0, g5, g6, g8, g9, g10, g15, hl0, hl1, ex94]
            refine ih (x94, m92, m93) _ ?_ h
            exact ⟨_, _, by simp [hw], rfl, by simp [g0, g5, g6, g8, g9, g10, g15, hl0, hl1, ex94]⟩
          · rintro k n ⟨v81, m82, m83⟩ σ ⟨ts, w, hw, rfl, g0, g5, g6, g8, g9, g10, g15, g16, hl0, hl1, -⟩ h ih ex
            clear hL4
            rw [f56_L4] at h
            replace h := bind_ok h; obtain ⟨y84, ey84, h⟩ := h
            obtain ⟨ey84a, ey84e, ey84b, ey84c, ey84g⟩ := gI_ok rfl ey84
            replace h := bindT h; obtain ⟨x85, ex85, h⟩ := h
            replace h := bindT h; obtain ⟨x86, ex86, h⟩ := h
            cases x86
            case false =>
             simp [g0, g5, g6, g8, g9, g10, g15, g16, hl0, hl1, ey84a, ey84b, ey84c, lv, ex85, ex86]
             refine ex (m82, m83) _ ?_ h
             exact ⟨_, _, by simp [hw], rfl, by simp [g0, g5, g6, g8, g9, g10, g15, g16, hl0, hl1, ey84a, ey84b, ey84c, lv, ex85, ex86]⟩
            replace h := bind_ok h; obtain ⟨y87, ey87, h⟩ := h
            obtain ⟨ey87a, ey87e, ey87b, ey87c, ey87g⟩ := gI_ok rfl ey87
            replace h := bind_ok h; obtain ⟨y88, ey88, h⟩ := h
            obtain ⟨ey88a, ey88e, ey88b, ey88c, ey88g⟩ := gI_ok hl0 ey88
            replace h := bindT h; obtain ⟨x89, ex89, h⟩ := h
            replace h := bind_ok h; obtain ⟨m90, em90, h⟩ := h
            obtain ⟨em90a, em90e, em90l, em90s, em90q⟩ := sI_ok iv hl0 em90
            have hl0 := em90l
            replace h := bindT h; obtain ⟨x91, ex91, h⟩ := h
            simp [g0, g5, g6, g8, g9, g10, g15, g16, hl0, hl1, ey84a, ey84b, ey84c, lv, ex85, ex86, ey87a, ey87b, ey87c, ey88a, ey88b, ey88c, ex89, em90a, em90s, ex91]
            refine ih (x91, m90, m83) _ ?_ h
            exact ⟨_, _, by simp [hw], rfl, by simp [g0, g5, g6, g8, g9, g10, g15, g16, hl0, hl1, ey84a, ey84b, ey84c, lv, ex85, ex86, ey87a, ey87b, ey87c, ey88a, ey88b, ey88c, ex89, em90a, em90s, ex91]⟩
      · rintro k n ⟨v28, m29, m30⟩ σ ⟨ts, w, hw, rfl, g0, g5, g6, g8, g9, g10, g11, g12, hl0, hl1, -⟩ h ih ex
        clear hL2
        rw [f56_L2] at h
        replace h := bindT h; obtain ⟨x31, ex31, h⟩ := h
        replace h := bindT h; obtain ⟨x32, ex32, h⟩ := h
        cases x32
        case false =>
         simp [g0, g5, g6, g8, g9, g10, g11, g12, hl0, hl1, ex31, ex32]
         refine ex (m29, m30) _ ?_ h
         exact ⟨_, _, by simp [hw], rfl, by simp [g0, g5, g6, g8, g9, g10, g11, g12, hl0, hl1, ex31, ex32]⟩
        replace h := bindT h; obtain ⟨x33, ex33, h⟩ := h
        replace h := bind_ok h; obtain ⟨y34, ey34, h⟩ := h
        obtain ⟨ey34a, ey34e, ey34b, ey34c, ey34g⟩ := gI_ok rfl ey34
        replace h := bind_ok h; obtain ⟨y35, ey35, h⟩ := h
        obtain ⟨ey35a, ey35e, ey35b, ey35c, ey35g⟩ := gI_ok rfl ey35
        replace h := bind_ok h; obtain ⟨x36, ex36, h⟩ := h
        have ex36 : ∀ hp, E Tryd.prog Y0 71 [.l .fz y34.1 y34.2.length (y34.2.map iv), iv v28] hp = some (.v (.bool x36), hp, none) := fun hp => has_is (a0 := false) (c0 := y34.1) ex36
        cases x36
        case false =>
         replace h := bindT h; obtain ⟨x61, ex61, h⟩ := h
         replace h := bind_ok h; obtain ⟨x62, ex62, h⟩ := h
         have ex62 : ∀ hp, E Tryd.prog Y0 71 [.l .fz y34.1 y34.2.length (y34.2.map iv), iv x61] hp = some (.v (.bool x62), hp, none) := fun hp => has_is (a0 := false) (c0 := y34.1) ex62
         cases x62
         case false =>
          simp [g0, g5, g6, g8, g9, g10, g11, g12, hl0, hl1, ex31, ex32, ex33, ey34a, ey34b, ey34c, lv, ey35a, ey35b, ey35c, ex36, ex61, ex62]
          refine ih (x61, m29, m30) _ ?_ h
          exact ⟨_, _, by simp [hw], rfl, by simp [g0, g5, g6, g8, g9, g10, g11, g12, hl0, hl1, ex31, ex32, ex33, ey34a, ey34b, ey34c, lv, ey35a, ey35b, ey35c, ex36, ex61, ex62]⟩
         replace h := bind_ok h; obtain ⟨x63, ex63, h⟩ := h
         have ex63 : ∀ hp, E Tryd.prog Y0 71 [.l .fz y35.1 y35.2.length (y35.2.map iv), iv v28] hp = some (.v (.bool x63), hp, none) := fun hp => has_is (a0 := false) (c0 := y35.1) ex63
         cases x63
         case false =>
          simp [g0, g5, g6, g8, g9, g10, g11, g12, hl0, hl1, ex31, ex32, ex33, ey34a, ey34b, ey34c, lv, ey35a, ey35b, ey35c, ex36, ex61, ex62, ex63]
          refine ih (x61, m29, m30) _ ?_ h
          exact ⟨_, _, by simp [hw], rfl, by simp [g0, g5, g6, g8, g9, g10, g11, g12, hl0, hl1, ex31, ex32, ex33, ey34a, ey34b, ey34c, lv, ey35a, ey35b, ey35c, ex36, ex61, ex62, ex63]⟩
         replace h := bind_ok h; obtain ⟨y64, ey64, h⟩ := h
         obtain ⟨ey64a, ey64e, ey64b, ey64c, ey64g⟩ := gI_ok hl1 ey64
         replace h := bind_ok h; obtain ⟨m65, em65, h⟩ := h
         obtain ⟨em65a, em65e, em65l, em65s, em65q⟩ := sI_ok (kv .u8) hl1 em65
         have hl1 := em65l
         replace h := bind_ok h; obtain ⟨x66, ex66, h⟩ := h
         have ex66 := (gS_ok (P := Tryd.prog) (t := 9) (k := .i64) Tryd.underlying9 shape9 ex66).1
         replace h := bindT h; obtain ⟨x67, ex67, h⟩ := h
         replace h := bind_ok h; obtain ⟨y68, ey68, h⟩ := h
         obtain ⟨ey68a, ey68e, ey68b, ey68c, ey68g⟩ := gI_ok hl0 ey68
         replace h := bindT h; obtain ⟨x69, ex69, h⟩ := h
         replace h := bindT h; obtain ⟨x70, ex70, h⟩ := h
         replace h := bindT h; obtain ⟨x71, ex71, h⟩ := h
         cases x71
         case false =>
          simp [g0, g5, g6, g8, g9, g10, g11, g12, hl0, hl1, ex31, ex32, ex33, ey34a, ey34b, ey34c, lv, ey35a, ey35b, ey35c, ex36, ex61, ex62, ex63, ey64a, ey64b, ey64c, em65a, em65s, ex66, ex67, ey68a, ey68b, ey68c, ex69, ex70, bool_eql_4Ref1, ex71]
          refine ih (x61, m29, m65) _ ?_ h
          exact ⟨_, _, by simp [hw], rfl, by simp [g0, g5, g6, g8, g9, g10, g11, g12, hl0, hl1, ex31, ex32, ex33, ey34a, ey34b, ey34c, lv, ey35a, ey35b, ey35c, ex36, ex61, ex62, ex63, ey64a, ey64b, ey64c, em65a, em65s, ex66, ex67, ey68a, ey68b, ey68c, ex69, ex70, bool_eql_4Ref1, ex71]⟩
         replace h := bind_ok h; obtain ⟨y72, ey72, h⟩ := h
         obtain ⟨ey72a, ey72e, ey72b, ey72c, ey72g⟩ := gI_ok hl1 ey72
         replace h := bind_ok h; obtain ⟨m73, em73, h⟩ := h
         obtain ⟨em73a, em73e, em73l, em73s, em73q⟩ := sI_ok (kv .u8) hl1 em73
         have hl1 := em73l
         simp [g0, g5, g6, g8, g9, g10, g11, g12, hl0, hl1, ex31, ex32, ex33, ey34a, ey34b, ey34c, lv, ey35a, ey35b, ey35c, ex36, ex61, ex62, ex63, ey64a, ey64b, ey64c, em65a, em65s, ex66, ex67, ey68a, ey68b, ey68c, ex69, ex70, bool_eql_4Ref1, ex71, ey72a, ey72b, ey72c, em73a, em73s]
         refine ih (x61, m29, m73) _ ?_ h
         exact ⟨_, _, by simp [hw], rfl, by simp [g0, g5, g6, g8, g9, g10, g11, g12, hl0, hl1, ex31, ex32, ex33, ey34a, ey34b, ey34c, lv, ey35a, ey35b, ey35c, ex36, ex61, ex62, ex63, ey64a, ey64b, ey64c, em65a, em65s, ex66, ex67, ey68a, ey68b, ey68c, ex69, ex70, bool_eql_4Ref1, ex71, ey72a, ey72b, ey72c, em73a, em73s]⟩
        replace h := bindT h; obtain ⟨x37, ex37, h⟩ := h
        replace h := bind_ok h; obtain ⟨x38, ex38, h⟩ := h
        have ex38 : ∀ hp, E Tryd.prog Y0 71 [.l .fz y35.1 y35.2.length (y35.2.map iv), iv x37] hp = some (.v (.bool x38), hp, none) := fun hp => has_is (a0 := false) (c0 := y35.1) ex38
        cases x38
        case true =>
         replace h := bind_ok h; obtain ⟨y39, ey39, h⟩ := h
         obtain ⟨ey39a, ey39e, ey39b, ey39c, ey39g⟩ := gI_ok hl1 ey39
         replace h := bind_ok h; obtain ⟨m40, em40, h⟩ := h
         obtain ⟨em40a, em40e, em40l, em40s, em40q⟩ := sI_ok (kv .u8) hl1 em40
         have hl1 := em40l
         replace h := bind_ok h; obtain ⟨x41, ex41, h⟩ := h
         have ex41 := (gS_ok (P := Tryd.prog) (t := 9) (k := .i64) Tryd.underlying9 shape9 ex41).1
         replace h := bindT h; obtain ⟨x42, ex42, h⟩ := h
         replace h := bind_ok h; obtain ⟨y43, ey43, h⟩ := h
         obtain ⟨ey43a, ey43e, ey43b, ey43c, ey43g⟩ := gI_ok hl0 ey43
         replace h := bindT h; obtain ⟨x44, ex44, h⟩ := h
         replace h := bindT h; obtain ⟨x45, ex45, h⟩ := h
         replace h := bindT h; obtain ⟨x46, ex46, h⟩ := h
         cases x46
         case false =>
          simp [g0, g5, g6, g8, g9, g10, g11, g12, hl0, hl1, ex31, ex32, ex33, ey34a, ey34b, ey34c, lv, ey35a, ey35b, ey35c, ex36, ex37, ex38, ey39a, ey39b, ey39c, em40a, em40s, ex41, ex42, ey43a, ey43b, ey43c, ex44, ex45, bool_eql_4Ref1, ex46]
          refine ih (x37, m29, m40) _ ?_ h
          exact ⟨_, _, by simp [hw], rfl, by simp [g0, g5, g6, g8, g9, g10, g11, g12, hl0, hl1, ex31, ex32, ex33, ey34a, ey34b, ey34c, lv, ey35a, ey35b, ey35c, ex36, ex37, ex38, ey39a, ey39b, ey39c, em40a, em40s, ex41, ex42, ey43a, ey43b, ey43c, ex44, ex45, bool_eql_4Ref1, ex46]⟩
         replace h := bind_ok h; obtain ⟨y47, ey47, h⟩ := h
         obtain ⟨ey47a, ey47e, ey47b, ey47c, ey47g⟩ := gI_ok hl1 ey47
         replace h := bind_ok h; obtain ⟨m48, em48, h⟩ := h
         obtain ⟨em48a, em48e, em48l, em48s, em48q⟩ := sI_ok (kv .u8) hl1 em48
         have hl1 := em48l
         simp [g0, g5, g6, g8, g9, g10, g11, g12, hl0, hl1, ex31, ex32, ex33, ey34a, ey34b, ey34c, lv, ey35a, ey35b, ey35c, ex36, ex37, ex38, ey39a, ey39b, ey39c, em40a, em40s, ex41, ex42, ey43a, ey43b, ey43c, ex44, ex45, bool_eql_4Ref1, ex46, ey47a, ey47b, ey47c, em48a, em48s]
         refine ih (x37, m29, m48) _ ?_ h
         exact ⟨_, _, by simp [hw], rfl, by simp [g0, g5, g6, g8, g9, g10, g11, g12, hl0, hl1, ex31, ex32, ex33, ey34a, ey34b, ey34c, lv, ey35a, ey35b, ey35c, ex36, ex37, ex38, ey39a, ey39b, ey39c, em40a, em40s, ex41, ex42, ey43a, ey43b, ey43c, ex44, ex45, bool_eql_4Ref1, ex46, ey47a, ey47b, ey47c, em48a, em48s]⟩
        replace h := bind_ok h; obtain ⟨x49, ex49, h⟩ := h
        have ex49 : ∀ hp, E Tryd.prog Y0 71 [.l .fz y34.1 y34.2.length (y34.2.map iv), iv x37] hp = some (.v (.bool x49), hp, none) := fun hp => has_is (a0 := false) (c0 := y34.1) ex49
        cases x49
        case false =>
         simp [g0, g5, g6, g8, g9, g10, g11, g12, hl0, hl1, ex31, ex32, ex33, ey34a, ey34b, ey34c, lv, ey35a, ey35b, ey35c, ex36, ex37, ex38, ex49]
         refine ih (x37, m29, m30) _ ?_ h
         exact ⟨_, _, by simp [hw], rfl, by simp [g0, g5, g6, g8, g9, g10, g11, g12, hl0, hl1, ex31, ex32, ex33, ey34a, ey34b, ey34c, lv, ey35a, ey35b, ey35c, ex36, ex37, ex38, ex49]⟩
        replace h := bind_ok h; obtain ⟨x50, ex50, h⟩ := h
        have ex50 : ∀ hp, E Tryd.prog Y0 71 [.l .fz y35.1 y35.2.length (y35.2.map iv), iv v28] hp = some (.v (.bool x50), hp, none) := fun hp => has_is (a0 := false) (c0 := y35.1) ex50
        cases x50
        case false =>
         simp [g0, g5, g6, g8, g9, g10, g11, g12, hl0, hl1, ex31, ex32, ex33, ey34a, ey34b, ey34c, lv, ey35a, ey35b, ey35c, ex36, ex37, ex38, ex49, ex50]
         refine ih (x37, m29, m30) _ ?_ h
         exact ⟨_, _, by simp [hw], rfl, by simp [g0, g5, g6, g8, g9, g10, g11, g12, hl0, hl1, ex31, ex32, ex33, ey34a, ey34b, ey34c, lv, ey35a, ey35b, ey35c, ex36, ex37, ex38, ex49, ex50]⟩
        replace h := bind_ok h; obtain ⟨y51, ey51, h⟩ := h
        obtain ⟨ey51a, ey51e, ey51b, ey51c, ey51g⟩ := gI_ok hl1 ey51
        replace h := bind_ok h; obtain ⟨m52, em52, h⟩ := h
        obtain ⟨em52a, em52e, em52l, em52s, em52q⟩ := sI_ok (kv .u8) hl1 em52
        have hl1 := em52l
        replace h := bind_ok h; obtain ⟨x53, ex53, h⟩ := h
        have ex53 := (gS_ok (P := Tryd.prog) (t := 9) (k := .i64) Tryd.underlying9 shape9 ex53).1
        replace h := bindT h; obtain ⟨x54, ex54, h⟩ := h
        replace h := bind_ok h; obtain ⟨y55, ey55, h⟩ := h
        obtain ⟨ey55a, ey55e, ey55b, ey55c, ey55g⟩ := gI_ok hl0 ey55
        replace h := bindT h; obtain ⟨x56, ex56, h⟩ := h
        replace h := bindT h; obtain ⟨x57, ex57, h⟩ := h
        replace h := bindT h; obtain ⟨x58, ex58, h⟩ := h
        cases x58
        case false =>
         simp [g0, g5, g6, g8, g9, g10, g11, g12, hl0, hl1, ex31, ex32, ex33, ey34a, ey34b, ey34c, lv, ey35a, ey35b, ey35c, ex36, ex37, ex38, ex49, ex50, ey51a, ey51b, ey51c, em52a, em52s, ex53, ex54, ey55a, ey55b, ey55c, ex56, ex57, bool_eql_4Ref1, ex58]
         refine ih (x37, m29, m52) _ ?_ h
         exact ⟨_, _, by simp [hw], rfl, by simp [g0, g5, g6, g8, g9, g10, g11, g12, hl0, hl1, ex31, ex32, ex33, ey34a, ey34b, ey34c, lv, ey35a, ey35b, ey35c, ex36, ex37, ex38, ex49, ex50, ey51a, ey51b, ey51c, em52a, em52s, ex53, ex54, ey55a, ey55b, ey55c, ex56, ex57, bool_eql_4Ref1, ex58]⟩
        replace h := bind_ok h; obtain ⟨y59, ey59, h⟩ := h
        obtain ⟨ey59a, ey59e, ey59b, ey59c, ey59g⟩ := gI_ok hl1 ey59
        replace h := bind_ok h; obtain ⟨m60, em60, h⟩ := h
        obtain ⟨em60a, em60e, em60l, em60s, em60q⟩ := sI_ok (kv .u8) hl1 em60
        have hl1 := em60l
        simp [g0, g5, g6, g8, g9, g10, g11, g12, hl0, hl1, ex31, ex32, ex33, ey34a, ey34b, ey34c, lv, ey35a, ey35b, ey35c, ex36, ex37, ex38, ex49, ex50, ey51a, ey51b, ey51c, em52a, em52s, ex53, ex54, ey55a, ey55b, ey55c, ex56, ex57, bool_eql_4Ref1, ex58, ey59a, ey59b, ey59c, em60a, em60s]
        refine ih (x37, m29, m60) _ ?_ h
        exact ⟨_, _, by simp [hw], rfl, by simp [g0, g5, g6, g8, g9, g10, g11, g12, hl0, hl1, ex31, ex32, ex33, ey34a, ey34b, ey34c, lv, ey35a, ey35b, ey35c, ex36, ex37, ex38, ex49, ex50, ey51a, ey51b, ey51c, em52a, em52s, ex53, ex54, ey55a, ey55b, ey55c, ex56, ex57, bool_eql_4Ref1, ex58, ey59a, ey59b, ey59c, em60a, em60s]⟩
  · rintro k n ⟨v4, v5⟩ σ ⟨ts, w, hw, rfl, g0, g5, g6, g7, -⟩ h ih ex
    clear hL0
    rw [f56_L0] at h
    replace h := bindT h; obtain ⟨x6, ex6, h⟩ := h
    cases x6
    case false =>
     simp [g0, g5, g6, g7, ex6]
     refine ex v4 _ ?_ h
     exact ⟨_, _, by simp [hw], rfl, by simp [g0, g5, g6, g7, ex6]⟩
    replace h := bind_ok h; obtain ⟨x7, ex7, h⟩ := h
    obtain ⟨ex7a, ex7b, ex7c, ex7q⟩ := app1_ok lv ex7
    have ex7b := ex7b 26 (by decide)
    simp [lv, tv] at ex7c
    replace h := bindT h; obtain ⟨x8, ex8, h⟩ := h
    simp [g0, g5, g6, g7, ex6, ex7a, ex7b, ex7c, lv, ex8]
    refine ih (x7, x8) _ ?_ h
    exact ⟨_, _, by simp [hw], rfl, by simp [g0, g5, g6, g7, ex6, ex7a, ex7b, ex7c, lv, ex8]⟩
def f19S (F : Nat) (p0 : List UInt8) : Option ((Ck × List Int) × Int) :=
  (some (checkE p0)).bind fun x1 =>
  (some (decide (x1 = 0))).bind fun x3 =>
  (match x3 with
  | true => ((f56S F p0).bind fun ((c4, l5), (c6, l7), s8) =>
  some ((c4, l5), 0))
  | false => (some ((.nz, []), x1)))
theorem f19_is {p0 : List UInt8} {hp : List (Option (List PV))} {F : Nat} {r : ((Ck × List Int) × Int)}  (h : f19S F p0 = some r) :
    E Tryd.prog Y0 19 [.v (.string (bs p0))] hp = some (.t [.l .fz r.1.1 r.1.2.length (r.1.2.map iv), iv r.2], hp, none) := by
  rw [E_bodyN 1 body19 rfl (by decide) rfl]
  simp only [Tryd.f19, Option.get_some]
  unfold f19S at h
  obtain ⟨x1, ex1, h⟩ := bindT h
  have q2 : ∀ hp, E Tryd.prog Y0 28 [.v (.string (bs p0))] hp = some (iv x1, hp, none) := fun hp => f28_is ex1
  obtain ⟨x3, ex3, h⟩ := bindT h
  cases x3
  case false =>
   obtain rfl := inj_ok h
   simp [ex1, q2, ex3]
  obtain ⟨⟨⟨c4, l5⟩, ⟨c6, l7⟩, s8⟩, e9, h⟩ := bind_ok h
  try dsimp only at h
  have e9 : ∀ hp, E Tryd.prog Y0 56 [.v (.string (bs p0))] hp = some (.t [.l .fz c4 l5.length (l5.map iv), .l .fz c6 l7.length (l7.map iv), .v (.string (bs s8))], hp, none) := fun hp => f56_is  e9
  obtain rfl := inj_ok h
  simp [ex1, q2, ex3, e9]
def f24S (F : Nat) (p0 : List UInt8) : Option (List UInt8 × Int) :=
  (some (checkE p0)).bind fun x1 =>
  (some (decide (x1 = 0))).bind fun x3 =>
  (match x3 with
  | true => ((f56S F p0).bind fun ((c4, l5), (c6, l7), s8) =>
  some (s8, 0))
  | false => (some ([], x1)))
theorem f24_is {p0 : List UInt8} {hp : List (Option (List PV))} {F : Nat} {r : (List UInt8 × Int)}  (h : f24S F p0 = some r) :
    E Tryd.prog Y0 24 [.v (.string (bs p0))] hp = some (.t [.v (.string (bs r.1)), iv r.2], hp, none) := by
  rw [E_bodyN 1 body24 rfl (by decide) rfl]
  simp only [Tryd.f24, Option.get_some]
  unfold f24S at h
  obtain ⟨x1, ex1, h⟩ := bindT h
  have q2 : ∀ hp, E Tryd.prog Y0 28 [.v (.string (bs p0))] hp = some (iv x1, hp, none) := fun hp => f28_is ex1
  obtain ⟨x3, ex3, h⟩ := bindT h
  cases x3
  case false =>
   obtain rfl := inj_ok h
   simp [ex1, q2, ex3]
  obtain ⟨⟨⟨c4, l5⟩, ⟨c6, l7⟩, s8⟩, e9, h⟩ := bind_ok h
  try dsimp only at h
  have e9 : ∀ hp, E Tryd.prog Y0 56 [.v (.string (bs p0))] hp = some (.t [.l .fz c4 l5.length (l5.map iv), .l .fz c6 l7.length (l7.map iv), .v (.string (bs s8))], hp, none) := fun hp => f56_is  e9
  obtain rfl := inj_ok h
  simp [ex1, q2, ex3, e9]
def f26S (F : Nat) (p0 : List UInt8) : Option (Int × Int × Int) :=
  (f24S F p0).bind fun (s1, x2) =>
  (some (decide (x2 = 0))).bind fun x4 =>
  (match x4 with
  | true => ((f59S F s1).bind fun (c5, l6) =>
  (some ((l6.length : Int))).bind fun x8 =>
  (some (IntKind.i64.wrap (x8 - 1))).bind fun x9 =>
  (gI l6 x9).bind fun y10 =>
  some (y10.1, y10.2, 0))
  | false => (some (0, 0, x2)))
theorem f26_is {p0 : List UInt8} {hp : List (Option (List PV))} {F : Nat} {r : (Int × Int × Int)}  (h : f26S F p0 = some r) :
    E Tryd.prog Y0 26 [.v (.string (bs p0))] hp = some (.t [iv r.1, iv r.2.1, iv r.2.2], hp, none) := by
  rw [E_bodyN 1 body26 rfl (by decide) rfl]
  simp only [Tryd.f26, Option.get_some]
  unfold f26S at h
  obtain ⟨⟨s1, x2⟩, e3, h⟩ := bind_ok h
  try dsimp only at h
  have e3 : ∀ hp, E Tryd.prog Y0 24 [.v (.string (bs p0))] hp = some (.t [.v (.string (bs s1)), iv x2], hp, none) := fun hp => f24_is  e3
  obtain ⟨x4, ex4, h⟩ := bindT h
  cases x4
  case false =>
   obtain rfl := inj_ok h
   simp [e3, ex4]
  obtain ⟨⟨c5, l6⟩, e7, h⟩ := bind_ok h
  try dsimp only at h
  have e7 : ∀ hp, E Tryd.prog Y0 59 [.v (.string (bs s1))] hp = some (.l (vlOf c5) c5 l6.length (rows l6), hp, none) := fun hp => f59_is  e7
  cases c5 with
  | full =>
    obtain ⟨x8, ex8, h⟩ := bindT h
    obtain ⟨x9, ex9, h⟩ := bindT h
    obtain ⟨y10, ey10, h⟩ := bind_ok h
    obtain ⟨ey10a, ey10e, ey10b, ey10c, ey10g⟩ := gI_ok rfl ey10
    have ey10d := rows_at ey10c
    have ey10f := rows_ble ey10e
    obtain rfl := inj_ok h
    simp [e3, ex4, e7, ex8, ex9, ey10a, ey10b, ey10c, ey10d, ey10f]
  | nz =>
    obtain ⟨x8, ex8, h⟩ := bindT h
    obtain ⟨x9, ex9, h⟩ := bindT h
    obtain ⟨y10, ey10, h⟩ := bind_ok h
    obtain ⟨ey10a, ey10e, ey10b, ey10c, ey10g⟩ := gI_ok rfl ey10
    have ey10d := rows_at ey10c
    have ey10f := rows_ble ey10e
    obtain rfl := inj_ok h
    simp [e3, ex4, e7, ex8, ex9, ey10a, ey10b, ey10c, ey10d, ey10f]
  | any =>
    obtain ⟨x8, ex8, h⟩ := bindT h
    obtain ⟨x9, ex9, h⟩ := bindT h
    obtain ⟨y10, ey10, h⟩ := bind_ok h
    obtain ⟨ey10a, ey10e, ey10b, ey10c, ey10g⟩ := gI_ok rfl ey10
    have ey10d := rows_at ey10c
    have ey10f := rows_ble ey10e
    obtain rfl := inj_ok h
    simp [e3, ex4, e7, ex8, ex9, ey10a, ey10b, ey10c, ey10d, ey10f]
def f21_L0 (F : Nat) (l5 : List Int) (l7 : List Int) (K : List Int × List Int → Option ((Ck × List Int) × (Ck × List Int) × Int)) : Nat → Int × List Int × List Int → Option ((Ck × List Int) × (Ck × List Int) × Int)
  | 0, _ => none
  | n + 1, (v16, m17, m18) => (some ((l5.length : Int))).bind fun x19 =>
    (some (decide (v16 < x19))).bind fun x20 =>
    (match x20 with
    | true => ((gI l5 v16).bind fun y21 =>
    (gI l7 y21).bind fun y22 =>
    (some (Int.tmod y22 2)).bind fun x23 =>
    (some (decide (x23 = 0))).bind fun x24 =>
    (match x24 with
    | true => ((some (mulI .i64 2 v16)).bind fun x25 =>
    (some (IntKind.i64.wrap (x25 + 1))).bind fun x26 =>
    (some (IntKind.i64.wrap (x25 + 2))).bind fun x27 =>
    (gI m17 y21).bind fun y28 =>
    (sI m17 y21 x26).bind fun m29 =>
    (gI m18 y21).bind fun y30 =>
    (sI m18 y21 x27).bind fun m31 =>
    (some (IntKind.i64.wrap (v16 + 1))).bind fun x32 =>
    f21_L0 F l5 l7 K n (x32, m29, m31))
    | false => ((some (mulI .i64 2 v16)).bind fun x33 =>
    (some (IntKind.i64.wrap (x33 + 2))).bind fun x34 =>
    (some (IntKind.i64.wrap (x33 + 1))).bind fun x35 =>
    (gI m17 y21).bind fun y36 =>
    (sI m17 y21 x34).bind fun m37 =>
    (gI m18 y21).bind fun y38 =>
    (sI m18 y21 x35).bind fun m39 =>
    (some (IntKind.i64.wrap (v16 + 1))).bind fun x40 =>
    f21_L0 F l5 l7 K n (x40, m37, m39))))
    | false => (K (m17, m18)))
def f21S (F : Nat) (p0 : List UInt8) : Option ((Ck × List Int) × (Ck × List Int) × Int) :=
  (some (checkE p0)).bind fun x1 =>
  (some (decide (x1 = 0))).bind fun x3 =>
  (match x3 with
  | true => ((f56S F p0).bind fun ((c4, l5), (c6, l7), s8) =>
  (some ((l5.length : Int))).bind fun x10 =>
  (gN l5.length).bind fun x11 =>
  (some (List.replicate l5.length (0 : Int))).bind fun m13 =>
  (gN l5.length).bind fun x14 =>
  f21_L0 F l5 l7 (fun (m41, m42) =>
    some ((.any, m41), (.any, m42), 0)) F (0, m13, m13))
  | false => (some ((.nz, []), (.nz, []), x1)))
theorem f21_is {p0 : List UInt8} {hp : List (Option (List PV))} {F : Nat} {r : ((Ck × List Int) × (Ck × List Int) × Int)}  (h : f21S F p0 = some r) :
    E Tryd.prog Y0 21 [.v (.string (bs p0))] hp = some (.t [.l .fz r.1.1 r.1.2.length (r.1.2.map iv), .l .fz r.2.1.1 r.2.1.2.length (r.2.1.2.map iv), iv r.2.2], hp, none) := by
  rw [E_bodyN 1 body21 rfl (by decide) rfl]
  simp only [Tryd.f21, Option.get_some]
  unfold f21S at h
  replace h := bindT h; obtain ⟨x1, ex1, h⟩ := h
  have q2 : ∀ hp, E Tryd.prog Y0 28 [.v (.string (bs p0))] hp = some (iv x1, hp, none) := fun hp => f28_is ex1
  replace h := bindT h; obtain ⟨x3, ex3, h⟩ := h
  cases x3
  case false =>
   obtain rfl := inj_ok h
   simp [ex1, q2, ex3]
  replace h := bind_ok h; obtain ⟨⟨⟨c4, l5⟩, ⟨c6, l7⟩, s8⟩, e9, h⟩ := h
  try dsimp only at h
  have e9 : ∀ hp, E Tryd.prog Y0 56 [.v (.string (bs p0))] hp = some (.t [.l .fz c4 l5.length (l5.map iv), .l .fz c6 l7.length (l7.map iv), .v (.string (bs s8))], hp, none) := fun hp => f56_is  e9
  replace h := bindT h; obtain ⟨x10, ex10, h⟩ := h
  subst ex10
  replace h := bind_ok h; obtain ⟨x11, ex11, h⟩ := h
  have ex11 := gN_ok ex11 10 (by decide)
  replace h := bind_ok h; obtain ⟨m13, em13, h⟩ := h
  have em13 := inj_ok em13
  have em13r : reps [iv 0] l5.length = m13.map iv := by rw [← em13]; exact reps_rep
  have hl0 : m13.length = l5.length := by rw [← em13]; exact rep_len
  replace h := bind_ok h; obtain ⟨x14, ex14, h⟩ := h
  have ex14 := gN_ok ex14 10 (by decide)
  have hl1 : m13.length = l5.length := by rw [← em13]; exact rep_len
  simp [ex1, q2, ex3, e9, ex11, em13r, hl0, ex14, hl1]
  have hL0 := h; clear h
  refine loopS (S := f21_L0 F l5 l7) (fun (v16, m17, m18) σ => ∃ (ts : Tr PV) (w : Option Nat), wok hp.length w ∧ σ = ⟨[], ts, hp ++ [some (m17.map iv), some (m18.map iv)], w⟩ ∧ ts.get 6 = some (.l .fz c4 l5.length (l5.map iv)) ∧ ts.get 7 = some (.l .fz c6 l7.length (l7.map iv)) ∧ ts.get 9 = some (.s hp.length 0 l5.length l5.length) ∧ ts.get 10 = some (.s (hp.length + 1) 0 l5.length l5.length) ∧ ts.get 11 = some (iv v16) ∧ m17.length = l5.length ∧ m18.length = l5.length ∧ True) (fun (m41, m42) σ => ∃ (ts : Tr PV) (w : Option Nat), wok hp.length w ∧ σ = ⟨[], ts, hp ++ [some (m41.map iv), some (m42.map iv)], w⟩ ∧ ts.get 9 = some (.s hp.length 0 l5.length l5.length) ∧ ts.get 10 = some (.s (hp.length + 1) 0 l5.length l5.length) ∧ m41.length = l5.length ∧ m42.length = l5.length ∧ True) (fun _ => rfl) hL0 ?_ ?_ ?_
  · exact ⟨_, _, by simp, rfl, by simp [ex1, q2, ex3, e9, ex11, em13r, hl0, ex14, hl1]⟩
  · rintro ⟨m41, m42⟩ σ ⟨ts, w, hw, rfl, g9, g10, hl0, hl1, -⟩ h
    clear hL0
    try dsimp only at h
    have st43 := settle_list (sz := elemSz Tryd.prog) (base := hp.length) (hp := hp ++ [some (m41.map iv), some (m42.map iv)]) (t := 23) (b := hp.length) (cap := l5.length) iv (by omega) elm23Ref1 (by simp) hl0 (by intro z; rfl)
    have st44 := settle_list (sz := elemSz Tryd.prog) (base := hp.length) (hp := hp ++ [some (m41.map iv), some (m42.map iv)]) (t := 23) (b := (hp.length + 1)) (cap := l5.length) iv (by omega) elm23Ref1 (by simp) hl1 (by intro z; rfl)
    obtain rfl := inj_ok h
    simp [g9, g10, hl0, hl1, st43, st44, hw]
  · rintro k n ⟨v16, m17, m18⟩ σ ⟨ts, w, hw, rfl, g6, g7, g9, g10, g11, hl0, hl1, -⟩ h ih ex
    clear hL0
    rw [f21_L0] at h
    replace h := bindT h; obtain ⟨x19, ex19, h⟩ := h
    replace h := bindT h; obtain ⟨x20, ex20, h⟩ := h
    cases x20
    case false =>
     simp [g6, g7, g9, g10, g11, hl0, hl1, ex19, ex20]
     refine ex (m17, m18) _ ?_ h
     exact ⟨_, _, by simp [hw], rfl, by simp [g6, g7, g9, g10, g11, hl0, hl1, ex19, ex20]⟩
    replace h := bind_ok h; obtain ⟨y21, ey21, h⟩ := h
    obtain ⟨ey21a, ey21e, ey21b, ey21c, ey21g⟩ := gI_ok rfl ey21
    replace h := bind_ok h; obtain ⟨y22, ey22, h⟩ := h
    obtain ⟨ey22a, ey22e, ey22b, ey22c, ey22g⟩ := gI_ok rfl ey22
    replace h := bindT h; obtain ⟨x23, ex23, h⟩ := h
    replace h := bindT h; obtain ⟨x24, ex24, h⟩ := h
    cases x24
    case true =>
     replace h := bindT h; obtain ⟨x25, ex25, h⟩ := h
     replace h := bindT h; obtain ⟨x26, ex26, h⟩ := h
     replace h := bindT h; obtain ⟨x27, ex27, h⟩ := h
     replace h := bind_ok h; obtain ⟨y28, ey28, h⟩ := h
     obtain ⟨ey28a, ey28e, ey28b, ey28c, ey28g⟩ := gI_ok hl0 ey28
     replace h := bind_ok h; obtain ⟨m29, em29, h⟩ := h
     obtain ⟨em29a, em29e, em29l, em29s, em29q⟩ := sI_ok iv hl0 em29
     have hl0 := em29l
     replace h := bind_ok h; obtain ⟨y30, ey30, h⟩ := h
     obtain ⟨ey30a, ey30e, ey30b, ey30c, ey30g⟩ := gI_ok hl1 ey30
     replace h := bind_ok h; obtain ⟨m31, em31, h⟩ := h
     obtain ⟨em31a, em31e, em31l, em31s, em31q⟩ := sI_ok iv hl1 em31
     have hl1 := em31l
     replace h := bindT h; obtain ⟨x32, ex32, h⟩ := h
     simp [g6, g7, g9, g10, g11, hl0, hl1, ex19, ex20, ey21a, ey21b, ey21c, ey22a, ey22b, ey22c, ex23, ex24, ex25, ex26, ex27, ey28a, ey28b, ey28c, em29a, em29s, ey30a, ey30b, ey30c, em31a, em31s, ex32]
     all_goals try (rw [mayStore_of [47, 52] (by kernel_rfl) (by simp [g6, g7, g9, g10, g11, hl0, hl1, ex19, ex20, ey21a, ey21b, ey21c, ey22a, ey22b, ey22c, ex23, ex24, ex25, ex26, ex27, ey28a, ey28b, ey28c, em29a, em29s, ey30a, ey30b, ey30c, em31a, em31s, ex32])])
     all_goals try simp [g6, g7, g9, g10, g11, hl0, hl1, ex19, ex20, ey21a, ey21b, ey21c, ey22a, ey22b, ey22c, ex23, ex24, ex25, ex26, ex27, ey28a, ey28b, ey28c, em29a, em29s, ey30a, ey30b, ey30c, em31a, em31s, ex32]
     all_goals try (rw [mayStore_of [47, 52] (by kernel_rfl) (by simp [g6, g7, g9, g10, g11, hl0, hl1, ex19, ex20, ey21a, ey21b, ey21c, ey22a, ey22b, ey22c, ex23, ex24, ex25, ex26, ex27, ey28a, ey28b, ey28c, em29a, em29s, ey30a, ey30b, ey30c, em31a, em31s, ex32])])
     all_goals try simp [g6, g7, g9, g10, g11, hl0, hl1, ex19, ex20, ey21a, ey21b, ey21c, ey22a, ey22b, ey22c, ex23, ex24, ex25, ex26, ex27, ey28a, ey28b, ey28c, em29a, em29s, ey30a, ey30b, ey30c, em31a, em31s, ex32]
     refine ih (x32, m29, m31) _ ?_ h
     exact ⟨_, _, by simp [hw], rfl, by simp [g6, g7, g9, g10, g11, hl0, hl1, ex19, ex20, ey21a, ey21b, ey21c, ey22a, ey22b, ey22c, ex23, ex24, ex25, ex26, ex27, ey28a, ey28b, ey28c, em29a, em29s, ey30a, ey30b, ey30c, em31a, em31s, ex32]⟩
    replace h := bindT h; obtain ⟨x33, ex33, h⟩ := h
    replace h := bindT h; obtain ⟨x34, ex34, h⟩ := h
    replace h := bindT h; obtain ⟨x35, ex35, h⟩ := h
    replace h := bind_ok h; obtain ⟨y36, ey36, h⟩ := h
    obtain ⟨ey36a, ey36e, ey36b, ey36c, ey36g⟩ := gI_ok hl0 ey36
    replace h := bind_ok h; obtain ⟨m37, em37, h⟩ := h
    obtain ⟨em37a, em37e, em37l, em37s, em37q⟩ := sI_ok iv hl0 em37
    have hl0 := em37l
    replace h := bind_ok h; obtain ⟨y38, ey38, h⟩ := h
    obtain ⟨ey38a, ey38e, ey38b, ey38c, ey38g⟩ := gI_ok hl1 ey38
    replace h := bind_ok h; obtain ⟨m39, em39, h⟩ := h
    obtain ⟨em39a, em39e, em39l, em39s, em39q⟩ := sI_ok iv hl1 em39
    have hl1 := em39l
    replace h := bindT h; obtain ⟨x40, ex40, h⟩ := h
    simp [g6, g7, g9, g10, g11, hl0, hl1, ex19, ex20, ey21a, ey21b, ey21c, ey22a, ey22b, ey22c, ex23, ex24, ex33, ex34, ex35, ey36a, ey36b, ey36c, em37a, em37s, ey38a, ey38b, ey38c, em39a, em39s, ex40]
    all_goals try (rw [mayStore_of [65, 70] (by kernel_rfl) (by simp [g6, g7, g9, g10, g11, hl0, hl1, ex19, ex20, ey21a, ey21b, ey21c, ey22a, ey22b, ey22c, ex23, ex24, ex33, ex34, ex35, ey36a, ey36b, ey36c, em37a, em37s, ey38a, ey38b, ey38c, em39a, em39s, ex40])])
    all_goals try simp [g6, g7, g9, g10, g11, hl0, hl1, ex19, ex20, ey21a, ey21b, ey21c, ey22a, ey22b, ey22c, ex23, ex24, ex33, ex34, ex35, ey36a, ey36b, ey36c, em37a, em37s, ey38a, ey38b, ey38c, em39a, em39s, ex40]
    all_goals try (rw [mayStore_of [65, 70] (by kernel_rfl) (by simp [g6, g7, g9, g10, g11, hl0, hl1, ex19, ex20, ey21a, ey21b, ey21c, ey22a, ey22b, ey22c, ex23, ex24, ex33, ex34, ex35, ey36a, ey36b, ey36c, em37a, em37s, ey38a, ey38b, ey38c, em39a, em39s, ex40])])
    all_goals try simp [g6, g7, g9, g10, g11, hl0, hl1, ex19, ex20, ey21a, ey21b, ey21c, ey22a, ey22b, ey22c, ex23, ex24, ex33, ex34, ex35, ey36a, ey36b, ey36c, em37a, em37s, ey38a, ey38b, ey38c, em39a, em39s, ex40]
    refine ih (x40, m37, m39) _ ?_ h
    exact ⟨_, _, by simp [hw], rfl, by simp [g6, g7, g9, g10, g11, hl0, hl1, ex19, ex20, ey21a, ey21b, ey21c, ey22a, ey22b, ey22c, ex23, ex24, ex33, ex34, ex35, ey36a, ey36b, ey36c, em37a, em37s, ey38a, ey38b, ey38c, em39a, em39s, ex40]⟩
def f18S (F : Nat) (p0 : List UInt8) : Option ((Ck × List Int) × Int) :=
  (some (checkE p0)).bind fun x1 =>
  (some (decide (x1 = 0))).bind fun x3 =>
  (match x3 with
  | true => ((pileO p0).bind fun x4 =>
  some ((x4.1, x4.2), 0))
  | false => (some ((.nz, []), x1)))
theorem f18_is {p0 : List UInt8} {hp : List (Option (List PV))} {F : Nat} {r : ((Ck × List Int) × Int)}  (h : f18S F p0 = some r) :
    E Tryd.prog Y0 18 [.v (.string (bs p0))] hp = some (.t [.l .fz r.1.1 r.1.2.length (r.1.2.map iv), iv r.2], hp, none) := by
  rw [E_bodyN 1 body18 rfl (by decide) rfl]
  simp only [Tryd.f18, Option.get_some]
  unfold f18S at h
  obtain ⟨x1, ex1, h⟩ := bindT h
  have q2 : ∀ hp, E Tryd.prog Y0 27 [.v (.string (bs p0))] hp = some (iv x1, hp, none) := fun hp => f27_is ex1
  obtain ⟨x3, ex3, h⟩ := bindT h
  cases x3
  case false =>
   obtain rfl := inj_ok h
   simp [ex1, q2, ex3]
  obtain ⟨x4, ex4, h⟩ := bind_ok h
  have ex4 : ∀ hp, E Tryd.prog Y0 55 [.v (.string (bs p0))] hp = some (.l .fz x4.1 x4.2.length (x4.2.map iv), hp, none) := fun hp => f55_is ex4
  obtain rfl := inj_ok h
  simp [ex1, q2, ex3, ex4]
def f23S (F : Nat) (p0 : List UInt8) : Option (List UInt8 × Int) :=
  (some (checkE p0)).bind fun x1 =>
  (some (decide (x1 = 0))).bind fun x3 =>
  (match x3 with
  | true => ((creasesO p0).bind fun x4 =>
  some (x4, 0))
  | false => (some ([], x1)))
theorem f23_is {p0 : List UInt8} {hp : List (Option (List PV))} {F : Nat} {r : (List UInt8 × Int)}  (h : f23S F p0 = some r) :
    E Tryd.prog Y0 23 [.v (.string (bs p0))] hp = some (.t [.v (.string (bs r.1)), iv r.2], hp, none) := by
  rw [E_bodyN 1 body23 rfl (by decide) rfl]
  simp only [Tryd.f23, Option.get_some]
  unfold f23S at h
  obtain ⟨x1, ex1, h⟩ := bindT h
  have q2 : ∀ hp, E Tryd.prog Y0 27 [.v (.string (bs p0))] hp = some (iv x1, hp, none) := fun hp => f27_is ex1
  obtain ⟨x3, ex3, h⟩ := bindT h
  cases x3
  case false =>
   obtain rfl := inj_ok h
   simp [ex1, q2, ex3]
  obtain ⟨x4, ex4, h⟩ := bind_ok h
  have ex4 : ∀ hp, E Tryd.prog Y0 57 [.v (.string (bs p0))] hp = some (.v (.string (bs x4)), hp, none) := fun hp => f57_is ex4
  obtain rfl := inj_ok h
  simp [ex1, q2, ex3, ex4]
def f65_L0 (F : Nat) (p0 : Int) (K : Unit → Option (Int)) : Nat → Int → Option (Int)
  | 0, _ => none
  | n + 1, v1 => (some (decide (v1 ≤ 6))).bind fun x2 =>
    (match x2 with
    | true => ((f82S F v1).bind fun x3 =>
    (some (decide (x3 = p0))).bind fun x5 =>
    (match x5 with
    | true => (some v1)
    | false => ((some (IntKind.i64.wrap (v1 + 1))).bind fun x6 =>
    f65_L0 F p0 K n x6)))
    | false => (K ()))
def f65S (F : Nat) (p0 : Int) : Option (Int) :=
  f65_L0 F p0 (fun _ =>
    some (-1)) F 0
theorem f65_is {p0 : Int} {hp : List (Option (List PV))} {F : Nat} {r : (Int)}  (h : f65S F p0 = some r) :
    E Tryd.prog Y0 65 [iv p0] hp = some (iv r, hp, none) := by
  rw [E_bodyN 1 body65 rfl (by decide) rfl]
  simp only [Tryd.f65, Option.get_some]
  unfold f65S at h
  simp
  have hL0 := h; clear h
  refine loopS (S := f65_L0 F p0) (fun v1 σ => ∃ (ts : Tr PV) (w : Option Nat), wok hp.length w ∧ σ = ⟨[], ts, hp, w⟩ ∧ ts.get 0 = some (iv p0) ∧ ts.get 3 = some (iv v1) ∧ True) (fun _ σ => ∃ (ts : Tr PV) (w : Option Nat), wok hp.length w ∧ σ = ⟨[], ts, hp, w⟩ ∧ True) (fun _ => rfl) hL0 ?_ ?_ ?_
  · exact ⟨_, _, by simp, rfl, by simp⟩
  · rintro ⟨⟩ σ ⟨ts, w, hw, rfl, -⟩ h
    clear hL0
    try dsimp only at h
    obtain rfl := inj_ok h
    simp [hw]
  · rintro k n v1 σ ⟨ts, w, hw, rfl, g0, g3, -⟩ h ih ex
    clear hL0
    rw [f65_L0] at h
    obtain ⟨x2, ex2, h⟩ := bindT h
    cases x2
    case false =>
     simp [g0, g3, ex2]
     refine ex () _ ?_ h
     exact ⟨_, _, by simp [hw], rfl, by simp [g0, g3, ex2]⟩
    obtain ⟨x3, e4, h⟩ := bind_ok h
    have e4 : ∀ hp, E Tryd.prog Y0 82 [iv v1] hp = some (iv x3, hp, none) := fun hp => f82_is  e4
    obtain ⟨x5, ex5, h⟩ := bindT h
    cases x5
    case true =>
     obtain rfl := inj_ok h
     simp [g0, g3, ex2, e4, ex5, hw]
    obtain ⟨x6, ex6, h⟩ := bindT h
    simp [g0, g3, ex2, e4, ex5, ex6]
    refine ih x6 _ ?_ h
    exact ⟨_, _, by simp [hw], rfl, by simp [g0, g3, ex2, e4, ex5, ex6]⟩
def f66S (F : Nat) (p0 : List UInt8) (p1 : Int) (p2 : Int) : Option (Bool) :=
  (some (IntKind.i64.wrap (p1 + 1))).bind fun x1 =>
  (some (IntKind.u64.wrap x1)).bind fun x2 =>
  (tzO x2).bind fun x3 =>
  (some (IntKind.i64.wrap (p2 + 1))).bind fun x4 =>
  (some (IntKind.u64.wrap x4)).bind fun x5 =>
  (tzO x5).bind fun x6 =>
  (some (decide (x3 = x6))).bind fun x7 =>
  (match x7 with
  | true => ((gS p0 p1).bind fun x8 =>
  (gS p0 p2).bind fun x9 =>
  (some (decide (x8 = x9))).bind fun x10 =>
  (some (IntKind.i64.wrap (p2 - p1))).bind fun x11 =>
  (shrO .i64 x11 x3).bind fun x12 =>
  (some (Int.tmod x12 4)).bind fun x13 =>
  (some (decide (x13 = 2))).bind fun x14 =>
  (some ((x10 == x14))).bind fun x15 =>
  some x15)
  | false => (some false))
theorem f66_is {p0 : List UInt8} {p1 : Int} {p2 : Int} {hp : List (Option (List PV))} {F : Nat} {r : (Bool)}  (h : f66S F p0 p1 p2 = some r) :
    E Tryd.prog Y0 66 [.v (.string (bs p0)), iv p1, iv p2] hp = some (.v (.bool r), hp, none) := by
  rw [E_bodyN 3 body66 rfl (by decide) rfl]
  simp only [Tryd.f66, Option.get_some]
  unfold f66S at h
  obtain ⟨x1, ex1, h⟩ := bindT h
  obtain ⟨x2, ex2, h⟩ := bindT h
  obtain ⟨x3, ex3, h⟩ := bind_ok h
  have ex3 : ∀ hp, E Tryd.prog Y0 87 [kv .u64 x2] hp = some (iv x3, hp, none) := fun hp => f87_is ex3
  obtain ⟨x4, ex4, h⟩ := bindT h
  obtain ⟨x5, ex5, h⟩ := bindT h
  obtain ⟨x6, ex6, h⟩ := bind_ok h
  have ex6 : ∀ hp, E Tryd.prog Y0 87 [kv .u64 x5] hp = some (iv x6, hp, none) := fun hp => f87_is ex6
  obtain ⟨x7, ex7, h⟩ := bindT h
  cases x7
  case false =>
   obtain rfl := inj_ok h
   simp [ex1, conv_3_99Ref1, ex2, ex3, ex4, ex5, ex6, ex7]
  obtain ⟨x8, ex8, h⟩ := bind_ok h
  have ex8 := (gS_ok (P := Tryd.prog) (t := 9) (k := .i64) Tryd.underlying9 shape9 ex8).1
  obtain ⟨x9, ex9, h⟩ := bind_ok h
  have ex9 := (gS_ok (P := Tryd.prog) (t := 9) (k := .i64) Tryd.underlying9 shape9 ex9).1
  obtain ⟨x10, ex10, h⟩ := bindT h
  obtain ⟨x11, ex11, h⟩ := bindT h
  obtain ⟨x12, ex12, h⟩ := bind_ok h
  obtain ⟨ex12a, ex12⟩ := shrO_ok ex12
  obtain ⟨x13, ex13, h⟩ := bindT h
  obtain ⟨x14, ex14, h⟩ := bindT h
  obtain ⟨x15, ex15, h⟩ := bindT h
  obtain rfl := inj_ok h
  simp [ex1, conv_3_99Ref1, ex2, ex3, ex4, ex5, ex6, ex7, ex8, ex9, ex10, ex11, ex12, ex12a, ex13, ex14, bool_eql_4Ref1, ex15]
def f67_L0 (F : Nat) (K : Int × Int → Option (Bool)) : Nat → Int × Int → Option (Bool)
  | 0, _ => none
  | n + 1, (v3, v4) => (some (Int.tmod v3 2)).bind fun x5 =>
    (some (decide (x5 = 0))).bind fun x6 =>
    (match x6 with
    | true => ((some (Int.tmod v4 2)).bind fun x7 =>
    (some (decide (x7 = 0))).bind fun x8 =>
    (match x8 with
    | true => ((some (IntKind.i64.wrap (Int.tdiv v3 2))).bind fun x9 =>
    (some (IntKind.i64.wrap (Int.tdiv v4 2))).bind fun x10 =>
    f67_L0 F K n (x9, x10))
    | false => (K (v3, v4))))
    | false => (K (v3, v4)))
def f67S (F : Nat) (p0 : List UInt8) (p1 : Int) (p2 : Int) : Option (Bool) :=
  (some (IntKind.i64.wrap (p1 + 1))).bind fun x1 =>
  (some (IntKind.i64.wrap (p2 + 1))).bind fun x2 =>
  f67_L0 F (fun (v11, v12) =>
    (some (Int.tmod v11 2)).bind fun x13 =>
    (some (decide (x13 = 0))).bind fun x14 =>
    (match x14 with
    | true => (some false)
    | false => ((some (Int.tmod v12 2)).bind fun x15 =>
    (some (decide (x15 = 0))).bind fun x16 =>
    (match x16 with
    | true => (some false)
    | false => ((gS p0 p1).bind fun x17 =>
    (gS p0 p2).bind fun x18 =>
    (some (decide (x17 = x18))).bind fun x19 =>
    (some (IntKind.i64.wrap (v12 - v11))).bind fun x20 =>
    (some (Int.tmod x20 4)).bind fun x21 =>
    (some (decide (x21 = 0))).bind fun x22 =>
    (some ((x19 != x22))).bind fun x23 =>
    some x23))))) F (x1, x2)
theorem f67_is {p0 : List UInt8} {p1 : Int} {p2 : Int} {hp : List (Option (List PV))} {F : Nat} {r : (Bool)}  (h : f67S F p0 p1 p2 = some r) :
    E Tryd.prog Y0 67 [.v (.string (bs p0)), iv p1, iv p2] hp = some (.v (.bool r), hp, none) := by
  rw [E_bodyN 3 body67 rfl (by decide) rfl]
  simp only [Tryd.f67, Option.get_some]
  unfold f67S at h
  obtain ⟨x1, ex1, h⟩ := bindT h
  obtain ⟨x2, ex2, h⟩ := bindT h
  simp [ex1, ex2]
  have hL0 := h; clear h
  refine loopS (S := f67_L0 F) (fun (v3, v4) σ => ∃ (ts : Tr PV) (w : Option Nat), wok hp.length w ∧ σ = ⟨[], ts, hp, w⟩ ∧ ts.get 0 = some (.v (.string (bs p0))) ∧ ts.get 1 = some (iv p1) ∧ ts.get 2 = some (iv p2) ∧ ts.get 7 = some (iv v3) ∧ ts.get 8 = some (iv v4) ∧ True) (fun (v11, v12) σ => ∃ (ts : Tr PV) (w : Option Nat), wok hp.length w ∧ σ = ⟨[], ts, hp, w⟩ ∧ ts.get 0 = some (.v (.string (bs p0))) ∧ ts.get 1 = some (iv p1) ∧ ts.get 2 = some (iv p2) ∧ ts.get 7 = some (iv v11) ∧ ts.get 8 = some (iv v12) ∧ True) (fun _ => rfl) hL0 ?_ ?_ ?_
  · exact ⟨_, _, by simp, rfl, by simp [ex1, ex2]⟩
  · rintro ⟨v11, v12⟩ σ ⟨ts, w, hw, rfl, g0, g1, g2, g7, g8, -⟩ h
    clear hL0
    try dsimp only at h
    obtain ⟨x13, ex13, h⟩ := bindT h
    obtain ⟨x14, ex14, h⟩ := bindT h
    cases x14
    case true =>
     obtain rfl := inj_ok h
     simp [g0, g1, g2, g7, g8, ex13, ex14, hw]
    obtain ⟨x15, ex15, h⟩ := bindT h
    obtain ⟨x16, ex16, h⟩ := bindT h
    cases x16
    case true =>
     obtain rfl := inj_ok h
     simp [g0, g1, g2, g7, g8, ex13, ex14, ex15, ex16, hw]
    obtain ⟨x17, ex17, h⟩ := bind_ok h
    have ex17 := (gS_ok (P := Tryd.prog) (t := 9) (k := .i64) Tryd.underlying9 shape9 ex17).1
    obtain ⟨x18, ex18, h⟩ := bind_ok h
    have ex18 := (gS_ok (P := Tryd.prog) (t := 9) (k := .i64) Tryd.underlying9 shape9 ex18).1
    obtain ⟨x19, ex19, h⟩ := bindT h
    obtain ⟨x20, ex20, h⟩ := bindT h
    obtain ⟨x21, ex21, h⟩ := bindT h
    obtain ⟨x22, ex22, h⟩ := bindT h
    obtain ⟨x23, ex23, h⟩ := bindT h
    obtain rfl := inj_ok h
    simp [g0, g1, g2, g7, g8, ex13, ex14, ex15, ex16, ex17, ex18, ex19, ex20, ex21, ex22, bool_neq_4Ref1, ex23, hw]
  · rintro k n ⟨v3, v4⟩ σ ⟨ts, w, hw, rfl, g0, g1, g2, g7, g8, -⟩ h ih ex
    clear hL0
    rw [f67_L0] at h
    obtain ⟨x5, ex5, h⟩ := bindT h
    obtain ⟨x6, ex6, h⟩ := bindT h
    cases x6
    case false =>
     simp [g0, g1, g2, g7, g8, ex5, ex6]
     refine ex (v3, v4) _ ?_ h
     exact ⟨_, _, by simp [hw], rfl, by simp [g0, g1, g2, g7, g8, ex5, ex6]⟩
    obtain ⟨x7, ex7, h⟩ := bindT h
    obtain ⟨x8, ex8, h⟩ := bindT h
    cases x8
    case false =>
     simp [g0, g1, g2, g7, g8, ex5, ex6, ex7, ex8]
     refine ex (v3, v4) _ ?_ h
     exact ⟨_, _, by simp [hw], rfl, by simp [g0, g1, g2, g7, g8, ex5, ex6, ex7, ex8]⟩
    obtain ⟨x9, ex9, h⟩ := bindT h
    obtain ⟨x10, ex10, h⟩ := bindT h
    simp [g0, g1, g2, g7, g8, ex5, ex6, ex7, ex8, ex9, ex10]
    refine ih (x9, x10) _ ?_ h
    exact ⟨_, _, by simp [hw], rfl, by simp [g0, g1, g2, g7, g8, ex5, ex6, ex7, ex8, ex9, ex10]⟩
def f68_L0 (F : Nat) (p0 : List Int) (p1 : Int) (x1 : Int) (K : Unit → Option (Int)) : Nat → Int → Option (Int)
  | 0, _ => none
  | n + 1, v2 => (some (decide (v2 < x1))).bind fun x3 =>
    (match x3 with
    | true => ((gI p0 v2).bind fun y4 =>
    (some (decide (p1 = y4))).bind fun x5 =>
    (match x5 with
    | true => (some v2)
    | false => ((some (IntKind.i64.wrap (v2 + 1))).bind fun x6 =>
    f68_L0 F p0 p1 x1 K n x6)))
    | false => (K ()))
def f68S (F : Nat) (p0 : List Int) (p1 : Int) : Option (Int) :=
  (some ((p0.length : Int))).bind fun x1 =>
  f68_L0 F p0 p1 x1 (fun _ =>
    some (-1)) F 0
theorem f68_is {a0 : Bool} {c0 : Ck} {p0 : List Int} {p1 : Int} {hp : List (Option (List PV))} {F : Nat} {r : (Int)}  (h : f68S F p0 p1 = some r) :
    E Tryd.prog Y0 68 [.l (ak a0) c0 p0.length (p0.map iv), iv p1] hp = some (iv r, hp, none) := by
  rw [E_bodyN 2 body68 rfl (by decide) rfl]
  simp only [Tryd.f68, Option.get_some]
  unfold f68S at h
  obtain ⟨x1, ex1, h⟩ := bindT h
  simp [ex1]
  have hL0 := h; clear h
  refine loopS (S := f68_L0 F p0 p1 x1) (fun v2 σ => ∃ (ts : Tr PV) (w : Option Nat), wok hp.length w ∧ σ = ⟨[], ts, hp, w⟩ ∧ ts.get 0 = some (.l (ak a0) c0 p0.length (p0.map iv)) ∧ ts.get 1 = some (iv p1) ∧ ts.get 7 = some (iv x1) ∧ ts.get 8 = some (iv v2) ∧ True) (fun _ σ => ∃ (ts : Tr PV) (w : Option Nat), wok hp.length w ∧ σ = ⟨[], ts, hp, w⟩ ∧ True) (fun _ => rfl) hL0 ?_ ?_ ?_
  · exact ⟨_, _, by simp, rfl, by simp [ex1]⟩
  · rintro ⟨⟩ σ ⟨ts, w, hw, rfl, -⟩ h
    clear hL0
    try dsimp only at h
    obtain rfl := inj_ok h
    simp [hw]
  · rintro k n v2 σ ⟨ts, w, hw, rfl, g0, g1, g7, g8, -⟩ h ih ex
    clear hL0
    rw [f68_L0] at h
    obtain ⟨x3, ex3, h⟩ := bindT h
    cases x3
    case false =>
     simp [g0, g1, g7, g8, ex3]
     refine ex () _ ?_ h
     exact ⟨_, _, by simp [hw], rfl, by simp [g0, g1, g7, g8, ex3]⟩
    obtain ⟨y4, ey4, h⟩ := bind_ok h
    obtain ⟨ey4a, ey4e, ey4b, ey4c, ey4g⟩ := gI_ok rfl ey4
    obtain ⟨x5, ex5, h⟩ := bindT h
    cases x5
    case true =>
     obtain rfl := inj_ok h
     simp [g0, g1, g7, g8, ex3, ey4a, ey4b, ey4c, ex5, hw]
    obtain ⟨x6, ex6, h⟩ := bindT h
    simp [g0, g1, g7, g8, ex3, ey4a, ey4b, ey4c, ex5, ex6]
    refine ih x6 _ ?_ h
    exact ⟨_, _, by simp [hw], rfl, by simp [g0, g1, g7, g8, ex3, ey4a, ey4b, ey4c, ex5, ex6]⟩
def f68b_L0 (F : Nat) (p0 : List Int) (p1 : Int) (x1 : Int) (K : Unit → Option (Int)) : Nat → Int → Option (Int)
  | 0, _ => none
  | n + 1, v2 => (some (decide (v2 < x1))).bind fun x3 =>
    (match x3 with
    | true => ((gI p0 v2).bind fun y4 =>
    (some (decide (p1 = y4))).bind fun x5 =>
    (match x5 with
    | true => (some v2)
    | false => ((some (IntKind.i64.wrap (v2 + 1))).bind fun x6 =>
    f68b_L0 F p0 p1 x1 K n x6)))
    | false => (K ()))
def f68bS (F : Nat) (p0 : List Int) (p1 : Int) : Option (Int) :=
  (some ((p0.length : Int))).bind fun x1 =>
  f68b_L0 F p0 p1 x1 (fun _ =>
    some (-1)) F 0
theorem f68b_is {b0 d0 : Nat} {p0 : List Int} {p1 : Int} {hp : List (Option (List PV))} {F : Nat} {r : (Int)} (hb0 : hp[b0]? = some (some (p0.map iv))) (h : f68bS F p0 p1 = some r) :
    E Tryd.prog Y0 68 [.s b0 0 p0.length d0, iv p1] hp = some (iv r, hp, none) := by
  rw [E_bodyN 2 body68 rfl (by decide) rfl]
  simp only [Tryd.f68, Option.get_some]
  unfold f68bS at h
  have hlb0 : p0.length = p0.length := rfl
  obtain ⟨x1, ex1, h⟩ := bindT h
  simp [hb0, ex1]
  have hL0 := h; clear h
  refine loopS (S := f68b_L0 F p0 p1 x1) (fun v2 σ => ∃ (ts : Tr PV) (w : Option Nat), wok hp.length w ∧ σ = ⟨[], ts, hp, w⟩ ∧ ts.get 0 = some (.s b0 0 p0.length d0) ∧ ts.get 1 = some (iv p1) ∧ ts.get 7 = some (iv x1) ∧ ts.get 8 = some (iv v2) ∧ True) (fun _ σ => ∃ (ts : Tr PV) (w : Option Nat), wok hp.length w ∧ σ = ⟨[], ts, hp, w⟩ ∧ True) (fun _ => rfl) hL0 ?_ ?_ ?_
  · exact ⟨_, _, by simp, rfl, by simp [hb0, ex1]⟩
  · rintro ⟨⟩ σ ⟨ts, w, hw, rfl, -⟩ h
    clear hL0
    try dsimp only at h
    obtain rfl := inj_ok h
    simp [hb0, hw]
  · rintro k n v2 σ ⟨ts, w, hw, rfl, g0, g1, g7, g8, -⟩ h ih ex
    clear hL0
    rw [f68b_L0] at h
    obtain ⟨x3, ex3, h⟩ := bindT h
    cases x3
    case false =>
     simp [g0, g1, g7, g8, hb0, ex3]
     refine ex () _ ?_ h
     exact ⟨_, _, by simp [hw], rfl, by simp [g0, g1, g7, g8, hb0, ex3]⟩
    obtain ⟨y4, ey4, h⟩ := bind_ok h
    obtain ⟨ey4a, ey4e, ey4b, ey4c, ey4g⟩ := gI_ok hlb0 ey4
    obtain ⟨x5, ex5, h⟩ := bindT h
    cases x5
    case true =>
     obtain rfl := inj_ok h
     simp [g0, g1, g7, g8, hb0, ex3, ey4a, ey4b, ey4c, ex5, hw]
    obtain ⟨x6, ex6, h⟩ := bindT h
    simp [g0, g1, g7, g8, hb0, ex3, ey4a, ey4b, ey4c, ex5, ex6]
    refine ih x6 _ ?_ h
    exact ⟨_, _, by simp [hw], rfl, by simp [g0, g1, g7, g8, hb0, ex3, ey4a, ey4b, ey4c, ex5, ex6]⟩
def f69_L0 (F : Nat) (p0 : List Int) (K : Int → Option (Int)) : Nat → Int × Int → Option (Int)
  | 0, _ => none
  | n + 1, (v4, v5) => (some ((p0.length : Int))).bind fun x6 =>
    (some (decide (v5 < x6))).bind fun x7 =>
    (match x7 with
    | true => ((gI p0 v5).bind fun y8 =>
    (some (max v4 y8)).bind fun x9 =>
    (some (IntKind.i64.wrap (v5 + 1))).bind fun x10 =>
    f69_L0 F p0 K n (x9, x10))
    | false => (K v4))
def f69S (F : Nat) (p0 : List Int) : Option (Int) :=
  (some ((p0.length : Int))).bind fun x1 =>
  (some (decide (x1 < 1))).bind fun x2 =>
  (match x2 with
  | true => (none)
  | false => ((gI p0 0).bind fun y3 =>
  f69_L0 F p0 (fun v11 =>
    some v11) F (y3, 1)))
theorem f69_is {a0 : Bool} {c0 : Ck} {p0 : List Int} {hp : List (Option (List PV))} {F : Nat} {r : (Int)}  (h : f69S F p0 = some r) :
    E Tryd.prog Y0 69 [.l (ak a0) c0 p0.length (p0.map iv)] hp = some (iv r, hp, none) := by
  rw [E_bodyN 1 body69 rfl (by decide) rfl]
  simp only [Tryd.f69, Option.get_some]
  unfold f69S at h
  obtain ⟨x1, ex1, h⟩ := bindT h
  obtain ⟨x2, ex2, h⟩ := bindT h
  cases x2
  case true =>
   cases h
  obtain ⟨y3, ey3, h⟩ := bind_ok h
  obtain ⟨ey3a, ey3b, ey3c⟩ := gI_lit (k := 0) rfl ey3
  have ey3a : ∀ j, intIn p0.length (.int j 0) = some 0 := ey3a
  simp [ex1, ex2, ey3a, ey3b, ey3c]
  have hL0 := h; clear h
  refine loopS (S := f69_L0 F p0) (fun (v4, v5) σ => ∃ (ts : Tr PV) (w : Option Nat), wok hp.length w ∧ σ = ⟨[], ts, hp, w⟩ ∧ ts.get 0 = some (.l (ak a0) c0 p0.length (p0.map iv)) ∧ ts.get 3 = some (iv v4) ∧ ts.get 4 = some (iv v5) ∧ True) (fun v11 σ => ∃ (ts : Tr PV) (w : Option Nat), wok hp.length w ∧ σ = ⟨[], ts, hp, w⟩ ∧ ts.get 3 = some (iv v11) ∧ True) (fun _ => rfl) hL0 ?_ ?_ ?_
  · exact ⟨_, _, by simp, rfl, by simp [ex1, ex2, ey3a, ey3b, ey3c]⟩
  · rintro v11 σ ⟨ts, w, hw, rfl, g3, -⟩ h
    clear hL0
    try dsimp only at h
    obtain rfl := inj_ok h
    simp [g3, hw]
  · rintro k n ⟨v4, v5⟩ σ ⟨ts, w, hw, rfl, g0, g3, g4, -⟩ h ih ex
    clear hL0
    rw [f69_L0] at h
    obtain ⟨x6, ex6, h⟩ := bindT h
    obtain ⟨x7, ex7, h⟩ := bindT h
    cases x7
    case false =>
     simp [g0, g3, g4, ex6, ex7]
     refine ex v4 _ ?_ h
     exact ⟨_, _, by simp [hw], rfl, by simp [g0, g3, g4, ex6, ex7]⟩
    obtain ⟨y8, ey8, h⟩ := bind_ok h
    obtain ⟨ey8a, ey8e, ey8b, ey8c, ey8g⟩ := gI_ok rfl ey8
    obtain ⟨x9, ex9, h⟩ := bindT h
    obtain ⟨x10, ex10, h⟩ := bindT h
    simp [g0, g3, g4, ex6, ex7, ey8a, ey8b, ey8c, ex9, ex10]
    refine ih (x9, x10) _ ?_ h
    exact ⟨_, _, by simp [hw], rfl, by simp [g0, g3, g4, ex6, ex7, ey8a, ey8b, ey8c, ex9, ex10]⟩
def f49S (F : Nat) (p0 : Int) : Option (Int) :=
  (some (IntKind.i64.wrap (-p0))).bind fun x1 =>
  (some (andI .i64 p0 x1)).bind fun x2 =>
  some x2
theorem f49_is {p0 : Int} {hp : List (Option (List PV))} {F : Nat} {r : (Int)}  (h : f49S F p0 = some r) :
    E Tryd.prog Y0 49 [iv p0] hp = some (iv r, hp, none) := by
  rw [E_bodyN 1 body49 rfl (by decide) rfl]
  simp only [Tryd.f49, Option.get_some]
  unfold f49S at h
  obtain ⟨x1, ex1, h⟩ := bindT h
  obtain ⟨x2, ex2, h⟩ := bindT h
  obtain rfl := inj_ok h
  simp [ex1, ex2]
def f50S (F : Nat) (p0 : List Int) (p1 : Int) : Option (Bool) :=
  (f68S F p0 p1).bind fun x1 =>
  (some (decide (0 ≤ x1))).bind fun x3 =>
  some x3
theorem f50_is {a0 : Bool} {c0 : Ck} {p0 : List Int} {p1 : Int} {hp : List (Option (List PV))} {F : Nat} {r : (Bool)}  (h : f50S F p0 p1 = some r) :
    E Tryd.prog Y0 50 [.l (ak a0) c0 p0.length (p0.map iv), iv p1] hp = some (.v (.bool r), hp, none) := by
  rw [E_bodyN 2 body50 rfl (by decide) rfl]
  simp only [Tryd.f50, Option.get_some]
  unfold f50S at h
  obtain ⟨x1, e2, h⟩ := bind_ok h
  have e2 : ∀ hp, E Tryd.prog Y0 68 [.l (ak a0) c0 p0.length (p0.map iv), iv p1] hp = some (iv x1, hp, none) := fun hp => f68_is (a0 := a0) (c0 := c0) e2
  obtain ⟨x3, ex3, h⟩ := bindT h
  obtain rfl := inj_ok h
  simp [e2, ex3]
def f51S (F : Nat) (c0 : Ck) (p0 : List Int) : Option ((Ck × List Int)) :=
  (isNil c0 p0.length).bind fun x1 =>
  (match x1 with
  | true => (some (.nz, []))
  | false => ((neL p0).bind fun x2 =>
  some (.nz, p0)))
theorem f51_is {a0 : Bool} {c0 : Ck} {p0 : List Int} {hp : List (Option (List PV))} {F : Nat} {r : ((Ck × List Int))}  (h : f51S F c0 p0 = some r) :
    E Tryd.prog Y0 51 [.l (ak a0) c0 p0.length (p0.map iv)] hp = some (.l .own r.1 r.2.length (r.2.map iv), hp, none) := by
  rw [E_bodyN 1 body51 rfl (by decide) rfl]
  simp only [Tryd.f51, Option.get_some]
  unfold f51S at h
  obtain ⟨x1, ex1, h⟩ := bind_ok h
  cases x1
  case true =>
   obtain rfl := inj_ok h
   simp [ex1, plnil, Tryd.underlying23]
  obtain ⟨x2, ex2, h⟩ := bind_ok h
  obtain ⟨ex2a, ex2c, ex2f⟩ := neL_ok iv ex2
  have ex2c := ex2c 10 (by decide)
  obtain rfl := inj_ok h
  simp [ex1, plnil, Tryd.underlying23, ex2a, ex2c, ex2f]
def f64_L0 (F : Nat) (l4 : List (List UInt8)) (K : List (List UInt8) → Option ((Ck × List (List UInt8)))) : Nat → List (List UInt8) × Int → Option ((Ck × List (List UInt8)))
  | 0, _ => none
  | n + 1, (v6, v7) => (some ((l4.length : Int))).bind fun x8 =>
    (some (decide (v7 < x8))).bind fun x9 =>
    (match x9 with
    | true => ((gI l4 v7).bind fun y10 =>
    (sadd y10 [111]).bind fun x11 =>
    (sadd y10 [117]).bind fun x12 =>
    (appL v6 [x11, x12]).bind fun x13 =>
    (some (IntKind.i64.wrap (v7 + 1))).bind fun x14 =>
    f64_L0 F l4 K n (x13, x14))
    | false => (K v6))
def f64S (F : Nat) : Nat → Int → Option ((Ck × List (List UInt8)))
  | 0, _ => none
  | D + 1, p0 =>
    (some (decide (p0 = 0))).bind fun x1 =>
    (match x1 with
    | true => (some (.full, [[]]))
    | false => ((some (IntKind.i64.wrap (p0 - 1))).bind fun x2 =>
    (f64S F D x2).bind fun (c3, l4) =>
    f64_L0 F l4 (fun v15 =>
      some (.nz, v15)) F ([], 0)))
theorem f64_is {F D : Nat} {p0 : Int} {hp : List (Option (List PV))} {r : ((Ck × List (List UInt8)))} (h : f64S F D p0 = some r) :
    E Tryd.prog Y0 64 [iv p0] hp = some (.l (vlOf r.1) r.1 r.2.length (r.2.map tv), hp, none) := by
  induction D generalizing p0 hp r with
  | zero => cases h
  | succ D ihD =>
  rw [E_bodyN 1 body64 rfl (by decide) rfl]
  simp only [Tryd.f64, Option.get_some]
  rw [f64S] at h
  obtain ⟨x1, ex1, h⟩ := bindT h
  cases x1
  case true =>
   obtain rfl := inj_ok h
   simp [ex1]
  obtain ⟨x2, ex2, h⟩ := bindT h
  obtain ⟨⟨c3, l4⟩, e5, h⟩ := bind_ok h
  try dsimp only at h
  have e5 : ∀ hp, E Tryd.prog Y0 64 [iv x2] hp = some (.l (vlOf c3) c3 l4.length (l4.map tv), hp, none) := fun hp => ihD e5
  cases c3 with
  | full =>
    simp [ex1, ex2, e5]
    have hL0 := h; clear h
    refine loopS (S := f64_L0 F l4) (fun (v6, v7) σ => ∃ (ts : Tr PV) (w : Option Nat), wok hp.length w ∧ σ = ⟨[], ts, hp, w⟩ ∧ ts.get 3 = some (.l .own .nz v6.length (v6.map tv)) ∧ ts.get 4 = some (.l (vlOf Ck.full) Ck.full l4.length (l4.map tv)) ∧ ts.get 5 = some (iv v7) ∧ True) (fun v15 σ => ∃ (ts : Tr PV) (w : Option Nat), wok hp.length w ∧ σ = ⟨[], ts, hp, w⟩ ∧ ts.get 3 = some (.l .own .nz v15.length (v15.map tv)) ∧ True) (fun _ => rfl) hL0 ?_ ?_ ?_
    · exact ⟨_, _, by simp, rfl, by simp [ex1, ex2, e5]⟩
    · rintro v15 σ ⟨ts, w, hw, rfl, g3, -⟩ h
      clear hL0
      try dsimp only at h
      obtain rfl := inj_ok h
      simp [g3, hw]
    · rintro k n ⟨v6, v7⟩ σ ⟨ts, w, hw, rfl, g3, g4, g5, -⟩ h ih ex
      clear hL0
      rw [f64_L0] at h
      obtain ⟨x8, ex8, h⟩ := bindT h
      obtain ⟨x9, ex9, h⟩ := bindT h
      cases x9
      case false =>
       simp [g3, g4, g5, ex8, ex9]
       refine ex v6 _ ?_ h
       exact ⟨_, _, by simp [hw], rfl, by simp [g3, g4, g5, ex8, ex9]⟩
      obtain ⟨y10, ey10, h⟩ := bind_ok h
      obtain ⟨ey10a, ey10e, ey10b, ey10c, ey10g⟩ := gI_ok rfl ey10
      obtain ⟨x11, ex11, h⟩ := bind_ok h
      obtain ⟨ex11a, ex11⟩ := sadd_ok ex11
      obtain ⟨x12, ex12, h⟩ := bind_ok h
      obtain ⟨ex12a, ex12⟩ := sadd_ok ex12
      obtain ⟨x13, ex13, h⟩ := bind_ok h
      obtain ⟨-, ex13a, ex13b, ex13c, -, ex13q⟩ := appL_ok tv ex13
      have ex13b := ex13b 18 (by decide)
      simp [lv, tv] at ex13a ex13c
      obtain ⟨x14, ex14, h⟩ := bindT h
      simp [g3, g4, g5, ex8, ex9, ey10a, ey10b, ey10c, tv, ex11, abin_sadd ex11a, ex12, abin_sadd ex12a, ex13a, ex13b, ex13c, ex14]
      all_goals try (generalize hmt : mayTurn _ = mb; obtain rfl : mb = true := hmt.symm.trans (by kernel_rfl); clear hmt)
      all_goals try simp [g3, g4, g5, ex8, ex9, ey10a, ey10b, ey10c, tv, ex11, abin_sadd ex11a, ex12, abin_sadd ex12a, ex13a, ex13b, ex13c, ex14]
      refine ih (x13, x14) _ ?_ h
      exact ⟨_, _, by simp [hw], rfl, by simp [g3, g4, g5, ex8, ex9, ey10a, ey10b, ey10c, tv, ex11, abin_sadd ex11a, ex12, abin_sadd ex12a, ex13a, ex13b, ex13c, ex14]⟩
  | nz =>
    simp [ex1, ex2, e5]
    have hL0 := h; clear h
    refine loopS (S := f64_L0 F l4) (fun (v6, v7) σ => ∃ (ts : Tr PV) (w : Option Nat), wok hp.length w ∧ σ = ⟨[], ts, hp, w⟩ ∧ ts.get 3 = some (.l .own .nz v6.length (v6.map tv)) ∧ ts.get 4 = some (.l (vlOf Ck.nz) Ck.nz l4.length (l4.map tv)) ∧ ts.get 5 = some (iv v7) ∧ True) (fun v15 σ => ∃ (ts : Tr PV) (w : Option Nat), wok hp.length w ∧ σ = ⟨[], ts, hp, w⟩ ∧ ts.get 3 = some (.l .own .nz v15.length (v15.map tv)) ∧ True) (fun _ => rfl) hL0 ?_ ?_ ?_
    · exact ⟨_, _, by simp, rfl, by simp [ex1, ex2, e5]⟩
    · rintro v15 σ ⟨ts, w, hw, rfl, g3, -⟩ h
      clear hL0
      try dsimp only at h
      obtain rfl := inj_ok h
      simp [g3, hw]
    · rintro k n ⟨v6, v7⟩ σ ⟨ts, w, hw, rfl, g3, g4, g5, -⟩ h ih ex
      clear hL0
      rw [f64_L0] at h
      obtain ⟨x8, ex8, h⟩ := bindT h
      obtain ⟨x9, ex9, h⟩ := bindT h
      cases x9
      case false =>
       simp [g3, g4, g5, ex8, ex9]
       refine ex v6 _ ?_ h
       exact ⟨_, _, by simp [hw], rfl, by simp [g3, g4, g5, ex8, ex9]⟩
      obtain ⟨y10, ey10, h⟩ := bind_ok h
      obtain ⟨ey10a, ey10e, ey10b, ey10c, ey10g⟩ := gI_ok rfl ey10
      obtain ⟨x11, ex11, h⟩ := bind_ok h
      obtain ⟨ex11a, ex11⟩ := sadd_ok ex11
      obtain ⟨x12, ex12, h⟩ := bind_ok h
      obtain ⟨ex12a, ex12⟩ := sadd_ok ex12
      obtain ⟨x13, ex13, h⟩ := bind_ok h
      obtain ⟨-, ex13a, ex13b, ex13c, -, ex13q⟩ := appL_ok tv ex13
      have ex13b := ex13b 18 (by decide)
      simp [lv, tv] at ex13a ex13c
      obtain ⟨x14, ex14, h⟩ := bindT h
      simp [g3, g4, g5, ex8, ex9, ey10a, ey10b, ey10c, tv, ex11, abin_sadd ex11a, ex12, abin_sadd ex12a, ex13a, ex13b, ex13c, ex14]
      all_goals try (generalize hmt : mayTurn _ = mb; obtain rfl : mb = true := hmt.symm.trans (by kernel_rfl); clear hmt)
      all_goals try simp [g3, g4, g5, ex8, ex9, ey10a, ey10b, ey10c, tv, ex11, abin_sadd ex11a, ex12, abin_sadd ex12a, ex13a, ex13b, ex13c, ex14]
      refine ih (x13, x14) _ ?_ h
      exact ⟨_, _, by simp [hw], rfl, by simp [g3, g4, g5, ex8, ex9, ey10a, ey10b, ey10c, tv, ex11, abin_sadd ex11a, ex12, abin_sadd ex12a, ex13a, ex13b, ex13c, ex14]⟩
  | any =>
    simp [ex1, ex2, e5]
    have hL0 := h; clear h
    refine loopS (S := f64_L0 F l4) (fun (v6, v7) σ => ∃ (ts : Tr PV) (w : Option Nat), wok hp.length w ∧ σ = ⟨[], ts, hp, w⟩ ∧ ts.get 3 = some (.l .own .nz v6.length (v6.map tv)) ∧ ts.get 4 = some (.l (vlOf Ck.any) Ck.any l4.length (l4.map tv)) ∧ ts.get 5 = some (iv v7) ∧ True) (fun v15 σ => ∃ (ts : Tr PV) (w : Option Nat), wok hp.length w ∧ σ = ⟨[], ts, hp, w⟩ ∧ ts.get 3 = some (.l .own .nz v15.length (v15.map tv)) ∧ True) (fun _ => rfl) hL0 ?_ ?_ ?_
    · exact ⟨_, _, by simp, rfl, by simp [ex1, ex2, e5]⟩
    · rintro v15 σ ⟨ts, w, hw, rfl, g3, -⟩ h
      clear hL0
      try dsimp only at h
      obtain rfl := inj_ok h
      simp [g3, hw]
    · rintro k n ⟨v6, v7⟩ σ ⟨ts, w, hw, rfl, g3, g4, g5, -⟩ h ih ex
      clear hL0
      rw [f64_L0] at h
      obtain ⟨x8, ex8, h⟩ := bindT h
      obtain ⟨x9, ex9, h⟩ := bindT h
      cases x9
      case false =>
       simp [g3, g4, g5, ex8, ex9]
       refine ex v6 _ ?_ h
       exact ⟨_, _, by simp [hw], rfl, by simp [g3, g4, g5, ex8, ex9]⟩
      obtain ⟨y10, ey10, h⟩ := bind_ok h
      obtain ⟨ey10a, ey10e, ey10b, ey10c, ey10g⟩ := gI_ok rfl ey10
      obtain ⟨x11, ex11, h⟩ := bind_ok h
      obtain ⟨ex11a, ex11⟩ := sadd_ok ex11
      obtain ⟨x12, ex12, h⟩ := bind_ok h
      obtain ⟨ex12a, ex12⟩ := sadd_ok ex12
      obtain ⟨x13, ex13, h⟩ := bind_ok h
      obtain ⟨-, ex13a, ex13b, ex13c, -, ex13q⟩ := appL_ok tv ex13
      have ex13b := ex13b 18 (by decide)
      simp [lv, tv] at ex13a ex13c
      obtain ⟨x14, ex14, h⟩ := bindT h
      simp [g3, g4, g5, ex8, ex9, ey10a, ey10b, ey10c, tv, ex11, abin_sadd ex11a, ex12, abin_sadd ex12a, ex13a, ex13b, ex13c, ex14]
      all_goals try (generalize hmt : mayTurn _ = mb; obtain rfl : mb = true := hmt.symm.trans (by kernel_rfl); clear hmt)
      all_goals try simp [g3, g4, g5, ex8, ex9, ey10a, ey10b, ey10c, tv, ex11, abin_sadd ex11a, ex12, abin_sadd ex12a, ex13a, ex13b, ex13c, ex14]
      refine ih (x13, x14) _ ?_ h
      exact ⟨_, _, by simp [hw], rfl, by simp [g3, g4, g5, ex8, ex9, ey10a, ey10b, ey10c, tv, ex11, abin_sadd ex11a, ex12, abin_sadd ex12a, ex13a, ex13b, ex13c, ex14]⟩
def f63S (F : Nat) (p0 : List UInt8) : Option (Int) :=
  (some (lettersE p0 63 118 104)).bind fun x1 =>
  (some (decide (x1 = 0))).bind fun x3 =>
  (match x3 with
  | true => ((some ((p0.length : Int))).bind fun x4 =>
  (some (IntKind.i64.wrap (x4 + 1))).bind fun x5 =>
  (f65S F x5).bind fun x6 =>
  (some (decide (x6 < 0))).bind fun x8 =>
  (match x8 with
  | true => (some 5)
  | false => (some x1)))
  | false => (some x1))
theorem f63_is {p0 : List UInt8} {hp : List (Option (List PV))} {F : Nat} {r : (Int)}  (h : f63S F p0 = some r) :
    E Tryd.prog Y0 63 [.v (.string (bs p0))] hp = some (iv r, hp, none) := by
  rw [E_bodyN 1 body63 rfl (by decide) rfl]
  simp only [Tryd.f63, Option.get_some]
  unfold f63S at h
  obtain ⟨x1, ex1, h⟩ := bindT h
  have q2 : ∀ hp, E Tryd.prog Y0 61 [.v (.string (bs p0)), iv 63, kv .u8 118, kv .u8 104] hp = some (iv x1, hp, none) := fun hp => f61_is ex1
  obtain ⟨x3, ex3, h⟩ := bindT h
  cases x3
  case false =>
   obtain rfl := inj_ok h
   simp [ex1, q2, ex3]
  obtain ⟨x4, ex4, h⟩ := bindT h
  obtain ⟨x5, ex5, h⟩ := bindT h
  obtain ⟨x6, e7, h⟩ := bind_ok h
  have e7 : ∀ hp, E Tryd.prog Y0 65 [iv x5] hp = some (iv x6, hp, none) := fun hp => f65_is  e7
  obtain ⟨x8, ex8, h⟩ := bindT h
  cases x8
  case true =>
   obtain rfl := inj_ok h
   simp [ex1, q2, ex3, ex4, ex5, e7, ex8]
  obtain rfl := inj_ok h
  simp [ex1, q2, ex3, ex4, ex5, e7, ex8]
def f36S (F : Nat) (p0 : List UInt8) : Option ((Ck × List (Int × Int)) × Int) :=
  (some (lettersE p0 63 118 104)).bind fun x1 =>
  (some (decide (x1 = 0))).bind fun x3 =>
  (match x3 with
  | true => ((f59S F p0).bind fun (c4, l5) =>
  some ((c4, l5), 0))
  | false => (some ((.nz, []), x1)))
theorem f36_is {p0 : List UInt8} {hp : List (Option (List PV))} {F : Nat} {r : ((Ck × List (Int × Int)) × Int)}  (h : f36S F p0 = some r) :
    E Tryd.prog Y0 36 [.v (.string (bs p0))] hp = some (.t [.l .fz r.1.1 r.1.2.length (rows r.1.2), iv r.2], hp, none) := by
  rw [E_bodyN 1 body36 rfl (by decide) rfl]
  simp only [Tryd.f36, Option.get_some]
  unfold f36S at h
  obtain ⟨x1, ex1, h⟩ := bindT h
  have q2 : ∀ hp, E Tryd.prog Y0 61 [.v (.string (bs p0)), iv 63, kv .u8 118, kv .u8 104] hp = some (iv x1, hp, none) := fun hp => f61_is ex1
  obtain ⟨x3, ex3, h⟩ := bindT h
  cases x3
  case false =>
   obtain rfl := inj_ok h
   simp [ex1, q2, ex3]
  obtain ⟨⟨c4, l5⟩, e6, h⟩ := bind_ok h
  try dsimp only at h
  have e6 : ∀ hp, E Tryd.prog Y0 59 [.v (.string (bs p0))] hp = some (.l (vlOf c4) c4 l5.length (rows l5), hp, none) := fun hp => f59_is  e6
  cases c4 with
  | full =>
    obtain rfl := inj_ok h
    simp [ex1, q2, ex3, e6]
  | nz =>
    obtain rfl := inj_ok h
    simp [ex1, q2, ex3, e6]
  | any =>
    obtain rfl := inj_ok h
    simp [ex1, q2, ex3, e6]
end Go.Proofs.YtcjephdjemapbaaDoor
