/-
  the reference's functions, and small ones
  Printed by wip/tools/walk.py. Conditions: none; definitions and lemmas.
-/
import Derived.Test.YtcjephdjemapbaaDoorLeafLaw
set_option linter.unusedSimpArgs false
set_option linter.unusedVariables false
namespace Go.Proofs.YtcjephdjemapbaaDoor
open Go.Abs Go.Pur
set_option maxRecDepth 100000
set_option maxHeartbeats 2000000
attribute [local simp] EK_region EK_seq EK_cond EK_block EK_blk EK_loop EK_exit EK.ex EK_ret EK_skip EK_nil EO_cons EO_nil EO1_true EO1_false EO2_some EO3_some EB_true EB_false pwanted poper pq pev Go.Pur.look pputT isAssign drOf pinit Tr.get_set lget pvOf_int pvOf_bool pvOf_str pvOf_nil rdv_ak notOwn_ak prt_ak loose_ak rdv_own rdv_fz rdv_bor rdv_rf rdv_pt rdv_v rdv_a rdv_t rdv_r rdv_p rdv_s rdv_f pbin plen pload ppart idxAddr pcond Nat.blt goInt_eq prun_not prun_neg mayLoad ER_ret ER_normal presL presOne moved stor okDrop settle_v settle_l settle_a settle_p settle_f noref_v noref_fz noref_a norefs_nil norefs_cons pclose given dropB Y0_keep pevParts stors pvCells pvCells.go vcells pfill reps zipParts ownFz pcells cellOK one psrcLen srcFits psrc takeP pgrow take getPl setPl mapL plEq elder isList lowP pevs frzs addP partAt ble_lim24 killV_v killV_a killV_t killV_f killV_i killV_p killV_s killV_un killV_dead killV_lfz killV_lbor killV_lown killV_rfz killV_rbor killV_lak killV_rak frzV_v frzV_a frzV_t frzV_f frzV_i frzV_p frzV_s frzV_un frzV_dead frzV_lfz frzV_lbor frzV_lown frzV_rfz frzV_rbor frzV_lak frzV_rak killCell_v killCell_a killCell_t killCell_f killCell_i killCell_p killCell_s killCell_un killCell_dead killCell_lfz killCell_lbor killCell_lown killCell_rfz killCell_rbor killCell_lak killCell_rak killV_lrf killV_lpt killV_rpt frzV_lrf frzV_lpt frzV_rpt killCell_lrft killCell_lptt killCell_rptt killCell_lrfc killCell_lptc killCell_rptc argv_lak argv_rak argv_v argv_a argv_p argv_f argv_fz argv_bor argv_rf argv_pt argv_rc argv_own mayTurn_none argvs pcallOp firm refsTo_v refsTo_l refsTo_p refsTo_s refsTo_a refsTo_dead refsTo_nil refsTo_cons isOwn_lak ownFz_lak evSafe pskip plain pnewBlk fldAddr isOwn pput notOwn_fz notOwn_bor notOwn_own notOwn_rf notOwn_pt prt_fz prt_bor prt_own prt_rf prt_pt Go.Pur.freeze presM settles abin_and abin_or abin_andNot abin_mul abin_shr abin_shl abin_add abin_sub abin_eql abin_neq abin_lss abin_leq abin_gtr abin_geq hows pcallIn Y0_how Y0_part howOf partOf rdv_mown rdv_mfz rdv_mbor rdv_mrf killV_mown killV_mfz killV_mbor killV_mrf frzV_mown frzV_mfz frzV_mbor frzV_mrf killCell_mown killCell_mfz killCell_mbor killCell_mrf argv_mfz argv_mbor argv_mrf settle_m kls_v kls_l kls_a kls_t kls_r kls_p kls_s kls_f kls_i kls_it kls_un kls_dead kls_mown kls_mrf kls_mbor kls_mfz fzOf takable mapHere mapOwn mapTo flat toPlain toPlain.go ofFlat ofPair mapEs plook lookRes Y0_mv mvOf mvBlk premv Y0_fzm fzmOf poperX pconv keep18 keep19 keep21 keep23 keep24 keep26 keep36 keep47 keep48 keep49 keep50 keep51 keep56 keep59 keep63 keep64 keep65 keep66 keep67 keep68 keep69 keep82 keep83 sz3 by3 row3 zero3 sz4 by4 row4 zero4 sz5 by5 row5 zero5 sz9 by9 row9 shape9 zero9 sz21 by21 row21 zero21 sz23 by23 row23 shape23 zero23 sz24 by24 row24 zero24 sz38 by38 row38 shape38 zero38 sz47 by47 row47 shape47 zero47 parts47 sz51 by51 row51 zero51 sz54 by54 row54 shape54 zero54 sz55 by55 row55 shape55 zero55 sz58 by58 row58 shape58 zero58 sz60 by60 row60 zero60 sz63 by63 row63 shape63 zero63 sz73 by73 row73 shape73 zero73 parts73 sz79 by79 row79 shape79 zero79 sz81 by81 row81 shape81 zero81 parts81 sz86 by86 row86 shape86 parts86 sz90 by90 row90 zero90 sz92 by92 row92 zero92 sz96 by96 row96 zero96 parts96 field96_0 field96_1 sz99 by99 row99 zero99 sz104 by104 row104 zero104 sz106 by106 row106 zero106 parts106 field106_0 field106_1 sz119 by119 row119 zero119 sz123 by123 row123 zero123 sz124 by124 row124 shape124 zero124 parts124 sz125 by125 row125 shape125 zero125 parts125 sz126 by126 row126 shape126 parts126 sz128 by128 row128 zero128 parts128 field128_0 field128_1 sz129 by129 row129 shape129 zero129 parts129 sz133 by133 row133 zero133 bs_size gAt gAt0 sAt sAt0 optPlain rows_len noMaker_eq kindOf vlOf abin_rem abin_quo mayTurn_none lowOf_none Go.Pur.partAt rows_nil rows_cons ble_add ble_add0 ble_same toPlain toPlain.go intIn2_0 intIn2_1 ble12 ble22 tv lv max_int min_int pplains ak_true ak_false apartP beq_add beq_add0 beq_add1 argv_s wok_none wok_low_iff lowOf_wok
theorem bool_eql_4Ref1 {x y : Operand} {a b : Bool} : abin Tryd.prog .eql 4 x y (.bool a) (.bool b) = some (.bool (a == b)) := by cases a <;> cases b <;> kernel_rfl
theorem conv_3_99Ref1 {z : Int} : prunP Tryd.prog (convert 3 99 (.int .i64 z)) = some (.int .u64 (IntKind.u64.wrap z)) := by kernel_rfl
def f82_L0 (F : Nat) (p0 : Int) (K : Int → Option (Int)) : Nat → Int × Int → Option (Int)
  | 0, _ => none
  | n + 1, (v1, v2) => (some (decide (v2 < p0))).bind fun x3 =>
    (match x3 with
    | true => ((some (mulI .i64 2 v1)).bind fun x4 =>
    (some (IntKind.i64.wrap (v2 + 1))).bind fun x5 =>
    f82_L0 F p0 K n (x4, x5))
    | false => (K v1))
def f82S (F : Nat) (p0 : Int) : Option (Int) :=
  f82_L0 F p0 (fun v6 =>
    some v6) F (1, 0)
def f47S (F : Nat) (c0 : Ck) (p0 : List Int) : Option ((Ck × List Int)) :=
  some (c0, p0)
theorem f47_is {c0 : Ck} {p0 : List Int} {hp : List (Option (List PV))} {F : Nat} {r : ((Ck × List Int))}  (h : f47S F c0 p0 = some r) :
    E Tryd.prog Y0 47 [.l .fz c0 p0.length (p0.map iv)] hp = some (.l .fz r.1 r.2.length (r.2.map iv), hp, none) := by
  rw [E_bodyN 1 body47 rfl (by decide) rfl]
  simp only [Tryd.f47, Option.get_some]
  unfold f47S at h
  obtain rfl := inj_ok h
  simp
def f48_L0 (F : Nat) (p0 : List Int) (K : List (Int × Int) → Option ((Ck × List (Int × Int)))) : Nat → List (Int × Int) × Int → Option ((Ck × List (Int × Int)))
  | 0, _ => none
  | n + 1, (v1, v2) => (some (IntKind.i64.wrap (v2 + 1))).bind fun x3 =>
    (some ((p0.length : Int))).bind fun x4 =>
    (some (decide (x3 < x4))).bind fun x5 =>
    (match x5 with
    | true => ((gI p0 v2).bind fun y6 =>
    (gI p0 x3).bind fun y7 =>
    (app1 v1 (y6, y7)).bind fun x8 =>
    (some (IntKind.i64.wrap (v2 + 2))).bind fun x9 =>
    f48_L0 F p0 K n (x8, x9))
    | false => (K v1))
def f48S (F : Nat) (p0 : List Int) : Option ((Ck × List (Int × Int))) :=
  f48_L0 F p0 (fun v10 =>
    some (.nz, v10)) F ([], 0)
theorem f48_is {a0 : Bool} {c0 : Ck} {p0 : List Int} {hp : List (Option (List PV))} {F : Nat} {r : ((Ck × List (Int × Int)))}  (h : f48S F p0 = some r) :
    E Tryd.prog Y0 48 [.l (ak a0) c0 p0.length (p0.map iv)] hp = some (.l .own r.1 r.2.length (rows r.2), hp, none) := by
  rw [E_bodyN 1 body48 rfl (by decide) rfl]
  simp only [Tryd.f48, Option.get_some]
  unfold f48S at h
  simp
  have hL0 := h; clear h
  refine loopS (S := f48_L0 F p0) (fun (v1, v2) σ => ∃ (ts : Tr PV) (w : Option Nat), wok hp.length w ∧ σ = ⟨[], ts, hp, w⟩ ∧ ts.get 0 = some (.l (ak a0) c0 p0.length (p0.map iv)) ∧ ts.get 3 = some (.l .own .nz v1.length (rows v1)) ∧ ts.get 4 = some (iv v2) ∧ True) (fun v10 σ => ∃ (ts : Tr PV) (w : Option Nat), wok hp.length w ∧ σ = ⟨[], ts, hp, w⟩ ∧ ts.get 3 = some (.l .own .nz v10.length (rows v10)) ∧ True) (fun _ => rfl) hL0 ?_ ?_ ?_
  · exact ⟨_, _, by simp, rfl, by simp⟩
  · rintro v10 σ ⟨ts, w, hw, rfl, g3, -⟩ h
    clear hL0
    try dsimp only at h
    obtain rfl := inj_ok h
    simp [g3, hw]
  · rintro k n ⟨v1, v2⟩ σ ⟨ts, w, hw, rfl, g0, g3, g4, -⟩ h ih ex
    clear hL0
    rw [f48_L0] at h
    replace h := bindT h; obtain ⟨x3, ex3, h⟩ := h
    replace h := bindT h; obtain ⟨x4, ex4, h⟩ := h
    replace h := bindT h; obtain ⟨x5, ex5, h⟩ := h
    cases x5
    case false =>
     simp [g0, g3, g4, ex3, ex4, ex5]
     refine ex v1 _ ?_ h
     exact ⟨_, _, by simp [hw], rfl, by simp [g0, g3, g4, ex3, ex4, ex5]⟩
    replace h := bind_ok h; obtain ⟨y6, ey6, h⟩ := h
    obtain ⟨ey6a, ey6e, ey6b, ey6c, ey6g⟩ := gI_ok rfl ey6
    replace h := bind_ok h; obtain ⟨y7, ey7, h⟩ := h
    obtain ⟨ey7a, ey7e, ey7b, ey7c, ey7g⟩ := gI_ok rfl ey7
    replace h := bind_ok h; obtain ⟨x8, ex8, h⟩ := h
    obtain ⟨ex8a, ex8b, ex8c, ex8q⟩ := app1_rows ex8
    have ex8b := ex8b 19 (by decide)
    replace h := bindT h; obtain ⟨x9, ex9, h⟩ := h
    simp [g0, g3, g4, ex3, ex4, ex5, ey6a, ey6b, ey6c, ey7a, ey7b, ey7c, ex8a, ex8b, ex8c, ex9]
    all_goals try (generalize hmt : mayTurn _ = mb; obtain rfl : mb = true := hmt.symm.trans (by kernel_rfl); clear hmt)
    all_goals try simp [g0, g3, g4, ex3, ex4, ex5, ey6a, ey6b, ey6c, ey7a, ey7b, ey7c, ex8a, ex8b, ex8c, ex9]
    refine ih (x8, x9) _ ?_ h
    exact ⟨_, _, by simp [hw], rfl, by simp [g0, g3, g4, ex3, ex4, ex5, ey6a, ey6b, ey6c, ey7a, ey7b, ey7c, ex8a, ex8b, ex8c, ex9]⟩
def f18S (F : Nat) (p0 : List UInt8) : Option ((Ck × List Int) × Int) :=
  (some (checkE p0)).bind fun x1 =>
  (some (decide (x1 = 0))).bind fun x3 =>
  (match x3 with
  | true => ((pileO p0).bind fun x4 =>
  some ((x4.1, x4.2), 0))
  | false => (some ((.nz, []), x1)))
theorem f18_is {p0 : List UInt8} {hp : List (Option (List PV))} {F : Nat} {r : ((Ck × List Int) × Int)}  (h : f18S F p0 = some r) :
    E Tryd.prog Y0 18 [.v (.string (bs p0))] hp = some (.t [.l .fz r.1.1 r.1.2.length (r.1.2.map iv), iv r.2], hp, none) := by
  rw [E_bodyN 1 body18 rfl (by decide) rfl]
  simp only [Tryd.f18, Option.get_some]
  unfold f18S at h
  obtain ⟨x1, ex1, h⟩ := bindT h
  have q2 : ∀ hp, E Tryd.prog Y0 27 [.v (.string (bs p0))] hp = some (iv x1, hp, none) := fun hp => f27_is ex1
  obtain ⟨x3, ex3, h⟩ := bindT h
  cases x3
  case false =>
   obtain rfl := inj_ok h
   simp [ex1, q2, ex3]
  obtain ⟨x4, ex4, h⟩ := bind_ok h
  have ex4 : ∀ hp, E Tryd.prog Y0 55 [.v (.string (bs p0))] hp = some (.l .fz x4.1 x4.2.length (x4.2.map iv), hp, none) := fun hp => f55_is ex4
  obtain rfl := inj_ok h
  simp [ex1, q2, ex3, ex4]
def f23S (F : Nat) (p0 : List UInt8) : Option (List UInt8 × Int) :=
  (some (checkE p0)).bind fun x1 =>
  (some (decide (x1 = 0))).bind fun x3 =>
  (match x3 with
  | true => ((creasesO p0).bind fun x4 =>
  some (x4, 0))
  | false => (some ([], x1)))
theorem f23_is {p0 : List UInt8} {hp : List (Option (List PV))} {F : Nat} {r : (List UInt8 × Int)}  (h : f23S F p0 = some r) :
    E Tryd.prog Y0 23 [.v (.string (bs p0))] hp = some (.t [.v (.string (bs r.1)), iv r.2], hp, none) := by
  rw [E_bodyN 1 body23 rfl (by decide) rfl]
  simp only [Tryd.f23, Option.get_some]
  unfold f23S at h
  obtain ⟨x1, ex1, h⟩ := bindT h
  have q2 : ∀ hp, E Tryd.prog Y0 27 [.v (.string (bs p0))] hp = some (iv x1, hp, none) := fun hp => f27_is ex1
  obtain ⟨x3, ex3, h⟩ := bindT h
  cases x3
  case false =>
   obtain rfl := inj_ok h
   simp [ex1, q2, ex3]
  obtain ⟨x4, ex4, h⟩ := bind_ok h
  have ex4 : ∀ hp, E Tryd.prog Y0 57 [.v (.string (bs p0))] hp = some (.v (.string (bs x4)), hp, none) := fun hp => f57_is ex4
  obtain rfl := inj_ok h
  simp [ex1, q2, ex3, ex4]
def f65_L0 (F : Nat) (p0 : Int) (K : Unit → Option (Int)) : Nat → Int → Option (Int)
  | 0, _ => none
  | n + 1, v1 => (some (decide (v1 ≤ 6))).bind fun x2 =>
    (match x2 with
    | true => ((f82S F v1).bind fun x3 =>
    (some (decide (x3 = p0))).bind fun x5 =>
    (match x5 with
    | true => (some v1)
    | false => ((some (IntKind.i64.wrap (v1 + 1))).bind fun x6 =>
    f65_L0 F p0 K n x6)))
    | false => (K ()))
def f65S (F : Nat) (p0 : Int) : Option (Int) :=
  f65_L0 F p0 (fun _ =>
    some (-1)) F 0
def f66S (F : Nat) (p0 : List UInt8) (p1 : Int) (p2 : Int) : Option (Bool) :=
  (some (IntKind.i64.wrap (p1 + 1))).bind fun x1 =>
  (some (IntKind.u64.wrap x1)).bind fun x2 =>
  (tzO x2).bind fun x3 =>
  (some (IntKind.i64.wrap (p2 + 1))).bind fun x4 =>
  (some (IntKind.u64.wrap x4)).bind fun x5 =>
  (tzO x5).bind fun x6 =>
  (some (decide (x3 = x6))).bind fun x7 =>
  (match x7 with
  | true => ((gS p0 p1).bind fun x8 =>
  (gS p0 p2).bind fun x9 =>
  (some (decide (x8 = x9))).bind fun x10 =>
  (some (IntKind.i64.wrap (p2 - p1))).bind fun x11 =>
  (shrO .i64 x11 x3).bind fun x12 =>
  (some (Int.tmod x12 4)).bind fun x13 =>
  (some (decide (x13 = 2))).bind fun x14 =>
  (some ((x10 == x14))).bind fun x15 =>
  some x15)
  | false => (some false))
theorem f66_is {p0 : List UInt8} {p1 : Int} {p2 : Int} {hp : List (Option (List PV))} {F : Nat} {r : (Bool)}  (h : f66S F p0 p1 p2 = some r) :
    E Tryd.prog Y0 66 [.v (.string (bs p0)), iv p1, iv p2] hp = some (.v (.bool r), hp, none) := by
  rw [E_bodyN 3 body66 rfl (by decide) rfl]
  simp only [Tryd.f66, Option.get_some]
  unfold f66S at h
  obtain ⟨x1, ex1, h⟩ := bindT h
  obtain ⟨x2, ex2, h⟩ := bindT h
  obtain ⟨x3, ex3, h⟩ := bind_ok h
  have ex3 : ∀ hp, E Tryd.prog Y0 87 [kv .u64 x2] hp = some (iv x3, hp, none) := fun hp => f87_is ex3
  obtain ⟨x4, ex4, h⟩ := bindT h
  obtain ⟨x5, ex5, h⟩ := bindT h
  obtain ⟨x6, ex6, h⟩ := bind_ok h
  have ex6 : ∀ hp, E Tryd.prog Y0 87 [kv .u64 x5] hp = some (iv x6, hp, none) := fun hp => f87_is ex6
  obtain ⟨x7, ex7, h⟩ := bindT h
  cases x7
  case false =>
   obtain rfl := inj_ok h
   simp [ex1, conv_3_99Ref1, ex2, ex3, ex4, ex5, ex6, ex7]
  obtain ⟨x8, ex8, h⟩ := bind_ok h
  have ex8 := (gS_ok (P := Tryd.prog) (t := 9) (k := .i64) Tryd.underlying9 shape9 ex8).1
  obtain ⟨x9, ex9, h⟩ := bind_ok h
  have ex9 := (gS_ok (P := Tryd.prog) (t := 9) (k := .i64) Tryd.underlying9 shape9 ex9).1
  obtain ⟨x10, ex10, h⟩ := bindT h
  obtain ⟨x11, ex11, h⟩ := bindT h
  obtain ⟨x12, ex12, h⟩ := bind_ok h
  obtain ⟨ex12a, ex12⟩ := shrO_ok ex12
  obtain ⟨x13, ex13, h⟩ := bindT h
  obtain ⟨x14, ex14, h⟩ := bindT h
  obtain ⟨x15, ex15, h⟩ := bindT h
  obtain rfl := inj_ok h
  simp [ex1, conv_3_99Ref1, ex2, ex3, ex4, ex5, ex6, ex7, ex8, ex9, ex10, ex11, ex12, ex12a, ex13, ex14, bool_eql_4Ref1, ex15]
def f67_L0 (F : Nat) (K : Int × Int → Option (Bool)) : Nat → Int × Int → Option (Bool)
  | 0, _ => none
  | n + 1, (v3, v4) => (some (Int.tmod v3 2)).bind fun x5 =>
    (some (decide (x5 = 0))).bind fun x6 =>
    (match x6 with
    | true => ((some (Int.tmod v4 2)).bind fun x7 =>
    (some (decide (x7 = 0))).bind fun x8 =>
    (match x8 with
    | true => ((some (IntKind.i64.wrap (Int.tdiv v3 2))).bind fun x9 =>
    (some (IntKind.i64.wrap (Int.tdiv v4 2))).bind fun x10 =>
    f67_L0 F K n (x9, x10))
    | false => (K (v3, v4))))
    | false => (K (v3, v4)))
def f67S (F : Nat) (p0 : List UInt8) (p1 : Int) (p2 : Int) : Option (Bool) :=
  (some (IntKind.i64.wrap (p1 + 1))).bind fun x1 =>
  (some (IntKind.i64.wrap (p2 + 1))).bind fun x2 =>
  f67_L0 F (fun (v11, v12) =>
    (some (Int.tmod v11 2)).bind fun x13 =>
    (some (decide (x13 = 0))).bind fun x14 =>
    (match x14 with
    | true => (some false)
    | false => ((some (Int.tmod v12 2)).bind fun x15 =>
    (some (decide (x15 = 0))).bind fun x16 =>
    (match x16 with
    | true => (some false)
    | false => ((gS p0 p1).bind fun x17 =>
    (gS p0 p2).bind fun x18 =>
    (some (decide (x17 = x18))).bind fun x19 =>
    (some (IntKind.i64.wrap (v12 - v11))).bind fun x20 =>
    (some (Int.tmod x20 4)).bind fun x21 =>
    (some (decide (x21 = 0))).bind fun x22 =>
    (some ((x19 != x22))).bind fun x23 =>
    some x23))))) F (x1, x2)
def f68_L0 (F : Nat) (p0 : List Int) (p1 : Int) (x1 : Int) (K : Unit → Option (Int)) : Nat → Int → Option (Int)
  | 0, _ => none
  | n + 1, v2 => (some (decide (v2 < x1))).bind fun x3 =>
    (match x3 with
    | true => ((gI p0 v2).bind fun y4 =>
    (some (decide (p1 = y4))).bind fun x5 =>
    (match x5 with
    | true => (some v2)
    | false => ((some (IntKind.i64.wrap (v2 + 1))).bind fun x6 =>
    f68_L0 F p0 p1 x1 K n x6)))
    | false => (K ()))
def f68S (F : Nat) (p0 : List Int) (p1 : Int) : Option (Int) :=
  (some ((p0.length : Int))).bind fun x1 =>
  f68_L0 F p0 p1 x1 (fun _ =>
    some (-1)) F 0
theorem f68_is {a0 : Bool} {c0 : Ck} {p0 : List Int} {p1 : Int} {hp : List (Option (List PV))} {F : Nat} {r : (Int)}  (h : f68S F p0 p1 = some r) :
    E Tryd.prog Y0 68 [.l (ak a0) c0 p0.length (p0.map iv), iv p1] hp = some (iv r, hp, none) := by
  rw [E_bodyN 2 body68 rfl (by decide) rfl]
  simp only [Tryd.f68, Option.get_some]
  unfold f68S at h
  obtain ⟨x1, ex1, h⟩ := bindT h
  simp [ex1]
  have hL0 := h; clear h
  refine loopS (S := f68_L0 F p0 p1 x1) (fun v2 σ => ∃ (ts : Tr PV) (w : Option Nat), wok hp.length w ∧ σ = ⟨[], ts, hp, w⟩ ∧ ts.get 0 = some (.l (ak a0) c0 p0.length (p0.map iv)) ∧ ts.get 1 = some (iv p1) ∧ ts.get 7 = some (iv x1) ∧ ts.get 8 = some (iv v2) ∧ True) (fun _ σ => ∃ (ts : Tr PV) (w : Option Nat), wok hp.length w ∧ σ = ⟨[], ts, hp, w⟩ ∧ True) (fun _ => rfl) hL0 ?_ ?_ ?_
  · exact ⟨_, _, by simp, rfl, by simp [ex1]⟩
  · rintro ⟨⟩ σ ⟨ts, w, hw, rfl, -⟩ h
    clear hL0
    try dsimp only at h
    obtain rfl := inj_ok h
    simp [hw]
  · rintro k n v2 σ ⟨ts, w, hw, rfl, g0, g1, g7, g8, -⟩ h ih ex
    clear hL0
    rw [f68_L0] at h
    obtain ⟨x3, ex3, h⟩ := bindT h
    cases x3
    case false =>
     simp [g0, g1, g7, g8, ex3]
     refine ex () _ ?_ h
     exact ⟨_, _, by simp [hw], rfl, by simp [g0, g1, g7, g8, ex3]⟩
    obtain ⟨y4, ey4, h⟩ := bind_ok h
    obtain ⟨ey4a, ey4e, ey4b, ey4c, ey4g⟩ := gI_ok rfl ey4
    obtain ⟨x5, ex5, h⟩ := bindT h
    cases x5
    case true =>
     obtain rfl := inj_ok h
     simp [g0, g1, g7, g8, ex3, ey4a, ey4b, ey4c, ex5, hw]
    obtain ⟨x6, ex6, h⟩ := bindT h
    simp [g0, g1, g7, g8, ex3, ey4a, ey4b, ey4c, ex5, ex6]
    refine ih x6 _ ?_ h
    exact ⟨_, _, by simp [hw], rfl, by simp [g0, g1, g7, g8, ex3, ey4a, ey4b, ey4c, ex5, ex6]⟩
def f68b_L0 (F : Nat) (p0 : List Int) (p1 : Int) (x1 : Int) (K : Unit → Option (Int)) : Nat → Int → Option (Int)
  | 0, _ => none
  | n + 1, v2 => (some (decide (v2 < x1))).bind fun x3 =>
    (match x3 with
    | true => ((gI p0 v2).bind fun y4 =>
    (some (decide (p1 = y4))).bind fun x5 =>
    (match x5 with
    | true => (some v2)
    | false => ((some (IntKind.i64.wrap (v2 + 1))).bind fun x6 =>
    f68b_L0 F p0 p1 x1 K n x6)))
    | false => (K ()))
def f68bS (F : Nat) (p0 : List Int) (p1 : Int) : Option (Int) :=
  (some ((p0.length : Int))).bind fun x1 =>
  f68b_L0 F p0 p1 x1 (fun _ =>
    some (-1)) F 0
theorem f68b_is {b0 d0 : Nat} {p0 : List Int} {p1 : Int} {hp : List (Option (List PV))} {F : Nat} {r : (Int)} (hb0 : hp[b0]? = some (some (p0.map iv))) (h : f68bS F p0 p1 = some r) :
    E Tryd.prog Y0 68 [.s b0 0 p0.length d0, iv p1] hp = some (iv r, hp, none) := by
  rw [E_bodyN 2 body68 rfl (by decide) rfl]
  simp only [Tryd.f68, Option.get_some]
  unfold f68bS at h
  have hlb0 : p0.length = p0.length := rfl
  obtain ⟨x1, ex1, h⟩ := bindT h
  simp [hb0, ex1]
  have hL0 := h; clear h
  refine loopS (S := f68b_L0 F p0 p1 x1) (fun v2 σ => ∃ (ts : Tr PV) (w : Option Nat), wok hp.length w ∧ σ = ⟨[], ts, hp, w⟩ ∧ ts.get 0 = some (.s b0 0 p0.length d0) ∧ ts.get 1 = some (iv p1) ∧ ts.get 7 = some (iv x1) ∧ ts.get 8 = some (iv v2) ∧ True) (fun _ σ => ∃ (ts : Tr PV) (w : Option Nat), wok hp.length w ∧ σ = ⟨[], ts, hp, w⟩ ∧ True) (fun _ => rfl) hL0 ?_ ?_ ?_
  · exact ⟨_, _, by simp, rfl, by simp [hb0, ex1]⟩
  · rintro ⟨⟩ σ ⟨ts, w, hw, rfl, -⟩ h
    clear hL0
    try dsimp only at h
    obtain rfl := inj_ok h
    simp [hb0, hw]
  · rintro k n v2 σ ⟨ts, w, hw, rfl, g0, g1, g7, g8, -⟩ h ih ex
    clear hL0
    rw [f68b_L0] at h
    obtain ⟨x3, ex3, h⟩ := bindT h
    cases x3
    case false =>
     simp [g0, g1, g7, g8, hb0, ex3]
     refine ex () _ ?_ h
     exact ⟨_, _, by simp [hw], rfl, by simp [g0, g1, g7, g8, hb0, ex3]⟩
    obtain ⟨y4, ey4, h⟩ := bind_ok h
    obtain ⟨ey4a, ey4e, ey4b, ey4c, ey4g⟩ := gI_ok hlb0 ey4
    obtain ⟨x5, ex5, h⟩ := bindT h
    cases x5
    case true =>
     obtain rfl := inj_ok h
     simp [g0, g1, g7, g8, hb0, ex3, ey4a, ey4b, ey4c, ex5, hw]
    obtain ⟨x6, ex6, h⟩ := bindT h
    simp [g0, g1, g7, g8, hb0, ex3, ey4a, ey4b, ey4c, ex5, ex6]
    refine ih x6 _ ?_ h
    exact ⟨_, _, by simp [hw], rfl, by simp [g0, g1, g7, g8, hb0, ex3, ey4a, ey4b, ey4c, ex5, ex6]⟩
def f69_L0 (F : Nat) (p0 : List Int) (K : Int → Option (Int)) : Nat → Int × Int → Option (Int)
  | 0, _ => none
  | n + 1, (v4, v5) => (some ((p0.length : Int))).bind fun x6 =>
    (some (decide (v5 < x6))).bind fun x7 =>
    (match x7 with
    | true => ((gI p0 v5).bind fun y8 =>
    (some (max v4 y8)).bind fun x9 =>
    (some (IntKind.i64.wrap (v5 + 1))).bind fun x10 =>
    f69_L0 F p0 K n (x9, x10))
    | false => (K v4))
def f69S (F : Nat) (p0 : List Int) : Option (Int) :=
  (some ((p0.length : Int))).bind fun x1 =>
  (some (decide (x1 < 1))).bind fun x2 =>
  (match x2 with
  | true => (none)
  | false => ((gI p0 0).bind fun y3 =>
  f69_L0 F p0 (fun v11 =>
    some v11) F (y3, 1)))
theorem f69_is {a0 : Bool} {c0 : Ck} {p0 : List Int} {hp : List (Option (List PV))} {F : Nat} {r : (Int)}  (h : f69S F p0 = some r) :
    E Tryd.prog Y0 69 [.l (ak a0) c0 p0.length (p0.map iv)] hp = some (iv r, hp, none) := by
  rw [E_bodyN 1 body69 rfl (by decide) rfl]
  simp only [Tryd.f69, Option.get_some]
  unfold f69S at h
  obtain ⟨x1, ex1, h⟩ := bindT h
  obtain ⟨x2, ex2, h⟩ := bindT h
  cases x2
  case true =>
   cases h
  obtain ⟨y3, ey3, h⟩ := bind_ok h
  obtain ⟨ey3a, ey3b, ey3c⟩ := gI_lit (k := 0) rfl ey3
  have ey3a : ∀ j, intIn p0.length (.int j 0) = some 0 := ey3a
  simp [ex1, ex2, ey3a, ey3b, ey3c]
  have hL0 := h; clear h
  refine loopS (S := f69_L0 F p0) (fun (v4, v5) σ => ∃ (ts : Tr PV) (w : Option Nat), wok hp.length w ∧ σ = ⟨[], ts, hp, w⟩ ∧ ts.get 0 = some (.l (ak a0) c0 p0.length (p0.map iv)) ∧ ts.get 3 = some (iv v4) ∧ ts.get 4 = some (iv v5) ∧ True) (fun v11 σ => ∃ (ts : Tr PV) (w : Option Nat), wok hp.length w ∧ σ = ⟨[], ts, hp, w⟩ ∧ ts.get 3 = some (iv v11) ∧ True) (fun _ => rfl) hL0 ?_ ?_ ?_
  · exact ⟨_, _, by simp, rfl, by simp [ex1, ex2, ey3a, ey3b, ey3c]⟩
  · rintro v11 σ ⟨ts, w, hw, rfl, g3, -⟩ h
    clear hL0
    try dsimp only at h
    obtain rfl := inj_ok h
    simp [g3, hw]
  · rintro k n ⟨v4, v5⟩ σ ⟨ts, w, hw, rfl, g0, g3, g4, -⟩ h ih ex
    clear hL0
    rw [f69_L0] at h
    obtain ⟨x6, ex6, h⟩ := bindT h
    obtain ⟨x7, ex7, h⟩ := bindT h
    cases x7
    case false =>
     simp [g0, g3, g4, ex6, ex7]
     refine ex v4 _ ?_ h
     exact ⟨_, _, by simp [hw], rfl, by simp [g0, g3, g4, ex6, ex7]⟩
    obtain ⟨y8, ey8, h⟩ := bind_ok h
    obtain ⟨ey8a, ey8e, ey8b, ey8c, ey8g⟩ := gI_ok rfl ey8
    obtain ⟨x9, ex9, h⟩ := bindT h
    obtain ⟨x10, ex10, h⟩ := bindT h
    simp [g0, g3, g4, ex6, ex7, ey8a, ey8b, ey8c, ex9, ex10]
    refine ih (x9, x10) _ ?_ h
    exact ⟨_, _, by simp [hw], rfl, by simp [g0, g3, g4, ex6, ex7, ey8a, ey8b, ey8c, ex9, ex10]⟩
def f49S (F : Nat) (p0 : Int) : Option (Int) :=
  (some (IntKind.i64.wrap (-p0))).bind fun x1 =>
  (some (andI .i64 p0 x1)).bind fun x2 =>
  some x2
theorem f49_is {p0 : Int} {hp : List (Option (List PV))} {F : Nat} {r : (Int)}  (h : f49S F p0 = some r) :
    E Tryd.prog Y0 49 [iv p0] hp = some (iv r, hp, none) := by
  rw [E_bodyN 1 body49 rfl (by decide) rfl]
  simp only [Tryd.f49, Option.get_some]
  unfold f49S at h
  obtain ⟨x1, ex1, h⟩ := bindT h
  obtain ⟨x2, ex2, h⟩ := bindT h
  obtain rfl := inj_ok h
  simp [ex1, ex2]
def f63S (F : Nat) (p0 : List UInt8) : Option (Int) :=
  (some (lettersE p0 63 118 104)).bind fun x1 =>
  (some (decide (x1 = 0))).bind fun x3 =>
  (match x3 with
  | true => ((some ((p0.length : Int))).bind fun x4 =>
  (some (IntKind.i64.wrap (x4 + 1))).bind fun x5 =>
  (f65S F x5).bind fun x6 =>
  (some (decide (x6 < 0))).bind fun x8 =>
  (match x8 with
  | true => (some 5)
  | false => (some x1)))
  | false => (some x1))
end Go.Proofs.YtcjephdjemapbaaDoor
