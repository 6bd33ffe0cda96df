/-
  the chapter's examples
  Printed by wip/tools/walk.py. Conditions: none; definitions and lemmas.
-/
import Derived.Test.YtcdhajbhpnbdkaaDoorAdapt2
import Derived.Test.YtcdhajbhpnbdkaaDoorBounds1
import Derived.Test.YtcdhajbhpnbdkaaDoorWhyS
set_option linter.unusedSimpArgs false
set_option linter.unusedVariables false
namespace Go.Proofs.YtcdhajbhpnbdkaaDoor
open Go.Abs Go.Pur
set_option maxRecDepth 100000
set_option maxHeartbeats 2000000
attribute [local simp] EK_region EK_seq EK_cond EK_block EK_blk EK_loop EK_exit EK.ex EK_ret EK_skip EK_nil EO_cons EO_nil EO1_true EO1_false EO2_some EO3_some EB_true EB_false pwanted poper pq pev Go.Pur.look pputT isAssign drOf pinit Tr.get_set lget pvOf_int pvOf_bool pvOf_str pvOf_nil rdv_ak notOwn_ak prt_ak loose_ak rdv_own rdv_fz rdv_bor rdv_rf rdv_pt rdv_v rdv_a rdv_t rdv_r rdv_p rdv_s rdv_f pbin plen pload ppart idxAddr pcond Nat.blt goInt_eq prun_not prun_neg mayLoad ER_ret ER_normal presL presOne moved stor okDrop settle_v settle_l settle_a settle_p settle_f noref_v noref_fz noref_a norefs_nil norefs_cons pclose given dropB Y0_keep pevParts stors pvCells pvCells.go vcells pfill reps zipParts ownFz pcells cellOK one psrcLen srcFits psrc takeP pgrow take getPl setPl mapL plEq elder isList lowP pevs frzs addP partAt ble_lim24 killV_v killV_a killV_t killV_f killV_i killV_p killV_s killV_un killV_dead killV_lfz killV_lbor killV_lown killV_rfz killV_rbor killV_lak killV_rak frzV_v frzV_a frzV_t frzV_f frzV_i frzV_p frzV_s frzV_un frzV_dead frzV_lfz frzV_lbor frzV_lown frzV_rfz frzV_rbor frzV_lak frzV_rak killCell_v killCell_a killCell_t killCell_f killCell_i killCell_p killCell_s killCell_un killCell_dead killCell_lfz killCell_lbor killCell_lown killCell_rfz killCell_rbor killCell_lak killCell_rak killV_lrf killV_lpt killV_rpt frzV_lrf frzV_lpt frzV_rpt killCell_lrft killCell_lptt killCell_rptt killCell_lrfc killCell_lptc killCell_rptc argv_lak argv_rak argv_v argv_a argv_p argv_f argv_fz argv_bor argv_rf argv_pt argv_rc argv_own mayTurn_none argvs pcallOp firm refsTo_v refsTo_l refsTo_p refsTo_s refsTo_a refsTo_dead refsTo_nil refsTo_cons isOwn_lak ownFz_lak evSafe pskip plain pnewBlk fldAddr isOwn pput notOwn_fz notOwn_bor notOwn_own notOwn_rf notOwn_pt prt_fz prt_bor prt_own prt_rf prt_pt Go.Pur.freeze presM settles abin_and abin_or abin_andNot abin_mul abin_shr abin_shl abin_add abin_sub abin_eql abin_neq abin_lss abin_leq abin_gtr abin_geq hows pcallIn Y0_how Y0_part howOf partOf rdv_mown rdv_mfz rdv_mbor rdv_mrf killV_mown killV_mfz killV_mbor killV_mrf frzV_mown frzV_mfz frzV_mbor frzV_mrf killCell_mown killCell_mfz killCell_mbor killCell_mrf argv_mfz argv_mbor argv_mrf settle_m kls_v kls_l kls_a kls_t kls_r kls_p kls_s kls_f kls_i kls_it kls_un kls_dead kls_mown kls_mrf kls_mbor kls_mfz fzOf takable mapHere mapOwn mapTo flat toPlain toPlain.go ofFlat ofPair mapEs plook lookRes Y0_mv mvOf mvBlk premv keep18 keep23 keep56 keep57 keep58 keep59 keep60 sz3 by3 row3 zero3 sz4 by4 row4 zero4 sz5 by5 row5 zero5 sz9 by9 row9 shape9 zero9 sz22 by22 row22 shape22 zero22 sz24 by24 row24 zero24 parts24 field24_0 field24_1 sz27 by27 row27 zero27 parts27 field27_0 field27_1 sz28 by28 row28 zero28 sz32 by32 row32 shape32 zero32 sz46 by46 row46 shape46 zero46 sz54 by54 row54 shape54 zero54 parts54 sz56 by56 row56 zero56 parts56 field56_0 field56_1 field56_2 sz63 by63 row63 shape63 zero63 parts63 sz70 by70 row70 shape70 zero70 parts70 sz75 by75 row75 shape75 zero75 parts75 sz79 by79 row79 zero79 sz84 by84 row84 zero84 sz86 by86 row86 shape86 zero86 sz91 by91 row91 zero91 sz93 by93 row93 zero93 parts93 field93_0 sz97 by97 row97 zero97 sz100 by100 row100 zero100 sz102 by102 row102 zero102 sz105 by105 row105 zero105 parts105 field105_0 field105_1 field105_2 sz106 by106 row106 zero106 sz108 by108 row108 zero108 parts108 field108_0 field108_1 sz109 by109 row109 shape109 zero109 parts109 sz110 by110 row110 shape110 parts110 sz112 by112 row112 parts112 field112_0 field112_1 sz126 by126 row126 shape126 zero126 sz127 by127 row127 zero127 sz134 by134 row134 zero134 sz136 by136 row136 zero136 sz140 by140 row140 zero140 sz147 by147 row147 shape147 zero147 parts147 sz148 by148 row148 shape148 zero148 parts148 sz149 by149 row149 zero149 sz153 by153 row153 zero153 bs_size gAt gAt0 sAt sAt0 optPlain rows_len noMaker_eq kindOf vlOf abin_rem abin_quo mayTurn_none lowOf_none Go.Pur.partAt rows_nil rows_cons ble_add ble_add0 ble_same toPlain toPlain.go intIn2_0 intIn2_1 ble12 ble22 tv lv max_int min_int pplains ak_true ak_false apartP beq_add beq_add0 beq_add1 argv_s wok_none wok_low_iff lowOf_wok
attribute [local simp] ble_addc
def f23_L0 (F : Nat) (p0 : List (Ck × List Int)) (p1 : List (Ck × List Int)) (K : Unit → Option (Bool)) : Nat → Int → Option (Bool)
  | 0, _ => none
  | n + 1, v4 => (some ((p0.length : Int))).bind fun x5 =>
    (some (decide (v4 < x5))).bind fun x6 =>
    (match x6 with
    | true => ((gI p0 v4).bind fun y7 =>
    (gI p1 v4).bind fun y8 =>
    (onS y7.2 (decide (y7.2 = y8.2))).bind fun x9 =>
    (match x9 with
    | true => ((some (IntKind.i64.wrap (v4 + 1))).bind fun x10 =>
    f23_L0 F p0 p1 K n x10)
    | false => (some false)))
    | false => (K ()))
def f23S (F : Nat) (p0 : List (Ck × List Int)) (p1 : List (Ck × List Int)) : Option (Bool) :=
  (some ((p0.length : Int))).bind fun x1 =>
  (some ((p1.length : Int))).bind fun x2 =>
  (some (decide (x1 = x2))).bind fun x3 =>
  (match x3 with
  | true => (f23_L0 F p0 p1 (fun _ =>
    some true) F 0)
  | false => (some false))
theorem f23_is {a0 : Bool} {c0 : Ck} {p0 : List (Ck × List Int)} {a1 : Bool} {c1 : Ck} {p1 : List (Ck × List Int)} {hp : List (Option (List PV))} {F : Nat} {r : (Bool)}  (h : f23S F p0 p1 = some r) :
    E Tryd.prog Y0 23 [.l (ak a0) c0 p0.length (p0.map lv), .l (ak a1) c1 p1.length (p1.map lv)] hp = some (.v (.bool r), hp, none) := by
  rw [E_bodyN 2 body23 rfl (by decide) rfl]
  simp only [Tryd.f23, Option.get_some]
  unfold f23S at h
  obtain ⟨x1, ex1, h⟩ := bindT h
  obtain ⟨x2, ex2, h⟩ := bindT h
  obtain ⟨x3, ex3, h⟩ := bindT h
  cases x3
  case false =>
   obtain rfl := inj_ok h
   simp [ex1, ex2, ex3]
  simp [ex1, ex2, ex3]
  have hL0 := h; clear h
  refine loopS (S := f23_L0 F p0 p1) (fun v4 σ => ∃ (ts : Tr PV) (w : Option Nat), wok hp.length w ∧ σ = ⟨[], ts, hp, w⟩ ∧ ts.get 0 = some (.l (ak a0) c0 p0.length (p0.map lv)) ∧ ts.get 1 = some (.l (ak a1) c1 p1.length (p1.map lv)) ∧ ts.get 5 = some (iv v4) ∧ True) (fun _ σ => ∃ (ts : Tr PV) (w : Option Nat), wok hp.length w ∧ σ = ⟨[], ts, hp, w⟩ ∧ True) (fun _ => rfl) hL0 ?_ ?_ ?_
  · exact ⟨_, _, by simp, rfl, by simp [ex1, ex2, ex3]⟩
  · rintro ⟨⟩ σ ⟨ts, w, hw, rfl, -⟩ h
    clear hL0
    try dsimp only at h
    obtain rfl := inj_ok h
    simp [hw]
  · rintro k n v4 σ ⟨ts, w, hw, rfl, g0, g1, g5, -⟩ h ih ex
    clear hL0
    rw [f23_L0] at h
    obtain ⟨x5, ex5, h⟩ := bindT h
    obtain ⟨x6, ex6, h⟩ := bindT h
    cases x6
    case false =>
     simp [g0, g1, g5, ex5, ex6]
     refine ex () _ ?_ h
     exact ⟨_, _, by simp [hw], rfl, by simp [g0, g1, g5, ex5, ex6]⟩
    obtain ⟨y7, ey7, h⟩ := bind_ok h
    obtain ⟨ey7a, ey7e, ey7b, ey7c, ey7g⟩ := gI_ok rfl ey7
    obtain ⟨y8, ey8, h⟩ := bind_ok h
    obtain ⟨ey8a, ey8e, ey8b, ey8c, ey8g⟩ := gI_ok rfl ey8
    obtain ⟨x9, ex9, h⟩ := bind_ok h
    have ex9 : ∀ hp, E Tryd.prog Y0 32 [.l .fz y7.1 y7.2.length (y7.2.map iv), .l .fz y8.1 y8.2.length (y8.2.map iv)] hp = some (.v (.bool x9), hp, none) := fun hp => f32_is (a0 := false) (c0 := y7.1) (a1 := false) (c1 := y8.1) ex9
    cases x9
    case false =>
     obtain rfl := inj_ok h
     simp [g0, g1, g5, ex5, ex6, ey7a, ey7b, ey7c, lv, ey8a, ey8b, ey8c, ex9, hw]
    obtain ⟨x10, ex10, h⟩ := bindT h
    simp [g0, g1, g5, ex5, ex6, ey7a, ey7b, ey7c, lv, ey8a, ey8b, ey8c, ex9, ex10]
    refine ih x10 _ ?_ h
    exact ⟨_, _, by simp [hw], rfl, by simp [g0, g1, g5, ex5, ex6, ey7a, ey7b, ey7c, lv, ey8a, ey8b, ey8c, ex9, ex10]⟩
def f60S (F : Nat) (p0 : Int) (c1 : Ck) (p1 : List Int) : Option ((Int × (Ck × List Int))) :=
  some (p0, (c1, p1))
theorem f60_is {p0 : Int} {c1 : Ck} {p1 : List Int} {hp : List (Option (List PV))} {F : Nat} {r : ((Int × (Ck × List Int)))}  (h : f60S F p0 c1 p1 = some r) :
    E Tryd.prog Y0 60 [iv p0, .l .fz c1 p1.length (p1.map iv)] hp = some (.a [iv r.1, .l .fz r.2.1 r.2.2.length (r.2.2.map iv)], hp, none) := by
  rw [E_bodyN 2 body60 rfl (by decide) rfl]
  simp only [Tryd.f60, Option.get_some]
  unfold f60S at h
  have q1 : spliceP 0 [iv p0, .l .fz c1 p1.length (p1.map iv)] [iv 0, .l .own .nz 0 []] = some [iv p0, .l .fz c1 p1.length (p1.map iv)] := rfl
  obtain rfl := inj_ok h
  simp [q1]
def f59S (F : Nat) (c0 : Ck) (p0 : List Int) : Option ((Ck × List Int)) :=
  some (c0, p0)
theorem f59_is {c0 : Ck} {p0 : List Int} {hp : List (Option (List PV))} {F : Nat} {r : ((Ck × List Int))}  (h : f59S F c0 p0 = some r) :
    E Tryd.prog Y0 59 [.l .fz c0 p0.length (p0.map iv)] hp = some (.l .fz r.1 r.2.length (r.2.map iv), hp, none) := by
  rw [E_bodyN 1 body59 rfl (by decide) rfl]
  simp only [Tryd.f59, Option.get_some]
  unfold f59S at h
  obtain rfl := inj_ok h
  simp
def f58S (F : Nat) : Option ((Int × (Ck × List Int))) :=
  (f60S F 2 .full [0, 1, 2, 0, 1]).bind fun (x1, (c2, l3)) =>
  some (x1, (c2, l3))
theorem f58_is  {hp : List (Option (List PV))} {F : Nat} {r : ((Int × (Ck × List Int)))}  (h : f58S F  = some r) :
    E Tryd.prog Y0 58 [] hp = some (.a [iv r.1, .l .fz r.2.1 r.2.2.length (r.2.2.map iv)], hp, none) := by
  rw [E_bodyN 0 body58 rfl (by decide) rfl]
  simp only [Tryd.f58, Option.get_some]
  unfold f58S at h
  obtain ⟨⟨x1, ⟨c2, l3⟩⟩, e4, h⟩ := bind_ok h
  try dsimp only at h
  have e4 : ∀ hp, E Tryd.prog Y0 60 [iv 2, .l .fz .full 5 [iv 0, iv 1, iv 2, iv 0, iv 1]] hp = some (.a [iv x1, .l .fz c2 l3.length (l3.map iv)], hp, none) := fun hp => f60_is (c1 := .full) e4
  have q5 : spliceP 0 [iv x1, .l .fz c2 l3.length (l3.map iv)] [iv 0, .l .own .nz 0 []] = some [iv x1, .l .fz c2 l3.length (l3.map iv)] := rfl
  obtain rfl := inj_ok h
  simp [e4, q5]
def f18S (F : Nat) : Option (Bool) :=
  (f58S F ).bind fun (x1, (c2, l3)) =>
  (onS l3 (fewS x1 l3, chk x1 l3)).bind fun x5 =>
  (onS l3 (refPlan true false x1 l3, chk x1 l3)).bind fun x6 =>
  (onS l3 (firS x1 l3, chk x1 l3)).bind fun x7 =>
  (onS l3 (cntS x1 l3, chk x1 l3)).bind fun x8 =>
  ((onS l3 (onS x6.1 (floorsOf x1 l3 x6.1).2)).bind id).bind fun x9 =>
  (onS l3 (refPlan false false x1 l3, chk x1 l3)).bind fun x10 =>
  (onS l3 (refPlan false true x1 l3, chk x1 l3)).bind fun x11 =>
  (some (decide (x5.2 = 0))).bind fun x12 =>
  (match x12 with
  | true => ((some (decide (x6.2 = 0))).bind fun x13 =>
  (match x13 with
  | true => ((some (decide (x7.2 = 0))).bind fun x14 =>
  (match x14 with
  | true => ((some (decide (x8.2 = 0))).bind fun x15 =>
  (match x15 with
  | true => ((some (decide (x9.2 = 0))).bind fun x16 =>
  (match x16 with
  | true => ((some (decide (x10.2 = 0))).bind fun x17 =>
  (match x17 with
  | true => ((some (decide (x11.2 = 0))).bind fun x18 =>
  (match x18 with
  | true => (((onS l3 (onS x6.1 (standL (floorsOf x1 l3 x6.1).1, (floorsOf x1 l3 x6.1).2.2))).bind id).bind fun x19 =>
  (f39S F x1 l3).bind fun ((c20, l21), x22) =>
  (f59S F .full [2]).bind fun (c24, l25) =>
  (f41S F x1 l3 l25).bind fun (x27, x28) =>
  (f43S F x1 l3).bind fun ((c30, l31), x32) =>
  (f59S F .full [(-1), (-1), (-1), (-1), 0]).bind fun (c34, l35) =>
  ((onS l3 (onS l35 (floorsOf x1 l3 l35).2)).bind id).bind fun x37 =>
  (f59S F .full [(-1), 0, 1, (-1), 0]).bind fun (c38, l39) =>
  ((onS l3 (onS l39 (floorsOf x1 l3 l39).2)).bind id).bind fun x41 =>
  (some (decide (x19.2 = 0))).bind fun x42 =>
  (match x42 with
  | true => ((some (decide (x22 = 0))).bind fun x43 =>
  (match x43 with
  | true => ((some (decide (x28 = 0))).bind fun x44 =>
  (match x44 with
  | true => ((some (decide (x32 = 0))).bind fun x45 =>
  (match x45 with
  | true => ((some (decide (x37.2 = 2))).bind fun x46 =>
  (match x46 with
  | true => ((some (decide (x41.2 = 15))).bind fun x47 =>
  (match x47 with
  | true => ((some (decide (x5.1 = 4))).bind fun x48 =>
  (match x48 with
  | true => ((f59S F .full [(-1), (-1), 1, (-1), 0]).bind fun (c49, l50) =>
  (onS x6.1 (decide (x6.1 = l50))).bind fun x52 =>
  (match x52 with
  | true => ((f59S F .full [(-1), (-1), 0, 2, (-1)]).bind fun (c53, l54) =>
  (onS x7.1 (decide (x7.1 = l54))).bind fun x56 =>
  (match x56 with
  | true => ((some (decide (x8.1 = 3))).bind fun x57 =>
  (match x57 with
  | true => ((some (decide (x9.1 = 4))).bind fun x58 =>
  (match x58 with
  | true => ((f59S F .full [(-1), (-1), 0, 1, 2]).bind fun (c59, l60) =>
  (onS x10.1 (decide (x10.1 = l60))).bind fun x62 =>
  (match x62 with
  | true => ((onS x11.1 (decide (x11.1 = x10.1))).bind fun x63 =>
  (match x63 with
  | true => ((f23S F x19.1 [(.full, [0]), (.full, [0, 1]), (.full, [0, 2]), (.full, [0, 2]), (.full, [1, 2])]).bind fun b64 =>
  (match b64 with
  | true => ((f45S F l21 [(0, 3), (1, 4)]).bind fun b66 =>
  (match b66 with
  | true => ((some (decide (x27 = 4))).bind fun x68 =>
  (match x68 with
  | true => ((onS l31 (decide (l31 = l25))).bind fun x69 =>
  (match x69 with
  | true => ((f46S F x1 l3 4 l25).bind fun x70 =>
  (some (decide (x70 = 0))).bind fun x72 =>
  (match x72 with
  | true => ((f46S F x1 l3 5 l25).bind fun x73 =>
  (some (decide (x73 = 14))).bind fun x75 =>
  some x75)
  | false => (some false)))
  | false => (some false)))
  | false => (some false)))
  | false => (some false)))
  | false => (some false)))
  | false => (some false)))
  | false => (some false)))
  | false => (some false)))
  | false => (some false)))
  | false => (some false)))
  | false => (some false)))
  | false => (some false)))
  | false => (some false)))
  | false => (some false)))
  | false => (some false)))
  | false => (some false)))
  | false => (some false)))
  | false => (some false)))
  | false => (some false)))
  | false => (some false)))
  | false => (some false)))
  | false => (some false)))
  | false => (some false)))
  | false => (some false)))
  | false => (some false))
theorem f18_is  {hp : List (Option (List PV))} {F : Nat} {r : (Bool)}  (h : f18S F  = some r) :
    E Tryd.prog Y0 18 [] hp = some (.v (.bool r), hp, none) := by
  rw [E_bodyN 0 body18 rfl (by decide) rfl]
  simp only [Tryd.f18, Option.get_some]
  unfold f18S at h
  obtain ⟨⟨x1, ⟨c2, l3⟩⟩, e4, h⟩ := bind_ok h
  try dsimp only at h
  have e4 : ∀ hp, E Tryd.prog Y0 58 [] hp = some (.a [iv x1, .l .fz c2 l3.length (l3.map iv)], hp, none) := fun hp => f58_is  e4
  obtain ⟨x5, ex5, h⟩ := bind_ok h
  have ex5 : ∀ hp, E Tryd.prog Y0 33 [.a [iv x1, .l .fz c2 l3.length (l3.map iv)]] hp = some (.t [iv x5.1, iv x5.2], hp, none) := fun hp => f33_is ex5
  obtain ⟨x6, ex6, h⟩ := bind_ok h
  have ex6 : ∀ hp, E Tryd.prog Y0 26 [.a [iv x1, .l .fz c2 l3.length (l3.map iv)]] hp = some (.t [.l .fz .nz x6.1.length (x6.1.map iv), iv x6.2], hp, none) := fun hp => f26_is ex6
  obtain ⟨x7, ex7, h⟩ := bind_ok h
  have ex7 : ∀ hp, E Tryd.prog Y0 35 [.a [iv x1, .l .fz c2 l3.length (l3.map iv)]] hp = some (.t [.l .fz .nz x7.1.length (x7.1.map iv), iv x7.2], hp, none) := fun hp => f35_is ex7
  obtain ⟨x8, ex8, h⟩ := bind_ok h
  have ex8 : ∀ hp, E Tryd.prog Y0 37 [.a [iv x1, .l .fz c2 l3.length (l3.map iv)]] hp = some (.t [iv x8.1, iv x8.2], hp, none) := fun hp => f37_is ex8
  obtain ⟨x9, ex9, h⟩ := bind_ok h
  have ex9 : ∀ hp, E Tryd.prog Y0 19 [.a [iv x1, .l .fz c2 l3.length (l3.map iv)], .l .fz .nz x6.1.length (x6.1.map iv)] hp = some (.t [iv x9.1, iv x9.2], hp, none) := fun hp => f19_is (a1 := false) (c1 := .nz) ex9
  obtain ⟨x10, ex10, h⟩ := bind_ok h
  have ex10 : ∀ hp, E Tryd.prog Y0 28 [.a [iv x1, .l .fz c2 l3.length (l3.map iv)]] hp = some (.t [.l .fz .nz x10.1.length (x10.1.map iv), iv x10.2], hp, none) := fun hp => f28_is ex10
  obtain ⟨x11, ex11, h⟩ := bind_ok h
  have ex11 : ∀ hp, E Tryd.prog Y0 30 [.a [iv x1, .l .fz c2 l3.length (l3.map iv)]] hp = some (.t [.l .fz .nz x11.1.length (x11.1.map iv), iv x11.2], hp, none) := fun hp => f30_is ex11
  obtain ⟨x12, ex12, h⟩ := bindT h
  cases x12
  case false =>
   obtain rfl := inj_ok h
   simp [e4, ex5, ex6, ex7, ex8, ex9, ex10, ex11, ex12]
  obtain ⟨x13, ex13, h⟩ := bindT h
  cases x13
  case false =>
   obtain rfl := inj_ok h
   simp [e4, ex5, ex6, ex7, ex8, ex9, ex10, ex11, ex12, ex13]
  obtain ⟨x14, ex14, h⟩ := bindT h
  cases x14
  case false =>
   obtain rfl := inj_ok h
   simp [e4, ex5, ex6, ex7, ex8, ex9, ex10, ex11, ex12, ex13, ex14]
  obtain ⟨x15, ex15, h⟩ := bindT h
  cases x15
  case false =>
   obtain rfl := inj_ok h
   simp [e4, ex5, ex6, ex7, ex8, ex9, ex10, ex11, ex12, ex13, ex14, ex15]
  obtain ⟨x16, ex16, h⟩ := bindT h
  cases x16
  case false =>
   obtain rfl := inj_ok h
   simp [e4, ex5, ex6, ex7, ex8, ex9, ex10, ex11, ex12, ex13, ex14, ex15, ex16]
  obtain ⟨x17, ex17, h⟩ := bindT h
  cases x17
  case false =>
   obtain rfl := inj_ok h
   simp [e4, ex5, ex6, ex7, ex8, ex9, ex10, ex11, ex12, ex13, ex14, ex15, ex16, ex17]
  obtain ⟨x18, ex18, h⟩ := bindT h
  cases x18
  case false =>
   obtain rfl := inj_ok h
   simp [e4, ex5, ex6, ex7, ex8, ex9, ex10, ex11, ex12, ex13, ex14, ex15, ex16, ex17, ex18]
  obtain ⟨x19, ex19, h⟩ := bind_ok h
  have ex19 : ∀ hp, E Tryd.prog Y0 21 [.a [iv x1, .l .fz c2 l3.length (l3.map iv)], .l .fz .nz x6.1.length (x6.1.map iv)] hp = some (.t [.l .fz .nz x19.1.length (x19.1.map lv), iv x19.2], hp, none) := fun hp => f21_is (a1 := false) (c1 := .nz) ex19
  obtain ⟨⟨⟨c20, l21⟩, x22⟩, e23, h⟩ := bind_ok h
  try dsimp only at h
  have e23 : ∀ hp, E Tryd.prog Y0 39 [.a [iv x1, .l .fz c2 l3.length (l3.map iv)]] hp = some (.t [.l .fz c20 l21.length (rows l21), iv x22], hp, none) := fun hp => f39_is (c0b := c2) e23
  obtain ⟨⟨c24, l25⟩, e26, h⟩ := bind_ok h
  try dsimp only at h
  have e26 : ∀ hp, E Tryd.prog Y0 59 [.l .fz .full 1 [iv 2]] hp = some (.l .fz c24 l25.length (l25.map iv), hp, none) := fun hp => f59_is (c0 := .full) e26
  obtain ⟨⟨x27, x28⟩, e29, h⟩ := bind_ok h
  try dsimp only at h
  have e29 : ∀ hp, E Tryd.prog Y0 41 [.a [iv x1, .l .fz c2 l3.length (l3.map iv)], .l .fz c24 l25.length (l25.map iv)] hp = some (.t [iv x27, iv x28], hp, none) := fun hp => f41_is (c0b := c2) (a1 := false) (c1 := c24) e29
  obtain ⟨⟨⟨c30, l31⟩, x32⟩, e33, h⟩ := bind_ok h
  try dsimp only at h
  have e33 : ∀ hp, E Tryd.prog Y0 43 [.a [iv x1, .l .fz c2 l3.length (l3.map iv)]] hp = some (.t [.l .fz c30 l31.length (l31.map iv), iv x32], hp, none) := fun hp => f43_is (c0b := c2) e33
  obtain ⟨⟨c34, l35⟩, e36, h⟩ := bind_ok h
  try dsimp only at h
  have e36 : ∀ hp, E Tryd.prog Y0 59 [.l .fz .full 5 [iv (-1), iv (-1), iv (-1), iv (-1), iv 0]] hp = some (.l .fz c34 l35.length (l35.map iv), hp, none) := fun hp => f59_is (c0 := .full) e36
  obtain ⟨x37, ex37, h⟩ := bind_ok h
  have ex37 : ∀ hp, E Tryd.prog Y0 19 [.a [iv x1, .l .fz c2 l3.length (l3.map iv)], .l .fz c34 l35.length (l35.map iv)] hp = some (.t [iv x37.1, iv x37.2], hp, none) := fun hp => f19_is (a1 := false) (c1 := c34) ex37
  obtain ⟨⟨c38, l39⟩, e40, h⟩ := bind_ok h
  try dsimp only at h
  have e40 : ∀ hp, E Tryd.prog Y0 59 [.l .fz .full 5 [iv (-1), iv 0, iv 1, iv (-1), iv 0]] hp = some (.l .fz c38 l39.length (l39.map iv), hp, none) := fun hp => f59_is (c0 := .full) e40
  obtain ⟨x41, ex41, h⟩ := bind_ok h
  have ex41 : ∀ hp, E Tryd.prog Y0 19 [.a [iv x1, .l .fz c2 l3.length (l3.map iv)], .l .fz c38 l39.length (l39.map iv)] hp = some (.t [iv x41.1, iv x41.2], hp, none) := fun hp => f19_is (a1 := false) (c1 := c38) ex41
  obtain ⟨x42, ex42, h⟩ := bindT h
  cases x42
  case false =>
   obtain rfl := inj_ok h
   simp [e4, ex5, ex6, ex7, ex8, ex9, ex10, ex11, ex12, ex13, ex14, ex15, ex16, ex17, ex18, ex19, e23, e26, e29, e33, e36, ex37, e40, ex41, ex42]
  obtain ⟨x43, ex43, h⟩ := bindT h
  cases x43
  case false =>
   obtain rfl := inj_ok h
   simp [e4, ex5, ex6, ex7, ex8, ex9, ex10, ex11, ex12, ex13, ex14, ex15, ex16, ex17, ex18, ex19, e23, e26, e29, e33, e36, ex37, e40, ex41, ex42, ex43]
  obtain ⟨x44, ex44, h⟩ := bindT h
  cases x44
  case false =>
   obtain rfl := inj_ok h
   simp [e4, ex5, ex6, ex7, ex8, ex9, ex10, ex11, ex12, ex13, ex14, ex15, ex16, ex17, ex18, ex19, e23, e26, e29, e33, e36, ex37, e40, ex41, ex42, ex43, ex44]
  obtain ⟨x45, ex45, h⟩ := bindT h
  cases x45
  case false =>
   obtain rfl := inj_ok h
   simp [e4, ex5, ex6, ex7, ex8, ex9, ex10, ex11, ex12, ex13, ex14, ex15, ex16, ex17, ex18, ex19, e23, e26, e29, e33, e36, ex37, e40, ex41, ex42, ex43, ex44, ex45]
  obtain ⟨x46, ex46, h⟩ := bindT h
  cases x46
  case false =>
   obtain rfl := inj_ok h
   simp [e4, ex5, ex6, ex7, ex8, ex9, ex10, ex11, ex12, ex13, ex14, ex15, ex16, ex17, ex18, ex19, e23, e26, e29, e33, e36, ex37, e40, ex41, ex42, ex43, ex44, ex45, ex46]
  obtain ⟨x47, ex47, h⟩ := bindT h
  cases x47
  case false =>
   obtain rfl := inj_ok h
   simp [e4, ex5, ex6, ex7, ex8, ex9, ex10, ex11, ex12, ex13, ex14, ex15, ex16, ex17, ex18, ex19, e23, e26, e29, e33, e36, ex37, e40, ex41, ex42, ex43, ex44, ex45, ex46, ex47]
  obtain ⟨x48, ex48, h⟩ := bindT h
  cases x48
  case false =>
   obtain rfl := inj_ok h
   simp [e4, ex5, ex6, ex7, ex8, ex9, ex10, ex11, ex12, ex13, ex14, ex15, ex16, ex17, ex18, ex19, e23, e26, e29, e33, e36, ex37, e40, ex41, ex42, ex43, ex44, ex45, ex46, ex47, ex48]
  obtain ⟨⟨c49, l50⟩, e51, h⟩ := bind_ok h
  try dsimp only at h
  have e51 : ∀ hp, E Tryd.prog Y0 59 [.l .fz .full 5 [iv (-1), iv (-1), iv 1, iv (-1), iv 0]] hp = some (.l .fz c49 l50.length (l50.map iv), hp, none) := fun hp => f59_is (c0 := .full) e51
  obtain ⟨x52, ex52, h⟩ := bind_ok h
  have ex52 : ∀ hp, E Tryd.prog Y0 32 [.l .fz .nz x6.1.length (x6.1.map iv), .l .fz c49 l50.length (l50.map iv)] hp = some (.v (.bool x52), hp, none) := fun hp => f32_is (a0 := false) (c0 := .nz) (a1 := false) (c1 := c49) ex52
  cases x52
  case false =>
   obtain rfl := inj_ok h
   simp [e4, ex5, ex6, ex7, ex8, ex9, ex10, ex11, ex12, ex13, ex14, ex15, ex16, ex17, ex18, ex19, e23, e26, e29, e33, e36, ex37, e40, ex41, ex42, ex43, ex44, ex45, ex46, ex47, ex48, e51, ex52]
  obtain ⟨⟨c53, l54⟩, e55, h⟩ := bind_ok h
  try dsimp only at h
  have e55 : ∀ hp, E Tryd.prog Y0 59 [.l .fz .full 5 [iv (-1), iv (-1), iv 0, iv 2, iv (-1)]] hp = some (.l .fz c53 l54.length (l54.map iv), hp, none) := fun hp => f59_is (c0 := .full) e55
  obtain ⟨x56, ex56, h⟩ := bind_ok h
  have ex56 : ∀ hp, E Tryd.prog Y0 32 [.l .fz .nz x7.1.length (x7.1.map iv), .l .fz c53 l54.length (l54.map iv)] hp = some (.v (.bool x56), hp, none) := fun hp => f32_is (a0 := false) (c0 := .nz) (a1 := false) (c1 := c53) ex56
  cases x56
  case false =>
   obtain rfl := inj_ok h
   simp [e4, ex5, ex6, ex7, ex8, ex9, ex10, ex11, ex12, ex13, ex14, ex15, ex16, ex17, ex18, ex19, e23, e26, e29, e33, e36, ex37, e40, ex41, ex42, ex43, ex44, ex45, ex46, ex47, ex48, e51, ex52, e55, ex56]
  obtain ⟨x57, ex57, h⟩ := bindT h
  cases x57
  case false =>
   obtain rfl := inj_ok h
   simp [e4, ex5, ex6, ex7, ex8, ex9, ex10, ex11, ex12, ex13, ex14, ex15, ex16, ex17, ex18, ex19, e23, e26, e29, e33, e36, ex37, e40, ex41, ex42, ex43, ex44, ex45, ex46, ex47, ex48, e51, ex52, e55, ex56, ex57]
  obtain ⟨x58, ex58, h⟩ := bindT h
  cases x58
  case false =>
   obtain rfl := inj_ok h
   simp [e4, ex5, ex6, ex7, ex8, ex9, ex10, ex11, ex12, ex13, ex14, ex15, ex16, ex17, ex18, ex19, e23, e26, e29, e33, e36, ex37, e40, ex41, ex42, ex43, ex44, ex45, ex46, ex47, ex48, e51, ex52, e55, ex56, ex57, ex58]
  obtain ⟨⟨c59, l60⟩, e61, h⟩ := bind_ok h
  try dsimp only at h
  have e61 : ∀ hp, E Tryd.prog Y0 59 [.l .fz .full 5 [iv (-1), iv (-1), iv 0, iv 1, iv 2]] hp = some (.l .fz c59 l60.length (l60.map iv), hp, none) := fun hp => f59_is (c0 := .full) e61
  obtain ⟨x62, ex62, h⟩ := bind_ok h
  have ex62 : ∀ hp, E Tryd.prog Y0 32 [.l .fz .nz x10.1.length (x10.1.map iv), .l .fz c59 l60.length (l60.map iv)] hp = some (.v (.bool x62), hp, none) := fun hp => f32_is (a0 := false) (c0 := .nz) (a1 := false) (c1 := c59) ex62
  cases x62
  case false =>
   obtain rfl := inj_ok h
   simp [e4, ex5, ex6, ex7, ex8, ex9, ex10, ex11, ex12, ex13, ex14, ex15, ex16, ex17, ex18, ex19, e23, e26, e29, e33, e36, ex37, e40, ex41, ex42, ex43, ex44, ex45, ex46, ex47, ex48, e51, ex52, e55, ex56, ex57, ex58, e61, ex62]
  obtain ⟨x63, ex63, h⟩ := bind_ok h
  have ex63 : ∀ hp, E Tryd.prog Y0 32 [.l .fz .nz x11.1.length (x11.1.map iv), .l .fz .nz x10.1.length (x10.1.map iv)] hp = some (.v (.bool x63), hp, none) := fun hp => f32_is (a0 := false) (c0 := .nz) (a1 := false) (c1 := .nz) ex63
  cases x63
  case false =>
   obtain rfl := inj_ok h
   simp [e4, ex5, ex6, ex7, ex8, ex9, ex10, ex11, ex12, ex13, ex14, ex15, ex16, ex17, ex18, ex19, e23, e26, e29, e33, e36, ex37, e40, ex41, ex42, ex43, ex44, ex45, ex46, ex47, ex48, e51, ex52, e55, ex56, ex57, ex58, e61, ex62, ex63]
  obtain ⟨b64, e65, h⟩ := bind_ok h
  have e65 : ∀ hp, E Tryd.prog Y0 23 [.l .fz .nz x19.1.length (x19.1.map lv), .l .fz .full 5 [.l .fz .full 1 [iv 0], .l .fz .full 2 [iv 0, iv 1], .l .fz .full 2 [iv 0, iv 2], .l .fz .full 2 [iv 0, iv 2], .l .fz .full 2 [iv 1, iv 2]]] hp = some (.v (.bool b64), hp, none) := fun hp => f23_is (a0 := false) (c0 := .nz) (a1 := false) (c1 := .full) e65
  cases b64
  case false =>
   obtain rfl := inj_ok h
   simp [e4, ex5, ex6, ex7, ex8, ex9, ex10, ex11, ex12, ex13, ex14, ex15, ex16, ex17, ex18, ex19, e23, e26, e29, e33, e36, ex37, e40, ex41, ex42, ex43, ex44, ex45, ex46, ex47, ex48, e51, ex52, e55, ex56, ex57, ex58, e61, ex62, ex63, e65]
  obtain ⟨b66, e67, h⟩ := bind_ok h
  have e67 : ∀ hp, E Tryd.prog Y0 45 [.l .fz c20 l21.length (rows l21), .l .fz .full 2 [iv 0, iv 3, iv 1, iv 4]] hp = some (.v (.bool b66), hp, none) := fun hp => f45_is (a0 := false) (c0 := c20) (a1 := false) (c1 := .full) e67
  cases b66
  case false =>
   obtain rfl := inj_ok h
   simp [e4, ex5, ex6, ex7, ex8, ex9, ex10, ex11, ex12, ex13, ex14, ex15, ex16, ex17, ex18, ex19, e23, e26, e29, e33, e36, ex37, e40, ex41, ex42, ex43, ex44, ex45, ex46, ex47, ex48, e51, ex52, e55, ex56, ex57, ex58, e61, ex62, ex63, e65, e67]
  obtain ⟨x68, ex68, h⟩ := bindT h
  cases x68
  case false =>
   obtain rfl := inj_ok h
   simp [e4, ex5, ex6, ex7, ex8, ex9, ex10, ex11, ex12, ex13, ex14, ex15, ex16, ex17, ex18, ex19, e23, e26, e29, e33, e36, ex37, e40, ex41, ex42, ex43, ex44, ex45, ex46, ex47, ex48, e51, ex52, e55, ex56, ex57, ex58, e61, ex62, ex63, e65, e67, ex68]
  obtain ⟨x69, ex69, h⟩ := bind_ok h
  have ex69 : ∀ hp, E Tryd.prog Y0 32 [.l .fz c30 l31.length (l31.map iv), .l .fz c24 l25.length (l25.map iv)] hp = some (.v (.bool x69), hp, none) := fun hp => f32_is (a0 := false) (c0 := c30) (a1 := false) (c1 := c24) ex69
  cases x69
  case false =>
   obtain rfl := inj_ok h
   simp [e4, ex5, ex6, ex7, ex8, ex9, ex10, ex11, ex12, ex13, ex14, ex15, ex16, ex17, ex18, ex19, e23, e26, e29, e33, e36, ex37, e40, ex41, ex42, ex43, ex44, ex45, ex46, ex47, ex48, e51, ex52, e55, ex56, ex57, ex58, e61, ex62, ex63, e65, e67, ex68, ex69]
  obtain ⟨x70, e71, h⟩ := bind_ok h
  have e71 : ∀ hp, E Tryd.prog Y0 46 [.a [iv x1, .l .fz c2 l3.length (l3.map iv)], iv 4, .l .fz c24 l25.length (l25.map iv)] hp = some (iv x70, hp, none) := fun hp => f46_is (c0b := c2) (a2 := false) (c2 := c24) e71
  obtain ⟨x72, ex72, h⟩ := bindT h
  cases x72
  case false =>
   obtain rfl := inj_ok h
   simp [e4, ex5, ex6, ex7, ex8, ex9, ex10, ex11, ex12, ex13, ex14, ex15, ex16, ex17, ex18, ex19, e23, e26, e29, e33, e36, ex37, e40, ex41, ex42, ex43, ex44, ex45, ex46, ex47, ex48, e51, ex52, e55, ex56, ex57, ex58, e61, ex62, ex63, e65, e67, ex68, ex69, e71, ex72]
  obtain ⟨x73, e74, h⟩ := bind_ok h
  have e74 : ∀ hp, E Tryd.prog Y0 46 [.a [iv x1, .l .fz c2 l3.length (l3.map iv)], iv 5, .l .fz c24 l25.length (l25.map iv)] hp = some (iv x73, hp, none) := fun hp => f46_is (c0b := c2) (a2 := false) (c2 := c24) e74
  obtain ⟨x75, ex75, h⟩ := bindT h
  obtain rfl := inj_ok h
  simp [e4, ex5, ex6, ex7, ex8, ex9, ex10, ex11, ex12, ex13, ex14, ex15, ex16, ex17, ex18, ex19, e23, e26, e29, e33, e36, ex37, e40, ex41, ex42, ex43, ex44, ex45, ex46, ex47, ex48, e51, ex52, e55, ex56, ex57, ex58, e61, ex62, ex63, e65, e67, ex68, ex69, e71, ex72, e74, ex75]
end Go.Proofs.YtcdhajbhpnbdkaaDoor
