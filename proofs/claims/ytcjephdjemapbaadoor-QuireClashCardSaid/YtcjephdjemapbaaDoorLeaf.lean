/-
  has, same, alike, Equal
  Printed by wip/tools/walk.py. Conditions: none; definitions and lemmas.
-/
import Derived.Test.YtcjephdjemapbaaDoorAdapt
set_option linter.unusedSimpArgs false
set_option linter.unusedVariables false
namespace Go.Proofs.YtcjephdjemapbaaDoor
open Go.Abs Go.Pur
set_option maxRecDepth 100000
set_option maxHeartbeats 2000000
attribute [local simp] EK_region EK_seq EK_cond EK_block EK_blk EK_loop EK_exit EK.ex EK_ret EK_skip EK_nil EO_cons EO_nil EO1_true EO1_false EO2_some EO3_some EB_true EB_false pwanted poper pq pev Go.Pur.look pputT isAssign drOf pinit Tr.get_set lget pvOf_int pvOf_bool pvOf_str pvOf_nil rdv_ak notOwn_ak prt_ak loose_ak rdv_own rdv_fz rdv_bor rdv_rf rdv_pt rdv_v rdv_a rdv_t rdv_r rdv_p rdv_s rdv_f pbin plen pload ppart idxAddr pcond Nat.blt goInt_eq prun_not prun_neg mayLoad ER_ret ER_normal presL presOne moved stor okDrop settle_v settle_l settle_a settle_p settle_f noref_v noref_fz noref_a norefs_nil norefs_cons pclose given dropB Y0_keep pevParts stors pvCells pvCells.go vcells pfill reps zipParts ownFz pcells cellOK one psrcLen srcFits psrc takeP pgrow take getPl setPl mapL plEq elder isList lowP pevs frzs addP partAt ble_lim24 killV_v killV_a killV_t killV_f killV_i killV_p killV_s killV_un killV_dead killV_lfz killV_lbor killV_lown killV_rfz killV_rbor killV_lak killV_rak frzV_v frzV_a frzV_t frzV_f frzV_i frzV_p frzV_s frzV_un frzV_dead frzV_lfz frzV_lbor frzV_lown frzV_rfz frzV_rbor frzV_lak frzV_rak killCell_v killCell_a killCell_t killCell_f killCell_i killCell_p killCell_s killCell_un killCell_dead killCell_lfz killCell_lbor killCell_lown killCell_rfz killCell_rbor killCell_lak killCell_rak killV_lrf killV_lpt killV_rpt frzV_lrf frzV_lpt frzV_rpt killCell_lrft killCell_lptt killCell_rptt killCell_lrfc killCell_lptc killCell_rptc argv_lak argv_rak argv_v argv_a argv_p argv_f argv_fz argv_bor argv_rf argv_pt argv_rc argv_own mayTurn_none argvs pcallOp firm refsTo_v refsTo_l refsTo_p refsTo_s refsTo_a refsTo_dead refsTo_nil refsTo_cons isOwn_lak ownFz_lak evSafe pskip plain pnewBlk fldAddr isOwn pput notOwn_fz notOwn_bor notOwn_own notOwn_rf notOwn_pt prt_fz prt_bor prt_own prt_rf prt_pt Go.Pur.freeze presM settles abin_and abin_or abin_andNot abin_mul abin_shr abin_shl abin_add abin_sub abin_eql abin_neq abin_lss abin_leq abin_gtr abin_geq hows pcallIn Y0_how Y0_part howOf partOf rdv_mown rdv_mfz rdv_mbor rdv_mrf killV_mown killV_mfz killV_mbor killV_mrf frzV_mown frzV_mfz frzV_mbor frzV_mrf killCell_mown killCell_mfz killCell_mbor killCell_mrf argv_mfz argv_mbor argv_mrf settle_m kls_v kls_l kls_a kls_t kls_r kls_p kls_s kls_f kls_i kls_it kls_un kls_dead kls_mown kls_mrf kls_mbor kls_mfz fzOf takable mapHere mapOwn mapTo flat toPlain toPlain.go ofFlat ofPair mapEs plook lookRes Y0_mv mvOf mvBlk premv Y0_fzm fzmOf poperX pconv keep22 keep39 keep70 keep71 keep72 sz3 by3 row3 zero3 sz4 by4 row4 zero4 sz5 by5 row5 zero5 sz9 by9 row9 shape9 zero9 sz21 by21 row21 zero21 sz23 by23 row23 shape23 zero23 sz24 by24 row24 zero24 sz38 by38 row38 shape38 zero38 sz47 by47 row47 shape47 zero47 parts47 sz51 by51 row51 zero51 sz54 by54 row54 shape54 zero54 sz55 by55 row55 shape55 zero55 sz58 by58 row58 shape58 zero58 sz60 by60 row60 zero60 sz63 by63 row63 shape63 zero63 sz73 by73 row73 shape73 zero73 parts73 sz79 by79 row79 shape79 zero79 sz81 by81 row81 shape81 zero81 parts81 sz86 by86 row86 shape86 parts86 sz90 by90 row90 zero90 sz92 by92 row92 zero92 sz96 by96 row96 zero96 parts96 field96_0 field96_1 sz99 by99 row99 zero99 sz104 by104 row104 zero104 sz106 by106 row106 zero106 parts106 field106_0 field106_1 sz119 by119 row119 zero119 sz123 by123 row123 zero123 sz124 by124 row124 shape124 zero124 parts124 sz125 by125 row125 shape125 zero125 parts125 sz126 by126 row126 shape126 parts126 sz128 by128 row128 zero128 parts128 field128_0 field128_1 sz129 by129 row129 shape129 zero129 parts129 sz133 by133 row133 zero133 bs_size gAt gAt0 sAt sAt0 optPlain rows_len noMaker_eq kindOf vlOf abin_rem abin_quo mayTurn_none lowOf_none Go.Pur.partAt rows_nil rows_cons ble_add ble_add0 ble_same toPlain toPlain.go intIn2_0 intIn2_1 ble12 ble22 tv lv max_int min_int pplains ak_true ak_false apartP beq_add beq_add0 beq_add1 argv_s wok_none wok_low_iff lowOf_wok
def f22_L0 (F : Nat) (p0 : List Int) (p1 : List Int) (K : Unit → Option (Bool)) : Nat → Int → Option (Bool)
  | 0, _ => none
  | n + 1, v4 => (some ((p0.length : Int))).bind fun x5 =>
    (some (decide (v4 < x5))).bind fun x6 =>
    (match x6 with
    | true => ((gI p0 v4).bind fun y7 =>
    (gI p1 v4).bind fun y8 =>
    (some (decide (y7 = y8))).bind fun x9 =>
    (match x9 with
    | true => ((some (IntKind.i64.wrap (v4 + 1))).bind fun x10 =>
    f22_L0 F p0 p1 K n x10)
    | false => (some false)))
    | false => (K ()))
def f22S (F : Nat) (p0 : List Int) (p1 : List Int) : Option (Bool) :=
  (some ((p0.length : Int))).bind fun x1 =>
  (some ((p1.length : Int))).bind fun x2 =>
  (some (decide (x1 = x2))).bind fun x3 =>
  (match x3 with
  | true => (f22_L0 F p0 p1 (fun _ =>
    some true) F 0)
  | false => (some false))
theorem f22_is {a0 : Bool} {c0 : Ck} {p0 : List Int} {a1 : Bool} {c1 : Ck} {p1 : List Int} {hp : List (Option (List PV))} {F : Nat} {r : (Bool)}  (h : f22S F p0 p1 = some r) :
    E Tryd.prog Y0 22 [.l (ak a0) c0 p0.length (p0.map iv), .l (ak a1) c1 p1.length (p1.map iv)] hp = some (.v (.bool r), hp, none) := by
  rw [E_bodyN 2 body22 rfl (by decide) rfl]
  simp only [Tryd.f22, Option.get_some]
  unfold f22S at h
  obtain ⟨x1, ex1, h⟩ := bindT h
  obtain ⟨x2, ex2, h⟩ := bindT h
  obtain ⟨x3, ex3, h⟩ := bindT h
  cases x3
  case false =>
   obtain rfl := inj_ok h
   simp [ex1, ex2, ex3]
  simp [ex1, ex2, ex3]
  have hL0 := h; clear h
  refine loopS (S := f22_L0 F p0 p1) (fun v4 σ => ∃ (ts : Tr PV) (w : Option Nat), wok hp.length w ∧ σ = ⟨[], ts, hp, w⟩ ∧ ts.get 0 = some (.l (ak a0) c0 p0.length (p0.map iv)) ∧ ts.get 1 = some (.l (ak a1) c1 p1.length (p1.map iv)) ∧ ts.get 5 = some (iv v4) ∧ True) (fun _ σ => ∃ (ts : Tr PV) (w : Option Nat), wok hp.length w ∧ σ = ⟨[], ts, hp, w⟩ ∧ True) (fun _ => rfl) hL0 ?_ ?_ ?_
  · exact ⟨_, _, by simp, rfl, by simp [ex1, ex2, ex3]⟩
  · rintro ⟨⟩ σ ⟨ts, w, hw, rfl, -⟩ h
    clear hL0
    try dsimp only at h
    obtain rfl := inj_ok h
    simp [hw]
  · rintro k n v4 σ ⟨ts, w, hw, rfl, g0, g1, g5, -⟩ h ih ex
    clear hL0
    rw [f22_L0] at h
    obtain ⟨x5, ex5, h⟩ := bindT h
    obtain ⟨x6, ex6, h⟩ := bindT h
    cases x6
    case false =>
     simp [g0, g1, g5, ex5, ex6]
     refine ex () _ ?_ h
     exact ⟨_, _, by simp [hw], rfl, by simp [g0, g1, g5, ex5, ex6]⟩
    obtain ⟨y7, ey7, h⟩ := bind_ok h
    obtain ⟨ey7a, ey7e, ey7b, ey7c, ey7g⟩ := gI_ok rfl ey7
    obtain ⟨y8, ey8, h⟩ := bind_ok h
    obtain ⟨ey8a, ey8e, ey8b, ey8c, ey8g⟩ := gI_ok rfl ey8
    obtain ⟨x9, ex9, h⟩ := bindT h
    cases x9
    case false =>
     obtain rfl := inj_ok h
     simp [g0, g1, g5, ex5, ex6, ey7a, ey7b, ey7c, ey8a, ey8b, ey8c, ex9, hw]
    obtain ⟨x10, ex10, h⟩ := bindT h
    simp [g0, g1, g5, ex5, ex6, ey7a, ey7b, ey7c, ey8a, ey8b, ey8c, ex9, ex10]
    refine ih x10 _ ?_ h
    exact ⟨_, _, by simp [hw], rfl, by simp [g0, g1, g5, ex5, ex6, ey7a, ey7b, ey7c, ey8a, ey8b, ey8c, ex9, ex10]⟩
def f39_L0 (F : Nat) (p0 : List (Int × Int)) (p1 : List (Int × Int)) (K : Unit → Option (Bool)) : Nat → Int → Option (Bool)
  | 0, _ => none
  | n + 1, v4 => (some ((p0.length : Int))).bind fun x5 =>
    (some (decide (v4 < x5))).bind fun x6 =>
    (match x6 with
    | true => ((gI p0 v4).bind fun y7 =>
    (gI p1 v4).bind fun y8 =>
    (some ((decide (y7.1 = y8.1) && decide (y7.2 = y8.2)))).bind fun x9 =>
    (match x9 with
    | true => ((some (IntKind.i64.wrap (v4 + 1))).bind fun x11 =>
    f39_L0 F p0 p1 K n x11)
    | false => (some false)))
    | false => (K ()))
def f39S (F : Nat) (p0 : List (Int × Int)) (p1 : List (Int × Int)) : Option (Bool) :=
  (some ((p0.length : Int))).bind fun x1 =>
  (some ((p1.length : Int))).bind fun x2 =>
  (some (decide (x1 = x2))).bind fun x3 =>
  (match x3 with
  | true => (f39_L0 F p0 p1 (fun _ =>
    some true) F 0)
  | false => (some false))
theorem f39_is {a0 : Bool} {c0 : Ck} {p0 : List (Int × Int)} {a1 : Bool} {c1 : Ck} {p1 : List (Int × Int)} {hp : List (Option (List PV))} {F : Nat} {r : (Bool)}  (h : f39S F p0 p1 = some r) :
    E Tryd.prog Y0 39 [.l (ak a0) c0 p0.length (rows p0), .l (ak a1) c1 p1.length (rows p1)] hp = some (.v (.bool r), hp, none) := by
  rw [E_bodyN 2 body39 rfl (by decide) rfl]
  simp only [Tryd.f39, Option.get_some]
  unfold f39S at h
  obtain ⟨x1, ex1, h⟩ := bindT h
  obtain ⟨x2, ex2, h⟩ := bindT h
  obtain ⟨x3, ex3, h⟩ := bindT h
  cases x3
  case false =>
   obtain rfl := inj_ok h
   simp [ex1, ex2, ex3]
  simp [ex1, ex2, ex3]
  have hL0 := h; clear h
  refine loopS (S := f39_L0 F p0 p1) (fun v4 σ => ∃ (ts : Tr PV) (w : Option Nat), wok hp.length w ∧ σ = ⟨[], ts, hp, w⟩ ∧ ts.get 0 = some (.l (ak a0) c0 p0.length (rows p0)) ∧ ts.get 1 = some (.l (ak a1) c1 p1.length (rows p1)) ∧ ts.get 5 = some (iv v4) ∧ True) (fun _ σ => ∃ (ts : Tr PV) (w : Option Nat), wok hp.length w ∧ σ = ⟨[], ts, hp, w⟩ ∧ True) (fun _ => rfl) hL0 ?_ ?_ ?_
  · exact ⟨_, _, by simp, rfl, by simp [ex1, ex2, ex3]⟩
  · rintro ⟨⟩ σ ⟨ts, w, hw, rfl, -⟩ h
    clear hL0
    try dsimp only at h
    obtain rfl := inj_ok h
    simp [hw]
  · rintro k n v4 σ ⟨ts, w, hw, rfl, g0, g1, g5, -⟩ h ih ex
    clear hL0
    rw [f39_L0] at h
    obtain ⟨x5, ex5, h⟩ := bindT h
    obtain ⟨x6, ex6, h⟩ := bindT h
    cases x6
    case false =>
     simp [g0, g1, g5, ex5, ex6]
     refine ex () _ ?_ h
     exact ⟨_, _, by simp [hw], rfl, by simp [g0, g1, g5, ex5, ex6]⟩
    obtain ⟨y7, ey7, h⟩ := bind_ok h
    obtain ⟨ey7a, ey7e, ey7b, ey7c, ey7g⟩ := gI_ok rfl ey7
    have ey7d := rows_at ey7c
    have ey7f := rows_ble ey7e
    obtain ⟨y8, ey8, h⟩ := bind_ok h
    obtain ⟨ey8a, ey8e, ey8b, ey8c, ey8g⟩ := gI_ok rfl ey8
    have ey8d := rows_at ey8c
    have ey8f := rows_ble ey8e
    obtain ⟨x9, ex9, h⟩ := bindT h
    have q10 : ∀ x y, abin Tryd.prog .neq 47 x y (.agg #[.int .i64 y7.1, .int .i64 y7.2]) (.agg #[.int .i64 y8.1, .int .i64 y8.2]) = some (.bool (!x9)) := fun x y => by rw [neq47, ex9]
    cases x9
    case false =>
     obtain rfl := inj_ok h
     simp [g0, g1, g5, ex5, ex6, ey7a, ey7b, ey7c, ey7d, ey7f, ey8a, ey8b, ey8c, ey8d, ey8f, q10, hw]
    obtain ⟨x11, ex11, h⟩ := bindT h
    simp [g0, g1, g5, ex5, ex6, ey7a, ey7b, ey7c, ey7d, ey7f, ey8a, ey8b, ey8c, ey8d, ey8f, q10, ex11]
    refine ih x11 _ ?_ h
    exact ⟨_, _, by simp [hw], rfl, by simp [g0, g1, g5, ex5, ex6, ey7a, ey7b, ey7c, ey7d, ey7f, ey8a, ey8b, ey8c, ey8d, ey8f, q10, ex11]⟩
def f70_L0 (F : Nat) (p0 : List Int) (p1 : List Int) (x1 : Int) (K : Unit → Option (Bool)) : Nat → Int → Option (Bool)
  | 0, _ => none
  | n + 1, v4 => (some (decide (v4 < x1))).bind fun x5 =>
    (match x5 with
    | true => ((gI p0 v4).bind fun y6 =>
    (gI p1 v4).bind fun y7 =>
    (some (decide (y6 = y7))).bind fun x8 =>
    (match x8 with
    | true => ((some (IntKind.i64.wrap (v4 + 1))).bind fun x9 =>
    f70_L0 F p0 p1 x1 K n x9)
    | false => (some false)))
    | false => (K ()))
def f70S (F : Nat) (p0 : List Int) (p1 : List Int) : Option (Bool) :=
  (some ((p0.length : Int))).bind fun x1 =>
  (some ((p1.length : Int))).bind fun x2 =>
  (some (decide (x1 = x2))).bind fun x3 =>
  (match x3 with
  | true => (f70_L0 F p0 p1 x1 (fun _ =>
    some true) F 0)
  | false => (some false))
theorem f70_is {a0 : Bool} {c0 : Ck} {p0 : List Int} {a1 : Bool} {c1 : Ck} {p1 : List Int} {hp : List (Option (List PV))} {F : Nat} {r : (Bool)}  (h : f70S F p0 p1 = some r) :
    E Tryd.prog Y0 70 [.l (ak a0) c0 p0.length (p0.map iv), .l (ak a1) c1 p1.length (p1.map iv)] hp = some (.v (.bool r), hp, none) := by
  rw [E_bodyN 2 body70 rfl (by decide) rfl]
  simp only [Tryd.f70, Option.get_some]
  unfold f70S at h
  obtain ⟨x1, ex1, h⟩ := bindT h
  obtain ⟨x2, ex2, h⟩ := bindT h
  obtain ⟨x3, ex3, h⟩ := bindT h
  cases x3
  case false =>
   obtain rfl := inj_ok h
   simp [ex1, ex2, ex3]
  simp [ex1, ex2, ex3]
  have hL0 := h; clear h
  refine loopS (S := f70_L0 F p0 p1 x1) (fun v4 σ => ∃ (ts : Tr PV) (w : Option Nat), wok hp.length w ∧ σ = ⟨[], ts, hp, w⟩ ∧ ts.get 0 = some (.l (ak a0) c0 p0.length (p0.map iv)) ∧ ts.get 1 = some (.l (ak a1) c1 p1.length (p1.map iv)) ∧ ts.get 12 = some (iv x1) ∧ ts.get 13 = some (iv v4) ∧ True) (fun _ σ => ∃ (ts : Tr PV) (w : Option Nat), wok hp.length w ∧ σ = ⟨[], ts, hp, w⟩ ∧ True) (fun _ => rfl) hL0 ?_ ?_ ?_
  · exact ⟨_, _, by simp, rfl, by simp [ex1, ex2, ex3]⟩
  · rintro ⟨⟩ σ ⟨ts, w, hw, rfl, -⟩ h
    clear hL0
    try dsimp only at h
    obtain rfl := inj_ok h
    simp [hw]
  · rintro k n v4 σ ⟨ts, w, hw, rfl, g0, g1, g12, g13, -⟩ h ih ex
    clear hL0
    rw [f70_L0] at h
    obtain ⟨x5, ex5, h⟩ := bindT h
    cases x5
    case false =>
     simp [g0, g1, g12, g13, ex5]
     refine ex () _ ?_ h
     exact ⟨_, _, by simp [hw], rfl, by simp [g0, g1, g12, g13, ex5]⟩
    obtain ⟨y6, ey6, h⟩ := bind_ok h
    obtain ⟨ey6a, ey6e, ey6b, ey6c, ey6g⟩ := gI_ok rfl ey6
    obtain ⟨y7, ey7, h⟩ := bind_ok h
    obtain ⟨ey7a, ey7e, ey7b, ey7c, ey7g⟩ := gI_ok rfl ey7
    obtain ⟨x8, ex8, h⟩ := bindT h
    cases x8
    case false =>
     obtain rfl := inj_ok h
     simp [g0, g1, g12, g13, ex5, ey6a, ey6b, ey6c, ey7a, ey7b, ey7c, ex8, hw]
    obtain ⟨x9, ex9, h⟩ := bindT h
    simp [g0, g1, g12, g13, ex5, ey6a, ey6b, ey6c, ey7a, ey7b, ey7c, ex8, ex9]
    refine ih x9 _ ?_ h
    exact ⟨_, _, by simp [hw], rfl, by simp [g0, g1, g12, g13, ex5, ey6a, ey6b, ey6c, ey7a, ey7b, ey7c, ex8, ex9]⟩
end Go.Proofs.YtcjephdjemapbaaDoor
