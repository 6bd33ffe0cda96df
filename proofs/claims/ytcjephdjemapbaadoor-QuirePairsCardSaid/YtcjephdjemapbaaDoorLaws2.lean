/-
  laws
  Printed by wip/tools/walk.py. Conditions: none; definitions and lemmas.
-/
import Derived.Test.YtcjephdjemapbaaDoorAdapt2
set_option linter.unusedSimpArgs false
set_option linter.unusedVariables false
namespace Go.Proofs.YtcjephdjemapbaaDoor
open Go.Abs Go.Pur
set_option maxRecDepth 100000
set_option maxHeartbeats 2000000
attribute [local simp] EK_region EK_seq EK_cond EK_block EK_blk EK_loop EK_exit EK.ex EK_ret EK_skip EK_nil EO_cons EO_nil EO1_true EO1_false EO2_some EO3_some EB_true EB_false pwanted poper pq pev Go.Pur.look pputT isAssign drOf pinit Tr.get_set lget pvOf_int pvOf_bool pvOf_str pvOf_nil rdv_ak notOwn_ak prt_ak loose_ak rdv_own rdv_fz rdv_bor rdv_rf rdv_pt rdv_v rdv_a rdv_t rdv_r rdv_p rdv_s rdv_f pbin plen pload ppart idxAddr pcond Nat.blt goInt_eq prun_not prun_neg mayLoad ER_ret ER_normal presL presOne moved stor okDrop settle_v settle_l settle_a settle_p settle_f noref_v noref_fz noref_a norefs_nil norefs_cons pclose given dropB Y0_keep pevParts stors pvCells pvCells.go vcells pfill reps zipParts ownFz pcells cellOK one psrcLen srcFits psrc takeP pgrow take getPl setPl mapL plEq elder isList lowP pevs frzs addP partAt ble_lim24 killV_v killV_a killV_t killV_f killV_i killV_p killV_s killV_un killV_dead killV_lfz killV_lbor killV_lown killV_rfz killV_rbor killV_lak killV_rak frzV_v frzV_a frzV_t frzV_f frzV_i frzV_p frzV_s frzV_un frzV_dead frzV_lfz frzV_lbor frzV_lown frzV_rfz frzV_rbor frzV_lak frzV_rak killCell_v killCell_a killCell_t killCell_f killCell_i killCell_p killCell_s killCell_un killCell_dead killCell_lfz killCell_lbor killCell_lown killCell_rfz killCell_rbor killCell_lak killCell_rak killV_lrf killV_lpt killV_rpt frzV_lrf frzV_lpt frzV_rpt killCell_lrft killCell_lptt killCell_rptt killCell_lrfc killCell_lptc killCell_rptc argv_lak argv_rak argv_v argv_a argv_p argv_f argv_fz argv_bor argv_rf argv_pt argv_rc argv_own mayTurn_none argvs pcallOp firm refsTo_v refsTo_l refsTo_p refsTo_s refsTo_a refsTo_dead refsTo_nil refsTo_cons isOwn_lak ownFz_lak evSafe pskip plain pnewBlk fldAddr isOwn pput notOwn_fz notOwn_bor notOwn_own notOwn_rf notOwn_pt prt_fz prt_bor prt_own prt_rf prt_pt Go.Pur.freeze presM settles abin_and abin_or abin_andNot abin_mul abin_shr abin_shl abin_add abin_sub abin_eql abin_neq abin_lss abin_leq abin_gtr abin_geq keep3 keep4 keep5 keep6 keep7 keep8 keep9 keep10 keep11 keep12 keep13 keep14 keep15 keep16 keep17 keep18 keep19 keep20 keep21 keep22 keep23 keep24 keep25 keep26 keep27 keep28 keep29 keep30 keep31 keep32 keep33 keep34 keep35 keep36 keep37 keep38 keep39 keep40 keep41 keep42 keep43 keep44 keep45 keep46 keep47 keep48 keep49 keep50 keep51 keep52 keep53 keep54 keep55 keep56 keep57 keep58 keep59 keep60 keep61 keep62 keep63 keep64 keep65 keep66 keep67 keep68 keep69 keep70 keep71 keep72 keep73 keep74 keep75 keep76 keep77 keep78 keep79 keep80 keep81 keep82 keep83 keep84 keep85 keep86 keep87 keep88 keep89 keep90 keep91 keep92 keep93 keep94 keep95 keep96 keep97 keep98 keep99 keep100 keep101 keep102 keep103 keep104 keep105 keep106 keep107 keep108 keep109 keep110 keep111 keep112 keep113 keep114 keep115 keep116 keep117 keep118 keep119 keep120 keep121 keep122 keep123 keep124 keep125 keep126 keep127 keep128 keep129 keep130 keep131 keep132 keep133 keep134 sz3 by3 row3 zero3 sz4 by4 row4 zero4 sz5 by5 row5 zero5 sz9 by9 row9 shape9 zero9 sz21 by21 row21 zero21 sz23 by23 row23 shape23 zero23 sz24 by24 row24 zero24 sz38 by38 row38 shape38 zero38 sz47 by47 row47 shape47 zero47 parts47 sz51 by51 row51 zero51 sz54 by54 row54 shape54 zero54 sz55 by55 row55 shape55 zero55 sz58 by58 row58 shape58 zero58 sz60 by60 row60 zero60 sz63 by63 row63 shape63 zero63 sz73 by73 row73 shape73 zero73 parts73 sz79 by79 row79 shape79 zero79 sz81 by81 row81 shape81 zero81 parts81 sz86 by86 row86 shape86 parts86 sz90 by90 row90 zero90 sz92 by92 row92 zero92 sz96 by96 row96 zero96 parts96 field96_0 field96_1 sz99 by99 row99 zero99 sz104 by104 row104 zero104 sz106 by106 row106 zero106 parts106 field106_0 field106_1 sz119 by119 row119 zero119 sz123 by123 row123 zero123 sz124 by124 row124 shape124 zero124 parts124 sz125 by125 row125 shape125 zero125 parts125 sz126 by126 row126 shape126 parts126 sz128 by128 row128 zero128 parts128 field128_0 field128_1 sz129 by129 row129 shape129 zero129 parts129 sz133 by133 row133 zero133 bs_size gAt gAt0 sAt sAt0 optPlain rows_len noMaker_eq kindOf vlOf abin_rem abin_quo mayTurn_none lowOf_none Go.Pur.partAt rows_nil rows_cons ble_add ble_add0 ble_same toPlain toPlain.go intIn2_0 intIn2_1 ble12 ble22 tv lv max_int min_int pplains ak_true ak_false apartP beq_add beq_add0 beq_add1 argv_s wok_none wok_low_iff lowOf_wok
def f11_L1 (F : Nat) (l9 : List Int) (l11 : List Int) (x22 : Nat) (m41 : List Int) (K : Unit → Option (Bool)) : Nat → Int → Option (Bool)
  | 0, _ => none
  | n + 1, v43 => (some (decide (v43 < (x22 : Int)))).bind fun x44 =>
    (match x44 with
    | true => ((some (decide (1 < (x22 : Int)))).bind fun x45 =>
    (match x45 with
    | true => ((gI m41 v43).bind fun y46 =>
    (some (IntKind.i64.wrap (Int.tdiv y46 2))).bind fun x47 =>
    (some (IntKind.i64.wrap ((x22 : Int) - 1))).bind fun x48 =>
    (some (IntKind.i64.wrap (x48 - v43))).bind fun x49 =>
    (gI m41 x49).bind fun y50 =>
    (some (IntKind.i64.wrap (Int.tdiv y50 2))).bind fun x51 =>
    (some (decide (x47 = x51))).bind fun x52 =>
    (match x52 with
    | true => ((gI l9 v43).bind fun y53 =>
    (gI l11 v43).bind fun y54 =>
    (some (Int.tmod v43 2)).bind fun x55 =>
    (some (decide (x55 = 1))).bind fun x56 =>
    (match x56 with
    | true => ((some (mulI .i64 2 y46)).bind fun x57 =>
    (some (IntKind.i64.wrap (x57 + 1))).bind fun x58 =>
    (some (decide (y54 = x58))).bind fun x59 =>
    (match x59 with
    | true => ((some (IntKind.i64.wrap (x57 + 2))).bind fun x60 =>
    (some (decide (y53 = x60))).bind fun x61 =>
    (match x61 with
    | true => ((some (IntKind.i64.wrap (v43 + 1))).bind fun x62 =>
    f11_L1 F l9 l11 x22 m41 K n x62)
    | false => (some false)))
    | false => (some false)))
    | false => ((some (mulI .i64 2 y46)).bind fun x63 =>
    (some (IntKind.i64.wrap (x63 + 1))).bind fun x64 =>
    (some (decide (y53 = x64))).bind fun x65 =>
    (match x65 with
    | true => ((some (IntKind.i64.wrap (x63 + 2))).bind fun x66 =>
    (some (decide (y54 = x66))).bind fun x67 =>
    (match x67 with
    | true => ((some (IntKind.i64.wrap (v43 + 1))).bind fun x68 =>
    f11_L1 F l9 l11 x22 m41 K n x68)
    | false => (some false)))
    | false => (some false)))))
    | false => (some false)))
    | false => ((gI l9 v43).bind fun y69 =>
    (gI l11 v43).bind fun y70 =>
    (some (Int.tmod v43 2)).bind fun x71 =>
    (some (decide (x71 = 1))).bind fun x72 =>
    (match x72 with
    | true => ((gI m41 v43).bind fun y73 =>
    (some (mulI .i64 2 y73)).bind fun x74 =>
    (some (IntKind.i64.wrap (x74 + 1))).bind fun x75 =>
    (some (decide (y70 = x75))).bind fun x76 =>
    (match x76 with
    | true => ((some (IntKind.i64.wrap (x74 + 2))).bind fun x77 =>
    (some (decide (y69 = x77))).bind fun x78 =>
    (match x78 with
    | true => ((some (IntKind.i64.wrap (v43 + 1))).bind fun x79 =>
    f11_L1 F l9 l11 x22 m41 K n x79)
    | false => (some false)))
    | false => (some false)))
    | false => ((gI m41 v43).bind fun y80 =>
    (some (mulI .i64 2 y80)).bind fun x81 =>
    (some (IntKind.i64.wrap (x81 + 1))).bind fun x82 =>
    (some (decide (y69 = x82))).bind fun x83 =>
    (match x83 with
    | true => ((some (IntKind.i64.wrap (x81 + 2))).bind fun x84 =>
    (some (decide (y70 = x84))).bind fun x85 =>
    (match x85 with
    | true => ((some (IntKind.i64.wrap (v43 + 1))).bind fun x86 =>
    f11_L1 F l9 l11 x22 m41 K n x86)
    | false => (some false)))
    | false => (some false)))))))
    | false => (K ()))
def f11_L0 (F : Nat) (l5 : List Int) (x16 : Int) (x22 : Nat) (K : List Int × List Bool → Option (Bool)) : Nat → Int × List Int × List Bool → Option (Bool)
  | 0, _ => none
  | n + 1, (v29, m30, m31) => (some (decide (v29 < x16))).bind fun x32 =>
    (match x32 with
    | true => ((gI l5 v29).bind fun y33 =>
    (some (decide (y33 < 0))).bind fun x34 =>
    (match x34 with
    | true => (some false)
    | false => ((some (decide ((x22 : Int) ≤ y33))).bind fun x35 =>
    (match x35 with
    | true => (some false)
    | false => ((gI m31 y33).bind fun y36 =>
    (match y36 with
    | true => (some false)
    | false => ((gI m30 y33).bind fun y37 =>
    (sI m30 y33 v29).bind fun m38 =>
    (sI m31 y33 true).bind fun m39 =>
    (some (IntKind.i64.wrap (v29 + 1))).bind fun x40 =>
    f11_L0 F l5 x16 x22 K n (x40, m38, m39))))))))
    | false => (K (m30, m31)))
def f11S (F : Nat) (p0 : Int) (p1 : Int) : Option (Bool) :=
  (foldedO p0 p1).bind fun x1 =>
  (some ((x1.length : Int))).bind fun x2 =>
  (shlO .i64 1 x2).bind fun x3 =>
  (f18S F x1).bind fun ((c4, l5), x6) =>
  (f20S F x1).bind fun ((c8, l9), (c10, l11), x12) =>
  (some (decide (x6 = 0))).bind fun x14 =>
  (match x14 with
  | true => ((some (decide (x12 = 0))).bind fun x15 =>
  (match x15 with
  | true => ((some ((l5.length : Int))).bind fun x16 =>
  (some (decide (x16 = x3))).bind fun x17 =>
  (match x17 with
  | true => ((some ((l9.length : Int))).bind fun x18 =>
  (some (decide (x18 = x3))).bind fun x19 =>
  (match x19 with
  | true => ((some ((l11.length : Int))).bind fun x20 =>
  (some (decide (x20 = x3))).bind fun x21 =>
  (match x21 with
  | true => ((mkN x3).bind fun x22 =>
  (gN x22).bind fun x23 =>
  (some (List.replicate x22 (0 : Int))).bind fun m25 =>
  (gN x22).bind fun x26 =>
  (some (List.replicate x22 (false : Bool))).bind fun m28 =>
  f11_L0 F l5 x16 x22 (fun (m41, m42) =>
    f11_L1 F l9 l11 x22 m41 (fun _ =>
      (f17S F ).bind fun b87 =>
      some b87) F 0) F (0, m25, m28))
  | false => (some false)))
  | false => (some false)))
  | false => (some false)))
  | false => (some false)))
  | false => (some false))
theorem f11_is {p0 : Int} {p1 : Int} {hp : List (Option (List PV))} {F : Nat} {r : (Bool)}  (h : f11S F p0 p1 = some r) :
    E Tryd.prog Y0 11 [kv .u8 p0, kv .u8 p1] hp = some (.v (.bool r), hp, none) := by
  rw [E_bodyN 2 body11 rfl (by decide) rfl]
  simp only [Tryd.f11, Option.get_some]
  unfold f11S at h
  replace h := bind_ok h; obtain ⟨x1, ex1, h⟩ := h
  have ex1 : ∀ hp, E Tryd.prog Y0 42 [kv .u8 p0, kv .u8 p1] hp = some (.v (.string (bs x1)), hp, none) := fun hp => f42_is ex1
  replace h := bindT h; obtain ⟨x2, ex2, h⟩ := h
  replace h := bind_ok h; obtain ⟨x3, ex3, h⟩ := h
  obtain ⟨ex3a, ex3⟩ := shlO_ok ex3
  replace h := bind_ok h; obtain ⟨⟨⟨c4, l5⟩, x6⟩, e7, h⟩ := h
  try dsimp only at h
  have e7 : ∀ hp, E Tryd.prog Y0 18 [.v (.string (bs x1))] hp = some (.t [.l .fz c4 l5.length (l5.map iv), iv x6], hp, none) := fun hp => f18_is  e7
  replace h := bind_ok h; obtain ⟨⟨⟨c8, l9⟩, ⟨c10, l11⟩, x12⟩, e13, h⟩ := h
  try dsimp only at h
  have e13 : ∀ hp, E Tryd.prog Y0 20 [.v (.string (bs x1))] hp = some (.t [.l .fz c8 l9.length (l9.map iv), .l .fz c10 l11.length (l11.map iv), iv x12], hp, none) := fun hp => f20_is  e13
  replace h := bindT h; obtain ⟨x14, ex14, h⟩ := h
  cases x14
  case false =>
   obtain rfl := inj_ok h
   simp [ex1, ex2, ex3, ex3a, e7, e13, ex14]
  replace h := bindT h; obtain ⟨x15, ex15, h⟩ := h
  cases x15
  case false =>
   obtain rfl := inj_ok h
   simp [ex1, ex2, ex3, ex3a, e7, e13, ex14, ex15]
  replace h := bindT h; obtain ⟨x16, ex16, h⟩ := h
  replace h := bindT h; obtain ⟨x17, ex17, h⟩ := h
  cases x17
  case false =>
   obtain rfl := inj_ok h
   simp [ex1, ex2, ex3, ex3a, e7, e13, ex14, ex15, ex16, ex17]
  replace h := bindT h; obtain ⟨x18, ex18, h⟩ := h
  replace h := bindT h; obtain ⟨x19, ex19, h⟩ := h
  cases x19
  case false =>
   obtain rfl := inj_ok h
   simp [ex1, ex2, ex3, ex3a, e7, e13, ex14, ex15, ex16, ex17, ex18, ex19]
  replace h := bindT h; obtain ⟨x20, ex20, h⟩ := h
  replace h := bindT h; obtain ⟨x21, ex21, h⟩ := h
  cases x21
  case false =>
   obtain rfl := inj_ok h
   simp [ex1, ex2, ex3, ex3a, e7, e13, ex14, ex15, ex16, ex17, ex18, ex19, ex20, ex21]
  replace h := bind_ok h; obtain ⟨x22, ex22, h⟩ := h
  obtain ⟨ex22a, ex22b, ex22c⟩ := mkN_ok ex22
  subst ex22a
  replace h := bind_ok h; obtain ⟨x23, ex23, h⟩ := h
  have ex23 := gN_ok ex23 10 (by decide)
  replace h := bind_ok h; obtain ⟨m25, em25, h⟩ := h
  have em25 := inj_ok em25
  have em25r : reps [iv 0] x22 = m25.map iv := by rw [← em25]; exact reps_rep
  have hl0 : m25.length = x22 := by rw [← em25]; exact rep_len
  replace h := bind_ok h; obtain ⟨x26, ex26, h⟩ := h
  have ex26 := gN_ok ex26 3 (by decide)
  replace h := bind_ok h; obtain ⟨m28, em28, h⟩ := h
  have em28 := inj_ok em28
  have em28r : reps [bvl false] x22 = m28.map bvl := by rw [← em28]; exact reps_rep
  have hl1 : m28.length = x22 := by rw [← em28]; exact rep_len
  simp [ex1, ex2, ex3, ex3a, e7, e13, ex14, ex15, ex16, ex17, ex18, ex19, ex20, ex21, ex23, em25r, hl0, ex26, em28r, hl1]
  have hL0 := h; clear h
  refine loopS (S := f11_L0 F l5 x16 x22) (fun (v29, m30, m31) σ => ∃ (ts : Tr PV) (w : Option Nat), wok hp.length w ∧ σ = ⟨[], ts, hp ++ [some (m30.map iv), some (m31.map bvl)], w⟩ ∧ ts.get 6 = some (iv (x22 : Int)) ∧ ts.get 9 = some (.l .fz c8 l9.length (l9.map iv)) ∧ ts.get 10 = some (.l .fz c10 l11.length (l11.map iv)) ∧ ts.get 12 = some (.s hp.length 0 x22 x22) ∧ ts.get 13 = some (.s (hp.length + 1) 0 x22 x22) ∧ ts.get 64 = some (.l .fz c4 l5.length (l5.map iv)) ∧ ts.get 65 = some (iv x16) ∧ ts.get 66 = some (iv v29) ∧ m30.length = x22 ∧ m31.length = x22 ∧ True) (fun (m41, m42) σ => ∃ (ts : Tr PV) (w : Option Nat), wok hp.length w ∧ σ = ⟨[], ts, hp ++ [some (m41.map iv), some (m42.map bvl)], w⟩ ∧ ts.get 6 = some (iv (x22 : Int)) ∧ ts.get 9 = some (.l .fz c8 l9.length (l9.map iv)) ∧ ts.get 10 = some (.l .fz c10 l11.length (l11.map iv)) ∧ ts.get 12 = some (.s hp.length 0 x22 x22) ∧ m41.length = x22 ∧ m42.length = x22 ∧ True) (fun _ => rfl) hL0 ?_ ?_ ?_
  · exact ⟨_, _, by simp, rfl, by simp [ex1, ex2, ex3, ex3a, e7, e13, ex14, ex15, ex16, ex17, ex18, ex19, ex20, ex21, ex23, em25r, hl0, ex26, em28r, hl1]⟩
  · rintro ⟨m41, m42⟩ σ ⟨ts, w, hw, rfl, g6, g9, g10, g12, hl0, hl1, -⟩ h
    clear hL0
    try dsimp only at h
    simp [g6, g9, g10, g12, hl0, hl1]
    have hL1 := h; clear h
    refine loopS (S := f11_L1 F l9 l11 x22 m41) (fun v43 σ => ∃ (ts : Tr PV) (w : Option Nat), wok hp.length w ∧ σ = ⟨[], ts, hp ++ [some (m41.map iv), some (m42.map bvl)], w⟩ ∧ ts.get 6 = some (iv (x22 : Int)) ∧ ts.get 9 = some (.l .fz c8 l9.length (l9.map iv)) ∧ ts.get 10 = some (.l .fz c10 l11.length (l11.map iv)) ∧ ts.get 12 = some (.s hp.length 0 x22 x22) ∧ ts.get 92 = some (iv (x22 : Int)) ∧ ts.get 93 = some (iv v43) ∧ m41.length = x22 ∧ m42.length = x22 ∧ True) (fun _ σ => ∃ (ts : Tr PV) (w : Option Nat), wok hp.length w ∧ σ = ⟨[], ts, hp ++ [some (m41.map iv), some (m42.map bvl)], w⟩ ∧ m41.length = x22 ∧ m42.length = x22 ∧ True) (fun _ => rfl) hL1 ?_ ?_ ?_
    · exact ⟨_, _, by simp [hw], rfl, by simp [g6, g9, g10, g12, hl0, hl1]⟩
    · rintro ⟨⟩ σ ⟨ts, w, hw, rfl, hl0, hl1, -⟩ h
      clear hL1
      try dsimp only at h
      replace h := bind_ok h; obtain ⟨b87, e88, h⟩ := h
      have e88 : ∀ hp, E Tryd.prog Y0 17 [] hp = some (.v (.bool b87), hp, none) := fun hp => f17_is  e88
      obtain rfl := inj_ok h
      simp [hl0, hl1, e88, hw]
    · rintro k n v43 σ ⟨ts, w, hw, rfl, g6, g9, g10, g12, g92, g93, hl0, hl1, -⟩ h ih ex
      clear hL1
      rw [f11_L1] at h
      replace h := bindT h; obtain ⟨x44, ex44, h⟩ := h
      cases x44
      case false =>
       simp [g6, g9, g10, g12, g92, g93, hl0, hl1, ex44]
       refine ex () _ ?_ h
       exact ⟨_, _, by simp [hw], rfl, by simp [g6, g9, g10, g12, g92, g93, hl0, hl1, ex44]⟩
      replace h := bindT h; obtain ⟨x45, ex45, h⟩ := h
      cases x45
      case false =>
       replace h := bind_ok h; obtain ⟨y69, ey69, h⟩ := h
       obtain ⟨ey69a, ey69e, ey69b, ey69c, ey69g⟩ := gI_ok rfl ey69
       replace h := bind_ok h; obtain ⟨y70, ey70, h⟩ := h
       obtain ⟨ey70a, ey70e, ey70b, ey70c, ey70g⟩ := gI_ok rfl ey70
       replace h := bindT h; obtain ⟨x71, ex71, h⟩ := h
       replace h := bindT h; obtain ⟨x72, ex72, h⟩ := h
       cases x72
       case true =>
        replace h := bind_ok h; obtain ⟨y73, ey73, h⟩ := h
        obtain ⟨ey73a, ey73e, ey73b, ey73c, ey73g⟩ := gI_ok hl0 ey73
        replace h := bindT h; obtain ⟨x74, ex74, h⟩ := h
        replace h := bindT h; obtain ⟨x75, ex75, h⟩ := h
        replace h := bindT h; obtain ⟨x76, ex76, h⟩ := h
        cases x76
        case false =>
         obtain rfl := inj_ok h
         simp [g6, g9, g10, g12, g92, g93, hl0, hl1, ex44, ex45, ey69a, ey69b, ey69c, ey70a, ey70b, ey70c, ex71, ex72, ey73a, ey73b, ey73c, ex74, ex75, ex76, hw]
        replace h := bindT h; obtain ⟨x77, ex77, h⟩ := h
        replace h := bindT h; obtain ⟨x78, ex78, h⟩ := h
        cases x78
        case false =>
         obtain rfl := inj_ok h
         simp [g6, g9, g10, g12, g92, g93, hl0, hl1, ex44, ex45, ey69a, ey69b, ey69c, ey70a, ey70b, ey70c, ex71, ex72, ey73a, ey73b, ey73c, ex74, ex75, ex76, ex77, ex78, hw]
        replace h := bindT h; obtain ⟨x79, ex79, h⟩ := h
        simp [g6, g9, g10, g12, g92, g93, hl0, hl1, ex44, ex45, ey69a, ey69b, ey69c, ey70a, ey70b, ey70c, ex71, ex72, ey73a, ey73b, ey73c, ex74, ex75, ex76, ex77, ex78, ex79]
        refine ih x79 _ ?_ h
        exact ⟨_, _, by simp [hw], rfl, by simp [g6, g9, g10, g12, g92, g93, hl0, hl1, ex44, ex45, ey69a, ey69b, ey69c, ey70a, ey70b, ey70c, ex71, ex72, ey73a, ey73b, ey73c, ex74, ex75, ex76, ex77, ex78, ex79]⟩
       replace h := bind_ok h; obtain ⟨y80, ey80, h⟩ := h
       obtain ⟨ey80a, ey80e, ey80b, ey80c, ey80g⟩ := gI_ok hl0 ey80
       replace h := bindT h; obtain ⟨x81, ex81, h⟩ := h
       replace h := bindT h; obtain ⟨x82, ex82, h⟩ := h
       replace h := bindT h; obtain ⟨x83, ex83, h⟩ := h
       cases x83
       case false =>
        obtain rfl := inj_ok h
        simp [g6, g9, g10, g12, g92, g93, hl0, hl1, ex44, ex45, ey69a, ey69b, ey69c, ey70a, ey70b, ey70c, ex71, ex72, ey80a, ey80b, ey80c, ex81, ex82, ex83, hw]
       replace h := bindT h; obtain ⟨x84, ex84, h⟩ := h
       replace h := bindT h; obtain ⟨x85, ex85, h⟩ := h
       cases x85
       case false =>
        obtain rfl := inj_ok h
        simp [g6, g9, g10, g12, g92, g93, hl0, hl1, ex44, ex45, ey69a, ey69b, ey69c, ey70a, ey70b, ey70c, ex71, ex72, ey80a, ey80b, ey80c, ex81, ex82, ex83, ex84, ex85, hw]
       replace h := bindT h; obtain ⟨x86, ex86, h⟩ := h
       simp [g6, g9, g10, g12, g92, g93, hl0, hl1, ex44, ex45, ey69a, ey69b, ey69c, ey70a, ey70b, ey70c, ex71, ex72, ey80a, ey80b, ey80c, ex81, ex82, ex83, ex84, ex85, ex86]
       refine ih x86 _ ?_ h
       exact ⟨_, _, by simp [hw], rfl, by simp [g6, g9, g10, g12, g92, g93, hl0, hl1, ex44, ex45, ey69a, ey69b, ey69c, ey70a, ey70b, ey70c, ex71, ex72, ey80a, ey80b, ey80c, ex81, ex82, ex83, ex84, ex85, ex86]⟩
      replace h := bind_ok h; obtain ⟨y46, ey46, h⟩ := h
      obtain ⟨ey46a, ey46e, ey46b, ey46c, ey46g⟩ := gI_ok hl0 ey46
      replace h := bindT h; obtain ⟨x47, ex47, h⟩ := h
      replace h := bindT h; obtain ⟨x48, ex48, h⟩ := h
      replace h := bindT h; obtain ⟨x49, ex49, h⟩ := h
      replace h := bind_ok h; obtain ⟨y50, ey50, h⟩ := h
      obtain ⟨ey50a, ey50e, ey50b, ey50c, ey50g⟩ := gI_ok hl0 ey50
      replace h := bindT h; obtain ⟨x51, ex51, h⟩ := h
      replace h := bindT h; obtain ⟨x52, ex52, h⟩ := h
      cases x52
      case false =>
       obtain rfl := inj_ok h
       simp [g6, g9, g10, g12, g92, g93, hl0, hl1, ex44, ex45, ey46a, ey46b, ey46c, ex47, ex48, ex49, ey50a, ey50b, ey50c, ex51, ex52, hw]
      replace h := bind_ok h; obtain ⟨y53, ey53, h⟩ := h
      obtain ⟨ey53a, ey53e, ey53b, ey53c, ey53g⟩ := gI_ok rfl ey53
      replace h := bind_ok h; obtain ⟨y54, ey54, h⟩ := h
      obtain ⟨ey54a, ey54e, ey54b, ey54c, ey54g⟩ := gI_ok rfl ey54
      replace h := bindT h; obtain ⟨x55, ex55, h⟩ := h
      replace h := bindT h; obtain ⟨x56, ex56, h⟩ := h
      cases x56
      case true =>
       replace h := bindT h; obtain ⟨x57, ex57, h⟩ := h
       replace h := bindT h; obtain ⟨x58, ex58, h⟩ := h
       replace h := bindT h; obtain ⟨x59, ex59, h⟩ := h
       cases x59
       case false =>
        obtain rfl := inj_ok h
        simp [g6, g9, g10, g12, g92, g93, hl0, hl1, ex44, ex45, ey46a, ey46b, ey46c, ex47, ex48, ex49, ey50a, ey50b, ey50c, ex51, ex52, ey53a, ey53b, ey53c, ey54a, ey54b, ey54c, ex55, ex56, ex57, ex58, ex59, hw]
       replace h := bindT h; obtain ⟨x60, ex60, h⟩ := h
       replace h := bindT h; obtain ⟨x61, ex61, h⟩ := h
       cases x61
       case false =>
        obtain rfl := inj_ok h
        simp [g6, g9, g10, g12, g92, g93, hl0, hl1, ex44, ex45, ey46a, ey46b, ey46c, ex47, ex48, ex49, ey50a, ey50b, ey50c, ex51, ex52, ey53a, ey53b, ey53c, ey54a, ey54b, ey54c, ex55, ex56, ex57, ex58, ex59, ex60, ex61, hw]
       replace h := bindT h; obtain ⟨x62, ex62, h⟩ := h
       simp [g6, g9, g10, g12, g92, g93, hl0, hl1, ex44, ex45, ey46a, ey46b, ey46c, ex47, ex48, ex49, ey50a, ey50b, ey50c, ex51, ex52, ey53a, ey53b, ey53c, ey54a, ey54b, ey54c, ex55, ex56, ex57, ex58, ex59, ex60, ex61, ex62]
       refine ih x62 _ ?_ h
       exact ⟨_, _, by simp [hw], rfl, by simp [g6, g9, g10, g12, g92, g93, hl0, hl1, ex44, ex45, ey46a, ey46b, ey46c, ex47, ex48, ex49, ey50a, ey50b, ey50c, ex51, ex52, ey53a, ey53b, ey53c, ey54a, ey54b, ey54c, ex55, ex56, ex57, ex58, ex59, ex60, ex61, ex62]⟩
      replace h := bindT h; obtain ⟨x63, ex63, h⟩ := h
      replace h := bindT h; obtain ⟨x64, ex64, h⟩ := h
      replace h := bindT h; obtain ⟨x65, ex65, h⟩ := h
      cases x65
      case false =>
       obtain rfl := inj_ok h
       simp [g6, g9, g10, g12, g92, g93, hl0, hl1, ex44, ex45, ey46a, ey46b, ey46c, ex47, ex48, ex49, ey50a, ey50b, ey50c, ex51, ex52, ey53a, ey53b, ey53c, ey54a, ey54b, ey54c, ex55, ex56, ex63, ex64, ex65, hw]
      replace h := bindT h; obtain ⟨x66, ex66, h⟩ := h
      replace h := bindT h; obtain ⟨x67, ex67, h⟩ := h
      cases x67
      case false =>
       obtain rfl := inj_ok h
       simp [g6, g9, g10, g12, g92, g93, hl0, hl1, ex44, ex45, ey46a, ey46b, ey46c, ex47, ex48, ex49, ey50a, ey50b, ey50c, ex51, ex52, ey53a, ey53b, ey53c, ey54a, ey54b, ey54c, ex55, ex56, ex63, ex64, ex65, ex66, ex67, hw]
      replace h := bindT h; obtain ⟨x68, ex68, h⟩ := h
      simp [g6, g9, g10, g12, g92, g93, hl0, hl1, ex44, ex45, ey46a, ey46b, ey46c, ex47, ex48, ex49, ey50a, ey50b, ey50c, ex51, ex52, ey53a, ey53b, ey53c, ey54a, ey54b, ey54c, ex55, ex56, ex63, ex64, ex65, ex66, ex67, ex68]
      refine ih x68 _ ?_ h
      exact ⟨_, _, by simp [hw], rfl, by simp [g6, g9, g10, g12, g92, g93, hl0, hl1, ex44, ex45, ey46a, ey46b, ey46c, ex47, ex48, ex49, ey50a, ey50b, ey50c, ex51, ex52, ey53a, ey53b, ey53c, ey54a, ey54b, ey54c, ex55, ex56, ex63, ex64, ex65, ex66, ex67, ex68]⟩
  · rintro k n ⟨v29, m30, m31⟩ σ ⟨ts, w, hw, rfl, g6, g9, g10, g12, g13, g64, g65, g66, hl0, hl1, -⟩ h ih ex
    clear hL0
    rw [f11_L0] at h
    replace h := bindT h; obtain ⟨x32, ex32, h⟩ := h
    cases x32
    case false =>
     simp [g6, g9, g10, g12, g13, g64, g65, g66, hl0, hl1, ex32]
     refine ex (m30, m31) _ ?_ h
     exact ⟨_, _, by simp [hw], rfl, by simp [g6, g9, g10, g12, g13, g64, g65, g66, hl0, hl1, ex32]⟩
    replace h := bind_ok h; obtain ⟨y33, ey33, h⟩ := h
    obtain ⟨ey33a, ey33e, ey33b, ey33c, ey33g⟩ := gI_ok rfl ey33
    replace h := bindT h; obtain ⟨x34, ex34, h⟩ := h
    cases x34
    case true =>
     obtain rfl := inj_ok h
     simp [g6, g9, g10, g12, g13, g64, g65, g66, hl0, hl1, ex32, ey33a, ey33b, ey33c, ex34, hw]
    replace h := bindT h; obtain ⟨x35, ex35, h⟩ := h
    cases x35
    case true =>
     obtain rfl := inj_ok h
     simp [g6, g9, g10, g12, g13, g64, g65, g66, hl0, hl1, ex32, ey33a, ey33b, ey33c, ex34, ex35, hw]
    replace h := bind_ok h; obtain ⟨y36, ey36, h⟩ := h
    obtain ⟨ey36a, ey36e, ey36b, ey36c, ey36g⟩ := gI_ok hl1 ey36
    cases y36
    case true =>
     obtain rfl := inj_ok h
     simp [g6, g9, g10, g12, g13, g64, g65, g66, hl0, hl1, ex32, ey33a, ey33b, ey33c, ex34, ex35, ey36a, ey36b, ey36c, hw]
    replace h := bind_ok h; obtain ⟨y37, ey37, h⟩ := h
    obtain ⟨ey37a, ey37e, ey37b, ey37c, ey37g⟩ := gI_ok hl0 ey37
    replace h := bind_ok h; obtain ⟨m38, em38, h⟩ := h
    obtain ⟨em38a, em38e, em38l, em38s, em38q⟩ := sI_ok iv hl0 em38
    have hl0 := em38l
    replace h := bind_ok h; obtain ⟨m39, em39, h⟩ := h
    obtain ⟨em39a, em39e, em39l, em39s, em39q⟩ := sI_ok bvl hl1 em39
    have hl1 := em39l
    replace h := bindT h; obtain ⟨x40, ex40, h⟩ := h
    simp [g6, g9, g10, g12, g13, g64, g65, g66, hl0, hl1, ex32, ey33a, ey33b, ey33c, ex34, ex35, ey36a, ey36b, ey36c, ey37a, ey37b, ey37c, em38a, em38s, em39a, em39s, ex40]
    refine ih (x40, m38, m39) _ ?_ h
    exact ⟨_, _, by simp [hw], rfl, by simp [g6, g9, g10, g12, g13, g64, g65, g66, hl0, hl1, ex32, ey33a, ey33b, ey33c, ex34, ex35, ey36a, ey36b, ey36c, ey37a, ey37b, ey37c, em38a, em38s, em39a, em39s, ex40]⟩
end Go.Proofs.YtcjephdjemapbaaDoor
