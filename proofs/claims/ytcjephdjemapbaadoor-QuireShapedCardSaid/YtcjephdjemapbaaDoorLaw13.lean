/-
  law 13
  Printed by wip/tools/walk.py. Conditions: none; definitions and lemmas.
-/
import Derived.Test.YtcjephdjemapbaaDoorCreased
set_option linter.unusedSimpArgs false
set_option linter.unusedVariables false
namespace Go.Proofs.YtcjephdjemapbaaDoor
open Go.Abs Go.Pur
set_option maxRecDepth 100000
set_option maxHeartbeats 2000000
attribute [local simp] EK_region EK_seq EK_cond EK_block EK_blk EK_loop EK_exit EK.ex EK_ret EK_skip EK_nil EO_cons EO_nil EO1_true EO1_false EO2_some EO3_some EB_true EB_false pwanted poper pq pev Go.Pur.look pputT isAssign drOf pinit Tr.get_set lget pvOf_int pvOf_bool pvOf_str pvOf_nil rdv_ak notOwn_ak prt_ak loose_ak rdv_own rdv_fz rdv_bor rdv_rf rdv_pt rdv_v rdv_a rdv_t rdv_r rdv_p rdv_s rdv_f pbin plen pload ppart idxAddr pcond Nat.blt goInt_eq prun_not prun_neg mayLoad ER_ret ER_normal presL presOne moved stor okDrop settle_v settle_l settle_a settle_p settle_f noref_v noref_fz noref_a norefs_nil norefs_cons pclose given dropB Y0_keep pevParts stors pvCells pvCells.go vcells pfill reps zipParts ownFz pcells cellOK one psrcLen srcFits psrc takeP pgrow take getPl setPl mapL plEq elder isList lowP pevs frzs addP partAt ble_lim24 killV_v killV_a killV_t killV_f killV_i killV_p killV_s killV_un killV_dead killV_lfz killV_lbor killV_lown killV_rfz killV_rbor killV_lak killV_rak frzV_v frzV_a frzV_t frzV_f frzV_i frzV_p frzV_s frzV_un frzV_dead frzV_lfz frzV_lbor frzV_lown frzV_rfz frzV_rbor frzV_lak frzV_rak killCell_v killCell_a killCell_t killCell_f killCell_i killCell_p killCell_s killCell_un killCell_dead killCell_lfz killCell_lbor killCell_lown killCell_rfz killCell_rbor killCell_lak killCell_rak killV_lrf killV_lpt killV_rpt frzV_lrf frzV_lpt frzV_rpt killCell_lrft killCell_lptt killCell_rptt killCell_lrfc killCell_lptc killCell_rptc argv_lak argv_rak argv_v argv_a argv_p argv_f argv_fz argv_bor argv_rf argv_pt argv_rc argv_own mayTurn_none argvs pcallOp firm refsTo_v refsTo_l refsTo_p refsTo_s refsTo_a refsTo_dead refsTo_nil refsTo_cons isOwn_lak ownFz_lak evSafe pskip plain pnewBlk fldAddr isOwn pput notOwn_fz notOwn_bor notOwn_own notOwn_rf notOwn_pt prt_fz prt_bor prt_own prt_rf prt_pt Go.Pur.freeze presM settles abin_and abin_or abin_andNot abin_mul abin_shr abin_shl abin_add abin_sub abin_eql abin_neq abin_lss abin_leq abin_gtr abin_geq keep13 sz3 by3 row3 zero3 sz4 by4 row4 zero4 sz5 by5 row5 zero5 sz9 by9 row9 shape9 zero9 sz21 by21 row21 zero21 sz23 by23 row23 shape23 zero23 sz24 by24 row24 zero24 sz38 by38 row38 shape38 zero38 sz47 by47 row47 shape47 zero47 parts47 sz51 by51 row51 zero51 sz54 by54 row54 shape54 zero54 sz55 by55 row55 shape55 zero55 sz58 by58 row58 shape58 zero58 sz60 by60 row60 zero60 sz63 by63 row63 shape63 zero63 sz73 by73 row73 shape73 zero73 parts73 sz79 by79 row79 shape79 zero79 sz81 by81 row81 shape81 zero81 parts81 sz86 by86 row86 shape86 parts86 sz90 by90 row90 zero90 sz92 by92 row92 zero92 sz96 by96 row96 zero96 parts96 field96_0 field96_1 sz99 by99 row99 zero99 sz104 by104 row104 zero104 sz106 by106 row106 zero106 parts106 field106_0 field106_1 sz119 by119 row119 zero119 sz123 by123 row123 zero123 sz124 by124 row124 shape124 zero124 parts124 sz125 by125 row125 shape125 zero125 parts125 sz126 by126 row126 shape126 parts126 sz128 by128 row128 zero128 parts128 field128_0 field128_1 sz129 by129 row129 shape129 zero129 parts129 sz133 by133 row133 zero133 bs_size gAt gAt0 sAt sAt0 optPlain rows_len noMaker_eq kindOf vlOf abin_rem abin_quo mayTurn_none lowOf_none Go.Pur.partAt rows_nil rows_cons ble_add ble_add0 ble_same toPlain toPlain.go intIn2_0 intIn2_1 ble12 ble22 tv lv max_int min_int pplains ak_true ak_false apartP beq_add beq_add0 beq_add1 argv_s wok_none wok_low_iff lowOf_wok
theorem bool_neq_4Law13 {x y : Operand} {a b : Bool} : abin Tryd.prog .neq 4 x y (.bool a) (.bool b) = some (.bool (a != b)) := by cases a <;> cases b <;> kernel_rfl
theorem bool_eql_4Law13 {x y : Operand} {a b : Bool} : abin Tryd.prog .eql 4 x y (.bool a) (.bool b) = some (.bool (a == b)) := by cases a <;> cases b <;> kernel_rfl
theorem conv_60_3Law13 {z : Int} : prunP Tryd.prog (convert 60 3 (.int .i8 z)) = some (.int .i64 (IntKind.i64.wrap z)) := by kernel_rfl
def f13_L0 (F : Nat) (p2 : List Int) (x21 : Int) (K : Int × List Int → Option (Bool)) : Nat → Int × List Int × Int → Option (Bool)
  | 0, _ => none
  | n + 1, (v25, v26, v27) => (some (decide (v27 < x21))).bind fun x28 =>
    (match x28 with
    | true => ((gI p2 v27).bind fun y29 =>
    (some (IntKind.i64.wrap y29)).bind fun x30 =>
    (some (Int.tmod x30 20)).bind fun x31 =>
    (some (IntKind.i64.wrap (x31 - 1))).bind fun x32 =>
    (some (decide (v25 = 0))).bind fun x33 =>
    (match x33 with
    | true => ((some (decide (x32 < 0))).bind fun x34 =>
    (match x34 with
    | true => ((app1 v26 x32).bind fun x35 =>
    (some (IntKind.i64.wrap (v27 + 1))).bind fun x36 =>
    f13_L0 F p2 x21 K n (2, x35, x36))
    | false => ((some ((p2.length : Int))).bind fun x37 =>
    (some (decide (x37 ≤ x32))).bind fun x38 =>
    (match x38 with
    | true => ((app1 v26 x32).bind fun x39 =>
    (some (IntKind.i64.wrap (v27 + 1))).bind fun x40 =>
    f13_L0 F p2 x21 K n (2, x39, x40))
    | false => ((f50S F v26 x32).bind fun b41 =>
    (match b41 with
    | true => ((app1 v26 x32).bind fun x43 =>
    (some (IntKind.i64.wrap (v27 + 1))).bind fun x44 =>
    f13_L0 F p2 x21 K n (6, x43, x44))
    | false => ((app1 v26 x32).bind fun x45 =>
    (some (IntKind.i64.wrap (v27 + 1))).bind fun x46 =>
    f13_L0 F p2 x21 K n (v25, x45, x46))))))))
    | false => ((app1 v26 x32).bind fun x47 =>
    (some (IntKind.i64.wrap (v27 + 1))).bind fun x48 =>
    f13_L0 F p2 x21 K n (v25, x47, x48))))
    | false => (K (v25, v26)))
def f13_L1 (F : Nat) (p2 : List Int) (x95 : Int) (K : Int × List Int → Option (Bool)) : Nat → Int × List Int × Int → Option (Bool)
  | 0, _ => none
  | n + 1, (v99, v100, v101) => (some (decide (v101 < x95))).bind fun x102 =>
    (match x102 with
    | true => ((gI p2 v101).bind fun y103 =>
    (some (IntKind.i64.wrap y103)).bind fun x104 =>
    (some (Int.tmod x104 20)).bind fun x105 =>
    (some (IntKind.i64.wrap (x105 - 1))).bind fun x106 =>
    (some (decide (v99 = 0))).bind fun x107 =>
    (match x107 with
    | true => ((some (decide (x106 < 0))).bind fun x108 =>
    (match x108 with
    | true => ((app1 v100 x106).bind fun x109 =>
    (some (IntKind.i64.wrap (v101 + 1))).bind fun x110 =>
    f13_L1 F p2 x95 K n (2, x109, x110))
    | false => ((some ((p2.length : Int))).bind fun x111 =>
    (some (decide (x111 ≤ x106))).bind fun x112 =>
    (match x112 with
    | true => ((app1 v100 x106).bind fun x113 =>
    (some (IntKind.i64.wrap (v101 + 1))).bind fun x114 =>
    f13_L1 F p2 x95 K n (2, x113, x114))
    | false => ((f50S F v100 x106).bind fun b115 =>
    (match b115 with
    | true => ((app1 v100 x106).bind fun x117 =>
    (some (IntKind.i64.wrap (v101 + 1))).bind fun x118 =>
    f13_L1 F p2 x95 K n (6, x117, x118))
    | false => ((app1 v100 x106).bind fun x119 =>
    (some (IntKind.i64.wrap (v101 + 1))).bind fun x120 =>
    f13_L1 F p2 x95 K n (v99, x119, x120))))))))
    | false => ((app1 v100 x106).bind fun x121 =>
    (some (IntKind.i64.wrap (v101 + 1))).bind fun x122 =>
    f13_L1 F p2 x95 K n (v99, x121, x122))))
    | false => (K (v99, v100)))
def f13S (F : Nat) (p0 : Int) (p1 : Int) (p2 : List Int) : Option (Bool) :=
  (creasedO p0 p1).bind fun x1 =>
  (some ((x1.length : Int))).bind fun x2 =>
  (some (IntKind.i64.wrap (x2 + 1))).bind fun x3 =>
  (f49S F x3).bind fun x4 =>
  (some (decide (x4 = x3))).bind fun x6 =>
  (match x6 with
  | true => ((f29S F x1).bind fun (s7, x8) =>
  (f31S F x1).bind fun (x10, x11, x12) =>
  (some (decide (x8 = 5))).bind fun x14 =>
  (some ((x14 != false))).bind fun x15 =>
  (match x15 with
  | true => (some false)
  | false => ((some (decide (x12 = 5))).bind fun x16 =>
  (some ((x16 != false))).bind fun x17 =>
  (match x17 with
  | true => (some false)
  | false => ((f33S F x1 x2 0).bind fun x18 =>
  (some (decide (x18 = 2))).bind fun x20 =>
  (match x20 with
  | true => ((some ((p2.length : Int))).bind fun x21 =>
  (some (decide (16 < x21))).bind fun x22 =>
  (match x22 with
  | true => ((f17S F ).bind fun b23 =>
  some b23)
  | false => (f13_L0 F p2 x21 (fun (v49, v50) =>
    (some ((p2.length : Int))).bind fun x51 =>
    (some (decide (x51 = 0))).bind fun x52 =>
    (match x52 with
    | true => ((f40S F v50).bind fun (s53, x54) =>
    (some (decide (x54 = 5))).bind fun x56 =>
    (match x56 with
    | true => ((f17S F ).bind fun b57 =>
    some b57)
    | false => (some false)))
    | false => ((f49S F x51).bind fun x59 =>
    (some (decide (x59 = x51))).bind fun x61 =>
    (match x61 with
    | true => ((f40S F v50).bind fun (s62, x63) =>
    (some (decide (v49 = 0))).bind fun x65 =>
    (match x65 with
    | true => ((some (decide (x63 = 0))).bind fun x66 =>
    (match x66 with
    | true => ((f17S F ).bind fun b67 =>
    some b67)
    | false => ((some (decide (x63 = 12))).bind fun x69 =>
    (match x69 with
    | true => ((f17S F ).bind fun b70 =>
    some b70)
    | false => (some false)))))
    | false => ((some (decide (x63 = v49))).bind fun x72 =>
    (match x72 with
    | true => ((f17S F ).bind fun b73 =>
    some b73)
    | false => (some false)))))
    | false => ((f40S F v50).bind fun (s75, x76) =>
    (some (decide (x76 = 5))).bind fun x78 =>
    (match x78 with
    | true => ((f17S F ).bind fun b79 =>
    some b79)
    | false => (some false))))))) F (0, [], 0))))
  | false => (some false)))))))
  | false => ((f29S F x1).bind fun (s81, x82) =>
  (f31S F x1).bind fun (x84, x85, x86) =>
  (some (decide (x82 = 5))).bind fun x88 =>
  (some ((x88 != true))).bind fun x89 =>
  (match x89 with
  | true => (some false)
  | false => ((some (decide (x86 = 5))).bind fun x90 =>
  (some ((x90 != true))).bind fun x91 =>
  (match x91 with
  | true => (some false)
  | false => ((f33S F x1 x2 0).bind fun x92 =>
  (some (decide (x92 = 5))).bind fun x94 =>
  (match x94 with
  | true => ((some ((p2.length : Int))).bind fun x95 =>
  (some (decide (16 < x95))).bind fun x96 =>
  (match x96 with
  | true => ((f17S F ).bind fun b97 =>
  some b97)
  | false => (f13_L1 F p2 x95 (fun (v123, v124) =>
    (some ((p2.length : Int))).bind fun x125 =>
    (some (decide (x125 = 0))).bind fun x126 =>
    (match x126 with
    | true => ((f40S F v124).bind fun (s127, x128) =>
    (some (decide (x128 = 5))).bind fun x130 =>
    (match x130 with
    | true => ((f17S F ).bind fun b131 =>
    some b131)
    | false => (some false)))
    | false => ((f49S F x125).bind fun x133 =>
    (some (decide (x133 = x125))).bind fun x135 =>
    (match x135 with
    | true => ((f40S F v124).bind fun (s136, x137) =>
    (some (decide (v123 = 0))).bind fun x139 =>
    (match x139 with
    | true => ((some (decide (x137 = 0))).bind fun x140 =>
    (match x140 with
    | true => ((f17S F ).bind fun b141 =>
    some b141)
    | false => ((some (decide (x137 = 12))).bind fun x143 =>
    (match x143 with
    | true => ((f17S F ).bind fun b144 =>
    some b144)
    | false => (some false)))))
    | false => ((some (decide (x137 = v123))).bind fun x146 =>
    (match x146 with
    | true => ((f17S F ).bind fun b147 =>
    some b147)
    | false => (some false)))))
    | false => ((f40S F v124).bind fun (s149, x150) =>
    (some (decide (x150 = 5))).bind fun x152 =>
    (match x152 with
    | true => ((f17S F ).bind fun b153 =>
    some b153)
    | false => (some false))))))) F (0, [], 0))))
  | false => (some false))))))))
theorem f13_is {p0 : Int} {p1 : Int} {a2 : Bool} {c2 : Ck} {p2 : List Int} {hp : List (Option (List PV))} {F : Nat} {r : (Bool)}  (h : f13S F p0 p1 p2 = some r) :
    E Tryd.prog Y0 13 [kv .u8 p0, kv .u64 p1, .l (ak a2) c2 p2.length (p2.map (kv .i8))] hp = some (.v (.bool r), hp, none) := by
  rw [E_bodyN 3 body13 rfl (by decide) rfl]
  simp only [Tryd.f13, Option.get_some]
  unfold f13S at h
  cases a2 with
  | true =>
    obtain ⟨x1, ex1, h⟩ := bind_ok h
    have ex1 : ∀ hp, E Tryd.prog Y0 46 [kv .u8 p0, kv .u64 p1] hp = some (.v (.string (bs x1)), hp, none) := fun hp => f46_is ex1
    obtain ⟨x2, ex2, h⟩ := bindT h
    obtain ⟨x3, ex3, h⟩ := bindT h
    obtain ⟨x4, e5, h⟩ := bind_ok h
    have e5 : ∀ hp, E Tryd.prog Y0 49 [iv x3] hp = some (iv x4, hp, none) := fun hp => f49_is  e5
    obtain ⟨x6, ex6, h⟩ := bindT h
    cases x6
    case true =>
     obtain ⟨⟨s7, x8⟩, e9, h⟩ := bind_ok h
     try dsimp only at h
     have e9 : ∀ hp, E Tryd.prog Y0 29 [.v (.string (bs x1))] hp = some (.t [.v (.string (bs s7)), iv x8], hp, none) := fun hp => f29_is  e9
     obtain ⟨⟨x10, x11, x12⟩, e13, h⟩ := bind_ok h
     try dsimp only at h
     have e13 : ∀ hp, E Tryd.prog Y0 31 [.v (.string (bs x1))] hp = some (.t [iv x10, iv x11, iv x12], hp, none) := fun hp => f31_is  e13
     obtain ⟨x14, ex14, h⟩ := bindT h
     obtain ⟨x15, ex15, h⟩ := bindT h
     cases x15
     case true =>
      obtain rfl := inj_ok h
      simp [ex1, ex2, ex3, e5, ex6, e9, e13, ex14, bool_neq_4Law13, ex15]
     obtain ⟨x16, ex16, h⟩ := bindT h
     obtain ⟨x17, ex17, h⟩ := bindT h
     cases x17
     case true =>
      obtain rfl := inj_ok h
      simp [ex1, ex2, ex3, e5, ex6, e9, e13, ex14, bool_neq_4Law13, ex15, ex16, ex17]
     obtain ⟨x18, e19, h⟩ := bind_ok h
     have e19 : ∀ hp, E Tryd.prog Y0 33 [.v (.string (bs x1)), iv x2, iv 0] hp = some (iv x18, hp, none) := fun hp => f33_is  e19
     obtain ⟨x20, ex20, h⟩ := bindT h
     cases x20
     case false =>
      obtain rfl := inj_ok h
      simp [ex1, ex2, ex3, e5, ex6, e9, e13, ex14, bool_neq_4Law13, ex15, ex16, ex17, e19, ex20]
     obtain ⟨x21, ex21, h⟩ := bindT h
     obtain ⟨x22, ex22, h⟩ := bindT h
     cases x22
     case true =>
      obtain ⟨b23, e24, h⟩ := bind_ok h
      have e24 : ∀ hp, E Tryd.prog Y0 17 [] hp = some (.v (.bool b23), hp, none) := fun hp => f17_is  e24
      obtain rfl := inj_ok h
      simp [ex1, ex2, ex3, e5, ex6, e9, e13, ex14, bool_neq_4Law13, ex15, ex16, ex17, e19, ex20, ex21, ex22, e24]
     simp [ex1, ex2, ex3, e5, ex6, e9, e13, ex14, bool_neq_4Law13, ex15, ex16, ex17, e19, ex20, ex21, ex22]
     have hL0 := h; clear h
     refine loopS (S := f13_L0 F p2 x21) (fun (v25, v26, v27) σ => ∃ (ts : Tr PV) (w : Option Nat), wok hp.length w ∧ σ = ⟨[], ts, hp, w⟩ ∧ ts.get 2 = some (.l .bor c2 p2.length (p2.map (kv .i8))) ∧ ts.get 9 = some (iv v25) ∧ ts.get 16 = some (.l .own .nz v26.length (v26.map iv)) ∧ ts.get 76 = some (.l .bor c2 p2.length (p2.map (kv .i8))) ∧ ts.get 77 = some (iv x21) ∧ ts.get 78 = some (iv v27) ∧ True) (fun (v49, v50) σ => ∃ (ts : Tr PV) (w : Option Nat), wok hp.length w ∧ σ = ⟨[], ts, hp, w⟩ ∧ ts.get 2 = some (.l .bor c2 p2.length (p2.map (kv .i8))) ∧ ts.get 9 = some (iv v49) ∧ ts.get 16 = some (.l .own .nz v50.length (v50.map iv)) ∧ True) (fun _ => rfl) hL0 ?_ ?_ ?_
     · exact ⟨_, _, by simp, rfl, by simp [ex1, ex2, ex3, e5, ex6, e9, e13, ex14, bool_neq_4Law13, ex15, ex16, ex17, e19, ex20, ex21, ex22]⟩
     · rintro ⟨v49, v50⟩ σ ⟨ts, w, hw, rfl, g2, g9, g16, -⟩ h
       clear hL0
       try dsimp only at h
       obtain ⟨x51, ex51, h⟩ := bindT h
       obtain ⟨x52, ex52, h⟩ := bindT h
       cases x52
       case true =>
        obtain ⟨⟨s53, x54⟩, e55, h⟩ := bind_ok h
        try dsimp only at h
        have e55 : ∀ hp, E Tryd.prog Y0 40 [.l .bor .nz v50.length (v50.map iv)] hp = some (.t [.v (.string (bs s53)), iv x54], hp, none) := fun hp => f40_is (a0 := true) (c0 := .nz) e55
        obtain ⟨x56, ex56, h⟩ := bindT h
        cases x56
        case false =>
         obtain rfl := inj_ok h
         simp [g2, g9, g16, ex51, ex52, e55, ex56, hw]
        obtain ⟨b57, e58, h⟩ := bind_ok h
        have e58 : ∀ hp, E Tryd.prog Y0 17 [] hp = some (.v (.bool b57), hp, none) := fun hp => f17_is  e58
        obtain rfl := inj_ok h
        simp [g2, g9, g16, ex51, ex52, e55, ex56, e58, hw]
       obtain ⟨x59, e60, h⟩ := bind_ok h
       have e60 : ∀ hp, E Tryd.prog Y0 49 [iv x51] hp = some (iv x59, hp, none) := fun hp => f49_is  e60
       obtain ⟨x61, ex61, h⟩ := bindT h
       cases x61
       case false =>
        obtain ⟨⟨s75, x76⟩, e77, h⟩ := bind_ok h
        try dsimp only at h
        have e77 : ∀ hp, E Tryd.prog Y0 40 [.l .bor .nz v50.length (v50.map iv)] hp = some (.t [.v (.string (bs s75)), iv x76], hp, none) := fun hp => f40_is (a0 := true) (c0 := .nz) e77
        obtain ⟨x78, ex78, h⟩ := bindT h
        cases x78
        case false =>
         obtain rfl := inj_ok h
         simp [g2, g9, g16, ex51, ex52, e60, ex61, e77, ex78, hw]
        obtain ⟨b79, e80, h⟩ := bind_ok h
        have e80 : ∀ hp, E Tryd.prog Y0 17 [] hp = some (.v (.bool b79), hp, none) := fun hp => f17_is  e80
        obtain rfl := inj_ok h
        simp [g2, g9, g16, ex51, ex52, e60, ex61, e77, ex78, e80, hw]
       obtain ⟨⟨s62, x63⟩, e64, h⟩ := bind_ok h
       try dsimp only at h
       have e64 : ∀ hp, E Tryd.prog Y0 40 [.l .bor .nz v50.length (v50.map iv)] hp = some (.t [.v (.string (bs s62)), iv x63], hp, none) := fun hp => f40_is (a0 := true) (c0 := .nz) e64
       obtain ⟨x65, ex65, h⟩ := bindT h
       cases x65
       case false =>
        obtain ⟨x72, ex72, h⟩ := bindT h
        cases x72
        case false =>
         obtain rfl := inj_ok h
         simp [g2, g9, g16, ex51, ex52, e60, ex61, e64, ex65, ex72, hw]
        obtain ⟨b73, e74, h⟩ := bind_ok h
        have e74 : ∀ hp, E Tryd.prog Y0 17 [] hp = some (.v (.bool b73), hp, none) := fun hp => f17_is  e74
        obtain rfl := inj_ok h
        simp [g2, g9, g16, ex51, ex52, e60, ex61, e64, ex65, ex72, e74, hw]
       obtain ⟨x66, ex66, h⟩ := bindT h
       cases x66
       case true =>
        obtain ⟨b67, e68, h⟩ := bind_ok h
        have e68 : ∀ hp, E Tryd.prog Y0 17 [] hp = some (.v (.bool b67), hp, none) := fun hp => f17_is  e68
        obtain rfl := inj_ok h
        simp [g2, g9, g16, ex51, ex52, e60, ex61, e64, ex65, ex66, e68, hw]
       obtain ⟨x69, ex69, h⟩ := bindT h
       cases x69
       case false =>
        obtain rfl := inj_ok h
        simp [g2, g9, g16, ex51, ex52, e60, ex61, e64, ex65, ex66, ex69, hw]
       obtain ⟨b70, e71, h⟩ := bind_ok h
       have e71 : ∀ hp, E Tryd.prog Y0 17 [] hp = some (.v (.bool b70), hp, none) := fun hp => f17_is  e71
       obtain rfl := inj_ok h
       simp [g2, g9, g16, ex51, ex52, e60, ex61, e64, ex65, ex66, ex69, e71, hw]
     · rintro k n ⟨v25, v26, v27⟩ σ ⟨ts, w, hw, rfl, g2, g9, g16, g76, g77, g78, -⟩ h ih ex
       clear hL0
       rw [f13_L0] at h
       obtain ⟨x28, ex28, h⟩ := bindT h
       cases x28
       case false =>
        simp [g2, g9, g16, g76, g77, g78, ex28]
        refine ex (v25, v26) _ ?_ h
        exact ⟨_, _, by simp [hw], rfl, by simp [g2, g9, g16, g76, g77, g78, ex28]⟩
       obtain ⟨y29, ey29, h⟩ := bind_ok h
       obtain ⟨ey29a, ey29e, ey29b, ey29c, ey29g⟩ := gI_ok rfl ey29
       obtain ⟨x30, ex30, h⟩ := bindT h
       obtain ⟨x31, ex31, h⟩ := bindT h
       obtain ⟨x32, ex32, h⟩ := bindT h
       obtain ⟨x33, ex33, h⟩ := bindT h
       cases x33
       case false =>
        obtain ⟨x47, ex47, h⟩ := bind_ok h
        obtain ⟨ex47a, ex47b, ex47c, ex47q⟩ := app1_ok iv ex47
        have ex47b := ex47b 10 (by decide)
        obtain ⟨x48, ex48, h⟩ := bindT h
        simp [g2, g9, g16, g76, g77, g78, ex28, ey29a, ey29b, ey29c, conv_60_3Law13, ex30, ex31, ex32, ex33, ex47a, ex47b, ex47c, ex48]
        refine ih (v25, x47, x48) _ ?_ h
        exact ⟨_, _, by simp [hw], rfl, by simp [g2, g9, g16, g76, g77, g78, ex28, ey29a, ey29b, ey29c, conv_60_3Law13, ex30, ex31, ex32, ex33, ex47a, ex47b, ex47c, ex48]⟩
       obtain ⟨x34, ex34, h⟩ := bindT h
       cases x34
       case true =>
        obtain ⟨x35, ex35, h⟩ := bind_ok h
        obtain ⟨ex35a, ex35b, ex35c, ex35q⟩ := app1_ok iv ex35
        have ex35b := ex35b 10 (by decide)
        obtain ⟨x36, ex36, h⟩ := bindT h
        simp [g2, g9, g16, g76, g77, g78, ex28, ey29a, ey29b, ey29c, conv_60_3Law13, ex30, ex31, ex32, ex33, ex34, ex35a, ex35b, ex35c, ex36]
        refine ih (2, x35, x36) _ ?_ h
        exact ⟨_, _, by simp [hw], rfl, by simp [g2, g9, g16, g76, g77, g78, ex28, ey29a, ey29b, ey29c, conv_60_3Law13, ex30, ex31, ex32, ex33, ex34, ex35a, ex35b, ex35c, ex36]⟩
       obtain ⟨x37, ex37, h⟩ := bindT h
       obtain ⟨x38, ex38, h⟩ := bindT h
       cases x38
       case true =>
        obtain ⟨x39, ex39, h⟩ := bind_ok h
        obtain ⟨ex39a, ex39b, ex39c, ex39q⟩ := app1_ok iv ex39
        have ex39b := ex39b 10 (by decide)
        obtain ⟨x40, ex40, h⟩ := bindT h
        simp [g2, g9, g16, g76, g77, g78, ex28, ey29a, ey29b, ey29c, conv_60_3Law13, ex30, ex31, ex32, ex33, ex34, ex37, ex38, ex39a, ex39b, ex39c, ex40]
        refine ih (2, x39, x40) _ ?_ h
        exact ⟨_, _, by simp [hw], rfl, by simp [g2, g9, g16, g76, g77, g78, ex28, ey29a, ey29b, ey29c, conv_60_3Law13, ex30, ex31, ex32, ex33, ex34, ex37, ex38, ex39a, ex39b, ex39c, ex40]⟩
       obtain ⟨b41, e42, h⟩ := bind_ok h
       have e42 : ∀ hp, E Tryd.prog Y0 50 [.l .bor .nz v26.length (v26.map iv), iv x32] hp = some (.v (.bool b41), hp, none) := fun hp => f50_is (a0 := true) (c0 := .nz) e42
       cases b41
       case true =>
        obtain ⟨x43, ex43, h⟩ := bind_ok h
        obtain ⟨ex43a, ex43b, ex43c, ex43q⟩ := app1_ok iv ex43
        have ex43b := ex43b 10 (by decide)
        obtain ⟨x44, ex44, h⟩ := bindT h
        simp [g2, g9, g16, g76, g77, g78, ex28, ey29a, ey29b, ey29c, conv_60_3Law13, ex30, ex31, ex32, ex33, ex34, ex37, ex38, e42, ex43a, ex43b, ex43c, ex44]
        refine ih (6, x43, x44) _ ?_ h
        exact ⟨_, _, by simp [hw], rfl, by simp [g2, g9, g16, g76, g77, g78, ex28, ey29a, ey29b, ey29c, conv_60_3Law13, ex30, ex31, ex32, ex33, ex34, ex37, ex38, e42, ex43a, ex43b, ex43c, ex44]⟩
       obtain ⟨x45, ex45, h⟩ := bind_ok h
       obtain ⟨ex45a, ex45b, ex45c, ex45q⟩ := app1_ok iv ex45
       have ex45b := ex45b 10 (by decide)
       obtain ⟨x46, ex46, h⟩ := bindT h
       simp [g2, g9, g16, g76, g77, g78, ex28, ey29a, ey29b, ey29c, conv_60_3Law13, ex30, ex31, ex32, ex33, ex34, ex37, ex38, e42, ex45a, ex45b, ex45c, ex46]
       refine ih (v25, x45, x46) _ ?_ h
       exact ⟨_, _, by simp [hw], rfl, by simp [g2, g9, g16, g76, g77, g78, ex28, ey29a, ey29b, ey29c, conv_60_3Law13, ex30, ex31, ex32, ex33, ex34, ex37, ex38, e42, ex45a, ex45b, ex45c, ex46]⟩
    obtain ⟨⟨s81, x82⟩, e83, h⟩ := bind_ok h
    try dsimp only at h
    have e83 : ∀ hp, E Tryd.prog Y0 29 [.v (.string (bs x1))] hp = some (.t [.v (.string (bs s81)), iv x82], hp, none) := fun hp => f29_is  e83
    obtain ⟨⟨x84, x85, x86⟩, e87, h⟩ := bind_ok h
    try dsimp only at h
    have e87 : ∀ hp, E Tryd.prog Y0 31 [.v (.string (bs x1))] hp = some (.t [iv x84, iv x85, iv x86], hp, none) := fun hp => f31_is  e87
    obtain ⟨x88, ex88, h⟩ := bindT h
    obtain ⟨x89, ex89, h⟩ := bindT h
    cases x89
    case true =>
     obtain rfl := inj_ok h
     simp [ex1, ex2, ex3, e5, ex6, e83, e87, ex88, bool_neq_4Law13, ex89]
    obtain ⟨x90, ex90, h⟩ := bindT h
    obtain ⟨x91, ex91, h⟩ := bindT h
    cases x91
    case true =>
     obtain rfl := inj_ok h
     simp [ex1, ex2, ex3, e5, ex6, e83, e87, ex88, bool_neq_4Law13, ex89, ex90, ex91]
    obtain ⟨x92, e93, h⟩ := bind_ok h
    have e93 : ∀ hp, E Tryd.prog Y0 33 [.v (.string (bs x1)), iv x2, iv 0] hp = some (iv x92, hp, none) := fun hp => f33_is  e93
    obtain ⟨x94, ex94, h⟩ := bindT h
    cases x94
    case false =>
     obtain rfl := inj_ok h
     simp [ex1, ex2, ex3, e5, ex6, e83, e87, ex88, bool_neq_4Law13, ex89, ex90, ex91, e93, ex94]
    obtain ⟨x95, ex95, h⟩ := bindT h
    obtain ⟨x96, ex96, h⟩ := bindT h
    cases x96
    case true =>
     obtain ⟨b97, e98, h⟩ := bind_ok h
     have e98 : ∀ hp, E Tryd.prog Y0 17 [] hp = some (.v (.bool b97), hp, none) := fun hp => f17_is  e98
     obtain rfl := inj_ok h
     simp [ex1, ex2, ex3, e5, ex6, e83, e87, ex88, bool_neq_4Law13, ex89, ex90, ex91, e93, ex94, ex95, ex96, e98]
    simp [ex1, ex2, ex3, e5, ex6, e83, e87, ex88, bool_neq_4Law13, ex89, ex90, ex91, e93, ex94, ex95, ex96]
    have hL1 := h; clear h
    refine loopS (S := f13_L1 F p2 x95) (fun (v99, v100, v101) σ => ∃ (ts : Tr PV) (w : Option Nat), wok hp.length w ∧ σ = ⟨[], ts, hp, w⟩ ∧ ts.get 2 = some (.l .bor c2 p2.length (p2.map (kv .i8))) ∧ ts.get 9 = some (iv v99) ∧ ts.get 16 = some (.l .own .nz v100.length (v100.map iv)) ∧ ts.get 76 = some (.l .bor c2 p2.length (p2.map (kv .i8))) ∧ ts.get 77 = some (iv x95) ∧ ts.get 78 = some (iv v101) ∧ True) (fun (v123, v124) σ => ∃ (ts : Tr PV) (w : Option Nat), wok hp.length w ∧ σ = ⟨[], ts, hp, w⟩ ∧ ts.get 2 = some (.l .bor c2 p2.length (p2.map (kv .i8))) ∧ ts.get 9 = some (iv v123) ∧ ts.get 16 = some (.l .own .nz v124.length (v124.map iv)) ∧ True) (fun _ => rfl) hL1 ?_ ?_ ?_
    · exact ⟨_, _, by simp, rfl, by simp [ex1, ex2, ex3, e5, ex6, e83, e87, ex88, bool_neq_4Law13, ex89, ex90, ex91, e93, ex94, ex95, ex96]⟩
    · rintro ⟨v123, v124⟩ σ ⟨ts, w, hw, rfl, g2, g9, g16, -⟩ h
      clear hL1
      try dsimp only at h
      obtain ⟨x125, ex125, h⟩ := bindT h
      obtain ⟨x126, ex126, h⟩ := bindT h
      cases x126
      case true =>
       obtain ⟨⟨s127, x128⟩, e129, h⟩ := bind_ok h
       try dsimp only at h
       have e129 : ∀ hp, E Tryd.prog Y0 40 [.l .bor .nz v124.length (v124.map iv)] hp = some (.t [.v (.string (bs s127)), iv x128], hp, none) := fun hp => f40_is (a0 := true) (c0 := .nz) e129
       obtain ⟨x130, ex130, h⟩ := bindT h
       cases x130
       case false =>
        obtain rfl := inj_ok h
        simp [g2, g9, g16, ex125, ex126, e129, ex130, hw]
       obtain ⟨b131, e132, h⟩ := bind_ok h
       have e132 : ∀ hp, E Tryd.prog Y0 17 [] hp = some (.v (.bool b131), hp, none) := fun hp => f17_is  e132
       obtain rfl := inj_ok h
       simp [g2, g9, g16, ex125, ex126, e129, ex130, e132, hw]
      obtain ⟨x133, e134, h⟩ := bind_ok h
      have e134 : ∀ hp, E Tryd.prog Y0 49 [iv x125] hp = some (iv x133, hp, none) := fun hp => f49_is  e134
      obtain ⟨x135, ex135, h⟩ := bindT h
      cases x135
      case false =>
       obtain ⟨⟨s149, x150⟩, e151, h⟩ := bind_ok h
       try dsimp only at h
       have e151 : ∀ hp, E Tryd.prog Y0 40 [.l .bor .nz v124.length (v124.map iv)] hp = some (.t [.v (.string (bs s149)), iv x150], hp, none) := fun hp => f40_is (a0 := true) (c0 := .nz) e151
       obtain ⟨x152, ex152, h⟩ := bindT h
       cases x152
       case false =>
        obtain rfl := inj_ok h
        simp [g2, g9, g16, ex125, ex126, e134, ex135, e151, ex152, hw]
       obtain ⟨b153, e154, h⟩ := bind_ok h
       have e154 : ∀ hp, E Tryd.prog Y0 17 [] hp = some (.v (.bool b153), hp, none) := fun hp => f17_is  e154
       obtain rfl := inj_ok h
       simp [g2, g9, g16, ex125, ex126, e134, ex135, e151, ex152, e154, hw]
      obtain ⟨⟨s136, x137⟩, e138, h⟩ := bind_ok h
      try dsimp only at h
      have e138 : ∀ hp, E Tryd.prog Y0 40 [.l .bor .nz v124.length (v124.map iv)] hp = some (.t [.v (.string (bs s136)), iv x137], hp, none) := fun hp => f40_is (a0 := true) (c0 := .nz) e138
      obtain ⟨x139, ex139, h⟩ := bindT h
      cases x139
      case false =>
       obtain ⟨x146, ex146, h⟩ := bindT h
       cases x146
       case false =>
        obtain rfl := inj_ok h
        simp [g2, g9, g16, ex125, ex126, e134, ex135, e138, ex139, ex146, hw]
       obtain ⟨b147, e148, h⟩ := bind_ok h
       have e148 : ∀ hp, E Tryd.prog Y0 17 [] hp = some (.v (.bool b147), hp, none) := fun hp => f17_is  e148
       obtain rfl := inj_ok h
       simp [g2, g9, g16, ex125, ex126, e134, ex135, e138, ex139, ex146, e148, hw]
      obtain ⟨x140, ex140, h⟩ := bindT h
      cases x140
      case true =>
       obtain ⟨b141, e142, h⟩ := bind_ok h
       have e142 : ∀ hp, E Tryd.prog Y0 17 [] hp = some (.v (.bool b141), hp, none) := fun hp => f17_is  e142
       obtain rfl := inj_ok h
       simp [g2, g9, g16, ex125, ex126, e134, ex135, e138, ex139, ex140, e142, hw]
      obtain ⟨x143, ex143, h⟩ := bindT h
      cases x143
      case false =>
       obtain rfl := inj_ok h
       simp [g2, g9, g16, ex125, ex126, e134, ex135, e138, ex139, ex140, ex143, hw]
      obtain ⟨b144, e145, h⟩ := bind_ok h
      have e145 : ∀ hp, E Tryd.prog Y0 17 [] hp = some (.v (.bool b144), hp, none) := fun hp => f17_is  e145
      obtain rfl := inj_ok h
      simp [g2, g9, g16, ex125, ex126, e134, ex135, e138, ex139, ex140, ex143, e145, hw]
    · rintro k n ⟨v99, v100, v101⟩ σ ⟨ts, w, hw, rfl, g2, g9, g16, g76, g77, g78, -⟩ h ih ex
      clear hL1
      rw [f13_L1] at h
      obtain ⟨x102, ex102, h⟩ := bindT h
      cases x102
      case false =>
       simp [g2, g9, g16, g76, g77, g78, ex102]
       refine ex (v99, v100) _ ?_ h
       exact ⟨_, _, by simp [hw], rfl, by simp [g2, g9, g16, g76, g77, g78, ex102]⟩
      obtain ⟨y103, ey103, h⟩ := bind_ok h
      obtain ⟨ey103a, ey103e, ey103b, ey103c, ey103g⟩ := gI_ok rfl ey103
      obtain ⟨x104, ex104, h⟩ := bindT h
      obtain ⟨x105, ex105, h⟩ := bindT h
      obtain ⟨x106, ex106, h⟩ := bindT h
      obtain ⟨x107, ex107, h⟩ := bindT h
      cases x107
      case false =>
       obtain ⟨x121, ex121, h⟩ := bind_ok h
       obtain ⟨ex121a, ex121b, ex121c, ex121q⟩ := app1_ok iv ex121
       have ex121b := ex121b 10 (by decide)
       obtain ⟨x122, ex122, h⟩ := bindT h
       simp [g2, g9, g16, g76, g77, g78, ex102, ey103a, ey103b, ey103c, conv_60_3Law13, ex104, ex105, ex106, ex107, ex121a, ex121b, ex121c, ex122]
       refine ih (v99, x121, x122) _ ?_ h
       exact ⟨_, _, by simp [hw], rfl, by simp [g2, g9, g16, g76, g77, g78, ex102, ey103a, ey103b, ey103c, conv_60_3Law13, ex104, ex105, ex106, ex107, ex121a, ex121b, ex121c, ex122]⟩
      obtain ⟨x108, ex108, h⟩ := bindT h
      cases x108
      case true =>
       obtain ⟨x109, ex109, h⟩ := bind_ok h
       obtain ⟨ex109a, ex109b, ex109c, ex109q⟩ := app1_ok iv ex109
       have ex109b := ex109b 10 (by decide)
       obtain ⟨x110, ex110, h⟩ := bindT h
       simp [g2, g9, g16, g76, g77, g78, ex102, ey103a, ey103b, ey103c, conv_60_3Law13, ex104, ex105, ex106, ex107, ex108, ex109a, ex109b, ex109c, ex110]
       refine ih (2, x109, x110) _ ?_ h
       exact ⟨_, _, by simp [hw], rfl, by simp [g2, g9, g16, g76, g77, g78, ex102, ey103a, ey103b, ey103c, conv_60_3Law13, ex104, ex105, ex106, ex107, ex108, ex109a, ex109b, ex109c, ex110]⟩
      obtain ⟨x111, ex111, h⟩ := bindT h
      obtain ⟨x112, ex112, h⟩ := bindT h
      cases x112
      case true =>
       obtain ⟨x113, ex113, h⟩ := bind_ok h
       obtain ⟨ex113a, ex113b, ex113c, ex113q⟩ := app1_ok iv ex113
       have ex113b := ex113b 10 (by decide)
       obtain ⟨x114, ex114, h⟩ := bindT h
       simp [g2, g9, g16, g76, g77, g78, ex102, ey103a, ey103b, ey103c, conv_60_3Law13, ex104, ex105, ex106, ex107, ex108, ex111, ex112, ex113a, ex113b, ex113c, ex114]
       refine ih (2, x113, x114) _ ?_ h
       exact ⟨_, _, by simp [hw], rfl, by simp [g2, g9, g16, g76, g77, g78, ex102, ey103a, ey103b, ey103c, conv_60_3Law13, ex104, ex105, ex106, ex107, ex108, ex111, ex112, ex113a, ex113b, ex113c, ex114]⟩
      obtain ⟨b115, e116, h⟩ := bind_ok h
      have e116 : ∀ hp, E Tryd.prog Y0 50 [.l .bor .nz v100.length (v100.map iv), iv x106] hp = some (.v (.bool b115), hp, none) := fun hp => f50_is (a0 := true) (c0 := .nz) e116
      cases b115
      case true =>
       obtain ⟨x117, ex117, h⟩ := bind_ok h
       obtain ⟨ex117a, ex117b, ex117c, ex117q⟩ := app1_ok iv ex117
       have ex117b := ex117b 10 (by decide)
       obtain ⟨x118, ex118, h⟩ := bindT h
       simp [g2, g9, g16, g76, g77, g78, ex102, ey103a, ey103b, ey103c, conv_60_3Law13, ex104, ex105, ex106, ex107, ex108, ex111, ex112, e116, ex117a, ex117b, ex117c, ex118]
       refine ih (6, x117, x118) _ ?_ h
       exact ⟨_, _, by simp [hw], rfl, by simp [g2, g9, g16, g76, g77, g78, ex102, ey103a, ey103b, ey103c, conv_60_3Law13, ex104, ex105, ex106, ex107, ex108, ex111, ex112, e116, ex117a, ex117b, ex117c, ex118]⟩
      obtain ⟨x119, ex119, h⟩ := bind_ok h
      obtain ⟨ex119a, ex119b, ex119c, ex119q⟩ := app1_ok iv ex119
      have ex119b := ex119b 10 (by decide)
      obtain ⟨x120, ex120, h⟩ := bindT h
      simp [g2, g9, g16, g76, g77, g78, ex102, ey103a, ey103b, ey103c, conv_60_3Law13, ex104, ex105, ex106, ex107, ex108, ex111, ex112, e116, ex119a, ex119b, ex119c, ex120]
      refine ih (v99, x119, x120) _ ?_ h
      exact ⟨_, _, by simp [hw], rfl, by simp [g2, g9, g16, g76, g77, g78, ex102, ey103a, ey103b, ey103c, conv_60_3Law13, ex104, ex105, ex106, ex107, ex108, ex111, ex112, e116, ex119a, ex119b, ex119c, ex120]⟩
  | false =>
    obtain ⟨x1, ex1, h⟩ := bind_ok h
    have ex1 : ∀ hp, E Tryd.prog Y0 46 [kv .u8 p0, kv .u64 p1] hp = some (.v (.string (bs x1)), hp, none) := fun hp => f46_is ex1
    obtain ⟨x2, ex2, h⟩ := bindT h
    obtain ⟨x3, ex3, h⟩ := bindT h
    obtain ⟨x4, e5, h⟩ := bind_ok h
    have e5 : ∀ hp, E Tryd.prog Y0 49 [iv x3] hp = some (iv x4, hp, none) := fun hp => f49_is  e5
    obtain ⟨x6, ex6, h⟩ := bindT h
    cases x6
    case true =>
     obtain ⟨⟨s7, x8⟩, e9, h⟩ := bind_ok h
     try dsimp only at h
     have e9 : ∀ hp, E Tryd.prog Y0 29 [.v (.string (bs x1))] hp = some (.t [.v (.string (bs s7)), iv x8], hp, none) := fun hp => f29_is  e9
     obtain ⟨⟨x10, x11, x12⟩, e13, h⟩ := bind_ok h
     try dsimp only at h
     have e13 : ∀ hp, E Tryd.prog Y0 31 [.v (.string (bs x1))] hp = some (.t [iv x10, iv x11, iv x12], hp, none) := fun hp => f31_is  e13
     obtain ⟨x14, ex14, h⟩ := bindT h
     obtain ⟨x15, ex15, h⟩ := bindT h
     cases x15
     case true =>
      obtain rfl := inj_ok h
      simp [ex1, ex2, ex3, e5, ex6, e9, e13, ex14, bool_neq_4Law13, ex15]
     obtain ⟨x16, ex16, h⟩ := bindT h
     obtain ⟨x17, ex17, h⟩ := bindT h
     cases x17
     case true =>
      obtain rfl := inj_ok h
      simp [ex1, ex2, ex3, e5, ex6, e9, e13, ex14, bool_neq_4Law13, ex15, ex16, ex17]
     obtain ⟨x18, e19, h⟩ := bind_ok h
     have e19 : ∀ hp, E Tryd.prog Y0 33 [.v (.string (bs x1)), iv x2, iv 0] hp = some (iv x18, hp, none) := fun hp => f33_is  e19
     obtain ⟨x20, ex20, h⟩ := bindT h
     cases x20
     case false =>
      obtain rfl := inj_ok h
      simp [ex1, ex2, ex3, e5, ex6, e9, e13, ex14, bool_neq_4Law13, ex15, ex16, ex17, e19, ex20]
     obtain ⟨x21, ex21, h⟩ := bindT h
     obtain ⟨x22, ex22, h⟩ := bindT h
     cases x22
     case true =>
      obtain ⟨b23, e24, h⟩ := bind_ok h
      have e24 : ∀ hp, E Tryd.prog Y0 17 [] hp = some (.v (.bool b23), hp, none) := fun hp => f17_is  e24
      obtain rfl := inj_ok h
      simp [ex1, ex2, ex3, e5, ex6, e9, e13, ex14, bool_neq_4Law13, ex15, ex16, ex17, e19, ex20, ex21, ex22, e24]
     simp [ex1, ex2, ex3, e5, ex6, e9, e13, ex14, bool_neq_4Law13, ex15, ex16, ex17, e19, ex20, ex21, ex22]
     have hL0 := h; clear h
     refine loopS (S := f13_L0 F p2 x21) (fun (v25, v26, v27) σ => ∃ (ts : Tr PV) (w : Option Nat), wok hp.length w ∧ σ = ⟨[], ts, hp, w⟩ ∧ ts.get 2 = some (.l .fz c2 p2.length (p2.map (kv .i8))) ∧ ts.get 9 = some (iv v25) ∧ ts.get 16 = some (.l .own .nz v26.length (v26.map iv)) ∧ ts.get 76 = some (.l .fz c2 p2.length (p2.map (kv .i8))) ∧ ts.get 77 = some (iv x21) ∧ ts.get 78 = some (iv v27) ∧ True) (fun (v49, v50) σ => ∃ (ts : Tr PV) (w : Option Nat), wok hp.length w ∧ σ = ⟨[], ts, hp, w⟩ ∧ ts.get 2 = some (.l .fz c2 p2.length (p2.map (kv .i8))) ∧ ts.get 9 = some (iv v49) ∧ ts.get 16 = some (.l .own .nz v50.length (v50.map iv)) ∧ True) (fun _ => rfl) hL0 ?_ ?_ ?_
     · exact ⟨_, _, by simp, rfl, by simp [ex1, ex2, ex3, e5, ex6, e9, e13, ex14, bool_neq_4Law13, ex15, ex16, ex17, e19, ex20, ex21, ex22]⟩
     · rintro ⟨v49, v50⟩ σ ⟨ts, w, hw, rfl, g2, g9, g16, -⟩ h
       clear hL0
       try dsimp only at h
       obtain ⟨x51, ex51, h⟩ := bindT h
       obtain ⟨x52, ex52, h⟩ := bindT h
       cases x52
       case true =>
        obtain ⟨⟨s53, x54⟩, e55, h⟩ := bind_ok h
        try dsimp only at h
        have e55 : ∀ hp, E Tryd.prog Y0 40 [.l .bor .nz v50.length (v50.map iv)] hp = some (.t [.v (.string (bs s53)), iv x54], hp, none) := fun hp => f40_is (a0 := true) (c0 := .nz) e55
        obtain ⟨x56, ex56, h⟩ := bindT h
        cases x56
        case false =>
         obtain rfl := inj_ok h
         simp [g2, g9, g16, ex51, ex52, e55, ex56, hw]
        obtain ⟨b57, e58, h⟩ := bind_ok h
        have e58 : ∀ hp, E Tryd.prog Y0 17 [] hp = some (.v (.bool b57), hp, none) := fun hp => f17_is  e58
        obtain rfl := inj_ok h
        simp [g2, g9, g16, ex51, ex52, e55, ex56, e58, hw]
       obtain ⟨x59, e60, h⟩ := bind_ok h
       have e60 : ∀ hp, E Tryd.prog Y0 49 [iv x51] hp = some (iv x59, hp, none) := fun hp => f49_is  e60
       obtain ⟨x61, ex61, h⟩ := bindT h
       cases x61
       case false =>
        obtain ⟨⟨s75, x76⟩, e77, h⟩ := bind_ok h
        try dsimp only at h
        have e77 : ∀ hp, E Tryd.prog Y0 40 [.l .bor .nz v50.length (v50.map iv)] hp = some (.t [.v (.string (bs s75)), iv x76], hp, none) := fun hp => f40_is (a0 := true) (c0 := .nz) e77
        obtain ⟨x78, ex78, h⟩ := bindT h
        cases x78
        case false =>
         obtain rfl := inj_ok h
         simp [g2, g9, g16, ex51, ex52, e60, ex61, e77, ex78, hw]
        obtain ⟨b79, e80, h⟩ := bind_ok h
        have e80 : ∀ hp, E Tryd.prog Y0 17 [] hp = some (.v (.bool b79), hp, none) := fun hp => f17_is  e80
        obtain rfl := inj_ok h
        simp [g2, g9, g16, ex51, ex52, e60, ex61, e77, ex78, e80, hw]
       obtain ⟨⟨s62, x63⟩, e64, h⟩ := bind_ok h
       try dsimp only at h
       have e64 : ∀ hp, E Tryd.prog Y0 40 [.l .bor .nz v50.length (v50.map iv)] hp = some (.t [.v (.string (bs s62)), iv x63], hp, none) := fun hp => f40_is (a0 := true) (c0 := .nz) e64
       obtain ⟨x65, ex65, h⟩ := bindT h
       cases x65
       case false =>
        obtain ⟨x72, ex72, h⟩ := bindT h
        cases x72
        case false =>
         obtain rfl := inj_ok h
         simp [g2, g9, g16, ex51, ex52, e60, ex61, e64, ex65, ex72, hw]
        obtain ⟨b73, e74, h⟩ := bind_ok h
        have e74 : ∀ hp, E Tryd.prog Y0 17 [] hp = some (.v (.bool b73), hp, none) := fun hp => f17_is  e74
        obtain rfl := inj_ok h
        simp [g2, g9, g16, ex51, ex52, e60, ex61, e64, ex65, ex72, e74, hw]
       obtain ⟨x66, ex66, h⟩ := bindT h
       cases x66
       case true =>
        obtain ⟨b67, e68, h⟩ := bind_ok h
        have e68 : ∀ hp, E Tryd.prog Y0 17 [] hp = some (.v (.bool b67), hp, none) := fun hp => f17_is  e68
        obtain rfl := inj_ok h
        simp [g2, g9, g16, ex51, ex52, e60, ex61, e64, ex65, ex66, e68, hw]
       obtain ⟨x69, ex69, h⟩ := bindT h
       cases x69
       case false =>
        obtain rfl := inj_ok h
        simp [g2, g9, g16, ex51, ex52, e60, ex61, e64, ex65, ex66, ex69, hw]
       obtain ⟨b70, e71, h⟩ := bind_ok h
       have e71 : ∀ hp, E Tryd.prog Y0 17 [] hp = some (.v (.bool b70), hp, none) := fun hp => f17_is  e71
       obtain rfl := inj_ok h
       simp [g2, g9, g16, ex51, ex52, e60, ex61, e64, ex65, ex66, ex69, e71, hw]
     · rintro k n ⟨v25, v26, v27⟩ σ ⟨ts, w, hw, rfl, g2, g9, g16, g76, g77, g78, -⟩ h ih ex
       clear hL0
       rw [f13_L0] at h
       obtain ⟨x28, ex28, h⟩ := bindT h
       cases x28
       case false =>
        simp [g2, g9, g16, g76, g77, g78, ex28]
        refine ex (v25, v26) _ ?_ h
        exact ⟨_, _, by simp [hw], rfl, by simp [g2, g9, g16, g76, g77, g78, ex28]⟩
       obtain ⟨y29, ey29, h⟩ := bind_ok h
       obtain ⟨ey29a, ey29e, ey29b, ey29c, ey29g⟩ := gI_ok rfl ey29
       obtain ⟨x30, ex30, h⟩ := bindT h
       obtain ⟨x31, ex31, h⟩ := bindT h
       obtain ⟨x32, ex32, h⟩ := bindT h
       obtain ⟨x33, ex33, h⟩ := bindT h
       cases x33
       case false =>
        obtain ⟨x47, ex47, h⟩ := bind_ok h
        obtain ⟨ex47a, ex47b, ex47c, ex47q⟩ := app1_ok iv ex47
        have ex47b := ex47b 10 (by decide)
        obtain ⟨x48, ex48, h⟩ := bindT h
        simp [g2, g9, g16, g76, g77, g78, ex28, ey29a, ey29b, ey29c, conv_60_3Law13, ex30, ex31, ex32, ex33, ex47a, ex47b, ex47c, ex48]
        refine ih (v25, x47, x48) _ ?_ h
        exact ⟨_, _, by simp [hw], rfl, by simp [g2, g9, g16, g76, g77, g78, ex28, ey29a, ey29b, ey29c, conv_60_3Law13, ex30, ex31, ex32, ex33, ex47a, ex47b, ex47c, ex48]⟩
       obtain ⟨x34, ex34, h⟩ := bindT h
       cases x34
       case true =>
        obtain ⟨x35, ex35, h⟩ := bind_ok h
        obtain ⟨ex35a, ex35b, ex35c, ex35q⟩ := app1_ok iv ex35
        have ex35b := ex35b 10 (by decide)
        obtain ⟨x36, ex36, h⟩ := bindT h
        simp [g2, g9, g16, g76, g77, g78, ex28, ey29a, ey29b, ey29c, conv_60_3Law13, ex30, ex31, ex32, ex33, ex34, ex35a, ex35b, ex35c, ex36]
        refine ih (2, x35, x36) _ ?_ h
        exact ⟨_, _, by simp [hw], rfl, by simp [g2, g9, g16, g76, g77, g78, ex28, ey29a, ey29b, ey29c, conv_60_3Law13, ex30, ex31, ex32, ex33, ex34, ex35a, ex35b, ex35c, ex36]⟩
       obtain ⟨x37, ex37, h⟩ := bindT h
       obtain ⟨x38, ex38, h⟩ := bindT h
       cases x38
       case true =>
        obtain ⟨x39, ex39, h⟩ := bind_ok h
        obtain ⟨ex39a, ex39b, ex39c, ex39q⟩ := app1_ok iv ex39
        have ex39b := ex39b 10 (by decide)
        obtain ⟨x40, ex40, h⟩ := bindT h
        simp [g2, g9, g16, g76, g77, g78, ex28, ey29a, ey29b, ey29c, conv_60_3Law13, ex30, ex31, ex32, ex33, ex34, ex37, ex38, ex39a, ex39b, ex39c, ex40]
        refine ih (2, x39, x40) _ ?_ h
        exact ⟨_, _, by simp [hw], rfl, by simp [g2, g9, g16, g76, g77, g78, ex28, ey29a, ey29b, ey29c, conv_60_3Law13, ex30, ex31, ex32, ex33, ex34, ex37, ex38, ex39a, ex39b, ex39c, ex40]⟩
       obtain ⟨b41, e42, h⟩ := bind_ok h
       have e42 : ∀ hp, E Tryd.prog Y0 50 [.l .bor .nz v26.length (v26.map iv), iv x32] hp = some (.v (.bool b41), hp, none) := fun hp => f50_is (a0 := true) (c0 := .nz) e42
       cases b41
       case true =>
        obtain ⟨x43, ex43, h⟩ := bind_ok h
        obtain ⟨ex43a, ex43b, ex43c, ex43q⟩ := app1_ok iv ex43
        have ex43b := ex43b 10 (by decide)
        obtain ⟨x44, ex44, h⟩ := bindT h
        simp [g2, g9, g16, g76, g77, g78, ex28, ey29a, ey29b, ey29c, conv_60_3Law13, ex30, ex31, ex32, ex33, ex34, ex37, ex38, e42, ex43a, ex43b, ex43c, ex44]
        refine ih (6, x43, x44) _ ?_ h
        exact ⟨_, _, by simp [hw], rfl, by simp [g2, g9, g16, g76, g77, g78, ex28, ey29a, ey29b, ey29c, conv_60_3Law13, ex30, ex31, ex32, ex33, ex34, ex37, ex38, e42, ex43a, ex43b, ex43c, ex44]⟩
       obtain ⟨x45, ex45, h⟩ := bind_ok h
       obtain ⟨ex45a, ex45b, ex45c, ex45q⟩ := app1_ok iv ex45
       have ex45b := ex45b 10 (by decide)
       obtain ⟨x46, ex46, h⟩ := bindT h
       simp [g2, g9, g16, g76, g77, g78, ex28, ey29a, ey29b, ey29c, conv_60_3Law13, ex30, ex31, ex32, ex33, ex34, ex37, ex38, e42, ex45a, ex45b, ex45c, ex46]
       refine ih (v25, x45, x46) _ ?_ h
       exact ⟨_, _, by simp [hw], rfl, by simp [g2, g9, g16, g76, g77, g78, ex28, ey29a, ey29b, ey29c, conv_60_3Law13, ex30, ex31, ex32, ex33, ex34, ex37, ex38, e42, ex45a, ex45b, ex45c, ex46]⟩
    obtain ⟨⟨s81, x82⟩, e83, h⟩ := bind_ok h
    try dsimp only at h
    have e83 : ∀ hp, E Tryd.prog Y0 29 [.v (.string (bs x1))] hp = some (.t [.v (.string (bs s81)), iv x82], hp, none) := fun hp => f29_is  e83
    obtain ⟨⟨x84, x85, x86⟩, e87, h⟩ := bind_ok h
    try dsimp only at h
    have e87 : ∀ hp, E Tryd.prog Y0 31 [.v (.string (bs x1))] hp = some (.t [iv x84, iv x85, iv x86], hp, none) := fun hp => f31_is  e87
    obtain ⟨x88, ex88, h⟩ := bindT h
    obtain ⟨x89, ex89, h⟩ := bindT h
    cases x89
    case true =>
     obtain rfl := inj_ok h
     simp [ex1, ex2, ex3, e5, ex6, e83, e87, ex88, bool_neq_4Law13, ex89]
    obtain ⟨x90, ex90, h⟩ := bindT h
    obtain ⟨x91, ex91, h⟩ := bindT h
    cases x91
    case true =>
     obtain rfl := inj_ok h
     simp [ex1, ex2, ex3, e5, ex6, e83, e87, ex88, bool_neq_4Law13, ex89, ex90, ex91]
    obtain ⟨x92, e93, h⟩ := bind_ok h
    have e93 : ∀ hp, E Tryd.prog Y0 33 [.v (.string (bs x1)), iv x2, iv 0] hp = some (iv x92, hp, none) := fun hp => f33_is  e93
    obtain ⟨x94, ex94, h⟩ := bindT h
    cases x94
    case false =>
     obtain rfl := inj_ok h
     simp [ex1, ex2, ex3, e5, ex6, e83, e87, ex88, bool_neq_4Law13, ex89, ex90, ex91, e93, ex94]
    obtain ⟨x95, ex95, h⟩ := bindT h
    obtain ⟨x96, ex96, h⟩ := bindT h
    cases x96
    case true =>
     obtain ⟨b97, e98, h⟩ := bind_ok h
     have e98 : ∀ hp, E Tryd.prog Y0 17 [] hp = some (.v (.bool b97), hp, none) := fun hp => f17_is  e98
     obtain rfl := inj_ok h
     simp [ex1, ex2, ex3, e5, ex6, e83, e87, ex88, bool_neq_4Law13, ex89, ex90, ex91, e93, ex94, ex95, ex96, e98]
    simp [ex1, ex2, ex3, e5, ex6, e83, e87, ex88, bool_neq_4Law13, ex89, ex90, ex91, e93, ex94, ex95, ex96]
    have hL1 := h; clear h
    refine loopS (S := f13_L1 F p2 x95) (fun (v99, v100, v101) σ => ∃ (ts : Tr PV) (w : Option Nat), wok hp.length w ∧ σ = ⟨[], ts, hp, w⟩ ∧ ts.get 2 = some (.l .fz c2 p2.length (p2.map (kv .i8))) ∧ ts.get 9 = some (iv v99) ∧ ts.get 16 = some (.l .own .nz v100.length (v100.map iv)) ∧ ts.get 76 = some (.l .fz c2 p2.length (p2.map (kv .i8))) ∧ ts.get 77 = some (iv x95) ∧ ts.get 78 = some (iv v101) ∧ True) (fun (v123, v124) σ => ∃ (ts : Tr PV) (w : Option Nat), wok hp.length w ∧ σ = ⟨[], ts, hp, w⟩ ∧ ts.get 2 = some (.l .fz c2 p2.length (p2.map (kv .i8))) ∧ ts.get 9 = some (iv v123) ∧ ts.get 16 = some (.l .own .nz v124.length (v124.map iv)) ∧ True) (fun _ => rfl) hL1 ?_ ?_ ?_
    · exact ⟨_, _, by simp, rfl, by simp [ex1, ex2, ex3, e5, ex6, e83, e87, ex88, bool_neq_4Law13, ex89, ex90, ex91, e93, ex94, ex95, ex96]⟩
    · rintro ⟨v123, v124⟩ σ ⟨ts, w, hw, rfl, g2, g9, g16, -⟩ h
      clear hL1
      try dsimp only at h
      obtain ⟨x125, ex125, h⟩ := bindT h
      obtain ⟨x126, ex126, h⟩ := bindT h
      cases x126
      case true =>
       obtain ⟨⟨s127, x128⟩, e129, h⟩ := bind_ok h
       try dsimp only at h
       have e129 : ∀ hp, E Tryd.prog Y0 40 [.l .bor .nz v124.length (v124.map iv)] hp = some (.t [.v (.string (bs s127)), iv x128], hp, none) := fun hp => f40_is (a0 := true) (c0 := .nz) e129
       obtain ⟨x130, ex130, h⟩ := bindT h
       cases x130
       case false =>
        obtain rfl := inj_ok h
        simp [g2, g9, g16, ex125, ex126, e129, ex130, hw]
       obtain ⟨b131, e132, h⟩ := bind_ok h
       have e132 : ∀ hp, E Tryd.prog Y0 17 [] hp = some (.v (.bool b131), hp, none) := fun hp => f17_is  e132
       obtain rfl := inj_ok h
       simp [g2, g9, g16, ex125, ex126, e129, ex130, e132, hw]
      obtain ⟨x133, e134, h⟩ := bind_ok h
      have e134 : ∀ hp, E Tryd.prog Y0 49 [iv x125] hp = some (iv x133, hp, none) := fun hp => f49_is  e134
      obtain ⟨x135, ex135, h⟩ := bindT h
      cases x135
      case false =>
       obtain ⟨⟨s149, x150⟩, e151, h⟩ := bind_ok h
       try dsimp only at h
       have e151 : ∀ hp, E Tryd.prog Y0 40 [.l .bor .nz v124.length (v124.map iv)] hp = some (.t [.v (.string (bs s149)), iv x150], hp, none) := fun hp => f40_is (a0 := true) (c0 := .nz) e151
       obtain ⟨x152, ex152, h⟩ := bindT h
       cases x152
       case false =>
        obtain rfl := inj_ok h
        simp [g2, g9, g16, ex125, ex126, e134, ex135, e151, ex152, hw]
       obtain ⟨b153, e154, h⟩ := bind_ok h
       have e154 : ∀ hp, E Tryd.prog Y0 17 [] hp = some (.v (.bool b153), hp, none) := fun hp => f17_is  e154
       obtain rfl := inj_ok h
       simp [g2, g9, g16, ex125, ex126, e134, ex135, e151, ex152, e154, hw]
      obtain ⟨⟨s136, x137⟩, e138, h⟩ := bind_ok h
      try dsimp only at h
      have e138 : ∀ hp, E Tryd.prog Y0 40 [.l .bor .nz v124.length (v124.map iv)] hp = some (.t [.v (.string (bs s136)), iv x137], hp, none) := fun hp => f40_is (a0 := true) (c0 := .nz) e138
      obtain ⟨x139, ex139, h⟩ := bindT h
      cases x139
      case false =>
       obtain ⟨x146, ex146, h⟩ := bindT h
       cases x146
       case false =>
        obtain rfl := inj_ok h
        simp [g2, g9, g16, ex125, ex126, e134, ex135, e138, ex139, ex146, hw]
       obtain ⟨b147, e148, h⟩ := bind_ok h
       have e148 : ∀ hp, E Tryd.prog Y0 17 [] hp = some (.v (.bool b147), hp, none) := fun hp => f17_is  e148
       obtain rfl := inj_ok h
       simp [g2, g9, g16, ex125, ex126, e134, ex135, e138, ex139, ex146, e148, hw]
      obtain ⟨x140, ex140, h⟩ := bindT h
      cases x140
      case true =>
       obtain ⟨b141, e142, h⟩ := bind_ok h
       have e142 : ∀ hp, E Tryd.prog Y0 17 [] hp = some (.v (.bool b141), hp, none) := fun hp => f17_is  e142
       obtain rfl := inj_ok h
       simp [g2, g9, g16, ex125, ex126, e134, ex135, e138, ex139, ex140, e142, hw]
      obtain ⟨x143, ex143, h⟩ := bindT h
      cases x143
      case false =>
       obtain rfl := inj_ok h
       simp [g2, g9, g16, ex125, ex126, e134, ex135, e138, ex139, ex140, ex143, hw]
      obtain ⟨b144, e145, h⟩ := bind_ok h
      have e145 : ∀ hp, E Tryd.prog Y0 17 [] hp = some (.v (.bool b144), hp, none) := fun hp => f17_is  e145
      obtain rfl := inj_ok h
      simp [g2, g9, g16, ex125, ex126, e134, ex135, e138, ex139, ex140, ex143, e145, hw]
    · rintro k n ⟨v99, v100, v101⟩ σ ⟨ts, w, hw, rfl, g2, g9, g16, g76, g77, g78, -⟩ h ih ex
      clear hL1
      rw [f13_L1] at h
      obtain ⟨x102, ex102, h⟩ := bindT h
      cases x102
      case false =>
       simp [g2, g9, g16, g76, g77, g78, ex102]
       refine ex (v99, v100) _ ?_ h
       exact ⟨_, _, by simp [hw], rfl, by simp [g2, g9, g16, g76, g77, g78, ex102]⟩
      obtain ⟨y103, ey103, h⟩ := bind_ok h
      obtain ⟨ey103a, ey103e, ey103b, ey103c, ey103g⟩ := gI_ok rfl ey103
      obtain ⟨x104, ex104, h⟩ := bindT h
      obtain ⟨x105, ex105, h⟩ := bindT h
      obtain ⟨x106, ex106, h⟩ := bindT h
      obtain ⟨x107, ex107, h⟩ := bindT h
      cases x107
      case false =>
       obtain ⟨x121, ex121, h⟩ := bind_ok h
       obtain ⟨ex121a, ex121b, ex121c, ex121q⟩ := app1_ok iv ex121
       have ex121b := ex121b 10 (by decide)
       obtain ⟨x122, ex122, h⟩ := bindT h
       simp [g2, g9, g16, g76, g77, g78, ex102, ey103a, ey103b, ey103c, conv_60_3Law13, ex104, ex105, ex106, ex107, ex121a, ex121b, ex121c, ex122]
       refine ih (v99, x121, x122) _ ?_ h
       exact ⟨_, _, by simp [hw], rfl, by simp [g2, g9, g16, g76, g77, g78, ex102, ey103a, ey103b, ey103c, conv_60_3Law13, ex104, ex105, ex106, ex107, ex121a, ex121b, ex121c, ex122]⟩
      obtain ⟨x108, ex108, h⟩ := bindT h
      cases x108
      case true =>
       obtain ⟨x109, ex109, h⟩ := bind_ok h
       obtain ⟨ex109a, ex109b, ex109c, ex109q⟩ := app1_ok iv ex109
       have ex109b := ex109b 10 (by decide)
       obtain ⟨x110, ex110, h⟩ := bindT h
       simp [g2, g9, g16, g76, g77, g78, ex102, ey103a, ey103b, ey103c, conv_60_3Law13, ex104, ex105, ex106, ex107, ex108, ex109a, ex109b, ex109c, ex110]
       refine ih (2, x109, x110) _ ?_ h
       exact ⟨_, _, by simp [hw], rfl, by simp [g2, g9, g16, g76, g77, g78, ex102, ey103a, ey103b, ey103c, conv_60_3Law13, ex104, ex105, ex106, ex107, ex108, ex109a, ex109b, ex109c, ex110]⟩
      obtain ⟨x111, ex111, h⟩ := bindT h
      obtain ⟨x112, ex112, h⟩ := bindT h
      cases x112
      case true =>
       obtain ⟨x113, ex113, h⟩ := bind_ok h
       obtain ⟨ex113a, ex113b, ex113c, ex113q⟩ := app1_ok iv ex113
       have ex113b := ex113b 10 (by decide)
       obtain ⟨x114, ex114, h⟩ := bindT h
       simp [g2, g9, g16, g76, g77, g78, ex102, ey103a, ey103b, ey103c, conv_60_3Law13, ex104, ex105, ex106, ex107, ex108, ex111, ex112, ex113a, ex113b, ex113c, ex114]
       refine ih (2, x113, x114) _ ?_ h
       exact ⟨_, _, by simp [hw], rfl, by simp [g2, g9, g16, g76, g77, g78, ex102, ey103a, ey103b, ey103c, conv_60_3Law13, ex104, ex105, ex106, ex107, ex108, ex111, ex112, ex113a, ex113b, ex113c, ex114]⟩
      obtain ⟨b115, e116, h⟩ := bind_ok h
      have e116 : ∀ hp, E Tryd.prog Y0 50 [.l .bor .nz v100.length (v100.map iv), iv x106] hp = some (.v (.bool b115), hp, none) := fun hp => f50_is (a0 := true) (c0 := .nz) e116
      cases b115
      case true =>
       obtain ⟨x117, ex117, h⟩ := bind_ok h
       obtain ⟨ex117a, ex117b, ex117c, ex117q⟩ := app1_ok iv ex117
       have ex117b := ex117b 10 (by decide)
       obtain ⟨x118, ex118, h⟩ := bindT h
       simp [g2, g9, g16, g76, g77, g78, ex102, ey103a, ey103b, ey103c, conv_60_3Law13, ex104, ex105, ex106, ex107, ex108, ex111, ex112, e116, ex117a, ex117b, ex117c, ex118]
       refine ih (6, x117, x118) _ ?_ h
       exact ⟨_, _, by simp [hw], rfl, by simp [g2, g9, g16, g76, g77, g78, ex102, ey103a, ey103b, ey103c, conv_60_3Law13, ex104, ex105, ex106, ex107, ex108, ex111, ex112, e116, ex117a, ex117b, ex117c, ex118]⟩
      obtain ⟨x119, ex119, h⟩ := bind_ok h
      obtain ⟨ex119a, ex119b, ex119c, ex119q⟩ := app1_ok iv ex119
      have ex119b := ex119b 10 (by decide)
      obtain ⟨x120, ex120, h⟩ := bindT h
      simp [g2, g9, g16, g76, g77, g78, ex102, ey103a, ey103b, ey103c, conv_60_3Law13, ex104, ex105, ex106, ex107, ex108, ex111, ex112, e116, ex119a, ex119b, ex119c, ex120]
      refine ih (v99, x119, x120) _ ?_ h
      exact ⟨_, _, by simp [hw], rfl, by simp [g2, g9, g16, g76, g77, g78, ex102, ey103a, ey103b, ey103c, conv_60_3Law13, ex104, ex105, ex106, ex107, ex108, ex111, ex112, e116, ex119a, ex119b, ex119c, ex120]⟩
end Go.Proofs.YtcjephdjemapbaaDoor
