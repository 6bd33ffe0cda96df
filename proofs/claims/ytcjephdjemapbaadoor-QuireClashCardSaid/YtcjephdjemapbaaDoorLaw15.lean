/-
  law 15
  Printed by wip/tools/walk.py. Conditions: none; definitions and lemmas.
-/
import Derived.Test.YtcjephdjemapbaaDoorKnown3
import Derived.Test.YtcjephdjemapbaaDoorWorks1
import Derived.Test.YtcjephdjemapbaaDoorRef3
import Derived.Test.YtcjephdjemapbaaDoorFolded
import Derived.Test.YtcjephdjemapbaaDoorAdapt2
set_option linter.unusedSimpArgs false
set_option linter.unusedVariables false
namespace Go.Proofs.YtcjephdjemapbaaDoor
open Go.Abs Go.Pur
set_option maxRecDepth 100000
set_option maxHeartbeats 2000000
attribute [local simp] EK_region EK_seq EK_cond EK_block EK_blk EK_loop EK_exit EK.ex EK_ret EK_skip EK_nil EO_cons EO_nil EO1_true EO1_false EO2_some EO3_some EB_true EB_false pwanted poper pq pev Go.Pur.look pputT isAssign drOf pinit Tr.get_set lget pvOf_int pvOf_bool pvOf_str pvOf_nil rdv_ak notOwn_ak prt_ak loose_ak rdv_own rdv_fz rdv_bor rdv_rf rdv_pt rdv_v rdv_a rdv_t rdv_r rdv_p rdv_s rdv_f pbin plen pload ppart idxAddr pcond Nat.blt goInt_eq prun_not prun_neg mayLoad ER_ret ER_normal presL presOne moved stor okDrop settle_v settle_l settle_a settle_p settle_f noref_v noref_fz noref_a norefs_nil norefs_cons pclose given dropB Y0_keep pevParts stors pvCells pvCells.go vcells pfill reps zipParts ownFz pcells cellOK one psrcLen srcFits psrc takeP pgrow take getPl setPl mapL plEq elder isList lowP pevs frzs addP partAt ble_lim24 killV_v killV_a killV_t killV_f killV_i killV_p killV_s killV_un killV_dead killV_lfz killV_lbor killV_lown killV_rfz killV_rbor killV_lak killV_rak frzV_v frzV_a frzV_t frzV_f frzV_i frzV_p frzV_s frzV_un frzV_dead frzV_lfz frzV_lbor frzV_lown frzV_rfz frzV_rbor frzV_lak frzV_rak killCell_v killCell_a killCell_t killCell_f killCell_i killCell_p killCell_s killCell_un killCell_dead killCell_lfz killCell_lbor killCell_lown killCell_rfz killCell_rbor killCell_lak killCell_rak killV_lrf killV_lpt killV_rpt frzV_lrf frzV_lpt frzV_rpt killCell_lrft killCell_lptt killCell_rptt killCell_lrfc killCell_lptc killCell_rptc argv_lak argv_rak argv_v argv_a argv_p argv_f argv_fz argv_bor argv_rf argv_pt argv_rc argv_own mayTurn_none argvs pcallOp firm refsTo_v refsTo_l refsTo_p refsTo_s refsTo_a refsTo_dead refsTo_nil refsTo_cons isOwn_lak ownFz_lak evSafe pskip plain pnewBlk fldAddr isOwn pput notOwn_fz notOwn_bor notOwn_own notOwn_rf notOwn_pt prt_fz prt_bor prt_own prt_rf prt_pt Go.Pur.freeze presM settles abin_and abin_or abin_andNot abin_mul abin_shr abin_shl abin_add abin_sub abin_eql abin_neq abin_lss abin_leq abin_gtr abin_geq hows pcallIn Y0_how Y0_part howOf partOf rdv_mown rdv_mfz rdv_mbor rdv_mrf killV_mown killV_mfz killV_mbor killV_mrf frzV_mown frzV_mfz frzV_mbor frzV_mrf killCell_mown killCell_mfz killCell_mbor killCell_mrf argv_mfz argv_mbor argv_mrf settle_m kls_v kls_l kls_a kls_t kls_r kls_p kls_s kls_f kls_i kls_it kls_un kls_dead kls_mown kls_mrf kls_mbor kls_mfz fzOf takable mapHere mapOwn mapTo flat toPlain toPlain.go ofFlat ofPair mapEs plook lookRes Y0_mv mvOf mvBlk premv Y0_fzm fzmOf poperX pconv keep15 sz3 by3 row3 zero3 sz4 by4 row4 zero4 sz5 by5 row5 zero5 sz9 by9 row9 shape9 zero9 sz21 by21 row21 zero21 sz23 by23 row23 shape23 zero23 sz24 by24 row24 zero24 sz38 by38 row38 shape38 zero38 sz47 by47 row47 shape47 zero47 parts47 sz51 by51 row51 zero51 sz54 by54 row54 shape54 zero54 sz55 by55 row55 shape55 zero55 sz58 by58 row58 shape58 zero58 sz60 by60 row60 zero60 sz63 by63 row63 shape63 zero63 sz73 by73 row73 shape73 zero73 parts73 sz79 by79 row79 shape79 zero79 sz81 by81 row81 shape81 zero81 parts81 sz86 by86 row86 shape86 parts86 sz90 by90 row90 zero90 sz92 by92 row92 zero92 sz96 by96 row96 zero96 parts96 field96_0 field96_1 sz99 by99 row99 zero99 sz104 by104 row104 zero104 sz106 by106 row106 zero106 parts106 field106_0 field106_1 sz119 by119 row119 zero119 sz123 by123 row123 zero123 sz124 by124 row124 shape124 zero124 parts124 sz125 by125 row125 shape125 zero125 parts125 sz126 by126 row126 shape126 parts126 sz128 by128 row128 zero128 parts128 field128_0 field128_1 sz129 by129 row129 shape129 zero129 parts129 sz133 by133 row133 zero133 bs_size gAt gAt0 sAt sAt0 optPlain rows_len noMaker_eq kindOf vlOf abin_rem abin_quo mayTurn_none lowOf_none Go.Pur.partAt rows_nil rows_cons ble_add ble_add0 ble_same toPlain toPlain.go intIn2_0 intIn2_1 ble12 ble22 tv lv max_int min_int pplains ak_true ak_false apartP beq_add beq_add0 beq_add1 argv_s wok_none wok_low_iff lowOf_wok
theorem conv_5_3Law15 {z : Int} : prunP Tryd.prog (convert 5 3 (.int .u8 z)) = some (.int .i64 (IntKind.i64.wrap z)) := by kernel_rfl
theorem bool_neq_4Law15 {x y : Operand} {a b : Bool} : abin Tryd.prog .neq 4 x y (.bool a) (.bool b) = some (.bool (a != b)) := by cases a <;> cases b <;> kernel_rfl
def f15_L1 (F : Nat) (x22 : Int) (x29 : List UInt8) (v33 : Int) (K : Int × Int → Option (Bool)) : Nat → Int × Int × Int → Option (Bool)
  | 0, _ => none
  | n + 1, (v36, v37, v38) => (some ((x29.length : Int))).bind fun x39 =>
    (some (decide (v38 < x39))).bind fun x40 =>
    (match x40 with
    | true => ((some (IntKind.i64.wrap (v33 + 1))).bind fun x41 =>
    (f49S F x41).bind fun x42 =>
    (some (IntKind.i64.wrap (v38 + 1))).bind fun x44 =>
    (f49S F x44).bind fun x45 =>
    (some (decide (x42 = x45))).bind fun x47 =>
    (match x47 with
    | true => ((gS x29 v33).bind fun x48 =>
    (gS x29 v38).bind fun x49 =>
    (some (decide (x48 = x49))).bind fun x50 =>
    (some (IntKind.i64.wrap (v38 - v33))).bind fun x51 =>
    (quoO .i64 x51 x42).bind fun x52 =>
    (some (Int.tmod x52 4)).bind fun x53 =>
    (some (decide (x53 = 0))).bind fun x54 =>
    (some ((x50 != x54))).bind fun x55 =>
    (match x55 with
    | true => ((some (decide (v36 < 0))).bind fun x56 =>
    (match x56 with
    | true => ((some (decide (v33 = x22))).bind fun x57 =>
    (match x57 with
    | true => ((f33S F x29 v33 v38).bind fun x58 =>
    (some (decide (x58 = 0))).bind fun x60 =>
    (match x60 with
    | true => (f15_L1 F x22 x29 v33 K n (v33, v38, x44))
    | false => (some false)))
    | false => ((some (decide (v38 = x22))).bind fun x61 =>
    (match x61 with
    | true => ((f33S F x29 v33 v38).bind fun x62 =>
    (some (decide (x62 = 0))).bind fun x64 =>
    (match x64 with
    | true => (f15_L1 F x22 x29 v33 K n (v33, v38, x44))
    | false => (some false)))
    | false => (f15_L1 F x22 x29 v33 K n (v33, v38, x44))))))
    | false => ((some (decide (v33 = x22))).bind fun x65 =>
    (match x65 with
    | true => ((f33S F x29 v33 v38).bind fun x66 =>
    (some (decide (x66 = 0))).bind fun x68 =>
    (match x68 with
    | true => (f15_L1 F x22 x29 v33 K n (v36, v37, x44))
    | false => (some false)))
    | false => ((some (decide (v38 = x22))).bind fun x69 =>
    (match x69 with
    | true => ((f33S F x29 v33 v38).bind fun x70 =>
    (some (decide (x70 = 0))).bind fun x72 =>
    (match x72 with
    | true => (f15_L1 F x22 x29 v33 K n (v36, v37, x44))
    | false => (some false)))
    | false => (f15_L1 F x22 x29 v33 K n (v36, v37, x44))))))))
    | false => ((some (decide (v33 = x22))).bind fun x73 =>
    (match x73 with
    | true => ((f33S F x29 v33 v38).bind fun x74 =>
    (some (decide (x74 = 14))).bind fun x76 =>
    (match x76 with
    | true => (f15_L1 F x22 x29 v33 K n (v36, v37, x44))
    | false => (some false)))
    | false => ((some (decide (v38 = x22))).bind fun x77 =>
    (match x77 with
    | true => ((f33S F x29 v33 v38).bind fun x78 =>
    (some (decide (x78 = 14))).bind fun x80 =>
    (match x80 with
    | true => (f15_L1 F x22 x29 v33 K n (v36, v37, x44))
    | false => (some false)))
    | false => (f15_L1 F x22 x29 v33 K n (v36, v37, x44))))))))
    | false => ((some (decide (v33 = x22))).bind fun x81 =>
    (match x81 with
    | true => ((f33S F x29 v33 v38).bind fun x82 =>
    (some (decide (x82 = 14))).bind fun x84 =>
    (match x84 with
    | true => (f15_L1 F x22 x29 v33 K n (v36, v37, x44))
    | false => (some false)))
    | false => ((some (decide (v38 = x22))).bind fun x85 =>
    (match x85 with
    | true => ((f33S F x29 v33 v38).bind fun x86 =>
    (some (decide (x86 = 14))).bind fun x88 =>
    (match x88 with
    | true => (f15_L1 F x22 x29 v33 K n (v36, v37, x44))
    | false => (some false)))
    | false => (f15_L1 F x22 x29 v33 K n (v36, v37, x44))))))))
    | false => (K (v36, v37)))
def f15_L0 (F : Nat) (x22 : Int) (x29 : List UInt8) (x30 : Int) (K : Int × Int → Option (Bool)) : Nat → Int × Int × Int → Option (Bool)
  | 0, _ => none
  | n + 1, (v31, v32, v33) => (some (decide (v33 < x30))).bind fun x34 =>
    (match x34 with
    | true => ((some (IntKind.i64.wrap (v33 + 1))).bind fun x35 =>
    f15_L1 F x22 x29 v33 (fun (v89, v90) =>
      (some (IntKind.i64.wrap (v33 + 1))).bind fun x91 =>
      f15_L0 F x22 x29 x30 K n (v89, v90, x91)) F (v31, v32, x35))
    | false => (K (v31, v32)))
def f15S (F : Nat) (p0 : Int) (p1 : Int) (p2 : Int) : Option (Bool) :=
  (foldedO p0 p1).bind fun x1 =>
  (f23S F x1).bind fun (s2, x3) =>
  (some (decide (x3 = 0))).bind fun x5 =>
  (match x5 with
  | true => ((some ((s2.length : Int))).bind fun x6 =>
  (some ((x1.length : Int))).bind fun x7 =>
  (shlO .i64 1 x7).bind fun x8 =>
  (some (IntKind.i64.wrap (x8 - 1))).bind fun x9 =>
  (some (decide (x6 = x9))).bind fun x10 =>
  (match x10 with
  | true => ((f31S F s2).bind fun (x11, x12, x13) =>
  (some (decide (x13 = 13))).bind fun x15 =>
  (match x15 with
  | true => ((some (decide (x11 = 0))).bind fun x16 =>
  (match x16 with
  | true => ((some (decide (x12 = 0))).bind fun x17 =>
  (match x17 with
  | true => ((some (decide (s2 = []))).bind fun x18 =>
  (match x18 with
  | true => ((f17S F ).bind fun b19 =>
  some b19)
  | false => ((some (IntKind.i64.wrap p2)).bind fun x21 =>
  (remO x21 x6).bind fun x22 =>
  (subT s2 x22).bind fun x23 =>
  (some (IntKind.i64.wrap (x22 + 1))).bind fun x24 =>
  (sub2 s2 x22 x24).bind fun x25 =>
  (f54O x25 118 104).bind fun x26 =>
  (sadd x23 x26).bind fun x27 =>
  (subF s2 x24).bind fun x28 =>
  (sadd x27 x28).bind fun x29 =>
  (some ((x29.length : Int))).bind fun x30 =>
  f15_L0 F x22 x29 x30 (fun (v92, v93) =>
    (f31S F x29).bind fun (x94, x95, x96) =>
    (f29S F x29).bind fun (s98, x99) =>
    (some (decide (v92 < 0))).bind fun x101 =>
    (match x101 with
    | true => ((some (decide (x96 = 13))).bind fun x102 =>
    (match x102 with
    | true => ((some (decide (x99 = 0))).bind fun x103 =>
    (match x103 with
    | true => ((subT x1 1).bind fun x104 =>
    (f54O x104 111 117).bind fun x105 =>
    (subF x1 1).bind fun x106 =>
    (sadd x105 x106).bind fun x107 =>
    (some (decide (s98 = x107))).bind fun x108 =>
    (match x108 with
    | true => ((f17S F ).bind fun b109 =>
    some b109)
    | false => (some false)))
    | false => (some false)))
    | false => (some false)))
    | false => ((some (decide (x96 = 0))).bind fun x111 =>
    (match x111 with
    | true => ((some (decide (x94 = v92))).bind fun x112 =>
    (match x112 with
    | true => ((some (decide (x95 = v93))).bind fun x113 =>
    (match x113 with
    | true => ((some (decide (x99 = 12))).bind fun x114 =>
    (match x114 with
    | true => ((some (decide (s98 = []))).bind fun x115 =>
    (match x115 with
    | true => ((f17S F ).bind fun b116 =>
    some b116)
    | false => (some false)))
    | false => (some false)))
    | false => (some false)))
    | false => (some false)))
    | false => (some false))))) F (-1, -1, 0))))
  | false => (some false)))
  | false => (some false)))
  | false => (some false)))
  | false => (some false)))
  | false => (some false))
theorem f15_is {p0 : Int} {p1 : Int} {p2 : Int} {hp : List (Option (List PV))} {F : Nat} {r : (Bool)}  (h : f15S F p0 p1 p2 = some r) :
    E Tryd.prog Y0 15 [kv .u8 p0, kv .u8 p1, kv .u8 p2] hp = some (.v (.bool r), hp, none) := by
  rw [E_bodyN 3 body15 rfl (by decide) rfl]
  simp only [Tryd.f15, Option.get_some]
  unfold f15S at h
  obtain ⟨x1, ex1, h⟩ := bind_ok h
  have ex1 : ∀ hp, E Tryd.prog Y0 42 [kv .u8 p0, kv .u8 p1] hp = some (.v (.string (bs x1)), hp, none) := fun hp => f42_is ex1
  obtain ⟨⟨s2, x3⟩, e4, h⟩ := bind_ok h
  try dsimp only at h
  have e4 : ∀ hp, E Tryd.prog Y0 23 [.v (.string (bs x1))] hp = some (.t [.v (.string (bs s2)), iv x3], hp, none) := fun hp => f23_is  e4
  obtain ⟨x5, ex5, h⟩ := bindT h
  cases x5
  case false =>
   obtain rfl := inj_ok h
   simp [ex1, e4, ex5]
  obtain ⟨x6, ex6, h⟩ := bindT h
  obtain ⟨x7, ex7, h⟩ := bindT h
  obtain ⟨x8, ex8, h⟩ := bind_ok h
  obtain ⟨ex8a, ex8⟩ := shlO_ok ex8
  obtain ⟨x9, ex9, h⟩ := bindT h
  obtain ⟨x10, ex10, h⟩ := bindT h
  cases x10
  case false =>
   obtain rfl := inj_ok h
   simp [ex1, e4, ex5, ex6, ex7, ex8, ex8a, ex9, ex10]
  obtain ⟨⟨x11, x12, x13⟩, e14, h⟩ := bind_ok h
  try dsimp only at h
  have e14 : ∀ hp, E Tryd.prog Y0 31 [.v (.string (bs s2))] hp = some (.t [iv x11, iv x12, iv x13], hp, none) := fun hp => f31_is  e14
  obtain ⟨x15, ex15, h⟩ := bindT h
  cases x15
  case false =>
   obtain rfl := inj_ok h
   simp [ex1, e4, ex5, ex6, ex7, ex8, ex8a, ex9, ex10, e14, ex15]
  obtain ⟨x16, ex16, h⟩ := bindT h
  cases x16
  case false =>
   obtain rfl := inj_ok h
   simp [ex1, e4, ex5, ex6, ex7, ex8, ex8a, ex9, ex10, e14, ex15, ex16]
  obtain ⟨x17, ex17, h⟩ := bindT h
  cases x17
  case false =>
   obtain rfl := inj_ok h
   simp [ex1, e4, ex5, ex6, ex7, ex8, ex8a, ex9, ex10, e14, ex15, ex16, ex17]
  obtain ⟨x18, ex18, h⟩ := bind_ok h
  have ex18p := inj_ok ex18
  have ex18 : decide (bs s2 = bs []) = x18 := (decide_eq_decide.2 bs_eq).trans (inj_ok ex18)
  cases x18
  case true =>
   obtain ⟨b19, e20, h⟩ := bind_ok h
   have e20 : ∀ hp, E Tryd.prog Y0 17 [] hp = some (.v (.bool b19), hp, none) := fun hp => f17_is  e20
   obtain rfl := inj_ok h
   simp [ex1, e4, ex5, ex6, ex7, ex8, ex8a, ex9, ex10, e14, ex15, ex16, ex17, ex18, ex18p, abin_seql, abin_sneq, e20]
  obtain ⟨x21, ex21, h⟩ := bindT h
  obtain ⟨x22, ex22, h⟩ := bind_ok h
  obtain ⟨ex22a, ex22⟩ := remO_ok ex22
  obtain ⟨x23, ex23, h⟩ := bind_ok h
  have ex23 := fun {k : IntKind} => subT_ok (P := Tryd.prog) (t := 9) Tryd.underlying9 ex23 (k := k)
  obtain ⟨x24, ex24, h⟩ := bindT h
  obtain ⟨x25, ex25, h⟩ := bind_ok h
  have ex25 := fun {k j : IntKind} => sub2_ok (P := Tryd.prog) (t := 9) Tryd.underlying9 ex25 (k := k) (j := j)
  obtain ⟨x26, ex26, h⟩ := bind_ok h
  have ex26 : ∀ hp, E Tryd.prog Y0 54 [.v (.string (bs x25)), kv .i32 118, kv .i32 104] hp = some (.v (.string (bs x26)), hp, none) := fun hp => f54_is ex26
  obtain ⟨x27, ex27, h⟩ := bind_ok h
  obtain ⟨ex27a, ex27⟩ := sadd_ok ex27
  obtain ⟨x28, ex28, h⟩ := bind_ok h
  have ex28 := fun {k : IntKind} => subF_ok (P := Tryd.prog) (t := 9) Tryd.underlying9 ex28 (k := k)
  obtain ⟨x29, ex29, h⟩ := bind_ok h
  obtain ⟨ex29a, ex29⟩ := sadd_ok ex29
  obtain ⟨x30, ex30, h⟩ := bindT h
  simp [ex1, e4, ex5, ex6, ex7, ex8, ex8a, ex9, ex10, e14, ex15, ex16, ex17, ex18, ex18p, abin_seql, abin_sneq, conv_5_3Law15, ex21, ex22, ex22a, ex23, shape9, pqSlice, ex24, ex25, ex26, ex27, abin_sadd ex27a, ex28, ex29, abin_sadd ex29a, ex30]
  have hL0 := h; clear h
  refine loopS (S := f15_L0 F x22 x29 x30) (fun (v31, v32, v33) σ => ∃ (ts : Tr PV) (w : Option Nat), wok hp.length w ∧ σ = ⟨[], ts, hp, w⟩ ∧ ts.get 7 = some (.v (.string (bs x1))) ∧ ts.get 12 = some (iv x22) ∧ ts.get 13 = some (.v (.string (bs x29))) ∧ ts.get 14 = some (iv v31) ∧ ts.get 15 = some (iv v32) ∧ ts.get 83 = some (iv x30) ∧ ts.get 84 = some (iv v33) ∧ True) (fun (v92, v93) σ => ∃ (ts : Tr PV) (w : Option Nat), wok hp.length w ∧ σ = ⟨[], ts, hp, w⟩ ∧ ts.get 7 = some (.v (.string (bs x1))) ∧ ts.get 13 = some (.v (.string (bs x29))) ∧ ts.get 14 = some (iv v92) ∧ ts.get 15 = some (iv v93) ∧ True) (fun _ => rfl) hL0 ?_ ?_ ?_
  · exact ⟨_, _, by simp, rfl, by simp [ex1, e4, ex5, ex6, ex7, ex8, ex8a, ex9, ex10, e14, ex15, ex16, ex17, ex18, ex18p, abin_seql, abin_sneq, conv_5_3Law15, ex21, ex22, ex22a, ex23, shape9, pqSlice, ex24, ex25, ex26, ex27, abin_sadd ex27a, ex28, ex29, abin_sadd ex29a, ex30]⟩
  · rintro ⟨v92, v93⟩ σ ⟨ts, w, hw, rfl, g7, g13, g14, g15, -⟩ h
    clear hL0
    try dsimp only at h
    obtain ⟨⟨x94, x95, x96⟩, e97, h⟩ := bind_ok h
    try dsimp only at h
    have e97 : ∀ hp, E Tryd.prog Y0 31 [.v (.string (bs x29))] hp = some (.t [iv x94, iv x95, iv x96], hp, none) := fun hp => f31_is  e97
    obtain ⟨⟨s98, x99⟩, e100, h⟩ := bind_ok h
    try dsimp only at h
    have e100 : ∀ hp, E Tryd.prog Y0 29 [.v (.string (bs x29))] hp = some (.t [.v (.string (bs s98)), iv x99], hp, none) := fun hp => f29_is  e100
    obtain ⟨x101, ex101, h⟩ := bindT h
    cases x101
    case true =>
     obtain ⟨x102, ex102, h⟩ := bindT h
     cases x102
     case false =>
      obtain rfl := inj_ok h
      simp [g7, g13, g14, g15, e97, e100, ex101, ex102, hw]
     obtain ⟨x103, ex103, h⟩ := bindT h
     cases x103
     case false =>
      obtain rfl := inj_ok h
      simp [g7, g13, g14, g15, e97, e100, ex101, ex102, ex103, hw]
     obtain ⟨x104, ex104, h⟩ := bind_ok h
     have ex104 := fun {k : IntKind} => subT_ok (P := Tryd.prog) (t := 9) Tryd.underlying9 ex104 (k := k)
     obtain ⟨x105, ex105, h⟩ := bind_ok h
     have ex105 : ∀ hp, E Tryd.prog Y0 54 [.v (.string (bs x104)), kv .i32 111, kv .i32 117] hp = some (.v (.string (bs x105)), hp, none) := fun hp => f54_is ex105
     obtain ⟨x106, ex106, h⟩ := bind_ok h
     have ex106 := fun {k : IntKind} => subF_ok (P := Tryd.prog) (t := 9) Tryd.underlying9 ex106 (k := k)
     obtain ⟨x107, ex107, h⟩ := bind_ok h
     obtain ⟨ex107a, ex107⟩ := sadd_ok ex107
     obtain ⟨x108, ex108, h⟩ := bind_ok h
     have ex108p := inj_ok ex108
     have ex108 : decide (bs s98 = bs x107) = x108 := (decide_eq_decide.2 bs_eq).trans (inj_ok ex108)
     cases x108
     case false =>
      obtain rfl := inj_ok h
      simp [g7, g13, g14, g15, e97, e100, ex101, ex102, ex103, ex104, shape9, pqSlice, ex105, ex106, ex107, abin_sadd ex107a, ex108, ex108p, abin_seql, abin_sneq, hw]
     obtain ⟨b109, e110, h⟩ := bind_ok h
     have e110 : ∀ hp, E Tryd.prog Y0 17 [] hp = some (.v (.bool b109), hp, none) := fun hp => f17_is  e110
     obtain rfl := inj_ok h
     simp [g7, g13, g14, g15, e97, e100, ex101, ex102, ex103, ex104, shape9, pqSlice, ex105, ex106, ex107, abin_sadd ex107a, ex108, ex108p, abin_seql, abin_sneq, e110, hw]
    obtain ⟨x111, ex111, h⟩ := bindT h
    cases x111
    case false =>
     obtain rfl := inj_ok h
     simp [g7, g13, g14, g15, e97, e100, ex101, ex111, hw]
    obtain ⟨x112, ex112, h⟩ := bindT h
    cases x112
    case false =>
     obtain rfl := inj_ok h
     simp [g7, g13, g14, g15, e97, e100, ex101, ex111, ex112, hw]
    obtain ⟨x113, ex113, h⟩ := bindT h
    cases x113
    case false =>
     obtain rfl := inj_ok h
     simp [g7, g13, g14, g15, e97, e100, ex101, ex111, ex112, ex113, hw]
    obtain ⟨x114, ex114, h⟩ := bindT h
    cases x114
    case false =>
     obtain rfl := inj_ok h
     simp [g7, g13, g14, g15, e97, e100, ex101, ex111, ex112, ex113, ex114, hw]
    obtain ⟨x115, ex115, h⟩ := bind_ok h
    have ex115p := inj_ok ex115
    have ex115 : decide (bs s98 = bs []) = x115 := (decide_eq_decide.2 bs_eq).trans (inj_ok ex115)
    cases x115
    case false =>
     obtain rfl := inj_ok h
     simp [g7, g13, g14, g15, e97, e100, ex101, ex111, ex112, ex113, ex114, ex115, ex115p, abin_seql, abin_sneq, hw]
    obtain ⟨b116, e117, h⟩ := bind_ok h
    have e117 : ∀ hp, E Tryd.prog Y0 17 [] hp = some (.v (.bool b116), hp, none) := fun hp => f17_is  e117
    obtain rfl := inj_ok h
    simp [g7, g13, g14, g15, e97, e100, ex101, ex111, ex112, ex113, ex114, ex115, ex115p, abin_seql, abin_sneq, e117, hw]
  · rintro k n ⟨v31, v32, v33⟩ σ ⟨ts, w, hw, rfl, g7, g12, g13, g14, g15, g83, g84, -⟩ h ih ex
    clear hL0
    rw [f15_L0] at h
    obtain ⟨x34, ex34, h⟩ := bindT h
    cases x34
    case false =>
     simp [g7, g12, g13, g14, g15, g83, g84, ex34]
     refine ex (v31, v32) _ ?_ h
     exact ⟨_, _, by simp [hw], rfl, by simp [g7, g12, g13, g14, g15, g83, g84, ex34]⟩
    obtain ⟨x35, ex35, h⟩ := bindT h
    simp [g7, g12, g13, g14, g15, g83, g84, ex34, ex35]
    have hL1 := h; clear h
    refine loopS (S := f15_L1 F x22 x29 v33) (fun (v36, v37, v38) σ => ∃ (ts : Tr PV) (w : Option Nat), wok hp.length w ∧ σ = ⟨[], ts, hp, w⟩ ∧ ts.get 7 = some (.v (.string (bs x1))) ∧ ts.get 12 = some (iv x22) ∧ ts.get 13 = some (.v (.string (bs x29))) ∧ ts.get 14 = some (iv v36) ∧ ts.get 15 = some (iv v37) ∧ ts.get 16 = some (iv v33) ∧ ts.get 17 = some (iv v38) ∧ ts.get 83 = some (iv x30) ∧ ts.get 84 = some (iv v33) ∧ True) (fun (v89, v90) σ => ∃ (ts : Tr PV) (w : Option Nat), wok hp.length w ∧ σ = ⟨[], ts, hp, w⟩ ∧ ts.get 7 = some (.v (.string (bs x1))) ∧ ts.get 12 = some (iv x22) ∧ ts.get 13 = some (.v (.string (bs x29))) ∧ ts.get 14 = some (iv v89) ∧ ts.get 15 = some (iv v90) ∧ ts.get 83 = some (iv x30) ∧ ts.get 84 = some (iv v33) ∧ True) (fun _ => rfl) hL1 ?_ ?_ ?_
    · exact ⟨_, _, by simp [hw], rfl, by simp [g7, g12, g13, g14, g15, g83, g84, ex34, ex35]⟩
    · rintro ⟨v89, v90⟩ σ ⟨ts, w, hw, rfl, g7, g12, g13, g14, g15, g83, g84, -⟩ h
      clear hL1
      try dsimp only at h
      obtain ⟨x91, ex91, h⟩ := bindT h
      simp [g7, g12, g13, g14, g15, g83, g84, ex91]
      refine ih (v89, v90, x91) _ ?_ h
      exact ⟨_, _, by simp [hw], rfl, by simp [g7, g12, g13, g14, g15, g83, g84, ex91]⟩
    · rintro k n ⟨v36, v37, v38⟩ σ ⟨ts, w, hw, rfl, g7, g12, g13, g14, g15, g16, g17, g83, g84, -⟩ h ih ex
      clear hL1
      rw [f15_L1] at h
      obtain ⟨x39, ex39, h⟩ := bindT h
      obtain ⟨x40, ex40, h⟩ := bindT h
      cases x40
      case false =>
       simp [g7, g12, g13, g14, g15, g16, g17, g83, g84, ex39, ex40]
       refine ex (v36, v37) _ ?_ h
       exact ⟨_, _, by simp [hw], rfl, by simp [g7, g12, g13, g14, g15, g16, g17, g83, g84, ex39, ex40]⟩
      obtain ⟨x41, ex41, h⟩ := bindT h
      obtain ⟨x42, e43, h⟩ := bind_ok h
      have e43 : ∀ hp, E Tryd.prog Y0 49 [iv x41] hp = some (iv x42, hp, none) := fun hp => f49_is  e43
      obtain ⟨x44, ex44, h⟩ := bindT h
      obtain ⟨x45, e46, h⟩ := bind_ok h
      have e46 : ∀ hp, E Tryd.prog Y0 49 [iv x44] hp = some (iv x45, hp, none) := fun hp => f49_is  e46
      obtain ⟨x47, ex47, h⟩ := bindT h
      cases x47
      case false =>
       obtain ⟨x81, ex81, h⟩ := bindT h
       cases x81
       case true =>
        obtain ⟨x82, e83, h⟩ := bind_ok h
        have e83 : ∀ hp, E Tryd.prog Y0 33 [.v (.string (bs x29)), iv v33, iv v38] hp = some (iv x82, hp, none) := fun hp => f33_is  e83
        obtain ⟨x84, ex84, h⟩ := bindT h
        cases x84
        case false =>
         obtain rfl := inj_ok h
         simp [g7, g12, g13, g14, g15, g16, g17, g83, g84, ex39, ex40, ex41, e43, ex44, e46, ex47, ex81, e83, ex84, hw]
        simp [g7, g12, g13, g14, g15, g16, g17, g83, g84, ex39, ex40, ex41, e43, ex44, e46, ex47, ex81, e83, ex84]
        refine ih (v36, v37, x44) _ ?_ h
        exact ⟨_, _, by simp [hw], rfl, by simp [g7, g12, g13, g14, g15, g16, g17, g83, g84, ex39, ex40, ex41, e43, ex44, e46, ex47, ex81, e83, ex84]⟩
       obtain ⟨x85, ex85, h⟩ := bindT h
       cases x85
       case false =>
        simp [g7, g12, g13, g14, g15, g16, g17, g83, g84, ex39, ex40, ex41, e43, ex44, e46, ex47, ex81, ex85]
        refine ih (v36, v37, x44) _ ?_ h
        exact ⟨_, _, by simp [hw], rfl, by simp [g7, g12, g13, g14, g15, g16, g17, g83, g84, ex39, ex40, ex41, e43, ex44, e46, ex47, ex81, ex85]⟩
       obtain ⟨x86, e87, h⟩ := bind_ok h
       have e87 : ∀ hp, E Tryd.prog Y0 33 [.v (.string (bs x29)), iv v33, iv v38] hp = some (iv x86, hp, none) := fun hp => f33_is  e87
       obtain ⟨x88, ex88, h⟩ := bindT h
       cases x88
       case false =>
        obtain rfl := inj_ok h
        simp [g7, g12, g13, g14, g15, g16, g17, g83, g84, ex39, ex40, ex41, e43, ex44, e46, ex47, ex81, ex85, e87, ex88, hw]
       simp [g7, g12, g13, g14, g15, g16, g17, g83, g84, ex39, ex40, ex41, e43, ex44, e46, ex47, ex81, ex85, e87, ex88]
       refine ih (v36, v37, x44) _ ?_ h
       exact ⟨_, _, by simp [hw], rfl, by simp [g7, g12, g13, g14, g15, g16, g17, g83, g84, ex39, ex40, ex41, e43, ex44, e46, ex47, ex81, ex85, e87, ex88]⟩
      obtain ⟨x48, ex48, h⟩ := bind_ok h
      have ex48 := (gS_ok (P := Tryd.prog) (t := 9) (k := .i64) Tryd.underlying9 shape9 ex48).1
      obtain ⟨x49, ex49, h⟩ := bind_ok h
      have ex49 := (gS_ok (P := Tryd.prog) (t := 9) (k := .i64) Tryd.underlying9 shape9 ex49).1
      obtain ⟨x50, ex50, h⟩ := bindT h
      obtain ⟨x51, ex51, h⟩ := bindT h
      obtain ⟨x52, ex52, h⟩ := bind_ok h
      obtain ⟨ex52a, ex52⟩ := quoO_ok ex52
      obtain ⟨x53, ex53, h⟩ := bindT h
      obtain ⟨x54, ex54, h⟩ := bindT h
      obtain ⟨x55, ex55, h⟩ := bindT h
      cases x55
      case false =>
       obtain ⟨x73, ex73, h⟩ := bindT h
       cases x73
       case true =>
        obtain ⟨x74, e75, h⟩ := bind_ok h
        have e75 : ∀ hp, E Tryd.prog Y0 33 [.v (.string (bs x29)), iv v33, iv v38] hp = some (iv x74, hp, none) := fun hp => f33_is  e75
        obtain ⟨x76, ex76, h⟩ := bindT h
        cases x76
        case false =>
         obtain rfl := inj_ok h
         simp [g7, g12, g13, g14, g15, g16, g17, g83, g84, ex39, ex40, ex41, e43, ex44, e46, ex47, ex48, ex49, ex50, ex51, ex52, ex52a, ex53, ex54, bool_neq_4Law15, ex55, ex73, e75, ex76, hw]
        simp [g7, g12, g13, g14, g15, g16, g17, g83, g84, ex39, ex40, ex41, e43, ex44, e46, ex47, ex48, ex49, ex50, ex51, ex52, ex52a, ex53, ex54, bool_neq_4Law15, ex55, ex73, e75, ex76]
        refine ih (v36, v37, x44) _ ?_ h
        exact ⟨_, _, by simp [hw], rfl, by simp [g7, g12, g13, g14, g15, g16, g17, g83, g84, ex39, ex40, ex41, e43, ex44, e46, ex47, ex48, ex49, ex50, ex51, ex52, ex52a, ex53, ex54, bool_neq_4Law15, ex55, ex73, e75, ex76]⟩
       obtain ⟨x77, ex77, h⟩ := bindT h
       cases x77
       case false =>
        simp [g7, g12, g13, g14, g15, g16, g17, g83, g84, ex39, ex40, ex41, e43, ex44, e46, ex47, ex48, ex49, ex50, ex51, ex52, ex52a, ex53, ex54, bool_neq_4Law15, ex55, ex73, ex77]
        refine ih (v36, v37, x44) _ ?_ h
        exact ⟨_, _, by simp [hw], rfl, by simp [g7, g12, g13, g14, g15, g16, g17, g83, g84, ex39, ex40, ex41, e43, ex44, e46, ex47, ex48, ex49, ex50, ex51, ex52, ex52a, ex53, ex54, bool_neq_4Law15, ex55, ex73, ex77]⟩
       obtain ⟨x78, e79, h⟩ := bind_ok h
       have e79 : ∀ hp, E Tryd.prog Y0 33 [.v (.string (bs x29)), iv v33, iv v38] hp = some (iv x78, hp, none) := fun hp => f33_is  e79
       obtain ⟨x80, ex80, h⟩ := bindT h
       cases x80
       case false =>
        obtain rfl := inj_ok h
        simp [g7, g12, g13, g14, g15, g16, g17, g83, g84, ex39, ex40, ex41, e43, ex44, e46, ex47, ex48, ex49, ex50, ex51, ex52, ex52a, ex53, ex54, bool_neq_4Law15, ex55, ex73, ex77, e79, ex80, hw]
       simp [g7, g12, g13, g14, g15, g16, g17, g83, g84, ex39, ex40, ex41, e43, ex44, e46, ex47, ex48, ex49, ex50, ex51, ex52, ex52a, ex53, ex54, bool_neq_4Law15, ex55, ex73, ex77, e79, ex80]
       refine ih (v36, v37, x44) _ ?_ h
       exact ⟨_, _, by simp [hw], rfl, by simp [g7, g12, g13, g14, g15, g16, g17, g83, g84, ex39, ex40, ex41, e43, ex44, e46, ex47, ex48, ex49, ex50, ex51, ex52, ex52a, ex53, ex54, bool_neq_4Law15, ex55, ex73, ex77, e79, ex80]⟩
      obtain ⟨x56, ex56, h⟩ := bindT h
      cases x56
      case true =>
       obtain ⟨x57, ex57, h⟩ := bindT h
       cases x57
       case true =>
        obtain ⟨x58, e59, h⟩ := bind_ok h
        have e59 : ∀ hp, E Tryd.prog Y0 33 [.v (.string (bs x29)), iv v33, iv v38] hp = some (iv x58, hp, none) := fun hp => f33_is  e59
        obtain ⟨x60, ex60, h⟩ := bindT h
        cases x60
        case false =>
         obtain rfl := inj_ok h
         simp [g7, g12, g13, g14, g15, g16, g17, g83, g84, ex39, ex40, ex41, e43, ex44, e46, ex47, ex48, ex49, ex50, ex51, ex52, ex52a, ex53, ex54, bool_neq_4Law15, ex55, ex56, ex57, e59, ex60, hw]
        simp [g7, g12, g13, g14, g15, g16, g17, g83, g84, ex39, ex40, ex41, e43, ex44, e46, ex47, ex48, ex49, ex50, ex51, ex52, ex52a, ex53, ex54, bool_neq_4Law15, ex55, ex56, ex57, e59, ex60]
        refine ih (v33, v38, x44) _ ?_ h
        exact ⟨_, _, by simp [hw], rfl, by simp [g7, g12, g13, g14, g15, g16, g17, g83, g84, ex39, ex40, ex41, e43, ex44, e46, ex47, ex48, ex49, ex50, ex51, ex52, ex52a, ex53, ex54, bool_neq_4Law15, ex55, ex56, ex57, e59, ex60]⟩
       obtain ⟨x61, ex61, h⟩ := bindT h
       cases x61
       case false =>
        simp [g7, g12, g13, g14, g15, g16, g17, g83, g84, ex39, ex40, ex41, e43, ex44, e46, ex47, ex48, ex49, ex50, ex51, ex52, ex52a, ex53, ex54, bool_neq_4Law15, ex55, ex56, ex57, ex61]
        refine ih (v33, v38, x44) _ ?_ h
        exact ⟨_, _, by simp [hw], rfl, by simp [g7, g12, g13, g14, g15, g16, g17, g83, g84, ex39, ex40, ex41, e43, ex44, e46, ex47, ex48, ex49, ex50, ex51, ex52, ex52a, ex53, ex54, bool_neq_4Law15, ex55, ex56, ex57, ex61]⟩
       obtain ⟨x62, e63, h⟩ := bind_ok h
       have e63 : ∀ hp, E Tryd.prog Y0 33 [.v (.string (bs x29)), iv v33, iv v38] hp = some (iv x62, hp, none) := fun hp => f33_is  e63
       obtain ⟨x64, ex64, h⟩ := bindT h
       cases x64
       case false =>
        obtain rfl := inj_ok h
        simp [g7, g12, g13, g14, g15, g16, g17, g83, g84, ex39, ex40, ex41, e43, ex44, e46, ex47, ex48, ex49, ex50, ex51, ex52, ex52a, ex53, ex54, bool_neq_4Law15, ex55, ex56, ex57, ex61, e63, ex64, hw]
       simp [g7, g12, g13, g14, g15, g16, g17, g83, g84, ex39, ex40, ex41, e43, ex44, e46, ex47, ex48, ex49, ex50, ex51, ex52, ex52a, ex53, ex54, bool_neq_4Law15, ex55, ex56, ex57, ex61, e63, ex64]
       refine ih (v33, v38, x44) _ ?_ h
       exact ⟨_, _, by simp [hw], rfl, by simp [g7, g12, g13, g14, g15, g16, g17, g83, g84, ex39, ex40, ex41, e43, ex44, e46, ex47, ex48, ex49, ex50, ex51, ex52, ex52a, ex53, ex54, bool_neq_4Law15, ex55, ex56, ex57, ex61, e63, ex64]⟩
      obtain ⟨x65, ex65, h⟩ := bindT h
      cases x65
      case true =>
       obtain ⟨x66, e67, h⟩ := bind_ok h
       have e67 : ∀ hp, E Tryd.prog Y0 33 [.v (.string (bs x29)), iv v33, iv v38] hp = some (iv x66, hp, none) := fun hp => f33_is  e67
       obtain ⟨x68, ex68, h⟩ := bindT h
       cases x68
       case false =>
        obtain rfl := inj_ok h
        simp [g7, g12, g13, g14, g15, g16, g17, g83, g84, ex39, ex40, ex41, e43, ex44, e46, ex47, ex48, ex49, ex50, ex51, ex52, ex52a, ex53, ex54, bool_neq_4Law15, ex55, ex56, ex65, e67, ex68, hw]
       simp [g7, g12, g13, g14, g15, g16, g17, g83, g84, ex39, ex40, ex41, e43, ex44, e46, ex47, ex48, ex49, ex50, ex51, ex52, ex52a, ex53, ex54, bool_neq_4Law15, ex55, ex56, ex65, e67, ex68]
       refine ih (v36, v37, x44) _ ?_ h
       exact ⟨_, _, by simp [hw], rfl, by simp [g7, g12, g13, g14, g15, g16, g17, g83, g84, ex39, ex40, ex41, e43, ex44, e46, ex47, ex48, ex49, ex50, ex51, ex52, ex52a, ex53, ex54, bool_neq_4Law15, ex55, ex56, ex65, e67, ex68]⟩
      obtain ⟨x69, ex69, h⟩ := bindT h
      cases x69
      case false =>
       simp [g7, g12, g13, g14, g15, g16, g17, g83, g84, ex39, ex40, ex41, e43, ex44, e46, ex47, ex48, ex49, ex50, ex51, ex52, ex52a, ex53, ex54, bool_neq_4Law15, ex55, ex56, ex65, ex69]
       refine ih (v36, v37, x44) _ ?_ h
       exact ⟨_, _, by simp [hw], rfl, by simp [g7, g12, g13, g14, g15, g16, g17, g83, g84, ex39, ex40, ex41, e43, ex44, e46, ex47, ex48, ex49, ex50, ex51, ex52, ex52a, ex53, ex54, bool_neq_4Law15, ex55, ex56, ex65, ex69]⟩
      obtain ⟨x70, e71, h⟩ := bind_ok h
      have e71 : ∀ hp, E Tryd.prog Y0 33 [.v (.string (bs x29)), iv v33, iv v38] hp = some (iv x70, hp, none) := fun hp => f33_is  e71
      obtain ⟨x72, ex72, h⟩ := bindT h
      cases x72
      case false =>
       obtain rfl := inj_ok h
       simp [g7, g12, g13, g14, g15, g16, g17, g83, g84, ex39, ex40, ex41, e43, ex44, e46, ex47, ex48, ex49, ex50, ex51, ex52, ex52a, ex53, ex54, bool_neq_4Law15, ex55, ex56, ex65, ex69, e71, ex72, hw]
      simp [g7, g12, g13, g14, g15, g16, g17, g83, g84, ex39, ex40, ex41, e43, ex44, e46, ex47, ex48, ex49, ex50, ex51, ex52, ex52a, ex53, ex54, bool_neq_4Law15, ex55, ex56, ex65, ex69, e71, ex72]
      refine ih (v36, v37, x44) _ ?_ h
      exact ⟨_, _, by simp [hw], rfl, by simp [g7, g12, g13, g14, g15, g16, g17, g83, g84, ex39, ex40, ex41, e43, ex44, e46, ex47, ex48, ex49, ex50, ex51, ex52, ex52a, ex53, ex54, bool_neq_4Law15, ex55, ex56, ex65, ex69, e71, ex72]⟩
end Go.Proofs.YtcjephdjemapbaaDoor
