/-
  Folds,Why,Proves,Walk,Lanes,Folded
  Printed by wip/tools/walk.py. Conditions: none; definitions and lemmas.
-/
import Derived.Test.YtcjephdjemapbaaDoorPart5
set_option linter.unusedSimpArgs false
set_option linter.unusedVariables false
namespace Go.Proofs.YtcjephdjemapbaaDoor
open Go.Abs Go.Pur
set_option maxRecDepth 100000
set_option maxHeartbeats 2000000
attribute [local simp] EK_region EK_seq EK_cond EK_block EK_blk EK_loop EK_exit EK.ex EK_ret EK_skip EK_nil EO_cons EO_nil EO1_true EO1_false EO2_some EO3_some EB_true EB_false pwanted poper pq pev Go.Pur.look pputT isAssign drOf pinit Tr.get_set lget pvOf_int pvOf_bool pvOf_str pvOf_nil rdv_ak notOwn_ak prt_ak loose_ak rdv_own rdv_fz rdv_bor rdv_rf rdv_pt rdv_v rdv_a rdv_t rdv_r rdv_p rdv_s rdv_f pbin plen pload ppart idxAddr pcond Nat.blt goInt_eq prun_not prun_neg mayLoad ER_ret ER_normal presL presOne moved stor okDrop settle_v settle_l settle_a settle_p settle_f noref_v noref_fz noref_a norefs_nil norefs_cons pclose given dropB Y0_keep pevParts stors pvCells pvCells.go vcells pfill reps zipParts ownFz pcells cellOK one psrcLen srcFits psrc takeP pgrow take getPl setPl mapL plEq elder isList lowP pevs frzs addP partAt ble_lim24 killV_v killV_a killV_t killV_f killV_i killV_p killV_s killV_un killV_dead killV_lfz killV_lbor killV_lown killV_rfz killV_rbor killV_lak killV_rak frzV_v frzV_a frzV_t frzV_f frzV_i frzV_p frzV_s frzV_un frzV_dead frzV_lfz frzV_lbor frzV_lown frzV_rfz frzV_rbor frzV_lak frzV_rak killCell_v killCell_a killCell_t killCell_f killCell_i killCell_p killCell_s killCell_un killCell_dead killCell_lfz killCell_lbor killCell_lown killCell_rfz killCell_rbor killCell_lak killCell_rak killV_lrf killV_lpt killV_rpt frzV_lrf frzV_lpt frzV_rpt killCell_lrft killCell_lptt killCell_rptt killCell_lrfc killCell_lptc killCell_rptc argv_lak argv_rak argv_v argv_a argv_p argv_f argv_fz argv_bor argv_rf argv_pt argv_rc argv_own mayTurn_none argvs pcallOp firm refsTo_v refsTo_l refsTo_p refsTo_s refsTo_a refsTo_dead refsTo_nil refsTo_cons isOwn_lak ownFz_lak evSafe pskip plain pnewBlk fldAddr isOwn pput notOwn_fz notOwn_bor notOwn_own notOwn_rf notOwn_pt prt_fz prt_bor prt_own prt_rf prt_pt Go.Pur.freeze presM settles abin_and abin_or abin_andNot abin_mul abin_shr abin_shl abin_add abin_sub abin_eql abin_neq abin_lss abin_leq abin_gtr abin_geq hows pcallIn Y0_how Y0_part howOf partOf rdv_mown rdv_mfz rdv_mbor rdv_mrf killV_mown killV_mfz killV_mbor killV_mrf frzV_mown frzV_mfz frzV_mbor frzV_mrf killCell_mown killCell_mfz killCell_mbor killCell_mrf argv_mfz argv_mbor argv_mrf settle_m kls_v kls_l kls_a kls_t kls_r kls_p kls_s kls_f kls_i kls_it kls_un kls_dead kls_mown kls_mrf kls_mbor kls_mfz fzOf takable mapHere mapOwn mapTo flat toPlain toPlain.go ofFlat ofPair mapEs plook lookRes Y0_mv mvOf mvBlk premv Y0_fzm fzmOf poperX pconv mvOp keep25 keep29 keep30 keep31 keep32 keep33 keep34 keep35 keep37 keep38 keep40 keep41 keep62 sz3 by3 row3 zero3 sz4 by4 row4 zero4 sz5 by5 row5 zero5 sz9 by9 row9 shape9 zero9 sz21 by21 row21 zero21 sz23 by23 row23 shape23 zero23 sz24 by24 row24 zero24 sz38 by38 row38 shape38 zero38 sz47 by47 row47 shape47 zero47 parts47 sz51 by51 row51 zero51 sz54 by54 row54 shape54 zero54 sz55 by55 row55 shape55 zero55 sz58 by58 row58 shape58 zero58 sz60 by60 row60 zero60 sz63 by63 row63 shape63 zero63 sz73 by73 row73 shape73 zero73 parts73 sz79 by79 row79 shape79 zero79 sz81 by81 row81 shape81 zero81 parts81 sz86 by86 row86 shape86 parts86 sz90 by90 row90 zero90 sz92 by92 row92 zero92 sz96 by96 row96 zero96 parts96 field96_0 field96_1 sz99 by99 row99 zero99 sz104 by104 row104 zero104 sz106 by106 row106 zero106 parts106 field106_0 field106_1 sz119 by119 row119 zero119 sz123 by123 row123 zero123 sz124 by124 row124 shape124 zero124 parts124 sz125 by125 row125 shape125 zero125 parts125 sz126 by126 row126 shape126 parts126 sz128 by128 row128 zero128 parts128 field128_0 field128_1 sz129 by129 row129 shape129 zero129 parts129 sz133 by133 row133 zero133 bs_size gAt gAt0 sAt sAt0 optPlain rows_len noMaker_eq kindOf vlOf abin_rem abin_quo mayTurn_none lowOf_none Go.Pur.partAt rows_nil rows_cons ble_add ble_add0 ble_same toPlain toPlain.go intIn2_0 intIn2_1 ble12 ble22 tv lv max_int min_int pplains ak_true ak_false apartP beq_add beq_add0 beq_add1 argv_s wok_none wok_low_iff lowOf_wok
theorem conv_3_99Ref3 {z : Int} : prunP Tryd.prog (convert 3 99 (.int .i64 z)) = some (.int .u64 (IntKind.u64.wrap z)) := by kernel_rfl
theorem convn_79_9Ref3 : prunP Tryd.prog (convert 79 9 (.slice none 0 0)) = some (.string ByteArray.empty) := by kernel_rfl
def f25S (F : Nat) (p0 : List UInt8) : Option (Int × Int × Int) :=
  (some (checkE p0)).bind fun x1 =>
  (some (decide (x1 = 0))).bind fun x3 =>
  (match x3 with
  | true => ((creasesO p0).bind fun x4 =>
  (f58S F x4).bind fun (c5,l6) =>
  (some ((l6.length : Int))).bind fun x8 =>
  (some (IntKind.i64.wrap (x8 - 1))).bind fun x9 =>
  (gI l6 x9).bind fun y10 =>
  some (y10.1,y10.2,0))
  | false => (some (0,0,x1)))
theorem f25_is {p0 : List UInt8} {hp : List (Option (List PV))} {F : Nat} {r : (Int × Int × Int)}  (h : f25S F p0 = some r) :
    E Tryd.prog Y0 25 [.v (.string (bs p0))] hp = some (.t [iv r.1,iv r.2.1,iv r.2.2],hp,none) := by
  rw [E_bodyN 1 body25 rfl (by decide) rfl]
  simp only [Tryd.f25,Option.get_some]
  unfold f25S at h
  obtain ⟨x1,ex1,h⟩ := bindT h
  have q2 : ∀ hp,E Tryd.prog Y0 27 [.v (.string (bs p0))] hp = some (iv x1,hp,none) := fun hp => f27_is ex1
  obtain ⟨x3,ex3,h⟩ := bindT h
  cases x3
  case false =>
   obtain rfl := inj_ok h
   simp [ex1,q2,ex3]
  obtain ⟨x4,ex4,h⟩ := bind_ok h
  have ex4 : ∀ hp,E Tryd.prog Y0 57 [.v (.string (bs p0))] hp = some (.v (.string (bs x4)),hp,none) := fun hp => f57_is ex4
  obtain ⟨⟨c5,l6⟩,e7,h⟩ := bind_ok h
  try dsimp only at h
  have e7 : ∀ hp,E Tryd.prog Y0 58 [.v (.string (bs x4))] hp = some (.l (vlOf c5) c5 l6.length (rows l6),hp,none) := fun hp => f58_is  e7
  cases c5 with
  | full =>
    obtain ⟨x8,ex8,h⟩ := bindT h
    obtain ⟨x9,ex9,h⟩ := bindT h
    obtain ⟨y10,ey10,h⟩ := bind_ok h
    obtain ⟨ey10a,ey10e,ey10b,ey10c,ey10g⟩ := gI_ok rfl ey10
    have ey10d := rows_at ey10c
    have ey10f := rows_ble ey10e
    have q11 : spliceP 0 [iv y10.1,iv y10.2] [iv 0,iv 0] = some [iv y10.1,iv y10.2] := rfl
    obtain rfl := inj_ok h
    simp [ex1,q2,ex3,ex4,e7,ex8,ex9,ey10a,ey10b,ey10c,ey10d,ey10f,q11]
  | nz =>
    obtain ⟨x8,ex8,h⟩ := bindT h
    obtain ⟨x9,ex9,h⟩ := bindT h
    obtain ⟨y10,ey10,h⟩ := bind_ok h
    obtain ⟨ey10a,ey10e,ey10b,ey10c,ey10g⟩ := gI_ok rfl ey10
    have ey10d := rows_at ey10c
    have ey10f := rows_ble ey10e
    have q11 : spliceP 0 [iv y10.1,iv y10.2] [iv 0,iv 0] = some [iv y10.1,iv y10.2] := rfl
    obtain rfl := inj_ok h
    simp [ex1,q2,ex3,ex4,e7,ex8,ex9,ey10a,ey10b,ey10c,ey10d,ey10f,q11]
  | any =>
    obtain ⟨x8,ex8,h⟩ := bindT h
    obtain ⟨x9,ex9,h⟩ := bindT h
    obtain ⟨y10,ey10,h⟩ := bind_ok h
    obtain ⟨ey10a,ey10e,ey10b,ey10c,ey10g⟩ := gI_ok rfl ey10
    have ey10d := rows_at ey10c
    have ey10f := rows_ble ey10e
    have q11 : spliceP 0 [iv y10.1,iv y10.2] [iv 0,iv 0] = some [iv y10.1,iv y10.2] := rfl
    obtain rfl := inj_ok h
    simp [ex1,q2,ex3,ex4,e7,ex8,ex9,ey10a,ey10b,ey10c,ey10d,ey10f,q11]
def f62S (F : Nat) (p0 : List UInt8) : Option (Int × Int) :=
  (some ((p0.length : Int))).bind fun x1 =>
  (some (IntKind.i64.wrap (x1 + 1))).bind fun x2 =>
  (some (lettersE p0 63 118 104)).bind fun x3 =>
  (some (decide (x3 = 0))).bind fun x5 =>
  (match x5 with
  | true => ((some (IntKind.i64.wrap (x2 - 1))).bind fun x6 =>
  (some (andI .i64 x2 x6)).bind fun x7 =>
  (some (decide (x7 = 0))).bind fun x8 =>
  (match x8 with
  | true => ((some (IntKind.u64.wrap x2)).bind fun x9 =>
  (lenO x9).bind fun x10 =>
  (some (IntKind.i64.wrap (x10 - 1))).bind fun x11 =>
  some (x11,0))
  | false => (some (0,5))))
  | false => (some (0,x3)))
theorem f62_is {p0 : List UInt8} {hp : List (Option (List PV))} {F : Nat} {r : (Int × Int)}  (h : f62S F p0 = some r) :
    E Tryd.prog Y0 62 [.v (.string (bs p0))] hp = some (.t [iv r.1,iv r.2],hp,none) := by
  rw [E_bodyN 1 body62 rfl (by decide) rfl]
  simp only [Tryd.f62,Option.get_some]
  unfold f62S at h
  obtain ⟨x1,ex1,h⟩ := bindT h
  obtain ⟨x2,ex2,h⟩ := bindT h
  obtain ⟨x3,ex3,h⟩ := bindT h
  have q4 : ∀ hp,E Tryd.prog Y0 60 [.v (.string (bs p0)),iv 63,.v (.string (bs [118,104]))] hp = some (iv x3,hp,none) := fun hp => f60_is ex3
  obtain ⟨x5,ex5,h⟩ := bindT h
  cases x5
  case false =>
   obtain rfl := inj_ok h
   simp [ex1,ex2,ex3,q4,ex5]
  obtain ⟨x6,ex6,h⟩ := bindT h
  obtain ⟨x7,ex7,h⟩ := bindT h
  obtain ⟨x8,ex8,h⟩ := bindT h
  cases x8
  case false =>
   obtain rfl := inj_ok h
   simp [ex1,ex2,ex3,q4,ex5,ex6,ex7,ex8]
  obtain ⟨x9,ex9,h⟩ := bindT h
  obtain ⟨x10,ex10,h⟩ := bind_ok h
  have ex10 : ∀ hp,E Tryd.prog Y0 86 [kv .u64 x9] hp = some (iv x10,hp,none) := fun hp => f86_is ex10
  obtain ⟨x11,ex11,h⟩ := bindT h
  obtain rfl := inj_ok h
  simp [ex1,ex2,ex3,q4,ex5,ex6,ex7,ex8,conv_3_99Ref3,ex9,ex10,ex11]
def f35S (F : Nat) (p0 : List UInt8) : Option ((Ck × List (Int × Int)) × Int) :=
  (some (lettersE p0 63 118 104)).bind fun x1 =>
  (some (decide (x1 = 0))).bind fun x3 =>
  (match x3 with
  | true => ((f58S F p0).bind fun (c4,l5) =>
  some ((c4,l5),0))
  | false => (some ((.nz,[]),x1)))
theorem f35_is {p0 : List UInt8} {hp : List (Option (List PV))} {F : Nat} {r : ((Ck × List (Int × Int)) × Int)}  (h : f35S F p0 = some r) :
    E Tryd.prog Y0 35 [.v (.string (bs p0))] hp = some (.t [.l .fz r.1.1 r.1.2.length (rows r.1.2),iv r.2],hp,none) := by
  rw [E_bodyN 1 body35 rfl (by decide) rfl]
  simp only [Tryd.f35,Option.get_some]
  unfold f35S at h
  obtain ⟨x1,ex1,h⟩ := bindT h
  have q2 : ∀ hp,E Tryd.prog Y0 60 [.v (.string (bs p0)),iv 63,.v (.string (bs [118,104]))] hp = some (iv x1,hp,none) := fun hp => f60_is ex1
  obtain ⟨x3,ex3,h⟩ := bindT h
  cases x3
  case false =>
   obtain rfl := inj_ok h
   simp [ex1,q2,ex3]
  obtain ⟨⟨c4,l5⟩,e6,h⟩ := bind_ok h
  try dsimp only at h
  have e6 : ∀ hp,E Tryd.prog Y0 58 [.v (.string (bs p0))] hp = some (.l (vlOf c4) c4 l5.length (rows l5),hp,none) := fun hp => f58_is  e6
  cases c4 with
  | full =>
    obtain rfl := inj_ok h
    simp [ex1,q2,ex3,e6]
  | nz =>
    obtain rfl := inj_ok h
    simp [ex1,q2,ex3,e6]
  | any =>
    obtain rfl := inj_ok h
    simp [ex1,q2,ex3,e6]
def f29_L0 (F : Nat) (p0 : List UInt8) (x5 : Nat) (K : List Int → Option (List UInt8 × Int)) : Nat → Int × List Int → Option (List UInt8 × Int)
  | 0,_ => none
  | n + 1,(v9,m10) => (some (decide (v9 < (x5 : Int)))).bind fun x11 =>
    (match x11 with
    | true => ((gI m10 v9).bind fun y12 =>
    (sI m10 v9 117).bind fun m13 =>
    (some (IntKind.i64.wrap ((x5 : Int) - 1))).bind fun x14 =>
    (some (IntKind.i64.wrap (x14 - v9))).bind fun x15 =>
    (shlO .i64 1 x15).bind fun x16 =>
    (some (IntKind.i64.wrap (x16 - 1))).bind fun x17 =>
    (gS p0 x17).bind fun x18 =>
    (some (decide (x18 = 118))).bind fun x19 =>
    (match x19 with
    | true => ((gI m13 v9).bind fun y20 =>
    (sI m13 v9 111).bind fun m21 =>
    (some (IntKind.i64.wrap (v9 + 1))).bind fun x22 =>
    f29_L0 F p0 x5 K n (x22,m21))
    | false => ((some (IntKind.i64.wrap (v9 + 1))).bind fun x23 =>
    f29_L0 F p0 x5 K n (x23,m13))))
    | false => (K m10))
def f29S (F : Nat) (p0 : List UInt8) : Option (List UInt8 × Int) :=
  (f62S F p0).bind fun (x1,x2) =>
  (some (decide (x2 = 0))).bind fun x4 =>
  (match x4 with
  | true => ((mkN x1).bind fun x5 =>
  (gN x5).bind fun x6 =>
  (some (List.replicate x5 (0 : Int))).bind fun m8 =>
  f29_L0 F p0 x5 (fun m24 =>
    (some (bytesN m24)).bind fun x25 =>
    (creasesO x25).bind fun x26 =>
    (some (decide (x26 = p0))).bind fun x27 =>
    (match x27 with
    | true => ((some (bytesN m24)).bind fun x28 =>
    some (x28,0))
    | false => (some ([],12)))) F (0,m8))
  | false => (some ([],x2)))
theorem f29_is {p0 : List UInt8} {hp : List (Option (List PV))} {F : Nat} {r : (List UInt8 × Int)}  (h : f29S F p0 = some r) :
    E Tryd.prog Y0 29 [.v (.string (bs p0))] hp = some (.t [.v (.string (bs r.1)),iv r.2],hp,none) := by
  rw [E_bodyN 1 body29 rfl (by decide) rfl]
  simp only [Tryd.f29,Option.get_some]
  unfold f29S at h
  replace h := bind_ok h; obtain ⟨⟨x1,x2⟩,e3,h⟩ := h
  try dsimp only at h
  have e3 : ∀ hp,E Tryd.prog Y0 62 [.v (.string (bs p0))] hp = some (.t [iv x1,iv x2],hp,none) := fun hp => f62_is  e3
  replace h := bindT h; obtain ⟨x4,ex4,h⟩ := h
  cases x4
  case false =>
   obtain rfl := inj_ok h
   simp [e3,ex4]
  replace h := bind_ok h; obtain ⟨x5,ex5,h⟩ := h
  obtain ⟨ex5a,ex5b,ex5c⟩ := mkN_ok ex5
  subst ex5a
  replace h := bind_ok h; obtain ⟨x6,ex6,h⟩ := h
  have ex6 := gN_ok ex6 3 (by decide)
  replace h := bind_ok h; obtain ⟨m8,em8,h⟩ := h
  have em8 := inj_ok em8
  have em8r : reps [(kv .u8) 0] x5 = m8.map (kv .u8) := by rw [← em8]; exact reps_rep
  have hl0 : m8.length = x5 := by rw [← em8]; exact rep_len
  simp [e3,ex4,ex6,em8r,hl0]
  have hL0 := h; clear h
  refine loopS (S := f29_L0 F p0 x5) (fun (v9,m10) σ => ∃ (ts : Tr PV) (w : Option Nat),wok hp.length w ∧ σ = ⟨[],ts,hp ++ [some (m10.map (kv .u8))],w⟩ ∧ ts.get 0 = some (.v (.string (bs p0))) ∧ ts.get 4 = some (iv (x5 : Int)) ∧ ts.get 6 = some (.s hp.length 0 x5 x5) ∧ ts.get 19 = some (iv (x5 : Int)) ∧ ts.get 20 = some (iv v9) ∧ m10.length = x5 ∧ True) (fun m24 σ => ∃ (ts : Tr PV) (w : Option Nat),wok hp.length w ∧ σ = ⟨[],ts,hp ++ [some (m24.map (kv .u8))],w⟩ ∧ ts.get 0 = some (.v (.string (bs p0))) ∧ ts.get 6 = some (.s hp.length 0 x5 x5) ∧ m24.length = x5 ∧ True) (fun _ => rfl) hL0 ?_ ?_ ?_
  · exact ⟨_,_,by simp,rfl,by simp [e3,ex4,ex6,em8r,hl0]⟩
  · rintro m24 σ ⟨ts,w,hw,rfl,g0,g6,hl0,-⟩ h
    clear hL0
    try dsimp only at h
    replace h := bind_ok h; obtain ⟨x25,ex25,h⟩ := h
    have ex25 := inj_ok ex25
    have ex25 := fun (x : Operand) (σ : St) (dr : Dr) hx hb hm => pbytes_list (dr := dr) (hm := hm) (P := Tryd.prog) (Y := Y0) (f := 29) (src := 79) (dst := 9) (x := x) (σ := σ) (b := hp.length) (cap := x5) Tryd.underlying79 Tryd.underlying5 Tryd.underlying9 hx hb hl0 ex25 convn_79_9Ref3
    replace h := bind_ok h; obtain ⟨x26,ex26,h⟩ := h
    have ex26 : ∀ hp,E Tryd.prog Y0 57 [.v (.string (bs x25))] hp = some (.v (.string (bs x26)),hp,none) := fun hp => f57_is ex26
    replace h := bind_ok h; obtain ⟨x27,ex27,h⟩ := h
    have ex27p := inj_ok ex27
    have ex27 : decide (bs x26 = bs p0) = x27 := (decide_eq_decide.2 bs_eq).trans (inj_ok ex27)
    cases x27
    case false =>
     obtain rfl := inj_ok h
     simp [g0,g6,hl0,ex26,ex27,ex27p,abin_seql,abin_sneq,hw]
     rw [ex25 _ _ _ (by simp) (by simp) (by kernel_rfl)]
     simp [g0,g6,hl0,ex26,ex27,ex27p,abin_seql,abin_sneq,hw]
    replace h := bind_ok h; obtain ⟨x28,ex28,h⟩ := h
    have ex28 := inj_ok ex28
    have ex28 := fun (x : Operand) (σ : St) (dr : Dr) hx hb hm => pbytes_list (dr := dr) (hm := hm) (P := Tryd.prog) (Y := Y0) (f := 29) (src := 79) (dst := 9) (x := x) (σ := σ) (b := hp.length) (cap := x5) Tryd.underlying79 Tryd.underlying5 Tryd.underlying9 hx hb hl0 ex28 convn_79_9Ref3
    obtain rfl := inj_ok h
    simp [g0,g6,hl0,ex26,ex27,ex27p,abin_seql,abin_sneq,hw]
    rw [ex25 _ _ _ (by simp) (by simp) (by kernel_rfl)]
    simp [g0,g6,hl0,ex26,ex27,ex27p,abin_seql,abin_sneq,hw]
    rw [ex28 _ _ _ (by simp) (by simp) (by kernel_rfl)]
    simp [g0,g6,hl0,ex26,ex27,ex27p,abin_seql,abin_sneq,hw]
  · rintro k n ⟨v9,m10⟩ σ ⟨ts,w,hw,rfl,g0,g4,g6,g19,g20,hl0,-⟩ h ih ex
    clear hL0
    rw [f29_L0] at h
    replace h := bindT h; obtain ⟨x11,ex11,h⟩ := h
    cases x11
    case false =>
     simp [g0,g4,g6,g19,g20,hl0,ex11]
     refine ex m10 _ ?_ h
     exact ⟨_,_,by simp [hw],rfl,by simp [g0,g4,g6,g19,g20,hl0,ex11]⟩
    replace h := bind_ok h; obtain ⟨y12,ey12,h⟩ := h
    obtain ⟨ey12a,ey12e,ey12b,ey12c,ey12g⟩ := gI_ok hl0 ey12
    replace h := bind_ok h; obtain ⟨m13,em13,h⟩ := h
    obtain ⟨em13a,em13e,em13l,em13s,em13q⟩ := sI_ok (kv .u8) hl0 em13
    have hl0 := em13l
    replace h := bindT h; obtain ⟨x14,ex14,h⟩ := h
    replace h := bindT h; obtain ⟨x15,ex15,h⟩ := h
    replace h := bind_ok h; obtain ⟨x16,ex16,h⟩ := h
    obtain ⟨ex16a,ex16⟩ := shlO_ok ex16
    replace h := bindT h; obtain ⟨x17,ex17,h⟩ := h
    replace h := bind_ok h; obtain ⟨x18,ex18,h⟩ := h
    have ex18 := (gS_ok (P := Tryd.prog) (t := 9) (k := .i64) Tryd.underlying9 shape9 ex18).1
    replace h := bindT h; obtain ⟨x19,ex19,h⟩ := h
    cases x19
    case false =>
     replace h := bindT h; obtain ⟨x23,ex23,h⟩ := h
     simp [g0,g4,g6,g19,g20,hl0,ex11,ey12a,ey12b,ey12c,em13a,em13s,ex14,ex15,ex16,ex16a,ex17,ex18,ex19,ex23]
     refine ih (x23,m13) _ ?_ h
     exact ⟨_,_,by simp [hw],rfl,by simp [g0,g4,g6,g19,g20,hl0,ex11,ey12a,ey12b,ey12c,em13a,em13s,ex14,ex15,ex16,ex16a,ex17,ex18,ex19,ex23]⟩
    replace h := bind_ok h; obtain ⟨y20,ey20,h⟩ := h
    obtain ⟨ey20a,ey20e,ey20b,ey20c,ey20g⟩ := gI_ok hl0 ey20
    replace h := bind_ok h; obtain ⟨m21,em21,h⟩ := h
    obtain ⟨em21a,em21e,em21l,em21s,em21q⟩ := sI_ok (kv .u8) hl0 em21
    have hl0 := em21l
    replace h := bindT h; obtain ⟨x22,ex22,h⟩ := h
    simp [g0,g4,g6,g19,g20,hl0,ex11,ey12a,ey12b,ey12c,em13a,em13s,ex14,ex15,ex16,ex16a,ex17,ex18,ex19,ey20a,ey20b,ey20c,em21a,em21s,ex22]
    refine ih (x22,m21) _ ?_ h
    exact ⟨_,_,by simp [hw],rfl,by simp [g0,g4,g6,g19,g20,hl0,ex11,ey12a,ey12b,ey12c,em13a,em13s,ex14,ex15,ex16,ex16a,ex17,ex18,ex19,ey20a,ey20b,ey20c,em21a,em21s,ex22]⟩
def f31_L1 (F : Nat) (p0 : List UInt8) (v6 : Int) (K : Unit → Option (Int × Int × Int)) : Nat → Int → Option (Int × Int × Int)
  | 0,_ => none
  | n + 1,v9 => (some ((p0.length : Int))).bind fun x10 =>
    (some (decide (v9 < x10))).bind fun x11 =>
    (match x11 with
    | true => ((f66S F p0 v6 v9).bind fun b12 =>
    (match b12 with
    | true => (some (v6,v9,0))
    | false => ((some (IntKind.i64.wrap (v9 + 1))).bind fun x14 =>
    f31_L1 F p0 v6 K n x14)))
    | false => (K ()))
def f31_L0 (F : Nat) (p0 : List UInt8) (x5 : Int) (K : Unit → Option (Int × Int × Int)) : Nat → Int → Option (Int × Int × Int)
  | 0,_ => none
  | n + 1,v6 => (some (decide (v6 < x5))).bind fun x7 =>
    (match x7 with
    | true => ((some (IntKind.i64.wrap (v6 + 1))).bind fun x8 =>
    f31_L1 F p0 v6 (fun _ =>
      (some (IntKind.i64.wrap (v6 + 1))).bind fun x15 =>
      f31_L0 F p0 x5 K n x15) F x8)
    | false => (K ()))
def f31S (F : Nat) (p0 : List UInt8) : Option (Int × Int × Int) :=
  (f62S F p0).bind fun (x1,x2) =>
  (some (decide (x2 = 0))).bind fun x4 =>
  (match x4 with
  | true => ((some ((p0.length : Int))).bind fun x5 =>
  f31_L0 F p0 x5 (fun _ =>
    some (0,0,13)) F 0)
  | false => (some (0,0,x2)))
theorem f31_is {p0 : List UInt8} {hp : List (Option (List PV))} {F : Nat} {r : (Int × Int × Int)}  (h : f31S F p0 = some r) :
    E Tryd.prog Y0 31 [.v (.string (bs p0))] hp = some (.t [iv r.1,iv r.2.1,iv r.2.2],hp,none) := by
  rw [E_bodyN 1 body31 rfl (by decide) rfl]
  simp only [Tryd.f31,Option.get_some]
  unfold f31S at h
  obtain ⟨⟨x1,x2⟩,e3,h⟩ := bind_ok h
  try dsimp only at h
  have e3 : ∀ hp,E Tryd.prog Y0 62 [.v (.string (bs p0))] hp = some (.t [iv x1,iv x2],hp,none) := fun hp => f62_is  e3
  obtain ⟨x4,ex4,h⟩ := bindT h
  cases x4
  case false =>
   obtain rfl := inj_ok h
   simp [e3,ex4]
  obtain ⟨x5,ex5,h⟩ := bindT h
  simp [e3,ex4,ex5]
  have hL0 := h; clear h
  refine loopS (S := f31_L0 F p0 x5) (fun v6 σ => ∃ (ts : Tr PV) (w : Option Nat),wok hp.length w ∧ σ = ⟨[],ts,hp,w⟩ ∧ ts.get 0 = some (.v (.string (bs p0))) ∧ ts.get 18 = some (iv x5) ∧ ts.get 19 = some (iv v6) ∧ True) (fun _ σ => ∃ (ts : Tr PV) (w : Option Nat),wok hp.length w ∧ σ = ⟨[],ts,hp,w⟩ ∧ True) (fun _ => rfl) hL0 ?_ ?_ ?_
  · exact ⟨_,_,by simp,rfl,by simp [e3,ex4,ex5]⟩
  · rintro ⟨⟩ σ ⟨ts,w,hw,rfl,-⟩ h
    clear hL0
    try dsimp only at h
    obtain rfl := inj_ok h
    simp [hw]
  · rintro k n v6 σ ⟨ts,w,hw,rfl,g0,g18,g19,-⟩ h ih ex
    clear hL0
    rw [f31_L0] at h
    obtain ⟨x7,ex7,h⟩ := bindT h
    cases x7
    case false =>
     simp [g0,g18,g19,ex7]
     refine ex () _ ?_ h
     exact ⟨_,_,by simp [hw],rfl,by simp [g0,g18,g19,ex7]⟩
    obtain ⟨x8,ex8,h⟩ := bindT h
    simp [g0,g18,g19,ex7,ex8]
    have hL1 := h; clear h
    refine loopS (S := f31_L1 F p0 v6) (fun v9 σ => ∃ (ts : Tr PV) (w : Option Nat),wok hp.length w ∧ σ = ⟨[],ts,hp,w⟩ ∧ ts.get 0 = some (.v (.string (bs p0))) ∧ ts.get 7 = some (iv v6) ∧ ts.get 8 = some (iv v9) ∧ ts.get 18 = some (iv x5) ∧ ts.get 19 = some (iv v6) ∧ True) (fun _ σ => ∃ (ts : Tr PV) (w : Option Nat),wok hp.length w ∧ σ = ⟨[],ts,hp,w⟩ ∧ ts.get 0 = some (.v (.string (bs p0))) ∧ ts.get 18 = some (iv x5) ∧ ts.get 19 = some (iv v6) ∧ True) (fun _ => rfl) hL1 ?_ ?_ ?_
    · exact ⟨_,_,by simp [hw],rfl,by simp [g0,g18,g19,ex7,ex8]⟩
    · rintro ⟨⟩ σ ⟨ts,w,hw,rfl,g0,g18,g19,-⟩ h
      clear hL1
      try dsimp only at h
      obtain ⟨x15,ex15,h⟩ := bindT h
      simp [g0,g18,g19,ex15]
      refine ih x15 _ ?_ h
      exact ⟨_,_,by simp [hw],rfl,by simp [g0,g18,g19,ex15]⟩
    · rintro k n v9 σ ⟨ts,w,hw,rfl,g0,g7,g8,g18,g19,-⟩ h ih ex
      clear hL1
      rw [f31_L1] at h
      obtain ⟨x10,ex10,h⟩ := bindT h
      obtain ⟨x11,ex11,h⟩ := bindT h
      cases x11
      case false =>
       simp [g0,g7,g8,g18,g19,ex10,ex11]
       refine ex () _ ?_ h
       exact ⟨_,_,by simp [hw],rfl,by simp [g0,g7,g8,g18,g19,ex10,ex11]⟩
      obtain ⟨b12,e13,h⟩ := bind_ok h
      have e13 : ∀ hp,E Tryd.prog Y0 66 [.v (.string (bs p0)),iv v6,iv v9] hp = some (.v (.bool b12),hp,none) := fun hp => f66_is  e13
      cases b12
      case true =>
       obtain rfl := inj_ok h
       simp [g0,g7,g8,g18,g19,ex10,ex11,e13,hw]
      obtain ⟨x14,ex14,h⟩ := bindT h
      simp [g0,g7,g8,g18,g19,ex10,ex11,e13,ex14]
      refine ih x14 _ ?_ h
      exact ⟨_,_,by simp [hw],rfl,by simp [g0,g7,g8,g18,g19,ex10,ex11,e13,ex14]⟩
def f33S (F : Nat) (p0 : List UInt8) (p1 : Int) (p2 : Int) : Option (Int) :=
  (f62S F p0).bind fun (x1,x2) =>
  (some (decide (x2 = 0))).bind fun x4 =>
  (match x4 with
  | true => ((some (min p1 p2)).bind fun x5 =>
  (some (decide (x5 < 0))).bind fun x6 =>
  (match x6 with
  | true => (some 2)
  | false => ((some (max p1 p2)).bind fun x7 =>
  (some ((p0.length : Int))).bind fun x8 =>
  (some (decide (x8 ≤ x7))).bind fun x9 =>
  (match x9 with
  | true => (some 2)
  | false => ((some (decide (p2 ≤ p1))).bind fun x10 =>
  (match x10 with
  | true => (some 7)
  | false => ((f66S F p0 p1 p2).bind fun b11 =>
  (match b11 with
  | true => (some 0)
  | false => (some 14)))))))))
  | false => (some x2))
theorem f33_is {p0 : List UInt8} {p1 : Int} {p2 : Int} {hp : List (Option (List PV))} {F : Nat} {r : (Int)}  (h : f33S F p0 p1 p2 = some r) :
    E Tryd.prog Y0 33 [.v (.string (bs p0)),iv p1,iv p2] hp = some (iv r,hp,none) := by
  rw [E_bodyN 3 body33 rfl (by decide) rfl]
  simp only [Tryd.f33,Option.get_some]
  unfold f33S at h
  obtain ⟨⟨x1,x2⟩,e3,h⟩ := bind_ok h
  try dsimp only at h
  have e3 : ∀ hp,E Tryd.prog Y0 62 [.v (.string (bs p0))] hp = some (.t [iv x1,iv x2],hp,none) := fun hp => f62_is  e3
  obtain ⟨x4,ex4,h⟩ := bindT h
  cases x4
  case false =>
   obtain rfl := inj_ok h
   simp [e3,ex4]
  obtain ⟨x5,ex5,h⟩ := bindT h
  obtain ⟨x6,ex6,h⟩ := bindT h
  cases x6
  case true =>
   obtain rfl := inj_ok h
   simp [e3,ex4,ex5,ex6]
  obtain ⟨x7,ex7,h⟩ := bindT h
  obtain ⟨x8,ex8,h⟩ := bindT h
  obtain ⟨x9,ex9,h⟩ := bindT h
  cases x9
  case true =>
   obtain rfl := inj_ok h
   simp [e3,ex4,ex5,ex6,ex7,ex8,ex9]
  obtain ⟨x10,ex10,h⟩ := bindT h
  cases x10
  case true =>
   obtain rfl := inj_ok h
   simp [e3,ex4,ex5,ex6,ex7,ex8,ex9,ex10]
  obtain ⟨b11,e12,h⟩ := bind_ok h
  have e12 : ∀ hp,E Tryd.prog Y0 66 [.v (.string (bs p0)),iv p1,iv p2] hp = some (.v (.bool b11),hp,none) := fun hp => f66_is  e12
  cases b11
  case true =>
   obtain rfl := inj_ok h
   simp [e3,ex4,ex5,ex6,ex7,ex8,ex9,ex10,e12]
  obtain rfl := inj_ok h
  simp [e3,ex4,ex5,ex6,ex7,ex8,ex9,ex10,e12]
def f37_L1 (F : Nat) (l2 : List (Int × Int)) (v8 : Int) (K : Unit → Option (Int × Int × Int)) : Nat → Int → Option (Int × Int × Int)
  | 0,_ => none
  | n + 1,v11 => (some ((l2.length : Int))).bind fun x12 =>
    (some (IntKind.i64.wrap (x12 - 1))).bind fun x13 =>
    (some (decide (v11 < x13))).bind fun x14 =>
    (match x14 with
    | true => ((gI l2 v8).bind fun y15 =>
    (some (IntKind.i64.wrap (v8 + 1))).bind fun x16 =>
    (gI l2 x16).bind fun y17 =>
    (gI l2 v11).bind fun y18 =>
    (some (IntKind.i64.wrap (v11 + 1))).bind fun x19 =>
    (gI l2 x19).bind fun y20 =>
    (some (((decide (y15.1 = y18.1) && decide (y15.2 = y18.2)) && (decide (y17.1 = y20.1) && decide (y17.2 = y20.2))))).bind fun x23 =>
    (match x23 with
    | true => (some (v8,v11,0))
    | false => ((some (((decide (y15.1 = y20.1) && decide (y15.2 = y20.2)) && (decide (y17.1 = y18.1) && decide (y17.2 = y18.2))))).bind fun x25 =>
    (match x25 with
    | true => (some (v8,v11,0))
    | false => (f37_L1 F l2 v8 K n x19)))))
    | false => (K ()))
def f37_L0 (F : Nat) (l2 : List (Int × Int)) (x7 : Int) (K : Unit → Option (Int × Int × Int)) : Nat → Int → Option (Int × Int × Int)
  | 0,_ => none
  | n + 1,v8 => (some (decide (v8 < x7))).bind fun x9 =>
    (match x9 with
    | true => ((some (IntKind.i64.wrap (v8 + 1))).bind fun x10 =>
    f37_L1 F l2 v8 (fun _ =>
      (some (IntKind.i64.wrap (v8 + 1))).bind fun x27 =>
      f37_L0 F l2 x7 K n x27) F x10)
    | false => (K ()))
def f37S (F : Nat) (p0 : List UInt8) : Option (Int × Int × Int) :=
  (f35S F p0).bind fun ((c1,l2),x3) =>
  (some (decide (x3 = 0))).bind fun x5 =>
  (match x5 with
  | true => ((some ((l2.length : Int))).bind fun x6 =>
  (some (IntKind.i64.wrap (x6 - 1))).bind fun x7 =>
  f37_L0 F l2 x7 (fun _ =>
    some (0,0,13)) F 0)
  | false => (some (0,0,x3)))
theorem f37_is {p0 : List UInt8} {hp : List (Option (List PV))} {F : Nat} {r : (Int × Int × Int)}  (h : f37S F p0 = some r) :
    E Tryd.prog Y0 37 [.v (.string (bs p0))] hp = some (.t [iv r.1,iv r.2.1,iv r.2.2],hp,none) := by
  rw [E_bodyN 1 body37 rfl (by decide) rfl]
  simp only [Tryd.f37,Option.get_some]
  unfold f37S at h
  obtain ⟨⟨⟨c1,l2⟩,x3⟩,e4,h⟩ := bind_ok h
  try dsimp only at h
  have e4 : ∀ hp,E Tryd.prog Y0 35 [.v (.string (bs p0))] hp = some (.t [.l .fz c1 l2.length (rows l2),iv x3],hp,none) := fun hp => f35_is  e4
  obtain ⟨x5,ex5,h⟩ := bindT h
  cases x5
  case false =>
   obtain rfl := inj_ok h
   simp [e4,ex5]
  obtain ⟨x6,ex6,h⟩ := bindT h
  obtain ⟨x7,ex7,h⟩ := bindT h
  simp [e4,ex5,ex6,ex7]
  have hL0 := h; clear h
  refine loopS (S := f37_L0 F l2 x7) (fun v8 σ => ∃ (ts : Tr PV) (w : Option Nat) (H : List (Option (List PV))),wok hp.length w ∧ σ = ⟨[],ts,H,w⟩ ∧ (∃ G,H = hp ++ G) ∧ ts.get 5 = some (.l .fz c1 l2.length (rows l2)) ∧ ts.get 20 = some (iv x7) ∧ ts.get 21 = some (iv v8) ∧ True) (fun _ σ => ∃ (ts : Tr PV) (w : Option Nat) (H : List (Option (List PV))),wok hp.length w ∧ σ = ⟨[],ts,H,w⟩ ∧ (∃ G,H = hp ++ G) ∧ True) (fun _ => rfl) hL0 ?_ ?_ ?_
  · exact ⟨_,_,_,by simp,rfl,⟨[],by simp⟩,by simp [e4,ex5,ex6,ex7]⟩
  · rintro ⟨⟩ σ ⟨ts,w,H,hw,rfl,⟨G,rfl⟩,-⟩ h
    clear hL0
    try dsimp only at h
    obtain rfl := inj_ok h
    simp [hw]
  · rintro k n v8 σ ⟨ts,w,H,hw,rfl,⟨G,rfl⟩,g5,g20,g21,-⟩ h ih ex
    clear hL0
    rw [f37_L0] at h
    obtain ⟨x9,ex9,h⟩ := bindT h
    cases x9
    case false =>
     simp [g5,g20,g21,ex9]
     refine ex () _ ?_ h
     exact ⟨_,_,_,by simp [hw],rfl,⟨_,rfl⟩,by simp [g5,g20,g21,ex9]⟩
    obtain ⟨x10,ex10,h⟩ := bindT h
    simp [g5,g20,g21,ex9,ex10]
    have hL1 := h; clear h
    refine loopS (S := f37_L1 F l2 v8) (fun v11 σ => ∃ (ts : Tr PV) (w : Option Nat) (H : List (Option (List PV))),wok hp.length w ∧ σ = ⟨[],ts,H,w⟩ ∧ (∃ G,H = hp ++ G) ∧ ts.get 5 = some (.l .fz c1 l2.length (rows l2)) ∧ ts.get 6 = some (iv v8) ∧ ts.get 7 = some (iv v11) ∧ ts.get 20 = some (iv x7) ∧ ts.get 21 = some (iv v8) ∧ True) (fun _ σ => ∃ (ts : Tr PV) (w : Option Nat) (H : List (Option (List PV))),wok hp.length w ∧ σ = ⟨[],ts,H,w⟩ ∧ (∃ G,H = hp ++ G) ∧ ts.get 5 = some (.l .fz c1 l2.length (rows l2)) ∧ ts.get 20 = some (iv x7) ∧ ts.get 21 = some (iv v8) ∧ True) (fun _ => rfl) hL1 ?_ ?_ ?_
    · exact ⟨_,_,_,by simp [hw],rfl,⟨_,rfl⟩,by simp [g5,g20,g21,ex9,ex10]⟩
    · rintro ⟨⟩ σ ⟨ts,w,H,hw,rfl,⟨G,rfl⟩,g5,g20,g21,-⟩ h
      clear hL1
      try dsimp only at h
      obtain ⟨x27,ex27,h⟩ := bindT h
      simp [g5,g20,g21,ex27]
      refine ih x27 _ ?_ h
      exact ⟨_,_,_,by simp [hw],rfl,⟨_,rfl⟩,by simp [g5,g20,g21,ex27]⟩
    · rintro k n v11 σ ⟨ts,w,H,hw,rfl,⟨G,rfl⟩,g5,g6,g7,g20,g21,-⟩ h ih ex
      clear hL1
      rw [f37_L1] at h
      obtain ⟨x12,ex12,h⟩ := bindT h
      obtain ⟨x13,ex13,h⟩ := bindT h
      obtain ⟨x14,ex14,h⟩ := bindT h
      cases x14
      case false =>
       simp [g5,g6,g7,g20,g21,ex12,ex13,ex14]
       refine ex () _ ?_ h
       exact ⟨_,_,_,by simp [hw],rfl,⟨_,rfl⟩,by simp [g5,g6,g7,g20,g21,ex12,ex13,ex14]⟩
      obtain ⟨y15,ey15,h⟩ := bind_ok h
      obtain ⟨ey15a,ey15e,ey15b,ey15c,ey15g⟩ := gI_ok rfl ey15
      have ey15d := rows_at ey15c
      have ey15f := rows_ble ey15e
      obtain ⟨x16,ex16,h⟩ := bindT h
      obtain ⟨y17,ey17,h⟩ := bind_ok h
      obtain ⟨ey17a,ey17e,ey17b,ey17c,ey17g⟩ := gI_ok rfl ey17
      have ey17d := rows_at ey17c
      have ey17f := rows_ble ey17e
      obtain ⟨y18,ey18,h⟩ := bind_ok h
      obtain ⟨ey18a,ey18e,ey18b,ey18c,ey18g⟩ := gI_ok rfl ey18
      have ey18d := rows_at ey18c
      have ey18f := rows_ble ey18e
      obtain ⟨x19,ex19,h⟩ := bindT h
      obtain ⟨y20,ey20,h⟩ := bind_ok h
      obtain ⟨ey20a,ey20e,ey20b,ey20c,ey20g⟩ := gI_ok rfl ey20
      have ey20d := rows_at ey20c
      have ey20f := rows_ble ey20e
      have q21 : spliceP 0 [iv y15.1,iv y15.2,iv y17.1,iv y17.2] [iv 0,iv 0,iv 0,iv 0] = some [iv y15.1,iv y15.2,iv y17.1,iv y17.2] := rfl
      have q22 : spliceP 0 [iv y18.1,iv y18.2,iv y20.1,iv y20.2] [iv 0,iv 0,iv 0,iv 0] = some [iv y18.1,iv y18.2,iv y20.1,iv y20.2] := rfl
      obtain ⟨x23,ex23,h⟩ := bindT h
      have q24 : ∀ x y,abin Tryd.prog .eql 81 x y (.agg #[.int .i64 y15.1,.int .i64 y15.2,.int .i64 y17.1,.int .i64 y17.2]) (.agg #[.int .i64 y18.1,.int .i64 y18.2,.int .i64 y20.1,.int .i64 y20.2]) = some (.bool x23) := fun x y => by rw [eql81,ex23]
      cases x23
      case true =>
       obtain rfl := inj_ok h
       simp [g5,g6,g7,g20,g21,ex12,ex13,ex14,ey15a,ey15b,ey15c,ey15d,ey15f,ex16,ey17a,ey17b,ey17c,ey17d,ey17f,ey18a,ey18b,ey18c,ey18d,ey18f,ex19,ey20a,ey20b,ey20c,ey20d,ey20f,q21,q22,q24,hw]
       all_goals try (rw [mayStore_of [35,40,45,50] (by kernel_rfl) (by simp [g5,g6,g7,g20,g21,ex12,ex13,ex14,ey15a,ey15b,ey15c,ey15d,ey15f,ex16,ey17a,ey17b,ey17c,ey17d,ey17f,ey18a,ey18b,ey18c,ey18d,ey18f,ex19,ey20a,ey20b,ey20c,ey20d,ey20f,q21,q22,q24,hw])])
       all_goals try simp [g5,g6,g7,g20,g21,ex12,ex13,ex14,ey15a,ey15b,ey15c,ey15d,ey15f,ex16,ey17a,ey17b,ey17c,ey17d,ey17f,ey18a,ey18b,ey18c,ey18d,ey18f,ex19,ey20a,ey20b,ey20c,ey20d,ey20f,q21,q22,q24,hw]
       all_goals try (rw [mayStore_of [35,40,45,50] (by kernel_rfl) (by simp [g5,g6,g7,g20,g21,ex12,ex13,ex14,ey15a,ey15b,ey15c,ey15d,ey15f,ex16,ey17a,ey17b,ey17c,ey17d,ey17f,ey18a,ey18b,ey18c,ey18d,ey18f,ex19,ey20a,ey20b,ey20c,ey20d,ey20f,q21,q22,q24,hw])])
       all_goals try simp [g5,g6,g7,g20,g21,ex12,ex13,ex14,ey15a,ey15b,ey15c,ey15d,ey15f,ex16,ey17a,ey17b,ey17c,ey17d,ey17f,ey18a,ey18b,ey18c,ey18d,ey18f,ex19,ey20a,ey20b,ey20c,ey20d,ey20f,q21,q22,q24,hw]
      obtain ⟨x25,ex25,h⟩ := bindT h
      have q26 : ∀ x y,abin Tryd.prog .eql 81 x y (.agg #[.int .i64 y15.1,.int .i64 y15.2,.int .i64 y17.1,.int .i64 y17.2]) (.agg #[.int .i64 y20.1,.int .i64 y20.2,.int .i64 y18.1,.int .i64 y18.2]) = some (.bool x25) := fun x y => by rw [eql81,ex25]
      cases x25
      case true =>
       obtain rfl := inj_ok h
       simp [g5,g6,g7,g20,g21,ex12,ex13,ex14,ey15a,ey15b,ey15c,ey15d,ey15f,ex16,ey17a,ey17b,ey17c,ey17d,ey17f,ey18a,ey18b,ey18c,ey18d,ey18f,ex19,ey20a,ey20b,ey20c,ey20d,ey20f,q21,q22,q24,q26,hw]
       all_goals try (rw [mayStore_of [35,40,45,50] (by kernel_rfl) (by simp [g5,g6,g7,g20,g21,ex12,ex13,ex14,ey15a,ey15b,ey15c,ey15d,ey15f,ex16,ey17a,ey17b,ey17c,ey17d,ey17f,ey18a,ey18b,ey18c,ey18d,ey18f,ex19,ey20a,ey20b,ey20c,ey20d,ey20f,q21,q22,q24,q26,hw])])
       all_goals try simp [g5,g6,g7,g20,g21,ex12,ex13,ex14,ey15a,ey15b,ey15c,ey15d,ey15f,ex16,ey17a,ey17b,ey17c,ey17d,ey17f,ey18a,ey18b,ey18c,ey18d,ey18f,ex19,ey20a,ey20b,ey20c,ey20d,ey20f,q21,q22,q24,q26,hw]
       all_goals try (rw [mayStore_of [35,40,45,50] (by kernel_rfl) (by simp [g5,g6,g7,g20,g21,ex12,ex13,ex14,ey15a,ey15b,ey15c,ey15d,ey15f,ex16,ey17a,ey17b,ey17c,ey17d,ey17f,ey18a,ey18b,ey18c,ey18d,ey18f,ex19,ey20a,ey20b,ey20c,ey20d,ey20f,q21,q22,q24,q26,hw])])
       all_goals try simp [g5,g6,g7,g20,g21,ex12,ex13,ex14,ey15a,ey15b,ey15c,ey15d,ey15f,ex16,ey17a,ey17b,ey17c,ey17d,ey17f,ey18a,ey18b,ey18c,ey18d,ey18f,ex19,ey20a,ey20b,ey20c,ey20d,ey20f,q21,q22,q24,q26,hw]
      simp [g5,g6,g7,g20,g21,ex12,ex13,ex14,ey15a,ey15b,ey15c,ey15d,ey15f,ex16,ey17a,ey17b,ey17c,ey17d,ey17f,ey18a,ey18b,ey18c,ey18d,ey18f,ex19,ey20a,ey20b,ey20c,ey20d,ey20f,q21,q22,q24,q26]
      all_goals try (rw [mayStore_of [35,40,45,50] (by kernel_rfl) (by simp [g5,g6,g7,g20,g21,ex12,ex13,ex14,ey15a,ey15b,ey15c,ey15d,ey15f,ex16,ey17a,ey17b,ey17c,ey17d,ey17f,ey18a,ey18b,ey18c,ey18d,ey18f,ex19,ey20a,ey20b,ey20c,ey20d,ey20f,q21,q22,q24,q26])])
      all_goals try simp [g5,g6,g7,g20,g21,ex12,ex13,ex14,ey15a,ey15b,ey15c,ey15d,ey15f,ex16,ey17a,ey17b,ey17c,ey17d,ey17f,ey18a,ey18b,ey18c,ey18d,ey18f,ex19,ey20a,ey20b,ey20c,ey20d,ey20f,q21,q22,q24,q26]
      all_goals try (rw [mayStore_of [35,40,45,50] (by kernel_rfl) (by simp [g5,g6,g7,g20,g21,ex12,ex13,ex14,ey15a,ey15b,ey15c,ey15d,ey15f,ex16,ey17a,ey17b,ey17c,ey17d,ey17f,ey18a,ey18b,ey18c,ey18d,ey18f,ex19,ey20a,ey20b,ey20c,ey20d,ey20f,q21,q22,q24,q26])])
      all_goals try simp [g5,g6,g7,g20,g21,ex12,ex13,ex14,ey15a,ey15b,ey15c,ey15d,ey15f,ex16,ey17a,ey17b,ey17c,ey17d,ey17f,ey18a,ey18b,ey18c,ey18d,ey18f,ex19,ey20a,ey20b,ey20c,ey20d,ey20f,q21,q22,q24,q26]
      refine ih x19 _ ?_ h
      exact ⟨_,_,_,by simp [hw],rfl,⟨_,rfl⟩,by simp [g5,g6,g7,g20,g21,ex12,ex13,ex14,ey15a,ey15b,ey15c,ey15d,ey15f,ex16,ey17a,ey17b,ey17c,ey17d,ey17f,ey18a,ey18b,ey18c,ey18d,ey18f,ex19,ey20a,ey20b,ey20c,ey20d,ey20f,q21,q22,q24,q26]⟩
def f40_L3 (F : Nat) (v50 : List Int) (K : List Int × List Int → Option (List UInt8 × Int)) : Nat → List Int × Int × List Int → Option (List UInt8 × Int)
  | 0,_ => none
  | n + 1,(v59,v60,m61) => (some ((v50.length : Int))).bind fun x62 =>
    (some (decide (v60 < x62))).bind fun x63 =>
    (match x63 with
    | true => ((gI v50 v60).bind fun y64 =>
    (some (IntKind.i64.wrap (v60 + 1))).bind fun x65 =>
    (gI v50 x65).bind fun y66 =>
    (some (min y64 y66)).bind fun x67 =>
    (app1 v59 x67).bind fun x68 =>
    (some (IntKind.i64.wrap (v60 + 2))).bind fun x69 =>
    f40_L3 F v50 K n (x68,x69,m61))
    | false => (K (v59,m61)))
def f40_L4 (F : Nat) (v50 : List Int) (K : List Int × List Int → Option (List UInt8 × Int)) : Nat → List Int × Int × List Int → Option (List UInt8 × Int)
  | 0,_ => none
  | n + 1,(v80,v81,m82) => (some ((v50.length : Int))).bind fun x83 =>
    (some (decide (v81 < x83))).bind fun x84 =>
    (match x84 with
    | true => ((gI v50 v81).bind fun y85 =>
    (some (IntKind.i64.wrap (v81 + 1))).bind fun x86 =>
    (gI v50 x86).bind fun y87 =>
    (some (min y85 y87)).bind fun x88 =>
    (app1 v80 x88).bind fun x89 =>
    (some (IntKind.i64.wrap (v81 + 2))).bind fun x90 =>
    f40_L4 F v50 K n (x89,x90,m82))
    | false => (K (v80,m82)))
def f40_L2 (F : Nat) (K : List Int × List Int → Option (List UInt8 × Int)) : Nat → List Int × List Int × List Int → Option (List UInt8 × Int)
  | 0,_ => none
  | n + 1,(v49,v50,m51) => (some ((v50.length : Int))).bind fun x52 =>
    (some (decide (1 < x52))).bind fun x53 =>
    (match x53 with
    | true => ((f68S F v50 0).bind fun x54 =>
    (some (Int.tmod x54 2)).bind fun x56 =>
    (some (decide (x56 = 1))).bind fun x57 =>
    (match x57 with
    | true => ((app1 v49 111).bind fun x58 =>
    f40_L3 F v50 (fun (v70,m71) =>
      (f68S F v70 0).bind fun x72 =>
      (some (decide (x72 < 0))).bind fun x74 =>
      (match x74 with
      | true => (some ([],12))
      | false => ((f69S F v70).bind fun x75 =>
      (some ((v70.length : Int))).bind fun x77 =>
      (some (decide (x77 ≤ x75))).bind fun x78 =>
      (match x78 with
      | true => (some ([],12))
      | false => (f40_L2 F K n (x58,v70,m71)))))) F ([],0,m51))
    | false => ((app1 v49 117).bind fun x79 =>
    f40_L4 F v50 (fun (v91,m92) =>
      (f68S F v91 0).bind fun x93 =>
      (some (decide (x93 < 0))).bind fun x95 =>
      (match x95 with
      | true => (some ([],12))
      | false => ((f69S F v91).bind fun x96 =>
      (some ((v91.length : Int))).bind fun x98 =>
      (some (decide (x98 ≤ x96))).bind fun x99 =>
      (match x99 with
      | true => (some ([],12))
      | false => (f40_L2 F K n (x79,v91,m92)))))) F ([],0,m51))))
    | false => (K (v49,m51)))
def f40_L1 (F : Nat) (p0 : List Int) (K : List Int × List Int → Option (List UInt8 × Int)) : Nat → List Int × Int × List Int → Option (List UInt8 × Int)
  | 0,_ => none
  | n + 1,(v29,v30,m31) => (some ((p0.length : Int))).bind fun x32 =>
    (some (decide (v30 < x32))).bind fun x33 =>
    (match x33 with
    | true => ((gI m31 v30).bind fun y34 =>
    (some (IntKind.i64.wrap (v30 + 1))).bind fun x35 =>
    (gI m31 x35).bind fun y36 =>
    (some (min y34 y36)).bind fun x37 =>
    (app1 v29 x37).bind fun x38 =>
    (some (IntKind.i64.wrap (v30 + 2))).bind fun x39 =>
    f40_L1 F p0 K n (x38,x39,m31))
    | false => (K (v29,m31)))
def f40_L7 (F : Nat) (v127 : List Int) (K : List Int × List Int → Option (List UInt8 × Int)) : Nat → List Int × Int × List Int → Option (List UInt8 × Int)
  | 0,_ => none
  | n + 1,(v136,v137,m138) => (some ((v127.length : Int))).bind fun x139 =>
    (some (decide (v137 < x139))).bind fun x140 =>
    (match x140 with
    | true => ((gI v127 v137).bind fun y141 =>
    (some (IntKind.i64.wrap (v137 + 1))).bind fun x142 =>
    (gI v127 x142).bind fun y143 =>
    (some (min y141 y143)).bind fun x144 =>
    (app1 v136 x144).bind fun x145 =>
    (some (IntKind.i64.wrap (v137 + 2))).bind fun x146 =>
    f40_L7 F v127 K n (x145,x146,m138))
    | false => (K (v136,m138)))
def f40_L8 (F : Nat) (v127 : List Int) (K : List Int × List Int → Option (List UInt8 × Int)) : Nat → List Int × Int × List Int → Option (List UInt8 × Int)
  | 0,_ => none
  | n + 1,(v157,v158,m159) => (some ((v127.length : Int))).bind fun x160 =>
    (some (decide (v158 < x160))).bind fun x161 =>
    (match x161 with
    | true => ((gI v127 v158).bind fun y162 =>
    (some (IntKind.i64.wrap (v158 + 1))).bind fun x163 =>
    (gI v127 x163).bind fun y164 =>
    (some (min y162 y164)).bind fun x165 =>
    (app1 v157 x165).bind fun x166 =>
    (some (IntKind.i64.wrap (v158 + 2))).bind fun x167 =>
    f40_L8 F v127 K n (x166,x167,m159))
    | false => (K (v157,m159)))
def f40_L6 (F : Nat) (K : List Int × List Int → Option (List UInt8 × Int)) : Nat → List Int × List Int × List Int → Option (List UInt8 × Int)
  | 0,_ => none
  | n + 1,(v126,v127,m128) => (some ((v127.length : Int))).bind fun x129 =>
    (some (decide (1 < x129))).bind fun x130 =>
    (match x130 with
    | true => ((f68S F v127 0).bind fun x131 =>
    (some (Int.tmod x131 2)).bind fun x133 =>
    (some (decide (x133 = 1))).bind fun x134 =>
    (match x134 with
    | true => ((app1 v126 111).bind fun x135 =>
    f40_L7 F v127 (fun (v147,m148) =>
      (f68S F v147 0).bind fun x149 =>
      (some (decide (x149 < 0))).bind fun x151 =>
      (match x151 with
      | true => (some ([],12))
      | false => ((f69S F v147).bind fun x152 =>
      (some ((v147.length : Int))).bind fun x154 =>
      (some (decide (x154 ≤ x152))).bind fun x155 =>
      (match x155 with
      | true => (some ([],12))
      | false => (f40_L6 F K n (x135,v147,m148)))))) F ([],0,m128))
    | false => ((app1 v126 117).bind fun x156 =>
    f40_L8 F v127 (fun (v168,m169) =>
      (f68S F v168 0).bind fun x170 =>
      (some (decide (x170 < 0))).bind fun x172 =>
      (match x172 with
      | true => (some ([],12))
      | false => ((f69S F v168).bind fun x173 =>
      (some ((v168.length : Int))).bind fun x175 =>
      (some (decide (x175 ≤ x173))).bind fun x176 =>
      (match x176 with
      | true => (some ([],12))
      | false => (f40_L6 F K n (x156,v168,m169)))))) F ([],0,m128))))
    | false => (K (v126,m128)))
def f40_L5 (F : Nat) (p0 : List Int) (K : List Int × List Int → Option (List UInt8 × Int)) : Nat → List Int × Int × List Int → Option (List UInt8 × Int)
  | 0,_ => none
  | n + 1,(v106,v107,m108) => (some ((p0.length : Int))).bind fun x109 =>
    (some (decide (v107 < x109))).bind fun x110 =>
    (match x110 with
    | true => ((gI m108 v107).bind fun y111 =>
    (some (IntKind.i64.wrap (v107 + 1))).bind fun x112 =>
    (gI m108 x112).bind fun y113 =>
    (some (min y111 y113)).bind fun x114 =>
    (app1 v106 x114).bind fun x115 =>
    (some (IntKind.i64.wrap (v107 + 2))).bind fun x116 =>
    f40_L5 F p0 K n (x115,x116,m108))
    | false => (K (v106,m108)))
def f40_L0 (F : Nat) (p0 : List Int) (x1 : Int) (K : Unit → Option (List UInt8 × Int)) : Nat → Int × Int → Option (List UInt8 × Int)
  | 0,_ => none
  | n + 1,(v7,v8) => (some (decide (v8 < x1))).bind fun x9 =>
    (match x9 with
    | true => ((gI p0 v8).bind fun y10 =>
    (some (decide (y10 < 0))).bind fun x11 =>
    (match x11 with
    | true => (some ([],2))
    | false => ((some (decide (x1 ≤ y10))).bind fun x12 =>
    (match x12 with
    | true => (some ([],2))
    | false => ((shrO .u64 v7 y10).bind fun x13 =>
    (some (andI .u64 x13 1)).bind fun x14 =>
    (some (decide (x14 = 1))).bind fun x15 =>
    (match x15 with
    | true => (some ([],6))
    | false => ((shlO .u64 1 y10).bind fun x16 =>
    (some (orI .u64 v7 x16)).bind fun x17 =>
    (some (IntKind.i64.wrap (v8 + 1))).bind fun x18 =>
    f40_L0 F p0 x1 K n (x17,x18))))))))
    | false => (K ()))
def f40S (F : Nat) (p0 : List Int) : Option (List UInt8 × Int) :=
  (some ((p0.length : Int))).bind fun x1 =>
  (some (decide (64 < x1))).bind fun x2 =>
  (match x2 with
  | true => (some ([],3))
  | false => ((some (decide (x1 = 0))).bind fun x3 =>
  (match x3 with
  | true => (some ([],5))
  | false => ((some (IntKind.i64.wrap (x1 - 1))).bind fun x4 =>
  (some (andI .i64 x1 x4)).bind fun x5 =>
  (some (decide (x5 = 0))).bind fun x6 =>
  (match x6 with
  | true => (f40_L0 F p0 x1 (fun _ =>
    (mkN x1).bind fun x19 =>
    (gN x19).bind fun x20 =>
    (some (List.replicate x19 (0 : Int))).bind fun m22 =>
    (copyO m22 p0).bind fun _ =>
    (some ((p0.length : Int))).bind fun x24 =>
    (some (decide (1 < x24))).bind fun x25 =>
    (match x25 with
    | true => ((f68bS F p0 0).bind fun r26 =>
    (some (Int.tmod r26 2)).bind fun x27 =>
    (some (decide (x27 = 1))).bind fun x28 =>
    (match x28 with
    | true => (f40_L1 F p0 (fun (v40,m41) =>
      (f68S F v40 0).bind fun x42 =>
      (some (decide (x42 < 0))).bind fun x44 =>
      (match x44 with
      | true => (some ([],12))
      | false => ((f69S F v40).bind fun x45 =>
      (some ((v40.length : Int))).bind fun x47 =>
      (some (decide (x47 ≤ x45))).bind fun x48 =>
      (match x48 with
      | true => (some ([],12))
      | false => (f40_L2 F (fun (v100,m101) =>
        (some (bytesN v100)).bind fun x102 =>
        (pileO x102).bind fun x103 =>
        (sameO x103.2 p0).bind fun x104 =>
        (match x104 with
        | true => ((some (bytesN v100)).bind fun x105 =>
        some (x105,0))
        | false => (some ([],12)))) F ([111],v40,m41)))))) F ([],0,p0))
    | false => (f40_L5 F p0 (fun (v117,m118) =>
      (f68S F v117 0).bind fun x119 =>
      (some (decide (x119 < 0))).bind fun x121 =>
      (match x121 with
      | true => (some ([],12))
      | false => ((f69S F v117).bind fun x122 =>
      (some ((v117.length : Int))).bind fun x124 =>
      (some (decide (x124 ≤ x122))).bind fun x125 =>
      (match x125 with
      | true => (some ([],12))
      | false => (f40_L6 F (fun (v177,m178) =>
        (some (bytesN v177)).bind fun x179 =>
        (pileO x179).bind fun x180 =>
        (sameO x180.2 p0).bind fun x181 =>
        (match x181 with
        | true => ((some (bytesN v177)).bind fun x182 =>
        some (x182,0))
        | false => (some ([],12)))) F ([117],v117,m118)))))) F ([],0,p0))))
    | false => ((some (bytesN [])).bind fun x183 =>
    (pileO x183).bind fun x184 =>
    (sameO x184.2 p0).bind fun x185 =>
    (match x185 with
    | true => ((some (bytesN [])).bind fun x186 =>
    some (x186,0))
    | false => (some ([],12)))))) F (0,0))
  | false => (some ([],5)))))))
theorem f40_is {a0 : Bool} {c0 : Ck} {p0 : List Int} {hp : List (Option (List PV))} {F : Nat} {r : (List UInt8 × Int)}  (h : f40S F p0 = some r) :
    E Tryd.prog Y0 40 [.l (ak a0) c0 p0.length (p0.map iv)] hp = some (.t [.v (.string (bs r.1)),iv r.2],hp,none) := by
  rw [E_bodyN 1 body40 rfl (by decide) rfl]
  simp only [Tryd.f40,Option.get_some]
  unfold f40S at h
  cases a0 with
  | true =>
    replace h := bindT h; obtain ⟨x1,ex1,h⟩ := h
    replace h := bindT h; obtain ⟨x2,ex2,h⟩ := h
    cases x2
    case true =>
     obtain rfl := inj_ok h
     simp [ex1,ex2]
    replace h := bindT h; obtain ⟨x3,ex3,h⟩ := h
    cases x3
    case true =>
     obtain rfl := inj_ok h
     simp [ex1,ex2,ex3]
    replace h := bindT h; obtain ⟨x4,ex4,h⟩ := h
    replace h := bindT h; obtain ⟨x5,ex5,h⟩ := h
    replace h := bindT h; obtain ⟨x6,ex6,h⟩ := h
    cases x6
    case false =>
     obtain rfl := inj_ok h
     simp [ex1,ex2,ex3,ex4,ex5,ex6]
    simp [ex1,ex2,ex3,ex4,ex5,ex6]
    have hL0 := h; clear h
    refine loopS (S := f40_L0 F p0 x1) (fun (v7,v8) σ => ∃ (ts : Tr PV) (w : Option Nat),wok hp.length w ∧ σ = ⟨[],ts,hp,w⟩ ∧ ts.get 0 = some (.l .bor c0 p0.length (p0.map iv)) ∧ ts.get 4 = some (iv x1) ∧ ts.get 5 = some (kv .u64 v7) ∧ ts.get 29 = some (.l .bor c0 p0.length (p0.map iv)) ∧ ts.get 30 = some (iv x1) ∧ ts.get 31 = some (iv v8) ∧ True) (fun _ σ => ∃ (ts : Tr PV) (w : Option Nat),wok hp.length w ∧ σ = ⟨[],ts,hp,w⟩ ∧ ts.get 0 = some (.l .bor c0 p0.length (p0.map iv)) ∧ ts.get 4 = some (iv x1) ∧ True) (fun _ => rfl) hL0 ?_ ?_ ?_
    · exact ⟨_,_,by simp,rfl,by simp [ex1,ex2,ex3,ex4,ex5,ex6]⟩
    · rintro ⟨⟩ σ ⟨ts,w,hw,rfl,g0,g4,-⟩ h
      clear hL0
      try dsimp only at h
      replace h := bind_ok h; obtain ⟨x19,ex19,h⟩ := h
      obtain ⟨ex19a,ex19b,ex19c⟩ := mkN_ok ex19
      subst ex19a
      replace h := bind_ok h; obtain ⟨x20,ex20,h⟩ := h
      have ex20 := gN_ok ex20 10 (by decide)
      replace h := bind_ok h; obtain ⟨m22,em22,h⟩ := h
      have em22 := inj_ok em22
      have em22r : reps [iv 0] x19 = m22.map iv := by rw [← em22]; exact reps_rep
      have hl0 : m22.length = x19 := by rw [← em22]; exact rep_len
      replace h := bind_ok h; obtain ⟨m23,em23,h⟩ := h
      obtain ⟨em23a,em23b,em23c,em23d,em23f,em23q⟩ := copy_ok iv hl0 em23
      subst m23
      have hl0 := em23f
      subst em23f
      have hl0 : p0.length = p0.length := rfl
      simp [g0,g4,ex20,em22r,em23a,em23b,em23c,em23d]
      rw [EK_lp]
      replace h := bindT h; obtain ⟨x24,ex24,h⟩ := h
      replace h := bindT h; obtain ⟨x25,ex25,h⟩ := h
      cases x25
      case false =>
       replace h := bind_ok h; obtain ⟨x183,ex183,h⟩ := h
       have ex183 := inj_ok ex183
       have ex183 := fun (x : Operand) (σ : St) (dr : Dr) hx hm => pbytes_l (dr := dr) (hm := hm) (P := Tryd.prog) (Y := Y0) (f := 40) (src := 79) (dst := 9) (x := x) (σ := σ) (k := .rf (.tmp 8)) (c := .nz) (l := []) Tryd.underlying79 Tryd.underlying5 Tryd.underlying9 hx ex183 convn_79_9Ref3
       replace h := bind_ok h; obtain ⟨x184,ex184,h⟩ := h
       have ex184 : ∀ hp,E Tryd.prog Y0 55 [.v (.string (bs x183))] hp = some (.l .fz x184.1 x184.2.length (x184.2.map iv),hp,none) := fun hp => f55_is ex184
       replace h := bind_ok h; obtain ⟨x185,ex185,h⟩ := h
       have ex185 : ∀ hp,E Tryd.prog Y0 70 [.l .fz x184.1 x184.2.length (x184.2.map iv),.l .bor c0 p0.length (p0.map iv)] hp = some (.v (.bool x185),hp,none) := fun hp => same70_is (a0 := false) (c0 := x184.1) (a1 := true) (c1 := c0) ex185
       cases x185
       case false =>
        obtain rfl := inj_ok h
        simp [g0,g4,ex20,em22r,em23a,em23b,em23c,em23d,ex24,ex25,ex184,ex185,hw]
        rw [ex183 _ _ _ (by simp) (by kernel_rfl)]
        simp [g0,g4,ex20,em22r,em23a,em23b,em23c,em23d,ex24,ex25,ex184,ex185,hw]
       replace h := bind_ok h; obtain ⟨x186,ex186,h⟩ := h
       have ex186 := inj_ok ex186
       have ex186 := fun (x : Operand) (σ : St) (dr : Dr) hx hm => pbytes_l (dr := dr) (hm := hm) (P := Tryd.prog) (Y := Y0) (f := 40) (src := 79) (dst := 9) (x := x) (σ := σ) (k := .rf (.tmp 8)) (c := .nz) (l := []) Tryd.underlying79 Tryd.underlying5 Tryd.underlying9 hx ex186 convn_79_9Ref3
       obtain rfl := inj_ok h
       simp [g0,g4,ex20,em22r,em23a,em23b,em23c,em23d,ex24,ex25,ex184,ex185,hw]
       rw [ex183 _ _ _ (by simp) (by kernel_rfl)]
       simp [g0,g4,ex20,em22r,em23a,em23b,em23c,em23d,ex24,ex25,ex184,ex185,hw]
       rw [ex186 _ _ _ (by simp) (by kernel_rfl)]
       simp [g0,g4,ex20,em22r,em23a,em23b,em23c,em23d,ex24,ex25,ex184,ex185,hw]
      replace h := bind_ok h; obtain ⟨r26,er26,h⟩ := h
      have er26 : E Tryd.prog Y0 68 [.s hp.length 0 p0.length p0.length,iv 0] (hp ++ [some (p0.map iv)]) = some (iv r26,hp ++ [some (p0.map iv)],none) := f68b_is (hb0 := by simp) er26
      rw [hl0] at er26
      replace h := bindT h; obtain ⟨x27,ex27,h⟩ := h
      replace h := bindT h; obtain ⟨x28,ex28,h⟩ := h
      cases x28
      case true =>
       have lim3 : Nat.ble 3 limit = true := ble_true (by unfold limit; omega)
       simp [g0,g4,ex20,em22r,em23a,em23b,em23c,em23d,ex24,ex25,er26,ex27,ex28,lim3]
       have hL1 := h; clear h
       refine loopS (S := f40_L1 F p0) (fun (v29,v30,m31) σ => ∃ (ts : Tr PV) (w : Option Nat),wok hp.length w ∧ σ = ⟨[],ts,hp ++ [some (m31.map iv)],w⟩ ∧ ts.get 0 = some (.l .bor c0 p0.length (p0.map iv)) ∧ ts.get 8 = some (.l .own .nz 1 [kv .u8 111]) ∧ ts.get 9 = some (.s hp.length 0 p0.length p0.length) ∧ ts.get 12 = some (.l .own .nz v29.length (v29.map iv)) ∧ ts.get 13 = some (iv v30) ∧ m31.length = p0.length ∧ True) (fun (v40,m41) σ => ∃ (ts : Tr PV) (w : Option Nat),wok hp.length w ∧ σ = ⟨[],ts,hp ++ [some (m41.map iv)],w⟩ ∧ ts.get 0 = some (.l .bor c0 p0.length (p0.map iv)) ∧ ts.get 8 = some (.l .own .nz 1 [kv .u8 111]) ∧ ts.get 12 = some (.l .own .nz v40.length (v40.map iv)) ∧ m41.length = p0.length ∧ True) (fun _ => rfl) hL1 ?_ ?_ ?_
       · exact ⟨_,_,by simp [hw],rfl,by simp [g0,g4,ex20,em22r,em23a,em23b,em23c,em23d,ex24,ex25,er26,ex27,ex28,lim3]⟩
       · rintro ⟨v40,m41⟩ σ ⟨ts,w,hw,rfl,g0,g8,g12,hl0,-⟩ h
         clear hL1
         try dsimp only at h
         replace h := bind_ok h; obtain ⟨x42,e43,h⟩ := h
         have e43 : ∀ hp,E Tryd.prog Y0 68 [.l .bor .nz v40.length (v40.map iv),iv 0] hp = some (iv x42,hp,none) := fun hp => f68_is (a0 := true) (c0 := .nz) e43
         replace h := bindT h; obtain ⟨x44,ex44,h⟩ := h
         cases x44
         case true =>
          obtain rfl := inj_ok h
          simp [g0,g8,g12,hl0,e43,ex44,hw]
         replace h := bind_ok h; obtain ⟨x45,e46,h⟩ := h
         have e46 : ∀ hp,E Tryd.prog Y0 69 [.l .bor .nz v40.length (v40.map iv)] hp = some (iv x45,hp,none) := fun hp => f69_is (a0 := true) (c0 := .nz) e46
         replace h := bindT h; obtain ⟨x47,ex47,h⟩ := h
         replace h := bindT h; obtain ⟨x48,ex48,h⟩ := h
         cases x48
         case true =>
          obtain rfl := inj_ok h
          simp [g0,g8,g12,hl0,e43,ex44,e46,ex47,ex48,hw]
         simp [g0,g8,g12,hl0,e43,ex44,e46,ex47,ex48]
         have hL2 := h; clear h
         refine loopS (S := f40_L2 F) (fun (v49,v50,m51) σ => ∃ (ts : Tr PV) (w : Option Nat),wok hp.length w ∧ σ = ⟨[],ts,hp ++ [some (m51.map iv)],w⟩ ∧ ts.get 0 = some (.l .bor c0 p0.length (p0.map iv)) ∧ ts.get 8 = some (.l .own .nz v49.length (v49.map (kv .u8))) ∧ ts.get 9 = some (.l .own .nz v50.length (v50.map iv)) ∧ m51.length = p0.length ∧ True) (fun (v100,m101) σ => ∃ (ts : Tr PV) (w : Option Nat),wok hp.length w ∧ σ = ⟨[],ts,hp ++ [some (m101.map iv)],w⟩ ∧ ts.get 0 = some (.l .bor c0 p0.length (p0.map iv)) ∧ ts.get 8 = some (.l .own .nz v100.length (v100.map (kv .u8))) ∧ m101.length = p0.length ∧ True) (fun _ => rfl) hL2 ?_ ?_ ?_
         · exact ⟨_,_,by simp [hw],rfl,by simp [g0,g8,g12,hl0,e43,ex44,e46,ex47,ex48]⟩
         · rintro ⟨v100,m101⟩ σ ⟨ts,w,hw,rfl,g0,g8,hl0,-⟩ h
           clear hL2
           try dsimp only at h
           replace h := bind_ok h; obtain ⟨x102,ex102,h⟩ := h
           have ex102 := inj_ok ex102
           have ex102 := fun (x : Operand) (σ : St) (dr : Dr) hx hm => pbytes_l (dr := dr) (hm := hm) (P := Tryd.prog) (Y := Y0) (f := 40) (src := 79) (dst := 9) (x := x) (σ := σ) (k := .rf (.tmp 8)) (c := .nz) (l := v100) Tryd.underlying79 Tryd.underlying5 Tryd.underlying9 hx ex102 convn_79_9Ref3
           replace h := bind_ok h; obtain ⟨x103,ex103,h⟩ := h
           have ex103 : ∀ hp,E Tryd.prog Y0 55 [.v (.string (bs x102))] hp = some (.l .fz x103.1 x103.2.length (x103.2.map iv),hp,none) := fun hp => f55_is ex103
           replace h := bind_ok h; obtain ⟨x104,ex104,h⟩ := h
           have ex104 : ∀ hp,E Tryd.prog Y0 70 [.l .fz x103.1 x103.2.length (x103.2.map iv),.l .bor c0 p0.length (p0.map iv)] hp = some (.v (.bool x104),hp,none) := fun hp => same70_is (a0 := false) (c0 := x103.1) (a1 := true) (c1 := c0) ex104
           cases x104
           case false =>
            obtain rfl := inj_ok h
            simp [g0,g8,hl0,ex103,ex104,hw]
            rw [ex102 _ _ _ (by simp) (by kernel_rfl)]
            simp [g0,g8,hl0,ex103,ex104,hw]
           replace h := bind_ok h; obtain ⟨x105,ex105,h⟩ := h
           have ex105 := inj_ok ex105
           have ex105 := fun (x : Operand) (σ : St) (dr : Dr) hx hm => pbytes_l (dr := dr) (hm := hm) (P := Tryd.prog) (Y := Y0) (f := 40) (src := 79) (dst := 9) (x := x) (σ := σ) (k := .rf (.tmp 8)) (c := .nz) (l := v100) Tryd.underlying79 Tryd.underlying5 Tryd.underlying9 hx ex105 convn_79_9Ref3
           obtain rfl := inj_ok h
           simp [g0,g8,hl0,ex103,ex104,hw]
           rw [ex102 _ _ _ (by simp) (by kernel_rfl)]
           simp [g0,g8,hl0,ex103,ex104,hw]
           rw [ex105 _ _ _ (by simp) (by kernel_rfl)]
           simp [g0,g8,hl0,ex103,ex104,hw]
         · rintro k n ⟨v49,v50,m51⟩ σ ⟨ts,w,hw,rfl,g0,g8,g9,hl0,-⟩ h ih ex
           clear hL2
           rw [f40_L2] at h
           replace h := bindT h; obtain ⟨x52,ex52,h⟩ := h
           replace h := bindT h; obtain ⟨x53,ex53,h⟩ := h
           cases x53
           case false =>
            simp [g0,g8,g9,hl0,ex52,ex53]
            refine ex (v49,m51) _ ?_ h
            exact ⟨_,_,by simp [hw],rfl,by simp [g0,g8,g9,hl0,ex52,ex53]⟩
           replace h := bind_ok h; obtain ⟨x54,e55,h⟩ := h
           have e55 : ∀ hp,E Tryd.prog Y0 68 [.l .bor .nz v50.length (v50.map iv),iv 0] hp = some (iv x54,hp,none) := fun hp => f68_is (a0 := true) (c0 := .nz) e55
           replace h := bindT h; obtain ⟨x56,ex56,h⟩ := h
           replace h := bindT h; obtain ⟨x57,ex57,h⟩ := h
           cases x57
           case true =>
            replace h := bind_ok h; obtain ⟨x58,ex58,h⟩ := h
            obtain ⟨ex58a,ex58b,ex58c,ex58q⟩ := app1_ok (kv .u8) ex58
            have ex58b := ex58b 3 (by decide)
            simp [g0,g8,g9,hl0,ex52,ex53,e55,ex56,ex57,ex58a,ex58b,ex58c]
            have hL3 := h; clear h
            refine loopS (S := f40_L3 F v50) (fun (v59,v60,m61) σ => ∃ (ts : Tr PV) (w : Option Nat),wok hp.length w ∧ σ = ⟨[],ts,hp ++ [some (m61.map iv)],w⟩ ∧ ts.get 0 = some (.l .bor c0 p0.length (p0.map iv)) ∧ ts.get 8 = some (.l .own .nz x58.length (x58.map (kv .u8))) ∧ ts.get 9 = some (.l .own .nz v50.length (v50.map iv)) ∧ ts.get 12 = some (.l .own .nz v59.length (v59.map iv)) ∧ ts.get 13 = some (iv v60) ∧ m61.length = p0.length ∧ True) (fun (v70,m71) σ => ∃ (ts : Tr PV) (w : Option Nat),wok hp.length w ∧ σ = ⟨[],ts,hp ++ [some (m71.map iv)],w⟩ ∧ ts.get 0 = some (.l .bor c0 p0.length (p0.map iv)) ∧ ts.get 8 = some (.l .own .nz x58.length (x58.map (kv .u8))) ∧ ts.get 12 = some (.l .own .nz v70.length (v70.map iv)) ∧ m71.length = p0.length ∧ True) (fun _ => rfl) hL3 ?_ ?_ ?_
            · exact ⟨_,_,by simp [hw],rfl,by simp [g0,g8,g9,hl0,ex52,ex53,e55,ex56,ex57,ex58a,ex58b,ex58c]⟩
            · rintro ⟨v70,m71⟩ σ ⟨ts,w,hw,rfl,g0,g8,g12,hl0,-⟩ h
              clear hL3
              try dsimp only at h
              replace h := bind_ok h; obtain ⟨x72,e73,h⟩ := h
              have e73 : ∀ hp,E Tryd.prog Y0 68 [.l .bor .nz v70.length (v70.map iv),iv 0] hp = some (iv x72,hp,none) := fun hp => f68_is (a0 := true) (c0 := .nz) e73
              replace h := bindT h; obtain ⟨x74,ex74,h⟩ := h
              cases x74
              case true =>
               obtain rfl := inj_ok h
               simp [g0,g8,g12,hl0,e73,ex74,hw]
              replace h := bind_ok h; obtain ⟨x75,e76,h⟩ := h
              have e76 : ∀ hp,E Tryd.prog Y0 69 [.l .bor .nz v70.length (v70.map iv)] hp = some (iv x75,hp,none) := fun hp => f69_is (a0 := true) (c0 := .nz) e76
              replace h := bindT h; obtain ⟨x77,ex77,h⟩ := h
              replace h := bindT h; obtain ⟨x78,ex78,h⟩ := h
              cases x78
              case true =>
               obtain rfl := inj_ok h
               simp [g0,g8,g12,hl0,e73,ex74,e76,ex77,ex78,hw]
              simp [g0,g8,g12,hl0,e73,ex74,e76,ex77,ex78]
              refine ih (x58,v70,m71) _ ?_ h
              exact ⟨_,_,by simp [hw],rfl,by simp [g0,g8,g12,hl0,e73,ex74,e76,ex77,ex78]⟩
            · rintro k n ⟨v59,v60,m61⟩ σ ⟨ts,w,hw,rfl,g0,g8,g9,g12,g13,hl0,-⟩ h ih ex
              clear hL3
              rw [f40_L3] at h
              replace h := bindT h; obtain ⟨x62,ex62,h⟩ := h
              replace h := bindT h; obtain ⟨x63,ex63,h⟩ := h
              cases x63
              case false =>
               simp [g0,g8,g9,g12,g13,hl0,ex62,ex63]
               refine ex (v59,m61) _ ?_ h
               exact ⟨_,_,by simp [hw],rfl,by simp [g0,g8,g9,g12,g13,hl0,ex62,ex63]⟩
              replace h := bind_ok h; obtain ⟨y64,ey64,h⟩ := h
              obtain ⟨ey64a,ey64e,ey64b,ey64c,ey64g⟩ := gI_ok rfl ey64
              replace h := bindT h; obtain ⟨x65,ex65,h⟩ := h
              replace h := bind_ok h; obtain ⟨y66,ey66,h⟩ := h
              obtain ⟨ey66a,ey66e,ey66b,ey66c,ey66g⟩ := gI_ok rfl ey66
              replace h := bindT h; obtain ⟨x67,ex67,h⟩ := h
              replace h := bind_ok h; obtain ⟨x68,ex68,h⟩ := h
              obtain ⟨ex68a,ex68b,ex68c,ex68q⟩ := app1_ok iv ex68
              have ex68b := ex68b 10 (by decide)
              replace h := bindT h; obtain ⟨x69,ex69,h⟩ := h
              simp [g0,g8,g9,g12,g13,hl0,ex62,ex63,ey64a,ey64b,ey64c,ex65,ey66a,ey66b,ey66c,ex67,ex68a,ex68b,ex68c,ex69]
              all_goals try (generalize hmt : mayTurn _ = mb; obtain rfl : mb = true := hmt.symm.trans (by kernel_rfl); clear hmt)
              all_goals try simp [g0,g8,g9,g12,g13,hl0,ex62,ex63,ey64a,ey64b,ey64c,ex65,ey66a,ey66b,ey66c,ex67,ex68a,ex68b,ex68c,ex69]
              refine ih (x68,x69,m61) _ ?_ h
              exact ⟨_,_,by simp [hw],rfl,by simp [g0,g8,g9,g12,g13,hl0,ex62,ex63,ey64a,ey64b,ey64c,ex65,ey66a,ey66b,ey66c,ex67,ex68a,ex68b,ex68c,ex69]⟩
           replace h := bind_ok h; obtain ⟨x79,ex79,h⟩ := h
           obtain ⟨ex79a,ex79b,ex79c,ex79q⟩ := app1_ok (kv .u8) ex79
           have ex79b := ex79b 3 (by decide)
           simp [g0,g8,g9,hl0,ex52,ex53,e55,ex56,ex57,ex79a,ex79b,ex79c]
           have hL4 := h; clear h
           refine loopS (S := f40_L4 F v50) (fun (v80,v81,m82) σ => ∃ (ts : Tr PV) (w : Option Nat),wok hp.length w ∧ σ = ⟨[],ts,hp ++ [some (m82.map iv)],w⟩ ∧ ts.get 0 = some (.l .bor c0 p0.length (p0.map iv)) ∧ ts.get 8 = some (.l .own .nz x79.length (x79.map (kv .u8))) ∧ ts.get 9 = some (.l .own .nz v50.length (v50.map iv)) ∧ ts.get 12 = some (.l .own .nz v80.length (v80.map iv)) ∧ ts.get 13 = some (iv v81) ∧ m82.length = p0.length ∧ True) (fun (v91,m92) σ => ∃ (ts : Tr PV) (w : Option Nat),wok hp.length w ∧ σ = ⟨[],ts,hp ++ [some (m92.map iv)],w⟩ ∧ ts.get 0 = some (.l .bor c0 p0.length (p0.map iv)) ∧ ts.get 8 = some (.l .own .nz x79.length (x79.map (kv .u8))) ∧ ts.get 12 = some (.l .own .nz v91.length (v91.map iv)) ∧ m92.length = p0.length ∧ True) (fun _ => rfl) hL4 ?_ ?_ ?_
           · exact ⟨_,_,by simp [hw],rfl,by simp [g0,g8,g9,hl0,ex52,ex53,e55,ex56,ex57,ex79a,ex79b,ex79c]⟩
           · rintro ⟨v91,m92⟩ σ ⟨ts,w,hw,rfl,g0,g8,g12,hl0,-⟩ h
             clear hL4
             try dsimp only at h
             replace h := bind_ok h; obtain ⟨x93,e94,h⟩ := h
             have e94 : ∀ hp,E Tryd.prog Y0 68 [.l .bor .nz v91.length (v91.map iv),iv 0] hp = some (iv x93,hp,none) := fun hp => f68_is (a0 := true) (c0 := .nz) e94
             replace h := bindT h; obtain ⟨x95,ex95,h⟩ := h
             cases x95
             case true =>
              obtain rfl := inj_ok h
              simp [g0,g8,g12,hl0,e94,ex95,hw]
             replace h := bind_ok h; obtain ⟨x96,e97,h⟩ := h
             have e97 : ∀ hp,E Tryd.prog Y0 69 [.l .bor .nz v91.length (v91.map iv)] hp = some (iv x96,hp,none) := fun hp => f69_is (a0 := true) (c0 := .nz) e97
             replace h := bindT h; obtain ⟨x98,ex98,h⟩ := h
             replace h := bindT h; obtain ⟨x99,ex99,h⟩ := h
             cases x99
             case true =>
              obtain rfl := inj_ok h
              simp [g0,g8,g12,hl0,e94,ex95,e97,ex98,ex99,hw]
             simp [g0,g8,g12,hl0,e94,ex95,e97,ex98,ex99]
             refine ih (x79,v91,m92) _ ?_ h
             exact ⟨_,_,by simp [hw],rfl,by simp [g0,g8,g12,hl0,e94,ex95,e97,ex98,ex99]⟩
           · rintro k n ⟨v80,v81,m82⟩ σ ⟨ts,w,hw,rfl,g0,g8,g9,g12,g13,hl0,-⟩ h ih ex
             clear hL4
             rw [f40_L4] at h
             replace h := bindT h; obtain ⟨x83,ex83,h⟩ := h
             replace h := bindT h; obtain ⟨x84,ex84,h⟩ := h
             cases x84
             case false =>
              simp [g0,g8,g9,g12,g13,hl0,ex83,ex84]
              refine ex (v80,m82) _ ?_ h
              exact ⟨_,_,by simp [hw],rfl,by simp [g0,g8,g9,g12,g13,hl0,ex83,ex84]⟩
             replace h := bind_ok h; obtain ⟨y85,ey85,h⟩ := h
             obtain ⟨ey85a,ey85e,ey85b,ey85c,ey85g⟩ := gI_ok rfl ey85
             replace h := bindT h; obtain ⟨x86,ex86,h⟩ := h
             replace h := bind_ok h; obtain ⟨y87,ey87,h⟩ := h
             obtain ⟨ey87a,ey87e,ey87b,ey87c,ey87g⟩ := gI_ok rfl ey87
             replace h := bindT h; obtain ⟨x88,ex88,h⟩ := h
             replace h := bind_ok h; obtain ⟨x89,ex89,h⟩ := h
             obtain ⟨ex89a,ex89b,ex89c,ex89q⟩ := app1_ok iv ex89
             have ex89b := ex89b 10 (by decide)
             replace h := bindT h; obtain ⟨x90,ex90,h⟩ := h
             simp [g0,g8,g9,g12,g13,hl0,ex83,ex84,ey85a,ey85b,ey85c,ex86,ey87a,ey87b,ey87c,ex88,ex89a,ex89b,ex89c,ex90]
             all_goals try (generalize hmt : mayTurn _ = mb; obtain rfl : mb = true := hmt.symm.trans (by kernel_rfl); clear hmt)
             all_goals try simp [g0,g8,g9,g12,g13,hl0,ex83,ex84,ey85a,ey85b,ey85c,ex86,ey87a,ey87b,ey87c,ex88,ex89a,ex89b,ex89c,ex90]
             refine ih (x89,x90,m82) _ ?_ h
             exact ⟨_,_,by simp [hw],rfl,by simp [g0,g8,g9,g12,g13,hl0,ex83,ex84,ey85a,ey85b,ey85c,ex86,ey87a,ey87b,ey87c,ex88,ex89a,ex89b,ex89c,ex90]⟩
       · rintro k n ⟨v29,v30,m31⟩ σ ⟨ts,w,hw,rfl,g0,g8,g9,g12,g13,hl0,-⟩ h ih ex
         clear hL1
         rw [f40_L1] at h
         replace h := bindT h; obtain ⟨x32,ex32,h⟩ := h
         replace h := bindT h; obtain ⟨x33,ex33,h⟩ := h
         cases x33
         case false =>
          simp [g0,g8,g9,g12,g13,hl0,ex32,ex33]
          refine ex (v29,m31) _ ?_ h
          exact ⟨_,_,by simp [hw],rfl,by simp [g0,g8,g9,g12,g13,hl0,ex32,ex33]⟩
         replace h := bind_ok h; obtain ⟨y34,ey34,h⟩ := h
         obtain ⟨ey34a,ey34e,ey34b,ey34c,ey34g⟩ := gI_ok hl0 ey34
         replace h := bindT h; obtain ⟨x35,ex35,h⟩ := h
         replace h := bind_ok h; obtain ⟨y36,ey36,h⟩ := h
         obtain ⟨ey36a,ey36e,ey36b,ey36c,ey36g⟩ := gI_ok hl0 ey36
         replace h := bindT h; obtain ⟨x37,ex37,h⟩ := h
         replace h := bind_ok h; obtain ⟨x38,ex38,h⟩ := h
         obtain ⟨ex38a,ex38b,ex38c,ex38q⟩ := app1_ok iv ex38
         have ex38b := ex38b 10 (by decide)
         replace h := bindT h; obtain ⟨x39,ex39,h⟩ := h
         simp [g0,g8,g9,g12,g13,hl0,ex32,ex33,ey34a,ey34b,ey34c,ex35,ey36a,ey36b,ey36c,ex37,ex38a,ex38b,ex38c,ex39]
         all_goals try (generalize hmt : mayTurn _ = mb; obtain rfl : mb = true := hmt.symm.trans (by kernel_rfl); clear hmt)
         all_goals try simp [g0,g8,g9,g12,g13,hl0,ex32,ex33,ey34a,ey34b,ey34c,ex35,ey36a,ey36b,ey36c,ex37,ex38a,ex38b,ex38c,ex39]
         refine ih (x38,x39,m31) _ ?_ h
         exact ⟨_,_,by simp [hw],rfl,by simp [g0,g8,g9,g12,g13,hl0,ex32,ex33,ey34a,ey34b,ey34c,ex35,ey36a,ey36b,ey36c,ex37,ex38a,ex38b,ex38c,ex39]⟩
      have lim3 : Nat.ble 3 limit = true := ble_true (by unfold limit; omega)
      simp [g0,g4,ex20,em22r,em23a,em23b,em23c,em23d,ex24,ex25,er26,ex27,ex28,lim3]
      have hL5 := h; clear h
      refine loopS (S := f40_L5 F p0) (fun (v106,v107,m108) σ => ∃ (ts : Tr PV) (w : Option Nat),wok hp.length w ∧ σ = ⟨[],ts,hp ++ [some (m108.map iv)],w⟩ ∧ ts.get 0 = some (.l .bor c0 p0.length (p0.map iv)) ∧ ts.get 8 = some (.l .own .nz 1 [kv .u8 117]) ∧ ts.get 9 = some (.s hp.length 0 p0.length p0.length) ∧ ts.get 12 = some (.l .own .nz v106.length (v106.map iv)) ∧ ts.get 13 = some (iv v107) ∧ m108.length = p0.length ∧ True) (fun (v117,m118) σ => ∃ (ts : Tr PV) (w : Option Nat),wok hp.length w ∧ σ = ⟨[],ts,hp ++ [some (m118.map iv)],w⟩ ∧ ts.get 0 = some (.l .bor c0 p0.length (p0.map iv)) ∧ ts.get 8 = some (.l .own .nz 1 [kv .u8 117]) ∧ ts.get 12 = some (.l .own .nz v117.length (v117.map iv)) ∧ m118.length = p0.length ∧ True) (fun _ => rfl) hL5 ?_ ?_ ?_
      · exact ⟨_,_,by simp [hw],rfl,by simp [g0,g4,ex20,em22r,em23a,em23b,em23c,em23d,ex24,ex25,er26,ex27,ex28,lim3]⟩
      · rintro ⟨v117,m118⟩ σ ⟨ts,w,hw,rfl,g0,g8,g12,hl0,-⟩ h
        clear hL5
        try dsimp only at h
        replace h := bind_ok h; obtain ⟨x119,e120,h⟩ := h
        have e120 : ∀ hp,E Tryd.prog Y0 68 [.l .bor .nz v117.length (v117.map iv),iv 0] hp = some (iv x119,hp,none) := fun hp => f68_is (a0 := true) (c0 := .nz) e120
        replace h := bindT h; obtain ⟨x121,ex121,h⟩ := h
        cases x121
        case true =>
         obtain rfl := inj_ok h
         simp [g0,g8,g12,hl0,e120,ex121,hw]
        replace h := bind_ok h; obtain ⟨x122,e123,h⟩ := h
        have e123 : ∀ hp,E Tryd.prog Y0 69 [.l .bor .nz v117.length (v117.map iv)] hp = some (iv x122,hp,none) := fun hp => f69_is (a0 := true) (c0 := .nz) e123
        replace h := bindT h; obtain ⟨x124,ex124,h⟩ := h
        replace h := bindT h; obtain ⟨x125,ex125,h⟩ := h
        cases x125
        case true =>
         obtain rfl := inj_ok h
         simp [g0,g8,g12,hl0,e120,ex121,e123,ex124,ex125,hw]
        simp [g0,g8,g12,hl0,e120,ex121,e123,ex124,ex125]
        have hL6 := h; clear h
        refine loopS (S := f40_L6 F) (fun (v126,v127,m128) σ => ∃ (ts : Tr PV) (w : Option Nat),wok hp.length w ∧ σ = ⟨[],ts,hp ++ [some (m128.map iv)],w⟩ ∧ ts.get 0 = some (.l .bor c0 p0.length (p0.map iv)) ∧ ts.get 8 = some (.l .own .nz v126.length (v126.map (kv .u8))) ∧ ts.get 9 = some (.l .own .nz v127.length (v127.map iv)) ∧ m128.length = p0.length ∧ True) (fun (v177,m178) σ => ∃ (ts : Tr PV) (w : Option Nat),wok hp.length w ∧ σ = ⟨[],ts,hp ++ [some (m178.map iv)],w⟩ ∧ ts.get 0 = some (.l .bor c0 p0.length (p0.map iv)) ∧ ts.get 8 = some (.l .own .nz v177.length (v177.map (kv .u8))) ∧ m178.length = p0.length ∧ True) (fun _ => rfl) hL6 ?_ ?_ ?_
        · exact ⟨_,_,by simp [hw],rfl,by simp [g0,g8,g12,hl0,e120,ex121,e123,ex124,ex125]⟩
        · rintro ⟨v177,m178⟩ σ ⟨ts,w,hw,rfl,g0,g8,hl0,-⟩ h
          clear hL6
          try dsimp only at h
          replace h := bind_ok h; obtain ⟨x179,ex179,h⟩ := h
          have ex179 := inj_ok ex179
          have ex179 := fun (x : Operand) (σ : St) (dr : Dr) hx hm => pbytes_l (dr := dr) (hm := hm) (P := Tryd.prog) (Y := Y0) (f := 40) (src := 79) (dst := 9) (x := x) (σ := σ) (k := .rf (.tmp 8)) (c := .nz) (l := v177) Tryd.underlying79 Tryd.underlying5 Tryd.underlying9 hx ex179 convn_79_9Ref3
          replace h := bind_ok h; obtain ⟨x180,ex180,h⟩ := h
          have ex180 : ∀ hp,E Tryd.prog Y0 55 [.v (.string (bs x179))] hp = some (.l .fz x180.1 x180.2.length (x180.2.map iv),hp,none) := fun hp => f55_is ex180
          replace h := bind_ok h; obtain ⟨x181,ex181,h⟩ := h
          have ex181 : ∀ hp,E Tryd.prog Y0 70 [.l .fz x180.1 x180.2.length (x180.2.map iv),.l .bor c0 p0.length (p0.map iv)] hp = some (.v (.bool x181),hp,none) := fun hp => same70_is (a0 := false) (c0 := x180.1) (a1 := true) (c1 := c0) ex181
          cases x181
          case false =>
           obtain rfl := inj_ok h
           simp [g0,g8,hl0,ex180,ex181,hw]
           rw [ex179 _ _ _ (by simp) (by kernel_rfl)]
           simp [g0,g8,hl0,ex180,ex181,hw]
          replace h := bind_ok h; obtain ⟨x182,ex182,h⟩ := h
          have ex182 := inj_ok ex182
          have ex182 := fun (x : Operand) (σ : St) (dr : Dr) hx hm => pbytes_l (dr := dr) (hm := hm) (P := Tryd.prog) (Y := Y0) (f := 40) (src := 79) (dst := 9) (x := x) (σ := σ) (k := .rf (.tmp 8)) (c := .nz) (l := v177) Tryd.underlying79 Tryd.underlying5 Tryd.underlying9 hx ex182 convn_79_9Ref3
          obtain rfl := inj_ok h
          simp [g0,g8,hl0,ex180,ex181,hw]
          rw [ex179 _ _ _ (by simp) (by kernel_rfl)]
          simp [g0,g8,hl0,ex180,ex181,hw]
          rw [ex182 _ _ _ (by simp) (by kernel_rfl)]
          simp [g0,g8,hl0,ex180,ex181,hw]
        · rintro k n ⟨v126,v127,m128⟩ σ ⟨ts,w,hw,rfl,g0,g8,g9,hl0,-⟩ h ih ex
          clear hL6
          rw [f40_L6] at h
          replace h := bindT h; obtain ⟨x129,ex129,h⟩ := h
          replace h := bindT h; obtain ⟨x130,ex130,h⟩ := h
          cases x130
          case false =>
           simp [g0,g8,g9,hl0,ex129,ex130]
           refine ex (v126,m128) _ ?_ h
           exact ⟨_,_,by simp [hw],rfl,by simp [g0,g8,g9,hl0,ex129,ex130]⟩
          replace h := bind_ok h; obtain ⟨x131,e132,h⟩ := h
          have e132 : ∀ hp,E Tryd.prog Y0 68 [.l .bor .nz v127.length (v127.map iv),iv 0] hp = some (iv x131,hp,none) := fun hp => f68_is (a0 := true) (c0 := .nz) e132
          replace h := bindT h; obtain ⟨x133,ex133,h⟩ := h
          replace h := bindT h; obtain ⟨x134,ex134,h⟩ := h
          cases x134
          case true =>
           replace h := bind_ok h; obtain ⟨x135,ex135,h⟩ := h
           obtain ⟨ex135a,ex135b,ex135c,ex135q⟩ := app1_ok (kv .u8) ex135
           have ex135b := ex135b 3 (by decide)
           simp [g0,g8,g9,hl0,ex129,ex130,e132,ex133,ex134,ex135a,ex135b,ex135c]
           have hL7 := h; clear h
           refine loopS (S := f40_L7 F v127) (fun (v136,v137,m138) σ => ∃ (ts : Tr PV) (w : Option Nat),wok hp.length w ∧ σ = ⟨[],ts,hp ++ [some (m138.map iv)],w⟩ ∧ ts.get 0 = some (.l .bor c0 p0.length (p0.map iv)) ∧ ts.get 8 = some (.l .own .nz x135.length (x135.map (kv .u8))) ∧ ts.get 9 = some (.l .own .nz v127.length (v127.map iv)) ∧ ts.get 12 = some (.l .own .nz v136.length (v136.map iv)) ∧ ts.get 13 = some (iv v137) ∧ m138.length = p0.length ∧ True) (fun (v147,m148) σ => ∃ (ts : Tr PV) (w : Option Nat),wok hp.length w ∧ σ = ⟨[],ts,hp ++ [some (m148.map iv)],w⟩ ∧ ts.get 0 = some (.l .bor c0 p0.length (p0.map iv)) ∧ ts.get 8 = some (.l .own .nz x135.length (x135.map (kv .u8))) ∧ ts.get 12 = some (.l .own .nz v147.length (v147.map iv)) ∧ m148.length = p0.length ∧ True) (fun _ => rfl) hL7 ?_ ?_ ?_
           · exact ⟨_,_,by simp [hw],rfl,by simp [g0,g8,g9,hl0,ex129,ex130,e132,ex133,ex134,ex135a,ex135b,ex135c]⟩
           · rintro ⟨v147,m148⟩ σ ⟨ts,w,hw,rfl,g0,g8,g12,hl0,-⟩ h
             clear hL7
             try dsimp only at h
             replace h := bind_ok h; obtain ⟨x149,e150,h⟩ := h
             have e150 : ∀ hp,E Tryd.prog Y0 68 [.l .bor .nz v147.length (v147.map iv),iv 0] hp = some (iv x149,hp,none) := fun hp => f68_is (a0 := true) (c0 := .nz) e150
             replace h := bindT h; obtain ⟨x151,ex151,h⟩ := h
             cases x151
             case true =>
              obtain rfl := inj_ok h
              simp [g0,g8,g12,hl0,e150,ex151,hw]
             replace h := bind_ok h; obtain ⟨x152,e153,h⟩ := h
             have e153 : ∀ hp,E Tryd.prog Y0 69 [.l .bor .nz v147.length (v147.map iv)] hp = some (iv x152,hp,none) := fun hp => f69_is (a0 := true) (c0 := .nz) e153
             replace h := bindT h; obtain ⟨x154,ex154,h⟩ := h
             replace h := bindT h; obtain ⟨x155,ex155,h⟩ := h
             cases x155
             case true =>
              obtain rfl := inj_ok h
              simp [g0,g8,g12,hl0,e150,ex151,e153,ex154,ex155,hw]
             simp [g0,g8,g12,hl0,e150,ex151,e153,ex154,ex155]
             refine ih (x135,v147,m148) _ ?_ h
             exact ⟨_,_,by simp [hw],rfl,by simp [g0,g8,g12,hl0,e150,ex151,e153,ex154,ex155]⟩
           · rintro k n ⟨v136,v137,m138⟩ σ ⟨ts,w,hw,rfl,g0,g8,g9,g12,g13,hl0,-⟩ h ih ex
             clear hL7
             rw [f40_L7] at h
             replace h := bindT h; obtain ⟨x139,ex139,h⟩ := h
             replace h := bindT h; obtain ⟨x140,ex140,h⟩ := h
             cases x140
             case false =>
              simp [g0,g8,g9,g12,g13,hl0,ex139,ex140]
              refine ex (v136,m138) _ ?_ h
              exact ⟨_,_,by simp [hw],rfl,by simp [g0,g8,g9,g12,g13,hl0,ex139,ex140]⟩
             replace h := bind_ok h; obtain ⟨y141,ey141,h⟩ := h
             obtain ⟨ey141a,ey141e,ey141b,ey141c,ey141g⟩ := gI_ok rfl ey141
             replace h := bindT h; obtain ⟨x142,ex142,h⟩ := h
             replace h := bind_ok h; obtain ⟨y143,ey143,h⟩ := h
             obtain ⟨ey143a,ey143e,ey143b,ey143c,ey143g⟩ := gI_ok rfl ey143
             replace h := bindT h; obtain ⟨x144,ex144,h⟩ := h
             replace h := bind_ok h; obtain ⟨x145,ex145,h⟩ := h
             obtain ⟨ex145a,ex145b,ex145c,ex145q⟩ := app1_ok iv ex145
             have ex145b := ex145b 10 (by decide)
             replace h := bindT h; obtain ⟨x146,ex146,h⟩ := h
             simp [g0,g8,g9,g12,g13,hl0,ex139,ex140,ey141a,ey141b,ey141c,ex142,ey143a,ey143b,ey143c,ex144,ex145a,ex145b,ex145c,ex146]
             all_goals try (generalize hmt : mayTurn _ = mb; obtain rfl : mb = true := hmt.symm.trans (by kernel_rfl); clear hmt)
             all_goals try simp [g0,g8,g9,g12,g13,hl0,ex139,ex140,ey141a,ey141b,ey141c,ex142,ey143a,ey143b,ey143c,ex144,ex145a,ex145b,ex145c,ex146]
             refine ih (x145,x146,m138) _ ?_ h
             exact ⟨_,_,by simp [hw],rfl,by simp [g0,g8,g9,g12,g13,hl0,ex139,ex140,ey141a,ey141b,ey141c,ex142,ey143a,ey143b,ey143c,ex144,ex145a,ex145b,ex145c,ex146]⟩
          replace h := bind_ok h; obtain ⟨x156,ex156,h⟩ := h
          obtain ⟨ex156a,ex156b,ex156c,ex156q⟩ := app1_ok (kv .u8) ex156
          have ex156b := ex156b 3 (by decide)
          simp [g0,g8,g9,hl0,ex129,ex130,e132,ex133,ex134,ex156a,ex156b,ex156c]
          have hL8 := h; clear h
          refine loopS (S := f40_L8 F v127) (fun (v157,v158,m159) σ => ∃ (ts : Tr PV) (w : Option Nat),wok hp.length w ∧ σ = ⟨[],ts,hp ++ [some (m159.map iv)],w⟩ ∧ ts.get 0 = some (.l .bor c0 p0.length (p0.map iv)) ∧ ts.get 8 = some (.l .own .nz x156.length (x156.map (kv .u8))) ∧ ts.get 9 = some (.l .own .nz v127.length (v127.map iv)) ∧ ts.get 12 = some (.l .own .nz v157.length (v157.map iv)) ∧ ts.get 13 = some (iv v158) ∧ m159.length = p0.length ∧ True) (fun (v168,m169) σ => ∃ (ts : Tr PV) (w : Option Nat),wok hp.length w ∧ σ = ⟨[],ts,hp ++ [some (m169.map iv)],w⟩ ∧ ts.get 0 = some (.l .bor c0 p0.length (p0.map iv)) ∧ ts.get 8 = some (.l .own .nz x156.length (x156.map (kv .u8))) ∧ ts.get 12 = some (.l .own .nz v168.length (v168.map iv)) ∧ m169.length = p0.length ∧ True) (fun _ => rfl) hL8 ?_ ?_ ?_
          · exact ⟨_,_,by simp [hw],rfl,by simp [g0,g8,g9,hl0,ex129,ex130,e132,ex133,ex134,ex156a,ex156b,ex156c]⟩
          · rintro ⟨v168,m169⟩ σ ⟨ts,w,hw,rfl,g0,g8,g12,hl0,-⟩ h
            clear hL8
            try dsimp only at h
            replace h := bind_ok h; obtain ⟨x170,e171,h⟩ := h
            have e171 : ∀ hp,E Tryd.prog Y0 68 [.l .bor .nz v168.length (v168.map iv),iv 0] hp = some (iv x170,hp,none) := fun hp => f68_is (a0 := true) (c0 := .nz) e171
            replace h := bindT h; obtain ⟨x172,ex172,h⟩ := h
            cases x172
            case true =>
             obtain rfl := inj_ok h
             simp [g0,g8,g12,hl0,e171,ex172,hw]
            replace h := bind_ok h; obtain ⟨x173,e174,h⟩ := h
            have e174 : ∀ hp,E Tryd.prog Y0 69 [.l .bor .nz v168.length (v168.map iv)] hp = some (iv x173,hp,none) := fun hp => f69_is (a0 := true) (c0 := .nz) e174
            replace h := bindT h; obtain ⟨x175,ex175,h⟩ := h
            replace h := bindT h; obtain ⟨x176,ex176,h⟩ := h
            cases x176
            case true =>
             obtain rfl := inj_ok h
             simp [g0,g8,g12,hl0,e171,ex172,e174,ex175,ex176,hw]
            simp [g0,g8,g12,hl0,e171,ex172,e174,ex175,ex176]
            refine ih (x156,v168,m169) _ ?_ h
            exact ⟨_,_,by simp [hw],rfl,by simp [g0,g8,g12,hl0,e171,ex172,e174,ex175,ex176]⟩
          · rintro k n ⟨v157,v158,m159⟩ σ ⟨ts,w,hw,rfl,g0,g8,g9,g12,g13,hl0,-⟩ h ih ex
            clear hL8
            rw [f40_L8] at h
            replace h := bindT h; obtain ⟨x160,ex160,h⟩ := h
            replace h := bindT h; obtain ⟨x161,ex161,h⟩ := h
            cases x161
            case false =>
             simp [g0,g8,g9,g12,g13,hl0,ex160,ex161]
             refine ex (v157,m159) _ ?_ h
             exact ⟨_,_,by simp [hw],rfl,by simp [g0,g8,g9,g12,g13,hl0,ex160,ex161]⟩
            replace h := bind_ok h; obtain ⟨y162,ey162,h⟩ := h
            obtain ⟨ey162a,ey162e,ey162b,ey162c,ey162g⟩ := gI_ok rfl ey162
            replace h := bindT h; obtain ⟨x163,ex163,h⟩ := h
            replace h := bind_ok h; obtain ⟨y164,ey164,h⟩ := h
            obtain ⟨ey164a,ey164e,ey164b,ey164c,ey164g⟩ := gI_ok rfl ey164
            replace h := bindT h; obtain ⟨x165,ex165,h⟩ := h
            replace h := bind_ok h; obtain ⟨x166,ex166,h⟩ := h
            obtain ⟨ex166a,ex166b,ex166c,ex166q⟩ := app1_ok iv ex166
            have ex166b := ex166b 10 (by decide)
            replace h := bindT h; obtain ⟨x167,ex167,h⟩ := h
            simp [g0,g8,g9,g12,g13,hl0,ex160,ex161,ey162a,ey162b,ey162c,ex163,ey164a,ey164b,ey164c,ex165,ex166a,ex166b,ex166c,ex167]
            all_goals try (generalize hmt : mayTurn _ = mb; obtain rfl : mb = true := hmt.symm.trans (by kernel_rfl); clear hmt)
            all_goals try simp [g0,g8,g9,g12,g13,hl0,ex160,ex161,ey162a,ey162b,ey162c,ex163,ey164a,ey164b,ey164c,ex165,ex166a,ex166b,ex166c,ex167]
            refine ih (x166,x167,m159) _ ?_ h
            exact ⟨_,_,by simp [hw],rfl,by simp [g0,g8,g9,g12,g13,hl0,ex160,ex161,ey162a,ey162b,ey162c,ex163,ey164a,ey164b,ey164c,ex165,ex166a,ex166b,ex166c,ex167]⟩
      · rintro k n ⟨v106,v107,m108⟩ σ ⟨ts,w,hw,rfl,g0,g8,g9,g12,g13,hl0,-⟩ h ih ex
        clear hL5
        rw [f40_L5] at h
        replace h := bindT h; obtain ⟨x109,ex109,h⟩ := h
        replace h := bindT h; obtain ⟨x110,ex110,h⟩ := h
        cases x110
        case false =>
         simp [g0,g8,g9,g12,g13,hl0,ex109,ex110]
         refine ex (v106,m108) _ ?_ h
         exact ⟨_,_,by simp [hw],rfl,by simp [g0,g8,g9,g12,g13,hl0,ex109,ex110]⟩
        replace h := bind_ok h; obtain ⟨y111,ey111,h⟩ := h
        obtain ⟨ey111a,ey111e,ey111b,ey111c,ey111g⟩ := gI_ok hl0 ey111
        replace h := bindT h; obtain ⟨x112,ex112,h⟩ := h
        replace h := bind_ok h; obtain ⟨y113,ey113,h⟩ := h
        obtain ⟨ey113a,ey113e,ey113b,ey113c,ey113g⟩ := gI_ok hl0 ey113
        replace h := bindT h; obtain ⟨x114,ex114,h⟩ := h
        replace h := bind_ok h; obtain ⟨x115,ex115,h⟩ := h
        obtain ⟨ex115a,ex115b,ex115c,ex115q⟩ := app1_ok iv ex115
        have ex115b := ex115b 10 (by decide)
        replace h := bindT h; obtain ⟨x116,ex116,h⟩ := h
        simp [g0,g8,g9,g12,g13,hl0,ex109,ex110,ey111a,ey111b,ey111c,ex112,ey113a,ey113b,ey113c,ex114,ex115a,ex115b,ex115c,ex116]
        all_goals try (generalize hmt : mayTurn _ = mb; obtain rfl : mb = true := hmt.symm.trans (by kernel_rfl); clear hmt)
        all_goals try simp [g0,g8,g9,g12,g13,hl0,ex109,ex110,ey111a,ey111b,ey111c,ex112,ey113a,ey113b,ey113c,ex114,ex115a,ex115b,ex115c,ex116]
        refine ih (x115,x116,m108) _ ?_ h
        exact ⟨_,_,by simp [hw],rfl,by simp [g0,g8,g9,g12,g13,hl0,ex109,ex110,ey111a,ey111b,ey111c,ex112,ey113a,ey113b,ey113c,ex114,ex115a,ex115b,ex115c,ex116]⟩
    · rintro k n ⟨v7,v8⟩ σ ⟨ts,w,hw,rfl,g0,g4,g5,g29,g30,g31,-⟩ h ih ex
      clear hL0
      rw [f40_L0] at h
      replace h := bindT h; obtain ⟨x9,ex9,h⟩ := h
      cases x9
      case false =>
       simp [g0,g4,g5,g29,g30,g31,ex9]
       refine ex () _ ?_ h
       exact ⟨_,_,by simp [hw],rfl,by simp [g0,g4,g5,g29,g30,g31,ex9]⟩
      replace h := bind_ok h; obtain ⟨y10,ey10,h⟩ := h
      obtain ⟨ey10a,ey10e,ey10b,ey10c,ey10g⟩ := gI_ok rfl ey10
      replace h := bindT h; obtain ⟨x11,ex11,h⟩ := h
      cases x11
      case true =>
       obtain rfl := inj_ok h
       simp [g0,g4,g5,g29,g30,g31,ex9,ey10a,ey10b,ey10c,ex11,hw]
      replace h := bindT h; obtain ⟨x12,ex12,h⟩ := h
      cases x12
      case true =>
       obtain rfl := inj_ok h
       simp [g0,g4,g5,g29,g30,g31,ex9,ey10a,ey10b,ey10c,ex11,ex12,hw]
      replace h := bind_ok h; obtain ⟨x13,ex13,h⟩ := h
      obtain ⟨ex13a,ex13⟩ := shrO_ok ex13
      replace h := bindT h; obtain ⟨x14,ex14,h⟩ := h
      replace h := bindT h; obtain ⟨x15,ex15,h⟩ := h
      cases x15
      case true =>
       obtain rfl := inj_ok h
       simp [g0,g4,g5,g29,g30,g31,ex9,ey10a,ey10b,ey10c,ex11,ex12,ex13,ex13a,ex14,ex15,hw]
      replace h := bind_ok h; obtain ⟨x16,ex16,h⟩ := h
      obtain ⟨ex16a,ex16⟩ := shlO_ok ex16
      replace h := bindT h; obtain ⟨x17,ex17,h⟩ := h
      replace h := bindT h; obtain ⟨x18,ex18,h⟩ := h
      simp [g0,g4,g5,g29,g30,g31,ex9,ey10a,ey10b,ey10c,ex11,ex12,ex13,ex13a,ex14,ex15,ex16,ex16a,ex17,ex18]
      refine ih (x17,x18) _ ?_ h
      exact ⟨_,_,by simp [hw],rfl,by simp [g0,g4,g5,g29,g30,g31,ex9,ey10a,ey10b,ey10c,ex11,ex12,ex13,ex13a,ex14,ex15,ex16,ex16a,ex17,ex18]⟩
  | false =>
    replace h := bindT h; obtain ⟨x1,ex1,h⟩ := h
    replace h := bindT h; obtain ⟨x2,ex2,h⟩ := h
    cases x2
    case true =>
     obtain rfl := inj_ok h
     simp [ex1,ex2]
    replace h := bindT h; obtain ⟨x3,ex3,h⟩ := h
    cases x3
    case true =>
     obtain rfl := inj_ok h
     simp [ex1,ex2,ex3]
    replace h := bindT h; obtain ⟨x4,ex4,h⟩ := h
    replace h := bindT h; obtain ⟨x5,ex5,h⟩ := h
    replace h := bindT h; obtain ⟨x6,ex6,h⟩ := h
    cases x6
    case false =>
     obtain rfl := inj_ok h
     simp [ex1,ex2,ex3,ex4,ex5,ex6]
    simp [ex1,ex2,ex3,ex4,ex5,ex6]
    have hL0 := h; clear h
    refine loopS (S := f40_L0 F p0 x1) (fun (v7,v8) σ => ∃ (ts : Tr PV) (w : Option Nat),wok hp.length w ∧ σ = ⟨[],ts,hp,w⟩ ∧ ts.get 0 = some (.l .fz c0 p0.length (p0.map iv)) ∧ ts.get 4 = some (iv x1) ∧ ts.get 5 = some (kv .u64 v7) ∧ ts.get 29 = some (.l .fz c0 p0.length (p0.map iv)) ∧ ts.get 30 = some (iv x1) ∧ ts.get 31 = some (iv v8) ∧ True) (fun _ σ => ∃ (ts : Tr PV) (w : Option Nat),wok hp.length w ∧ σ = ⟨[],ts,hp,w⟩ ∧ ts.get 0 = some (.l .fz c0 p0.length (p0.map iv)) ∧ ts.get 4 = some (iv x1) ∧ True) (fun _ => rfl) hL0 ?_ ?_ ?_
    · exact ⟨_,_,by simp,rfl,by simp [ex1,ex2,ex3,ex4,ex5,ex6]⟩
    · rintro ⟨⟩ σ ⟨ts,w,hw,rfl,g0,g4,-⟩ h
      clear hL0
      try dsimp only at h
      replace h := bind_ok h; obtain ⟨x19,ex19,h⟩ := h
      obtain ⟨ex19a,ex19b,ex19c⟩ := mkN_ok ex19
      subst ex19a
      replace h := bind_ok h; obtain ⟨x20,ex20,h⟩ := h
      have ex20 := gN_ok ex20 10 (by decide)
      replace h := bind_ok h; obtain ⟨m22,em22,h⟩ := h
      have em22 := inj_ok em22
      have em22r : reps [iv 0] x19 = m22.map iv := by rw [← em22]; exact reps_rep
      have hl0 : m22.length = x19 := by rw [← em22]; exact rep_len
      replace h := bind_ok h; obtain ⟨m23,em23,h⟩ := h
      obtain ⟨em23a,em23b,em23c,em23d,em23f,em23q⟩ := copy_ok iv hl0 em23
      subst m23
      have hl0 := em23f
      subst em23f
      have hl0 : p0.length = p0.length := rfl
      simp [g0,g4,ex20,em22r,em23a,em23b,em23c,em23d]
      rw [EK_lp]
      replace h := bindT h; obtain ⟨x24,ex24,h⟩ := h
      replace h := bindT h; obtain ⟨x25,ex25,h⟩ := h
      cases x25
      case false =>
       replace h := bind_ok h; obtain ⟨x183,ex183,h⟩ := h
       have ex183 := inj_ok ex183
       have ex183 := fun (x : Operand) (σ : St) (dr : Dr) hx hm => pbytes_l (dr := dr) (hm := hm) (P := Tryd.prog) (Y := Y0) (f := 40) (src := 79) (dst := 9) (x := x) (σ := σ) (k := .rf (.tmp 8)) (c := .nz) (l := []) Tryd.underlying79 Tryd.underlying5 Tryd.underlying9 hx ex183 convn_79_9Ref3
       replace h := bind_ok h; obtain ⟨x184,ex184,h⟩ := h
       have ex184 : ∀ hp,E Tryd.prog Y0 55 [.v (.string (bs x183))] hp = some (.l .fz x184.1 x184.2.length (x184.2.map iv),hp,none) := fun hp => f55_is ex184
       replace h := bind_ok h; obtain ⟨x185,ex185,h⟩ := h
       have ex185 : ∀ hp,E Tryd.prog Y0 70 [.l .fz x184.1 x184.2.length (x184.2.map iv),.l .fz c0 p0.length (p0.map iv)] hp = some (.v (.bool x185),hp,none) := fun hp => same70_is (a0 := false) (c0 := x184.1) (a1 := false) (c1 := c0) ex185
       cases x185
       case false =>
        obtain rfl := inj_ok h
        simp [g0,g4,ex20,em22r,em23a,em23b,em23c,em23d,ex24,ex25,ex184,ex185,hw]
        rw [ex183 _ _ _ (by simp) (by kernel_rfl)]
        simp [g0,g4,ex20,em22r,em23a,em23b,em23c,em23d,ex24,ex25,ex184,ex185,hw]
       replace h := bind_ok h; obtain ⟨x186,ex186,h⟩ := h
       have ex186 := inj_ok ex186
       have ex186 := fun (x : Operand) (σ : St) (dr : Dr) hx hm => pbytes_l (dr := dr) (hm := hm) (P := Tryd.prog) (Y := Y0) (f := 40) (src := 79) (dst := 9) (x := x) (σ := σ) (k := .rf (.tmp 8)) (c := .nz) (l := []) Tryd.underlying79 Tryd.underlying5 Tryd.underlying9 hx ex186 convn_79_9Ref3
       obtain rfl := inj_ok h
       simp [g0,g4,ex20,em22r,em23a,em23b,em23c,em23d,ex24,ex25,ex184,ex185,hw]
       rw [ex183 _ _ _ (by simp) (by kernel_rfl)]
       simp [g0,g4,ex20,em22r,em23a,em23b,em23c,em23d,ex24,ex25,ex184,ex185,hw]
       rw [ex186 _ _ _ (by simp) (by kernel_rfl)]
       simp [g0,g4,ex20,em22r,em23a,em23b,em23c,em23d,ex24,ex25,ex184,ex185,hw]
      replace h := bind_ok h; obtain ⟨r26,er26,h⟩ := h
      have er26 : E Tryd.prog Y0 68 [.s hp.length 0 p0.length p0.length,iv 0] (hp ++ [some (p0.map iv)]) = some (iv r26,hp ++ [some (p0.map iv)],none) := f68b_is (hb0 := by simp) er26
      rw [hl0] at er26
      replace h := bindT h; obtain ⟨x27,ex27,h⟩ := h
      replace h := bindT h; obtain ⟨x28,ex28,h⟩ := h
      cases x28
      case true =>
       have lim3 : Nat.ble 3 limit = true := ble_true (by unfold limit; omega)
       simp [g0,g4,ex20,em22r,em23a,em23b,em23c,em23d,ex24,ex25,er26,ex27,ex28,lim3]
       have hL1 := h; clear h
       refine loopS (S := f40_L1 F p0) (fun (v29,v30,m31) σ => ∃ (ts : Tr PV) (w : Option Nat),wok hp.length w ∧ σ = ⟨[],ts,hp ++ [some (m31.map iv)],w⟩ ∧ ts.get 0 = some (.l .fz c0 p0.length (p0.map iv)) ∧ ts.get 8 = some (.l .own .nz 1 [kv .u8 111]) ∧ ts.get 9 = some (.s hp.length 0 p0.length p0.length) ∧ ts.get 12 = some (.l .own .nz v29.length (v29.map iv)) ∧ ts.get 13 = some (iv v30) ∧ m31.length = p0.length ∧ True) (fun (v40,m41) σ => ∃ (ts : Tr PV) (w : Option Nat),wok hp.length w ∧ σ = ⟨[],ts,hp ++ [some (m41.map iv)],w⟩ ∧ ts.get 0 = some (.l .fz c0 p0.length (p0.map iv)) ∧ ts.get 8 = some (.l .own .nz 1 [kv .u8 111]) ∧ ts.get 12 = some (.l .own .nz v40.length (v40.map iv)) ∧ m41.length = p0.length ∧ True) (fun _ => rfl) hL1 ?_ ?_ ?_
       · exact ⟨_,_,by simp [hw],rfl,by simp [g0,g4,ex20,em22r,em23a,em23b,em23c,em23d,ex24,ex25,er26,ex27,ex28,lim3]⟩
       · rintro ⟨v40,m41⟩ σ ⟨ts,w,hw,rfl,g0,g8,g12,hl0,-⟩ h
         clear hL1
         try dsimp only at h
         replace h := bind_ok h; obtain ⟨x42,e43,h⟩ := h
         have e43 : ∀ hp,E Tryd.prog Y0 68 [.l .bor .nz v40.length (v40.map iv),iv 0] hp = some (iv x42,hp,none) := fun hp => f68_is (a0 := true) (c0 := .nz) e43
         replace h := bindT h; obtain ⟨x44,ex44,h⟩ := h
         cases x44
         case true =>
          obtain rfl := inj_ok h
          simp [g0,g8,g12,hl0,e43,ex44,hw]
         replace h := bind_ok h; obtain ⟨x45,e46,h⟩ := h
         have e46 : ∀ hp,E Tryd.prog Y0 69 [.l .bor .nz v40.length (v40.map iv)] hp = some (iv x45,hp,none) := fun hp => f69_is (a0 := true) (c0 := .nz) e46
         replace h := bindT h; obtain ⟨x47,ex47,h⟩ := h
         replace h := bindT h; obtain ⟨x48,ex48,h⟩ := h
         cases x48
         case true =>
          obtain rfl := inj_ok h
          simp [g0,g8,g12,hl0,e43,ex44,e46,ex47,ex48,hw]
         simp [g0,g8,g12,hl0,e43,ex44,e46,ex47,ex48]
         have hL2 := h; clear h
         refine loopS (S := f40_L2 F) (fun (v49,v50,m51) σ => ∃ (ts : Tr PV) (w : Option Nat),wok hp.length w ∧ σ = ⟨[],ts,hp ++ [some (m51.map iv)],w⟩ ∧ ts.get 0 = some (.l .fz c0 p0.length (p0.map iv)) ∧ ts.get 8 = some (.l .own .nz v49.length (v49.map (kv .u8))) ∧ ts.get 9 = some (.l .own .nz v50.length (v50.map iv)) ∧ m51.length = p0.length ∧ True) (fun (v100,m101) σ => ∃ (ts : Tr PV) (w : Option Nat),wok hp.length w ∧ σ = ⟨[],ts,hp ++ [some (m101.map iv)],w⟩ ∧ ts.get 0 = some (.l .fz c0 p0.length (p0.map iv)) ∧ ts.get 8 = some (.l .own .nz v100.length (v100.map (kv .u8))) ∧ m101.length = p0.length ∧ True) (fun _ => rfl) hL2 ?_ ?_ ?_
         · exact ⟨_,_,by simp [hw],rfl,by simp [g0,g8,g12,hl0,e43,ex44,e46,ex47,ex48]⟩
         · rintro ⟨v100,m101⟩ σ ⟨ts,w,hw,rfl,g0,g8,hl0,-⟩ h
           clear hL2
           try dsimp only at h
           replace h := bind_ok h; obtain ⟨x102,ex102,h⟩ := h
           have ex102 := inj_ok ex102
           have ex102 := fun (x : Operand) (σ : St) (dr : Dr) hx hm => pbytes_l (dr := dr) (hm := hm) (P := Tryd.prog) (Y := Y0) (f := 40) (src := 79) (dst := 9) (x := x) (σ := σ) (k := .rf (.tmp 8)) (c := .nz) (l := v100) Tryd.underlying79 Tryd.underlying5 Tryd.underlying9 hx ex102 convn_79_9Ref3
           replace h := bind_ok h; obtain ⟨x103,ex103,h⟩ := h
           have ex103 : ∀ hp,E Tryd.prog Y0 55 [.v (.string (bs x102))] hp = some (.l .fz x103.1 x103.2.length (x103.2.map iv),hp,none) := fun hp => f55_is ex103
           replace h := bind_ok h; obtain ⟨x104,ex104,h⟩ := h
           have ex104 : ∀ hp,E Tryd.prog Y0 70 [.l .fz x103.1 x103.2.length (x103.2.map iv),.l .fz c0 p0.length (p0.map iv)] hp = some (.v (.bool x104),hp,none) := fun hp => same70_is (a0 := false) (c0 := x103.1) (a1 := false) (c1 := c0) ex104
           cases x104
           case false =>
            obtain rfl := inj_ok h
            simp [g0,g8,hl0,ex103,ex104,hw]
            rw [ex102 _ _ _ (by simp) (by kernel_rfl)]
            simp [g0,g8,hl0,ex103,ex104,hw]
           replace h := bind_ok h; obtain ⟨x105,ex105,h⟩ := h
           have ex105 := inj_ok ex105
           have ex105 := fun (x : Operand) (σ : St) (dr : Dr) hx hm => pbytes_l (dr := dr) (hm := hm) (P := Tryd.prog) (Y := Y0) (f := 40) (src := 79) (dst := 9) (x := x) (σ := σ) (k := .rf (.tmp 8)) (c := .nz) (l := v100) Tryd.underlying79 Tryd.underlying5 Tryd.underlying9 hx ex105 convn_79_9Ref3
           obtain rfl := inj_ok h
           simp [g0,g8,hl0,ex103,ex104,hw]
           rw [ex102 _ _ _ (by simp) (by kernel_rfl)]
           simp [g0,g8,hl0,ex103,ex104,hw]
           rw [ex105 _ _ _ (by simp) (by kernel_rfl)]
           simp [g0,g8,hl0,ex103,ex104,hw]
         · rintro k n ⟨v49,v50,m51⟩ σ ⟨ts,w,hw,rfl,g0,g8,g9,hl0,-⟩ h ih ex
           clear hL2
           rw [f40_L2] at h
           replace h := bindT h; obtain ⟨x52,ex52,h⟩ := h
           replace h := bindT h; obtain ⟨x53,ex53,h⟩ := h
           cases x53
           case false =>
            simp [g0,g8,g9,hl0,ex52,ex53]
            refine ex (v49,m51) _ ?_ h
            exact ⟨_,_,by simp [hw],rfl,by simp [g0,g8,g9,hl0,ex52,ex53]⟩
           replace h := bind_ok h; obtain ⟨x54,e55,h⟩ := h
           have e55 : ∀ hp,E Tryd.prog Y0 68 [.l .bor .nz v50.length (v50.map iv),iv 0] hp = some (iv x54,hp,none) := fun hp => f68_is (a0 := true) (c0 := .nz) e55
           replace h := bindT h; obtain ⟨x56,ex56,h⟩ := h
           replace h := bindT h; obtain ⟨x57,ex57,h⟩ := h
           cases x57
           case true =>
            replace h := bind_ok h; obtain ⟨x58,ex58,h⟩ := h
            obtain ⟨ex58a,ex58b,ex58c,ex58q⟩ := app1_ok (kv .u8) ex58
            have ex58b := ex58b 3 (by decide)
            simp [g0,g8,g9,hl0,ex52,ex53,e55,ex56,ex57,ex58a,ex58b,ex58c]
            have hL3 := h; clear h
            refine loopS (S := f40_L3 F v50) (fun (v59,v60,m61) σ => ∃ (ts : Tr PV) (w : Option Nat),wok hp.length w ∧ σ = ⟨[],ts,hp ++ [some (m61.map iv)],w⟩ ∧ ts.get 0 = some (.l .fz c0 p0.length (p0.map iv)) ∧ ts.get 8 = some (.l .own .nz x58.length (x58.map (kv .u8))) ∧ ts.get 9 = some (.l .own .nz v50.length (v50.map iv)) ∧ ts.get 12 = some (.l .own .nz v59.length (v59.map iv)) ∧ ts.get 13 = some (iv v60) ∧ m61.length = p0.length ∧ True) (fun (v70,m71) σ => ∃ (ts : Tr PV) (w : Option Nat),wok hp.length w ∧ σ = ⟨[],ts,hp ++ [some (m71.map iv)],w⟩ ∧ ts.get 0 = some (.l .fz c0 p0.length (p0.map iv)) ∧ ts.get 8 = some (.l .own .nz x58.length (x58.map (kv .u8))) ∧ ts.get 12 = some (.l .own .nz v70.length (v70.map iv)) ∧ m71.length = p0.length ∧ True) (fun _ => rfl) hL3 ?_ ?_ ?_
            · exact ⟨_,_,by simp [hw],rfl,by simp [g0,g8,g9,hl0,ex52,ex53,e55,ex56,ex57,ex58a,ex58b,ex58c]⟩
            · rintro ⟨v70,m71⟩ σ ⟨ts,w,hw,rfl,g0,g8,g12,hl0,-⟩ h
              clear hL3
              try dsimp only at h
              replace h := bind_ok h; obtain ⟨x72,e73,h⟩ := h
              have e73 : ∀ hp,E Tryd.prog Y0 68 [.l .bor .nz v70.length (v70.map iv),iv 0] hp = some (iv x72,hp,none) := fun hp => f68_is (a0 := true) (c0 := .nz) e73
              replace h := bindT h; obtain ⟨x74,ex74,h⟩ := h
              cases x74
              case true =>
               obtain rfl := inj_ok h
               simp [g0,g8,g12,hl0,e73,ex74,hw]
              replace h := bind_ok h; obtain ⟨x75,e76,h⟩ := h
              have e76 : ∀ hp,E Tryd.prog Y0 69 [.l .bor .nz v70.length (v70.map iv)] hp = some (iv x75,hp,none) := fun hp => f69_is (a0 := true) (c0 := .nz) e76
              replace h := bindT h; obtain ⟨x77,ex77,h⟩ := h
              replace h := bindT h; obtain ⟨x78,ex78,h⟩ := h
              cases x78
              case true =>
               obtain rfl := inj_ok h
               simp [g0,g8,g12,hl0,e73,ex74,e76,ex77,ex78,hw]
              simp [g0,g8,g12,hl0,e73,ex74,e76,ex77,ex78]
              refine ih (x58,v70,m71) _ ?_ h
              exact ⟨_,_,by simp [hw],rfl,by simp [g0,g8,g12,hl0,e73,ex74,e76,ex77,ex78]⟩
            · rintro k n ⟨v59,v60,m61⟩ σ ⟨ts,w,hw,rfl,g0,g8,g9,g12,g13,hl0,-⟩ h ih ex
              clear hL3
              rw [f40_L3] at h
              replace h := bindT h; obtain ⟨x62,ex62,h⟩ := h
              replace h := bindT h; obtain ⟨x63,ex63,h⟩ := h
              cases x63
              case false =>
               simp [g0,g8,g9,g12,g13,hl0,ex62,ex63]
               refine ex (v59,m61) _ ?_ h
               exact ⟨_,_,by simp [hw],rfl,by simp [g0,g8,g9,g12,g13,hl0,ex62,ex63]⟩
              replace h := bind_ok h; obtain ⟨y64,ey64,h⟩ := h
              obtain ⟨ey64a,ey64e,ey64b,ey64c,ey64g⟩ := gI_ok rfl ey64
              replace h := bindT h; obtain ⟨x65,ex65,h⟩ := h
              replace h := bind_ok h; obtain ⟨y66,ey66,h⟩ := h
              obtain ⟨ey66a,ey66e,ey66b,ey66c,ey66g⟩ := gI_ok rfl ey66
              replace h := bindT h; obtain ⟨x67,ex67,h⟩ := h
              replace h := bind_ok h; obtain ⟨x68,ex68,h⟩ := h
              obtain ⟨ex68a,ex68b,ex68c,ex68q⟩ := app1_ok iv ex68
              have ex68b := ex68b 10 (by decide)
              replace h := bindT h; obtain ⟨x69,ex69,h⟩ := h
              simp [g0,g8,g9,g12,g13,hl0,ex62,ex63,ey64a,ey64b,ey64c,ex65,ey66a,ey66b,ey66c,ex67,ex68a,ex68b,ex68c,ex69]
              all_goals try (generalize hmt : mayTurn _ = mb; obtain rfl : mb = true := hmt.symm.trans (by kernel_rfl); clear hmt)
              all_goals try simp [g0,g8,g9,g12,g13,hl0,ex62,ex63,ey64a,ey64b,ey64c,ex65,ey66a,ey66b,ey66c,ex67,ex68a,ex68b,ex68c,ex69]
              refine ih (x68,x69,m61) _ ?_ h
              exact ⟨_,_,by simp [hw],rfl,by simp [g0,g8,g9,g12,g13,hl0,ex62,ex63,ey64a,ey64b,ey64c,ex65,ey66a,ey66b,ey66c,ex67,ex68a,ex68b,ex68c,ex69]⟩
           replace h := bind_ok h; obtain ⟨x79,ex79,h⟩ := h
           obtain ⟨ex79a,ex79b,ex79c,ex79q⟩ := app1_ok (kv .u8) ex79
           have ex79b := ex79b 3 (by decide)
           simp [g0,g8,g9,hl0,ex52,ex53,e55,ex56,ex57,ex79a,ex79b,ex79c]
           have hL4 := h; clear h
           refine loopS (S := f40_L4 F v50) (fun (v80,v81,m82) σ => ∃ (ts : Tr PV) (w : Option Nat),wok hp.length w ∧ σ = ⟨[],ts,hp ++ [some (m82.map iv)],w⟩ ∧ ts.get 0 = some (.l .fz c0 p0.length (p0.map iv)) ∧ ts.get 8 = some (.l .own .nz x79.length (x79.map (kv .u8))) ∧ ts.get 9 = some (.l .own .nz v50.length (v50.map iv)) ∧ ts.get 12 = some (.l .own .nz v80.length (v80.map iv)) ∧ ts.get 13 = some (iv v81) ∧ m82.length = p0.length ∧ True) (fun (v91,m92) σ => ∃ (ts : Tr PV) (w : Option Nat),wok hp.length w ∧ σ = ⟨[],ts,hp ++ [some (m92.map iv)],w⟩ ∧ ts.get 0 = some (.l .fz c0 p0.length (p0.map iv)) ∧ ts.get 8 = some (.l .own .nz x79.length (x79.map (kv .u8))) ∧ ts.get 12 = some (.l .own .nz v91.length (v91.map iv)) ∧ m92.length = p0.length ∧ True) (fun _ => rfl) hL4 ?_ ?_ ?_
           · exact ⟨_,_,by simp [hw],rfl,by simp [g0,g8,g9,hl0,ex52,ex53,e55,ex56,ex57,ex79a,ex79b,ex79c]⟩
           · rintro ⟨v91,m92⟩ σ ⟨ts,w,hw,rfl,g0,g8,g12,hl0,-⟩ h
             clear hL4
             try dsimp only at h
             replace h := bind_ok h; obtain ⟨x93,e94,h⟩ := h
             have e94 : ∀ hp,E Tryd.prog Y0 68 [.l .bor .nz v91.length (v91.map iv),iv 0] hp = some (iv x93,hp,none) := fun hp => f68_is (a0 := true) (c0 := .nz) e94
             replace h := bindT h; obtain ⟨x95,ex95,h⟩ := h
             cases x95
             case true =>
              obtain rfl := inj_ok h
              simp [g0,g8,g12,hl0,e94,ex95,hw]
             replace h := bind_ok h; obtain ⟨x96,e97,h⟩ := h
             have e97 : ∀ hp,E Tryd.prog Y0 69 [.l .bor .nz v91.length (v91.map iv)] hp = some (iv x96,hp,none) := fun hp => f69_is (a0 := true) (c0 := .nz) e97
             replace h := bindT h; obtain ⟨x98,ex98,h⟩ := h
             replace h := bindT h; obtain ⟨x99,ex99,h⟩ := h
             cases x99
             case true =>
              obtain rfl := inj_ok h
              simp [g0,g8,g12,hl0,e94,ex95,e97,ex98,ex99,hw]
             simp [g0,g8,g12,hl0,e94,ex95,e97,ex98,ex99]
             refine ih (x79,v91,m92) _ ?_ h
             exact ⟨_,_,by simp [hw],rfl,by simp [g0,g8,g12,hl0,e94,ex95,e97,ex98,ex99]⟩
           · rintro k n ⟨v80,v81,m82⟩ σ ⟨ts,w,hw,rfl,g0,g8,g9,g12,g13,hl0,-⟩ h ih ex
             clear hL4
             rw [f40_L4] at h
             replace h := bindT h; obtain ⟨x83,ex83,h⟩ := h
             replace h := bindT h; obtain ⟨x84,ex84,h⟩ := h
             cases x84
             case false =>
              simp [g0,g8,g9,g12,g13,hl0,ex83,ex84]
              refine ex (v80,m82) _ ?_ h
              exact ⟨_,_,by simp [hw],rfl,by simp [g0,g8,g9,g12,g13,hl0,ex83,ex84]⟩
             replace h := bind_ok h; obtain ⟨y85,ey85,h⟩ := h
             obtain ⟨ey85a,ey85e,ey85b,ey85c,ey85g⟩ := gI_ok rfl ey85
             replace h := bindT h; obtain ⟨x86,ex86,h⟩ := h
             replace h := bind_ok h; obtain ⟨y87,ey87,h⟩ := h
             obtain ⟨ey87a,ey87e,ey87b,ey87c,ey87g⟩ := gI_ok rfl ey87
             replace h := bindT h; obtain ⟨x88,ex88,h⟩ := h
             replace h := bind_ok h; obtain ⟨x89,ex89,h⟩ := h
             obtain ⟨ex89a,ex89b,ex89c,ex89q⟩ := app1_ok iv ex89
             have ex89b := ex89b 10 (by decide)
             replace h := bindT h; obtain ⟨x90,ex90,h⟩ := h
             simp [g0,g8,g9,g12,g13,hl0,ex83,ex84,ey85a,ey85b,ey85c,ex86,ey87a,ey87b,ey87c,ex88,ex89a,ex89b,ex89c,ex90]
             all_goals try (generalize hmt : mayTurn _ = mb; obtain rfl : mb = true := hmt.symm.trans (by kernel_rfl); clear hmt)
             all_goals try simp [g0,g8,g9,g12,g13,hl0,ex83,ex84,ey85a,ey85b,ey85c,ex86,ey87a,ey87b,ey87c,ex88,ex89a,ex89b,ex89c,ex90]
             refine ih (x89,x90,m82) _ ?_ h
             exact ⟨_,_,by simp [hw],rfl,by simp [g0,g8,g9,g12,g13,hl0,ex83,ex84,ey85a,ey85b,ey85c,ex86,ey87a,ey87b,ey87c,ex88,ex89a,ex89b,ex89c,ex90]⟩
       · rintro k n ⟨v29,v30,m31⟩ σ ⟨ts,w,hw,rfl,g0,g8,g9,g12,g13,hl0,-⟩ h ih ex
         clear hL1
         rw [f40_L1] at h
         replace h := bindT h; obtain ⟨x32,ex32,h⟩ := h
         replace h := bindT h; obtain ⟨x33,ex33,h⟩ := h
         cases x33
         case false =>
          simp [g0,g8,g9,g12,g13,hl0,ex32,ex33]
          refine ex (v29,m31) _ ?_ h
          exact ⟨_,_,by simp [hw],rfl,by simp [g0,g8,g9,g12,g13,hl0,ex32,ex33]⟩
         replace h := bind_ok h; obtain ⟨y34,ey34,h⟩ := h
         obtain ⟨ey34a,ey34e,ey34b,ey34c,ey34g⟩ := gI_ok hl0 ey34
         replace h := bindT h; obtain ⟨x35,ex35,h⟩ := h
         replace h := bind_ok h; obtain ⟨y36,ey36,h⟩ := h
         obtain ⟨ey36a,ey36e,ey36b,ey36c,ey36g⟩ := gI_ok hl0 ey36
         replace h := bindT h; obtain ⟨x37,ex37,h⟩ := h
         replace h := bind_ok h; obtain ⟨x38,ex38,h⟩ := h
         obtain ⟨ex38a,ex38b,ex38c,ex38q⟩ := app1_ok iv ex38
         have ex38b := ex38b 10 (by decide)
         replace h := bindT h; obtain ⟨x39,ex39,h⟩ := h
         simp [g0,g8,g9,g12,g13,hl0,ex32,ex33,ey34a,ey34b,ey34c,ex35,ey36a,ey36b,ey36c,ex37,ex38a,ex38b,ex38c,ex39]
         all_goals try (generalize hmt : mayTurn _ = mb; obtain rfl : mb = true := hmt.symm.trans (by kernel_rfl); clear hmt)
         all_goals try simp [g0,g8,g9,g12,g13,hl0,ex32,ex33,ey34a,ey34b,ey34c,ex35,ey36a,ey36b,ey36c,ex37,ex38a,ex38b,ex38c,ex39]
         refine ih (x38,x39,m31) _ ?_ h
         exact ⟨_,_,by simp [hw],rfl,by simp [g0,g8,g9,g12,g13,hl0,ex32,ex33,ey34a,ey34b,ey34c,ex35,ey36a,ey36b,ey36c,ex37,ex38a,ex38b,ex38c,ex39]⟩
      have lim3 : Nat.ble 3 limit = true := ble_true (by unfold limit; omega)
      simp [g0,g4,ex20,em22r,em23a,em23b,em23c,em23d,ex24,ex25,er26,ex27,ex28,lim3]
      have hL5 := h; clear h
      refine loopS (S := f40_L5 F p0) (fun (v106,v107,m108) σ => ∃ (ts : Tr PV) (w : Option Nat),wok hp.length w ∧ σ = ⟨[],ts,hp ++ [some (m108.map iv)],w⟩ ∧ ts.get 0 = some (.l .fz c0 p0.length (p0.map iv)) ∧ ts.get 8 = some (.l .own .nz 1 [kv .u8 117]) ∧ ts.get 9 = some (.s hp.length 0 p0.length p0.length) ∧ ts.get 12 = some (.l .own .nz v106.length (v106.map iv)) ∧ ts.get 13 = some (iv v107) ∧ m108.length = p0.length ∧ True) (fun (v117,m118) σ => ∃ (ts : Tr PV) (w : Option Nat),wok hp.length w ∧ σ = ⟨[],ts,hp ++ [some (m118.map iv)],w⟩ ∧ ts.get 0 = some (.l .fz c0 p0.length (p0.map iv)) ∧ ts.get 8 = some (.l .own .nz 1 [kv .u8 117]) ∧ ts.get 12 = some (.l .own .nz v117.length (v117.map iv)) ∧ m118.length = p0.length ∧ True) (fun _ => rfl) hL5 ?_ ?_ ?_
      · exact ⟨_,_,by simp [hw],rfl,by simp [g0,g4,ex20,em22r,em23a,em23b,em23c,em23d,ex24,ex25,er26,ex27,ex28,lim3]⟩
      · rintro ⟨v117,m118⟩ σ ⟨ts,w,hw,rfl,g0,g8,g12,hl0,-⟩ h
        clear hL5
        try dsimp only at h
        replace h := bind_ok h; obtain ⟨x119,e120,h⟩ := h
        have e120 : ∀ hp,E Tryd.prog Y0 68 [.l .bor .nz v117.length (v117.map iv),iv 0] hp = some (iv x119,hp,none) := fun hp => f68_is (a0 := true) (c0 := .nz) e120
        replace h := bindT h; obtain ⟨x121,ex121,h⟩ := h
        cases x121
        case true =>
         obtain rfl := inj_ok h
         simp [g0,g8,g12,hl0,e120,ex121,hw]
        replace h := bind_ok h; obtain ⟨x122,e123,h⟩ := h
        have e123 : ∀ hp,E Tryd.prog Y0 69 [.l .bor .nz v117.length (v117.map iv)] hp = some (iv x122,hp,none) := fun hp => f69_is (a0 := true) (c0 := .nz) e123
        replace h := bindT h; obtain ⟨x124,ex124,h⟩ := h
        replace h := bindT h; obtain ⟨x125,ex125,h⟩ := h
        cases x125
        case true =>
         obtain rfl := inj_ok h
         simp [g0,g8,g12,hl0,e120,ex121,e123,ex124,ex125,hw]
        simp [g0,g8,g12,hl0,e120,ex121,e123,ex124,ex125]
        have hL6 := h; clear h
        refine loopS (S := f40_L6 F) (fun (v126,v127,m128) σ => ∃ (ts : Tr PV) (w : Option Nat),wok hp.length w ∧ σ = ⟨[],ts,hp ++ [some (m128.map iv)],w⟩ ∧ ts.get 0 = some (.l .fz c0 p0.length (p0.map iv)) ∧ ts.get 8 = some (.l .own .nz v126.length (v126.map (kv .u8))) ∧ ts.get 9 = some (.l .own .nz v127.length (v127.map iv)) ∧ m128.length = p0.length ∧ True) (fun (v177,m178) σ => ∃ (ts : Tr PV) (w : Option Nat),wok hp.length w ∧ σ = ⟨[],ts,hp ++ [some (m178.map iv)],w⟩ ∧ ts.get 0 = some (.l .fz c0 p0.length (p0.map iv)) ∧ ts.get 8 = some (.l .own .nz v177.length (v177.map (kv .u8))) ∧ m178.length = p0.length ∧ True) (fun _ => rfl) hL6 ?_ ?_ ?_
        · exact ⟨_,_,by simp [hw],rfl,by simp [g0,g8,g12,hl0,e120,ex121,e123,ex124,ex125]⟩
        · rintro ⟨v177,m178⟩ σ ⟨ts,w,hw,rfl,g0,g8,hl0,-⟩ h
          clear hL6
          try dsimp only at h
          replace h := bind_ok h; obtain ⟨x179,ex179,h⟩ := h
          have ex179 := inj_ok ex179
          have ex179 := fun (x : Operand) (σ : St) (dr : Dr) hx hm => pbytes_l (dr := dr) (hm := hm) (P := Tryd.prog) (Y := Y0) (f := 40) (src := 79) (dst := 9) (x := x) (σ := σ) (k := .rf (.tmp 8)) (c := .nz) (l := v177) Tryd.underlying79 Tryd.underlying5 Tryd.underlying9 hx ex179 convn_79_9Ref3
          replace h := bind_ok h; obtain ⟨x180,ex180,h⟩ := h
          have ex180 : ∀ hp,E Tryd.prog Y0 55 [.v (.string (bs x179))] hp = some (.l .fz x180.1 x180.2.length (x180.2.map iv),hp,none) := fun hp => f55_is ex180
          replace h := bind_ok h; obtain ⟨x181,ex181,h⟩ := h
          have ex181 : ∀ hp,E Tryd.prog Y0 70 [.l .fz x180.1 x180.2.length (x180.2.map iv),.l .fz c0 p0.length (p0.map iv)] hp = some (.v (.bool x181),hp,none) := fun hp => same70_is (a0 := false) (c0 := x180.1) (a1 := false) (c1 := c0) ex181
          cases x181
          case false =>
           obtain rfl := inj_ok h
           simp [g0,g8,hl0,ex180,ex181,hw]
           rw [ex179 _ _ _ (by simp) (by kernel_rfl)]
           simp [g0,g8,hl0,ex180,ex181,hw]
          replace h := bind_ok h; obtain ⟨x182,ex182,h⟩ := h
          have ex182 := inj_ok ex182
          have ex182 := fun (x : Operand) (σ : St) (dr : Dr) hx hm => pbytes_l (dr := dr) (hm := hm) (P := Tryd.prog) (Y := Y0) (f := 40) (src := 79) (dst := 9) (x := x) (σ := σ) (k := .rf (.tmp 8)) (c := .nz) (l := v177) Tryd.underlying79 Tryd.underlying5 Tryd.underlying9 hx ex182 convn_79_9Ref3
          obtain rfl := inj_ok h
          simp [g0,g8,hl0,ex180,ex181,hw]
          rw [ex179 _ _ _ (by simp) (by kernel_rfl)]
          simp [g0,g8,hl0,ex180,ex181,hw]
          rw [ex182 _ _ _ (by simp) (by kernel_rfl)]
          simp [g0,g8,hl0,ex180,ex181,hw]
        · rintro k n ⟨v126,v127,m128⟩ σ ⟨ts,w,hw,rfl,g0,g8,g9,hl0,-⟩ h ih ex
          clear hL6
          rw [f40_L6] at h
          replace h := bindT h; obtain ⟨x129,ex129,h⟩ := h
          replace h := bindT h; obtain ⟨x130,ex130,h⟩ := h
          cases x130
          case false =>
           simp [g0,g8,g9,hl0,ex129,ex130]
           refine ex (v126,m128) _ ?_ h
           exact ⟨_,_,by simp [hw],rfl,by simp [g0,g8,g9,hl0,ex129,ex130]⟩
          replace h := bind_ok h; obtain ⟨x131,e132,h⟩ := h
          have e132 : ∀ hp,E Tryd.prog Y0 68 [.l .bor .nz v127.length (v127.map iv),iv 0] hp = some (iv x131,hp,none) := fun hp => f68_is (a0 := true) (c0 := .nz) e132
          replace h := bindT h; obtain ⟨x133,ex133,h⟩ := h
          replace h := bindT h; obtain ⟨x134,ex134,h⟩ := h
          cases x134
          case true =>
           replace h := bind_ok h; obtain ⟨x135,ex135,h⟩ := h
           obtain ⟨ex135a,ex135b,ex135c,ex135q⟩ := app1_ok (kv .u8) ex135
           have ex135b := ex135b 3 (by decide)
           simp [g0,g8,g9,hl0,ex129,ex130,e132,ex133,ex134,ex135a,ex135b,ex135c]
           have hL7 := h; clear h
           refine loopS (S := f40_L7 F v127) (fun (v136,v137,m138) σ => ∃ (ts : Tr PV) (w : Option Nat),wok hp.length w ∧ σ = ⟨[],ts,hp ++ [some (m138.map iv)],w⟩ ∧ ts.get 0 = some (.l .fz c0 p0.length (p0.map iv)) ∧ ts.get 8 = some (.l .own .nz x135.length (x135.map (kv .u8))) ∧ ts.get 9 = some (.l .own .nz v127.length (v127.map iv)) ∧ ts.get 12 = some (.l .own .nz v136.length (v136.map iv)) ∧ ts.get 13 = some (iv v137) ∧ m138.length = p0.length ∧ True) (fun (v147,m148) σ => ∃ (ts : Tr PV) (w : Option Nat),wok hp.length w ∧ σ = ⟨[],ts,hp ++ [some (m148.map iv)],w⟩ ∧ ts.get 0 = some (.l .fz c0 p0.length (p0.map iv)) ∧ ts.get 8 = some (.l .own .nz x135.length (x135.map (kv .u8))) ∧ ts.get 12 = some (.l .own .nz v147.length (v147.map iv)) ∧ m148.length = p0.length ∧ True) (fun _ => rfl) hL7 ?_ ?_ ?_
           · exact ⟨_,_,by simp [hw],rfl,by simp [g0,g8,g9,hl0,ex129,ex130,e132,ex133,ex134,ex135a,ex135b,ex135c]⟩
           · rintro ⟨v147,m148⟩ σ ⟨ts,w,hw,rfl,g0,g8,g12,hl0,-⟩ h
             clear hL7
             try dsimp only at h
             replace h := bind_ok h; obtain ⟨x149,e150,h⟩ := h
             have e150 : ∀ hp,E Tryd.prog Y0 68 [.l .bor .nz v147.length (v147.map iv),iv 0] hp = some (iv x149,hp,none) := fun hp => f68_is (a0 := true) (c0 := .nz) e150
             replace h := bindT h; obtain ⟨x151,ex151,h⟩ := h
             cases x151
             case true =>
              obtain rfl := inj_ok h
              simp [g0,g8,g12,hl0,e150,ex151,hw]
             replace h := bind_ok h; obtain ⟨x152,e153,h⟩ := h
             have e153 : ∀ hp,E Tryd.prog Y0 69 [.l .bor .nz v147.length (v147.map iv)] hp = some (iv x152,hp,none) := fun hp => f69_is (a0 := true) (c0 := .nz) e153
             replace h := bindT h; obtain ⟨x154,ex154,h⟩ := h
             replace h := bindT h; obtain ⟨x155,ex155,h⟩ := h
             cases x155
             case true =>
              obtain rfl := inj_ok h
              simp [g0,g8,g12,hl0,e150,ex151,e153,ex154,ex155,hw]
             simp [g0,g8,g12,hl0,e150,ex151,e153,ex154,ex155]
             refine ih (x135,v147,m148) _ ?_ h
             exact ⟨_,_,by simp [hw],rfl,by simp [g0,g8,g12,hl0,e150,ex151,e153,ex154,ex155]⟩
           · rintro k n ⟨v136,v137,m138⟩ σ ⟨ts,w,hw,rfl,g0,g8,g9,g12,g13,hl0,-⟩ h ih ex
             clear hL7
             rw [f40_L7] at h
             replace h := bindT h; obtain ⟨x139,ex139,h⟩ := h
             replace h := bindT h; obtain ⟨x140,ex140,h⟩ := h
             cases x140
             case false =>
              simp [g0,g8,g9,g12,g13,hl0,ex139,ex140]
              refine ex (v136,m138) _ ?_ h
              exact ⟨_,_,by simp [hw],rfl,by simp [g0,g8,g9,g12,g13,hl0,ex139,ex140]⟩
             replace h := bind_ok h; obtain ⟨y141,ey141,h⟩ := h
             obtain ⟨ey141a,ey141e,ey141b,ey141c,ey141g⟩ := gI_ok rfl ey141
             replace h := bindT h; obtain ⟨x142,ex142,h⟩ := h
             replace h := bind_ok h; obtain ⟨y143,ey143,h⟩ := h
             obtain ⟨ey143a,ey143e,ey143b,ey143c,ey143g⟩ := gI_ok rfl ey143
             replace h := bindT h; obtain ⟨x144,ex144,h⟩ := h
             replace h := bind_ok h; obtain ⟨x145,ex145,h⟩ := h
             obtain ⟨ex145a,ex145b,ex145c,ex145q⟩ := app1_ok iv ex145
             have ex145b := ex145b 10 (by decide)
             replace h := bindT h; obtain ⟨x146,ex146,h⟩ := h
             simp [g0,g8,g9,g12,g13,hl0,ex139,ex140,ey141a,ey141b,ey141c,ex142,ey143a,ey143b,ey143c,ex144,ex145a,ex145b,ex145c,ex146]
             all_goals try (generalize hmt : mayTurn _ = mb; obtain rfl : mb = true := hmt.symm.trans (by kernel_rfl); clear hmt)
             all_goals try simp [g0,g8,g9,g12,g13,hl0,ex139,ex140,ey141a,ey141b,ey141c,ex142,ey143a,ey143b,ey143c,ex144,ex145a,ex145b,ex145c,ex146]
             refine ih (x145,x146,m138) _ ?_ h
             exact ⟨_,_,by simp [hw],rfl,by simp [g0,g8,g9,g12,g13,hl0,ex139,ex140,ey141a,ey141b,ey141c,ex142,ey143a,ey143b,ey143c,ex144,ex145a,ex145b,ex145c,ex146]⟩
          replace h := bind_ok h; obtain ⟨x156,ex156,h⟩ := h
          obtain ⟨ex156a,ex156b,ex156c,ex156q⟩ := app1_ok (kv .u8) ex156
          have ex156b := ex156b 3 (by decide)
          simp [g0,g8,g9,hl0,ex129,ex130,e132,ex133,ex134,ex156a,ex156b,ex156c]
          have hL8 := h; clear h
          refine loopS (S := f40_L8 F v127) (fun (v157,v158,m159) σ => ∃ (ts : Tr PV) (w : Option Nat),wok hp.length w ∧ σ = ⟨[],ts,hp ++ [some (m159.map iv)],w⟩ ∧ ts.get 0 = some (.l .fz c0 p0.length (p0.map iv)) ∧ ts.get 8 = some (.l .own .nz x156.length (x156.map (kv .u8))) ∧ ts.get 9 = some (.l .own .nz v127.length (v127.map iv)) ∧ ts.get 12 = some (.l .own .nz v157.length (v157.map iv)) ∧ ts.get 13 = some (iv v158) ∧ m159.length = p0.length ∧ True) (fun (v168,m169) σ => ∃ (ts : Tr PV) (w : Option Nat),wok hp.length w ∧ σ = ⟨[],ts,hp ++ [some (m169.map iv)],w⟩ ∧ ts.get 0 = some (.l .fz c0 p0.length (p0.map iv)) ∧ ts.get 8 = some (.l .own .nz x156.length (x156.map (kv .u8))) ∧ ts.get 12 = some (.l .own .nz v168.length (v168.map iv)) ∧ m169.length = p0.length ∧ True) (fun _ => rfl) hL8 ?_ ?_ ?_
          · exact ⟨_,_,by simp [hw],rfl,by simp [g0,g8,g9,hl0,ex129,ex130,e132,ex133,ex134,ex156a,ex156b,ex156c]⟩
          · rintro ⟨v168,m169⟩ σ ⟨ts,w,hw,rfl,g0,g8,g12,hl0,-⟩ h
            clear hL8
            try dsimp only at h
            replace h := bind_ok h; obtain ⟨x170,e171,h⟩ := h
            have e171 : ∀ hp,E Tryd.prog Y0 68 [.l .bor .nz v168.length (v168.map iv),iv 0] hp = some (iv x170,hp,none) := fun hp => f68_is (a0 := true) (c0 := .nz) e171
            replace h := bindT h; obtain ⟨x172,ex172,h⟩ := h
            cases x172
            case true =>
             obtain rfl := inj_ok h
             simp [g0,g8,g12,hl0,e171,ex172,hw]
            replace h := bind_ok h; obtain ⟨x173,e174,h⟩ := h
            have e174 : ∀ hp,E Tryd.prog Y0 69 [.l .bor .nz v168.length (v168.map iv)] hp = some (iv x173,hp,none) := fun hp => f69_is (a0 := true) (c0 := .nz) e174
            replace h := bindT h; obtain ⟨x175,ex175,h⟩ := h
            replace h := bindT h; obtain ⟨x176,ex176,h⟩ := h
            cases x176
            case true =>
             obtain rfl := inj_ok h
             simp [g0,g8,g12,hl0,e171,ex172,e174,ex175,ex176,hw]
            simp [g0,g8,g12,hl0,e171,ex172,e174,ex175,ex176]
            refine ih (x156,v168,m169) _ ?_ h
            exact ⟨_,_,by simp [hw],rfl,by simp [g0,g8,g12,hl0,e171,ex172,e174,ex175,ex176]⟩
          · rintro k n ⟨v157,v158,m159⟩ σ ⟨ts,w,hw,rfl,g0,g8,g9,g12,g13,hl0,-⟩ h ih ex
            clear hL8
            rw [f40_L8] at h
            replace h := bindT h; obtain ⟨x160,ex160,h⟩ := h
            replace h := bindT h; obtain ⟨x161,ex161,h⟩ := h
            cases x161
            case false =>
             simp [g0,g8,g9,g12,g13,hl0,ex160,ex161]
             refine ex (v157,m159) _ ?_ h
             exact ⟨_,_,by simp [hw],rfl,by simp [g0,g8,g9,g12,g13,hl0,ex160,ex161]⟩
            replace h := bind_ok h; obtain ⟨y162,ey162,h⟩ := h
            obtain ⟨ey162a,ey162e,ey162b,ey162c,ey162g⟩ := gI_ok rfl ey162
            replace h := bindT h; obtain ⟨x163,ex163,h⟩ := h
            replace h := bind_ok h; obtain ⟨y164,ey164,h⟩ := h
            obtain ⟨ey164a,ey164e,ey164b,ey164c,ey164g⟩ := gI_ok rfl ey164
            replace h := bindT h; obtain ⟨x165,ex165,h⟩ := h
            replace h := bind_ok h; obtain ⟨x166,ex166,h⟩ := h
            obtain ⟨ex166a,ex166b,ex166c,ex166q⟩ := app1_ok iv ex166
            have ex166b := ex166b 10 (by decide)
            replace h := bindT h; obtain ⟨x167,ex167,h⟩ := h
            simp [g0,g8,g9,g12,g13,hl0,ex160,ex161,ey162a,ey162b,ey162c,ex163,ey164a,ey164b,ey164c,ex165,ex166a,ex166b,ex166c,ex167]
            all_goals try (generalize hmt : mayTurn _ = mb; obtain rfl : mb = true := hmt.symm.trans (by kernel_rfl); clear hmt)
            all_goals try simp [g0,g8,g9,g12,g13,hl0,ex160,ex161,ey162a,ey162b,ey162c,ex163,ey164a,ey164b,ey164c,ex165,ex166a,ex166b,ex166c,ex167]
            refine ih (x166,x167,m159) _ ?_ h
            exact ⟨_,_,by simp [hw],rfl,by simp [g0,g8,g9,g12,g13,hl0,ex160,ex161,ey162a,ey162b,ey162c,ex163,ey164a,ey164b,ey164c,ex165,ex166a,ex166b,ex166c,ex167]⟩
      · rintro k n ⟨v106,v107,m108⟩ σ ⟨ts,w,hw,rfl,g0,g8,g9,g12,g13,hl0,-⟩ h ih ex
        clear hL5
        rw [f40_L5] at h
        replace h := bindT h; obtain ⟨x109,ex109,h⟩ := h
        replace h := bindT h; obtain ⟨x110,ex110,h⟩ := h
        cases x110
        case false =>
         simp [g0,g8,g9,g12,g13,hl0,ex109,ex110]
         refine ex (v106,m108) _ ?_ h
         exact ⟨_,_,by simp [hw],rfl,by simp [g0,g8,g9,g12,g13,hl0,ex109,ex110]⟩
        replace h := bind_ok h; obtain ⟨y111,ey111,h⟩ := h
        obtain ⟨ey111a,ey111e,ey111b,ey111c,ey111g⟩ := gI_ok hl0 ey111
        replace h := bindT h; obtain ⟨x112,ex112,h⟩ := h
        replace h := bind_ok h; obtain ⟨y113,ey113,h⟩ := h
        obtain ⟨ey113a,ey113e,ey113b,ey113c,ey113g⟩ := gI_ok hl0 ey113
        replace h := bindT h; obtain ⟨x114,ex114,h⟩ := h
        replace h := bind_ok h; obtain ⟨x115,ex115,h⟩ := h
        obtain ⟨ex115a,ex115b,ex115c,ex115q⟩ := app1_ok iv ex115
        have ex115b := ex115b 10 (by decide)
        replace h := bindT h; obtain ⟨x116,ex116,h⟩ := h
        simp [g0,g8,g9,g12,g13,hl0,ex109,ex110,ey111a,ey111b,ey111c,ex112,ey113a,ey113b,ey113c,ex114,ex115a,ex115b,ex115c,ex116]
        all_goals try (generalize hmt : mayTurn _ = mb; obtain rfl : mb = true := hmt.symm.trans (by kernel_rfl); clear hmt)
        all_goals try simp [g0,g8,g9,g12,g13,hl0,ex109,ex110,ey111a,ey111b,ey111c,ex112,ey113a,ey113b,ey113c,ex114,ex115a,ex115b,ex115c,ex116]
        refine ih (x115,x116,m108) _ ?_ h
        exact ⟨_,_,by simp [hw],rfl,by simp [g0,g8,g9,g12,g13,hl0,ex109,ex110,ey111a,ey111b,ey111c,ex112,ey113a,ey113b,ey113c,ex114,ex115a,ex115b,ex115c,ex116]⟩
    · rintro k n ⟨v7,v8⟩ σ ⟨ts,w,hw,rfl,g0,g4,g5,g29,g30,g31,-⟩ h ih ex
      clear hL0
      rw [f40_L0] at h
      replace h := bindT h; obtain ⟨x9,ex9,h⟩ := h
      cases x9
      case false =>
       simp [g0,g4,g5,g29,g30,g31,ex9]
       refine ex () _ ?_ h
       exact ⟨_,_,by simp [hw],rfl,by simp [g0,g4,g5,g29,g30,g31,ex9]⟩
      replace h := bind_ok h; obtain ⟨y10,ey10,h⟩ := h
      obtain ⟨ey10a,ey10e,ey10b,ey10c,ey10g⟩ := gI_ok rfl ey10
      replace h := bindT h; obtain ⟨x11,ex11,h⟩ := h
      cases x11
      case true =>
       obtain rfl := inj_ok h
       simp [g0,g4,g5,g29,g30,g31,ex9,ey10a,ey10b,ey10c,ex11,hw]
      replace h := bindT h; obtain ⟨x12,ex12,h⟩ := h
      cases x12
      case true =>
       obtain rfl := inj_ok h
       simp [g0,g4,g5,g29,g30,g31,ex9,ey10a,ey10b,ey10c,ex11,ex12,hw]
      replace h := bind_ok h; obtain ⟨x13,ex13,h⟩ := h
      obtain ⟨ex13a,ex13⟩ := shrO_ok ex13
      replace h := bindT h; obtain ⟨x14,ex14,h⟩ := h
      replace h := bindT h; obtain ⟨x15,ex15,h⟩ := h
      cases x15
      case true =>
       obtain rfl := inj_ok h
       simp [g0,g4,g5,g29,g30,g31,ex9,ey10a,ey10b,ey10c,ex11,ex12,ex13,ex13a,ex14,ex15,hw]
      replace h := bind_ok h; obtain ⟨x16,ex16,h⟩ := h
      obtain ⟨ex16a,ex16⟩ := shlO_ok ex16
      replace h := bindT h; obtain ⟨x17,ex17,h⟩ := h
      replace h := bindT h; obtain ⟨x18,ex18,h⟩ := h
      simp [g0,g4,g5,g29,g30,g31,ex9,ey10a,ey10b,ey10c,ex11,ex12,ex13,ex13a,ex14,ex15,ex16,ex16a,ex17,ex18]
      refine ih (x17,x18) _ ?_ h
      exact ⟨_,_,by simp [hw],rfl,by simp [g0,g4,g5,g29,g30,g31,ex9,ey10a,ey10b,ey10c,ex11,ex12,ex13,ex13a,ex14,ex15,ex16,ex16a,ex17,ex18]⟩
end Go.Proofs.YtcjephdjemapbaaDoor
