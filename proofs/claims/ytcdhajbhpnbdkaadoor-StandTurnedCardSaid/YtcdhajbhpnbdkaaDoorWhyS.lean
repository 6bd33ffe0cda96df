/-
  Why
  Printed by wip/tools/walk.py. Conditions: none; definitions and lemmas.
-/
import Derived.Test.YtcdhajbhpnbdkaaDoorBounds1
set_option linter.unusedSimpArgs false
set_option linter.unusedVariables false
namespace Go.Proofs.YtcdhajbhpnbdkaaDoor
open Go.Abs Go.Pur
set_option maxRecDepth 100000
set_option maxHeartbeats 2000000
attribute [local simp] EK_region EK_seq EK_cond EK_block EK_blk EK_loop EK_exit EK.ex EK_ret EK_skip EK_nil EO_cons EO_nil EO1_true EO1_false EO2_some EO3_some EB_true EB_false pwanted poper pq pev Go.Pur.look pputT isAssign drOf pinit Tr.get_set lget pvOf_int pvOf_bool pvOf_str pvOf_nil rdv_ak notOwn_ak prt_ak loose_ak rdv_own rdv_fz rdv_bor rdv_rf rdv_pt rdv_v rdv_a rdv_t rdv_r rdv_p rdv_s rdv_f pbin plen pload ppart idxAddr pcond Nat.blt goInt_eq prun_not prun_neg mayLoad ER_ret ER_normal presL presOne moved stor okDrop settle_v settle_l settle_a settle_p settle_f noref_v noref_fz noref_a norefs_nil norefs_cons pclose given dropB Y0_keep pevParts stors pvCells pvCells.go vcells pfill reps zipParts ownFz pcells cellOK one psrcLen srcFits psrc takeP pgrow take getPl setPl mapL plEq elder isList lowP pevs frzs addP partAt ble_lim24 killV_v killV_a killV_t killV_f killV_i killV_p killV_s killV_un killV_dead killV_lfz killV_lbor killV_lown killV_rfz killV_rbor killV_lak killV_rak frzV_v frzV_a frzV_t frzV_f frzV_i frzV_p frzV_s frzV_un frzV_dead frzV_lfz frzV_lbor frzV_lown frzV_rfz frzV_rbor frzV_lak frzV_rak killCell_v killCell_a killCell_t killCell_f killCell_i killCell_p killCell_s killCell_un killCell_dead killCell_lfz killCell_lbor killCell_lown killCell_rfz killCell_rbor killCell_lak killCell_rak killV_lrf killV_lpt killV_rpt frzV_lrf frzV_lpt frzV_rpt killCell_lrft killCell_lptt killCell_rptt killCell_lrfc killCell_lptc killCell_rptc argv_lak argv_rak argv_v argv_a argv_p argv_f argv_fz argv_bor argv_rf argv_pt argv_rc argv_own mayTurn_none argvs pcallOp firm refsTo_v refsTo_l refsTo_p refsTo_s refsTo_a refsTo_dead refsTo_nil refsTo_cons isOwn_lak ownFz_lak evSafe pskip plain pnewBlk fldAddr isOwn pput notOwn_fz notOwn_bor notOwn_own notOwn_rf notOwn_pt prt_fz prt_bor prt_own prt_rf prt_pt Go.Pur.freeze presM settles abin_and abin_or abin_andNot abin_mul abin_shr abin_shl abin_add abin_sub abin_eql abin_neq abin_lss abin_leq abin_gtr abin_geq hows pcallIn Y0_how Y0_part howOf partOf rdv_mown rdv_mfz rdv_mbor rdv_mrf killV_mown killV_mfz killV_mbor killV_mrf frzV_mown frzV_mfz frzV_mbor frzV_mrf killCell_mown killCell_mfz killCell_mbor killCell_mrf argv_mfz argv_mbor argv_mrf settle_m kls_v kls_l kls_a kls_t kls_r kls_p kls_s kls_f kls_i kls_it kls_un kls_dead kls_mown kls_mrf kls_mbor kls_mfz fzOf takable mapHere mapOwn mapTo flat toPlain toPlain.go ofFlat ofPair mapEs plook lookRes Y0_mv mvOf mvBlk premv keep43 keep54 keep92 keep105 sz3 by3 row3 zero3 sz4 by4 row4 zero4 sz5 by5 row5 zero5 sz9 by9 row9 shape9 zero9 sz22 by22 row22 shape22 zero22 sz24 by24 row24 zero24 parts24 field24_0 field24_1 sz27 by27 row27 zero27 parts27 field27_0 field27_1 sz28 by28 row28 zero28 sz32 by32 row32 shape32 zero32 sz46 by46 row46 shape46 zero46 sz54 by54 row54 shape54 zero54 parts54 sz56 by56 row56 zero56 parts56 field56_0 field56_1 field56_2 sz63 by63 row63 shape63 zero63 parts63 sz70 by70 row70 shape70 zero70 parts70 sz75 by75 row75 shape75 zero75 parts75 sz79 by79 row79 zero79 sz84 by84 row84 zero84 sz86 by86 row86 shape86 zero86 sz91 by91 row91 zero91 sz93 by93 row93 zero93 parts93 field93_0 sz97 by97 row97 zero97 sz100 by100 row100 zero100 sz102 by102 row102 zero102 sz105 by105 row105 zero105 parts105 field105_0 field105_1 field105_2 sz106 by106 row106 zero106 sz108 by108 row108 zero108 parts108 field108_0 field108_1 sz109 by109 row109 shape109 zero109 parts109 sz110 by110 row110 shape110 parts110 sz112 by112 row112 parts112 field112_0 field112_1 sz126 by126 row126 shape126 zero126 sz127 by127 row127 zero127 sz134 by134 row134 zero134 sz136 by136 row136 zero136 sz140 by140 row140 zero140 sz147 by147 row147 shape147 zero147 parts147 sz148 by148 row148 shape148 zero148 parts148 sz149 by149 row149 zero149 sz153 by153 row153 zero153 bs_size gAt gAt0 sAt sAt0 optPlain rows_len noMaker_eq kindOf vlOf abin_rem abin_quo mayTurn_none lowOf_none Go.Pur.partAt rows_nil rows_cons ble_add ble_add0 ble_same toPlain toPlain.go intIn2_0 intIn2_1 ble12 ble22 tv lv max_int min_int pplains ak_true ak_false apartP beq_add beq_add0 beq_add1 argv_s wok_none wok_low_iff lowOf_wok
attribute [local simp] ble_addc
def f105S (F : Nat) (p0 : Int) : Option (Bool) :=
  some false
theorem f105_is {p0 : Int} {hp : List (Option (List PV))} {F : Nat} {r : (Bool)}  (h : f105S F p0 = some r) :
    E Tryd.prog Y0 105 [iv p0] hp = some (.v (.bool r), hp, none) := by
  rw [E_bodyN 1 body105 rfl (by decide) rfl]
  simp only [Tryd.f105, Option.get_some]
  unfold f105S at h
  obtain rfl := inj_ok h
  simp
def f92S (F : Nat) (p0 : Int) (p1 : Int) : Option (Int) :=
  (f105S F p0).bind fun b1 =>
  (f105S F p1).bind fun b3 =>
  (match b1 with
  | true => ((match b3 with
  | true => (some 0)
  | false => (some (-1))))
  | false => ((match b3 with
  | true => (some 1)
  | false => ((some (decide (p0 < p1))).bind fun x5 =>
  (match x5 with
  | true => (some (-1))
  | false => ((some (decide (p1 < p0))).bind fun x6 =>
  (match x6 with
  | true => (some 1)
  | false => (some 0))))))))
theorem f92_is {p0 : Int} {p1 : Int} {hp : List (Option (List PV))} {F : Nat} {r : (Int)}  (h : f92S F p0 p1 = some r) :
    E Tryd.prog Y0 92 [iv p0, iv p1] hp = some (iv r, hp, none) := by
  rw [E_bodyN 2 body92 rfl (by decide) rfl]
  simp only [Tryd.f92, Option.get_some]
  unfold f92S at h
  obtain ⟨b1, e2, h⟩ := bind_ok h
  have e2 : ∀ hp, E Tryd.prog Y0 105 [iv p0] hp = some (.v (.bool b1), hp, none) := fun hp => f105_is  e2
  obtain ⟨b3, e4, h⟩ := bind_ok h
  have e4 : ∀ hp, E Tryd.prog Y0 105 [iv p1] hp = some (.v (.bool b3), hp, none) := fun hp => f105_is  e4
  cases b1
  case true =>
   cases b3
   case true =>
    obtain rfl := inj_ok h
    simp [e2, e4]
   obtain rfl := inj_ok h
   simp [e2, e4]
  cases b3
  case true =>
   obtain rfl := inj_ok h
   simp [e2, e4]
  obtain ⟨x5, ex5, h⟩ := bindT h
  cases x5
  case true =>
   obtain rfl := inj_ok h
   simp [e2, e4, ex5]
  obtain ⟨x6, ex6, h⟩ := bindT h
  cases x6
  case true =>
   obtain rfl := inj_ok h
   simp [e2, e4, ex5, ex6]
  obtain rfl := inj_ok h
  simp [e2, e4, ex5, ex6]
def f54_L0 (F : Nat) (p0 : List Int) (p1 : List Int) (x1 : Int) (K : Unit → Option (Int)) : Nat → Int → Option (Int)
  | 0, _ => none
  | n + 1, v2 => (some (decide (v2 < x1))).bind fun x3 =>
    (match x3 with
    | true => ((gI p0 v2).bind fun y4 =>
    (some ((p1.length : Int))).bind fun x5 =>
    (some (decide (x5 ≤ v2))).bind fun x6 =>
    (match x6 with
    | true => (some 1)
    | false => ((gI p1 v2).bind fun y7 =>
    (f92S F y4 y7).bind fun x8 =>
    (some (decide (x8 = 0))).bind fun x10 =>
    (match x10 with
    | true => ((some (IntKind.i64.wrap (v2 + 1))).bind fun x11 =>
    f54_L0 F p0 p1 x1 K n x11)
    | false => (some x8)))))
    | false => (K ()))
def f54S (F : Nat) (p0 : List Int) (p1 : List Int) : Option (Int) :=
  (some ((p0.length : Int))).bind fun x1 =>
  f54_L0 F p0 p1 x1 (fun _ =>
    (some ((p0.length : Int))).bind fun x12 =>
    (some ((p1.length : Int))).bind fun x13 =>
    (some (decide (x12 < x13))).bind fun x14 =>
    (match x14 with
    | true => (some (-1))
    | false => (some 0))) F 0
theorem f54_is {a0 : Bool} {c0 : Ck} {p0 : List Int} {a1 : Bool} {c1 : Ck} {p1 : List Int} {hp : List (Option (List PV))} {F : Nat} {r : (Int)}  (h : f54S F p0 p1 = some r) :
    E Tryd.prog Y0 54 [.l (ak a0) c0 p0.length (p0.map iv), .l (ak a1) c1 p1.length (p1.map iv)] hp = some (iv r, hp, none) := by
  rw [E_bodyN 2 body54 rfl (by decide) rfl]
  simp only [Tryd.f54, Option.get_some]
  unfold f54S at h
  cases a0 with
  | true =>
    obtain ⟨x1, ex1, h⟩ := bindT h
    simp [ex1]
    have hL0 := h; clear h
    refine loopS (S := f54_L0 F p0 p1 x1) (fun v2 σ => ∃ (ts : Tr PV) (w : Option Nat), wok hp.length w ∧ σ = ⟨[], ts, hp, w⟩ ∧ ts.get 0 = some (.l .bor c0 p0.length (p0.map iv)) ∧ ts.get 1 = some (.l (ak a1) c1 p1.length (p1.map iv)) ∧ ts.get 9 = some (.l .bor c0 p0.length (p0.map iv)) ∧ ts.get 10 = some (iv x1) ∧ ts.get 11 = some (iv v2) ∧ True) (fun _ σ => ∃ (ts : Tr PV) (w : Option Nat), wok hp.length w ∧ σ = ⟨[], ts, hp, w⟩ ∧ ts.get 0 = some (.l .bor c0 p0.length (p0.map iv)) ∧ ts.get 1 = some (.l (ak a1) c1 p1.length (p1.map iv)) ∧ True) (fun _ => rfl) hL0 ?_ ?_ ?_
    · exact ⟨_, _, by simp, rfl, by simp [ex1]⟩
    · rintro ⟨⟩ σ ⟨ts, w, hw, rfl, g0, g1, -⟩ h
      clear hL0
      try dsimp only at h
      obtain ⟨x12, ex12, h⟩ := bindT h
      obtain ⟨x13, ex13, h⟩ := bindT h
      obtain ⟨x14, ex14, h⟩ := bindT h
      cases x14
      case true =>
       obtain rfl := inj_ok h
       simp [g0, g1, ex12, ex13, ex14, hw]
      obtain rfl := inj_ok h
      simp [g0, g1, ex12, ex13, ex14, hw]
    · rintro k n v2 σ ⟨ts, w, hw, rfl, g0, g1, g9, g10, g11, -⟩ h ih ex
      clear hL0
      rw [f54_L0] at h
      obtain ⟨x3, ex3, h⟩ := bindT h
      cases x3
      case false =>
       simp [g0, g1, g9, g10, g11, ex3]
       refine ex () _ ?_ h
       exact ⟨_, _, by simp [hw], rfl, by simp [g0, g1, g9, g10, g11, ex3]⟩
      obtain ⟨y4, ey4, h⟩ := bind_ok h
      obtain ⟨ey4a, ey4e, ey4b, ey4c, ey4g⟩ := gI_ok rfl ey4
      obtain ⟨x5, ex5, h⟩ := bindT h
      obtain ⟨x6, ex6, h⟩ := bindT h
      cases x6
      case true =>
       obtain rfl := inj_ok h
       simp [g0, g1, g9, g10, g11, ex3, ey4a, ey4b, ey4c, ex5, ex6, hw]
      obtain ⟨y7, ey7, h⟩ := bind_ok h
      obtain ⟨ey7a, ey7e, ey7b, ey7c, ey7g⟩ := gI_ok rfl ey7
      obtain ⟨x8, e9, h⟩ := bind_ok h
      have e9 : ∀ hp, E Tryd.prog Y0 92 [iv y4, iv y7] hp = some (iv x8, hp, none) := fun hp => f92_is  e9
      obtain ⟨x10, ex10, h⟩ := bindT h
      cases x10
      case false =>
       obtain rfl := inj_ok h
       simp [g0, g1, g9, g10, g11, ex3, ey4a, ey4b, ey4c, ex5, ex6, ey7a, ey7b, ey7c, e9, ex10, hw]
      obtain ⟨x11, ex11, h⟩ := bindT h
      simp [g0, g1, g9, g10, g11, ex3, ey4a, ey4b, ey4c, ex5, ex6, ey7a, ey7b, ey7c, e9, ex10, ex11]
      refine ih x11 _ ?_ h
      exact ⟨_, _, by simp [hw], rfl, by simp [g0, g1, g9, g10, g11, ex3, ey4a, ey4b, ey4c, ex5, ex6, ey7a, ey7b, ey7c, e9, ex10, ex11]⟩
  | false =>
    obtain ⟨x1, ex1, h⟩ := bindT h
    simp [ex1]
    have hL0 := h; clear h
    refine loopS (S := f54_L0 F p0 p1 x1) (fun v2 σ => ∃ (ts : Tr PV) (w : Option Nat), wok hp.length w ∧ σ = ⟨[], ts, hp, w⟩ ∧ ts.get 0 = some (.l .fz c0 p0.length (p0.map iv)) ∧ ts.get 1 = some (.l (ak a1) c1 p1.length (p1.map iv)) ∧ ts.get 9 = some (.l .fz c0 p0.length (p0.map iv)) ∧ ts.get 10 = some (iv x1) ∧ ts.get 11 = some (iv v2) ∧ True) (fun _ σ => ∃ (ts : Tr PV) (w : Option Nat), wok hp.length w ∧ σ = ⟨[], ts, hp, w⟩ ∧ ts.get 0 = some (.l .fz c0 p0.length (p0.map iv)) ∧ ts.get 1 = some (.l (ak a1) c1 p1.length (p1.map iv)) ∧ True) (fun _ => rfl) hL0 ?_ ?_ ?_
    · exact ⟨_, _, by simp, rfl, by simp [ex1]⟩
    · rintro ⟨⟩ σ ⟨ts, w, hw, rfl, g0, g1, -⟩ h
      clear hL0
      try dsimp only at h
      obtain ⟨x12, ex12, h⟩ := bindT h
      obtain ⟨x13, ex13, h⟩ := bindT h
      obtain ⟨x14, ex14, h⟩ := bindT h
      cases x14
      case true =>
       obtain rfl := inj_ok h
       simp [g0, g1, ex12, ex13, ex14, hw]
      obtain rfl := inj_ok h
      simp [g0, g1, ex12, ex13, ex14, hw]
    · rintro k n v2 σ ⟨ts, w, hw, rfl, g0, g1, g9, g10, g11, -⟩ h ih ex
      clear hL0
      rw [f54_L0] at h
      obtain ⟨x3, ex3, h⟩ := bindT h
      cases x3
      case false =>
       simp [g0, g1, g9, g10, g11, ex3]
       refine ex () _ ?_ h
       exact ⟨_, _, by simp [hw], rfl, by simp [g0, g1, g9, g10, g11, ex3]⟩
      obtain ⟨y4, ey4, h⟩ := bind_ok h
      obtain ⟨ey4a, ey4e, ey4b, ey4c, ey4g⟩ := gI_ok rfl ey4
      obtain ⟨x5, ex5, h⟩ := bindT h
      obtain ⟨x6, ex6, h⟩ := bindT h
      cases x6
      case true =>
       obtain rfl := inj_ok h
       simp [g0, g1, g9, g10, g11, ex3, ey4a, ey4b, ey4c, ex5, ex6, hw]
      obtain ⟨y7, ey7, h⟩ := bind_ok h
      obtain ⟨ey7a, ey7e, ey7b, ey7c, ey7g⟩ := gI_ok rfl ey7
      obtain ⟨x8, e9, h⟩ := bind_ok h
      have e9 : ∀ hp, E Tryd.prog Y0 92 [iv y4, iv y7] hp = some (iv x8, hp, none) := fun hp => f92_is  e9
      obtain ⟨x10, ex10, h⟩ := bindT h
      cases x10
      case false =>
       obtain rfl := inj_ok h
       simp [g0, g1, g9, g10, g11, ex3, ey4a, ey4b, ey4c, ex5, ex6, ey7a, ey7b, ey7c, e9, ex10, hw]
      obtain ⟨x11, ex11, h⟩ := bindT h
      simp [g0, g1, g9, g10, g11, ex3, ey4a, ey4b, ey4c, ex5, ex6, ey7a, ey7b, ey7c, e9, ex10, ex11]
      refine ih x11 _ ?_ h
      exact ⟨_, _, by simp [hw], rfl, by simp [g0, g1, g9, g10, g11, ex3, ey4a, ey4b, ey4c, ex5, ex6, ey7a, ey7b, ey7c, e9, ex10, ex11]⟩
def f43_L0 (F : Nat) (p0a : Int) (p0b : List Int) (x1 : (Int × Int)) (x4 : Int) (K : List Int → Option ((Ck × List Int) × Int)) : Nat → List Int × Bool × Int → Option ((Ck × List Int) × Int)
  | 0, _ => none
  | n + 1, (v5, b6, v7) => (some (decide (v7 < x4))).bind fun x8 =>
    (match x8 with
    | true => ((match b6 with
    | true => ((onB v7 (fun n => (cnt n : Int))).bind fun x9 =>
    (some ((v5.length : Int))).bind fun x10 =>
    (some (decide (x10 < x9))).bind fun x11 =>
    (match x11 with
    | true => ((some (IntKind.u64.wrap (v7 + 1))).bind fun x12 =>
    f43_L0 F p0a p0b x1 x4 K n (v5, true, x12))
    | false => ((f87S F p0a p0b v7).bind fun x13 =>
    (some (decide (x13 = x1.1))).bind fun x15 =>
    (match x15 with
    | true => ((onB v7 bitsL).bind fun x16 =>
    (some ((x16.length : Int))).bind fun x17 =>
    (some (decide (x17 < x10))).bind fun x18 =>
    (match x18 with
    | true => ((some (IntKind.u64.wrap (v7 + 1))).bind fun x19 =>
    f43_L0 F p0a p0b x1 x4 K n (x16, true, x19))
    | false => ((f54S F x16 v5).bind fun x20 =>
    (some (decide (x20 < 0))).bind fun x22 =>
    (match x22 with
    | true => ((some (IntKind.u64.wrap (v7 + 1))).bind fun x23 =>
    f43_L0 F p0a p0b x1 x4 K n (x16, true, x23))
    | false => ((some (IntKind.u64.wrap (v7 + 1))).bind fun x24 =>
    f43_L0 F p0a p0b x1 x4 K n (v5, true, x24))))))
    | false => ((some (IntKind.u64.wrap (v7 + 1))).bind fun x25 =>
    f43_L0 F p0a p0b x1 x4 K n (v5, true, x25))))))
    | false => ((f87S F p0a p0b v7).bind fun x26 =>
    (some (decide (x26 = x1.1))).bind fun x28 =>
    (match x28 with
    | true => ((onB v7 bitsL).bind fun x29 =>
    (some (IntKind.u64.wrap (v7 + 1))).bind fun x30 =>
    f43_L0 F p0a p0b x1 x4 K n (x29, true, x30))
    | false => ((some (IntKind.u64.wrap (v7 + 1))).bind fun x31 =>
    f43_L0 F p0a p0b x1 x4 K n (v5, false, x31))))))
    | false => (K v5))
def f43S (F : Nat) (p0a : Int) (p0b : List Int) : Option ((Ck × List Int) × Int) :=
  (onS p0b (fewS p0a p0b, chk p0a p0b)).bind fun x1 =>
  (some (decide (x1.2 = 0))).bind fun x2 =>
  (match x2 with
  | true => ((some ((p0b.length : Int))).bind fun x3 =>
  (shlO .u64 1 x3).bind fun x4 =>
  f43_L0 F p0a p0b x1 x4 (fun v32 =>
    some ((.nz, v32), 0)) F ([], false, 0))
  | false => (some ((.nz, []), x1.2)))
theorem f43_is {p0a : Int} {c0b : Ck} {p0b : List Int} {hp : List (Option (List PV))} {F : Nat} {r : ((Ck × List Int) × Int)}  (h : f43S F p0a p0b = some r) :
    E Tryd.prog Y0 43 [.a [iv p0a, .l .fz c0b p0b.length (p0b.map iv)]] hp = some (.t [.l .fz r.1.1 r.1.2.length (r.1.2.map iv), iv r.2], hp, none) := by
  rw [E_bodyN 1 body43 rfl (by decide) rfl]
  simp only [Tryd.f43, Option.get_some]
  unfold f43S at h
  obtain ⟨x1, ex1, h⟩ := bind_ok h
  have ex1 : ∀ hp, E Tryd.prog Y0 33 [.a [iv p0a, .l .fz c0b p0b.length (p0b.map iv)]] hp = some (.t [iv x1.1, iv x1.2], hp, none) := fun hp => f33_is ex1
  obtain ⟨x2, ex2, h⟩ := bindT h
  cases x2
  case false =>
   obtain rfl := inj_ok h
   simp [ex1, ex2]
  obtain ⟨x3, ex3, h⟩ := bindT h
  obtain ⟨x4, ex4, h⟩ := bind_ok h
  obtain ⟨ex4a, ex4⟩ := shlO_ok ex4
  simp [ex1, ex2, ex3, ex4, ex4a]
  have hL0 := h; clear h
  refine loopS (S := f43_L0 F p0a p0b x1 x4) (fun (v5, b6, v7) σ => ∃ (ts : Tr PV) (w : Option Nat), wok hp.length w ∧ σ = ⟨[], ts, hp ++ [some [iv p0a, .l .fz c0b p0b.length (p0b.map iv)]], w⟩ ∧ ts.get 1 = some (.p hp.length 0) ∧ ts.get 4 = some (iv x1.1) ∧ ts.get 6 = some (.l .own .nz v5.length (v5.map iv)) ∧ ts.get 7 = some (.v (.bool b6)) ∧ ts.get 21 = some (kv .u64 x4) ∧ ts.get 22 = some (kv .u64 v7) ∧ True) (fun v32 σ => ∃ (ts : Tr PV) (w : Option Nat), wok hp.length w ∧ σ = ⟨[], ts, hp ++ [some [iv p0a, .l .fz c0b p0b.length (p0b.map iv)]], w⟩ ∧ ts.get 6 = some (.l .own .nz v32.length (v32.map iv)) ∧ True) (fun _ => rfl) hL0 ?_ ?_ ?_
  · exact ⟨_, _, by simp, rfl, by simp [ex1, ex2, ex3, ex4, ex4a]⟩
  · rintro v32 σ ⟨ts, w, hw, rfl, g6, -⟩ h
    clear hL0
    try dsimp only at h
    obtain rfl := inj_ok h
    simp [g6, hw]
  · rintro k n ⟨v5, b6, v7⟩ σ ⟨ts, w, hw, rfl, g1, g4, g6, g7, g21, g22, -⟩ h ih ex
    clear hL0
    rw [f43_L0.eq_def] at h; dsimp only at h
    obtain ⟨x8, ex8, h⟩ := bindT h
    cases x8
    case false =>
     simp [g1, g4, g6, g7, g21, g22, ex8]
     refine ex v5 _ ?_ h
     exact ⟨_, _, by simp [hw], rfl, by simp [g1, g4, g6, g7, g21, g22, ex8]⟩
    cases b6
    case false =>
     obtain ⟨x26, e27, h⟩ := bind_ok h
     have e27 : ∀ hp, E Tryd.prog Y0 87 [.a [iv p0a, .l .fz c0b p0b.length (p0b.map iv)], kv .u64 v7] hp = some (iv x26, hp, none) := fun hp => f87_is (c0b := c0b) e27
     obtain ⟨x28, ex28, h⟩ := bindT h
     cases x28
     case false =>
      obtain ⟨x31, ex31, h⟩ := bindT h
      simp [g1, g4, g6, g7, g21, g22, ex8, e27, ex28, ex31]
      refine ih (v5, false, x31) _ ?_ h
      exact ⟨_, _, by simp [hw], rfl, by simp [g1, g4, g6, g7, g21, g22, ex8, e27, ex28, ex31]⟩
     obtain ⟨x29, ex29, h⟩ := bind_ok h
     have ex29 : ∀ hp, E Tryd.prog Y0 68 [kv .u64 v7] hp = some (.l .own .nz x29.length (x29.map iv), hp, none) := fun hp => f68_is  ex29
     obtain ⟨x30, ex30, h⟩ := bindT h
     simp [g1, g4, g6, g7, g21, g22, ex8, e27, ex28, ex29, ex30]
     refine ih (x29, true, x30) _ ?_ h
     exact ⟨_, _, by simp [hw], rfl, by simp [g1, g4, g6, g7, g21, g22, ex8, e27, ex28, ex29, ex30]⟩
    obtain ⟨x9, ex9, h⟩ := bind_ok h
    have ex9 : ∀ hp, E Tryd.prog Y0 90 [kv .u64 v7] hp = some (iv x9, hp, none) := fun hp => f90_is  ex9
    obtain ⟨x10, ex10, h⟩ := bindT h
    obtain ⟨x11, ex11, h⟩ := bindT h
    cases x11
    case true =>
     obtain ⟨x12, ex12, h⟩ := bindT h
     simp [g1, g4, g6, g7, g21, g22, ex8, ex9, ex10, ex11, ex12]
     refine ih (v5, true, x12) _ ?_ h
     exact ⟨_, _, by simp [hw], rfl, by simp [g1, g4, g6, g7, g21, g22, ex8, ex9, ex10, ex11, ex12]⟩
    obtain ⟨x13, e14, h⟩ := bind_ok h
    have e14 : ∀ hp, E Tryd.prog Y0 87 [.a [iv p0a, .l .fz c0b p0b.length (p0b.map iv)], kv .u64 v7] hp = some (iv x13, hp, none) := fun hp => f87_is (c0b := c0b) e14
    obtain ⟨x15, ex15, h⟩ := bindT h
    cases x15
    case false =>
     obtain ⟨x25, ex25, h⟩ := bindT h
     simp [g1, g4, g6, g7, g21, g22, ex8, ex9, ex10, ex11, e14, ex15, ex25]
     refine ih (v5, true, x25) _ ?_ h
     exact ⟨_, _, by simp [hw], rfl, by simp [g1, g4, g6, g7, g21, g22, ex8, ex9, ex10, ex11, e14, ex15, ex25]⟩
    obtain ⟨x16, ex16, h⟩ := bind_ok h
    have ex16 : ∀ hp, E Tryd.prog Y0 68 [kv .u64 v7] hp = some (.l .own .nz x16.length (x16.map iv), hp, none) := fun hp => f68_is  ex16
    obtain ⟨x17, ex17, h⟩ := bindT h
    obtain ⟨x18, ex18, h⟩ := bindT h
    cases x18
    case true =>
     obtain ⟨x19, ex19, h⟩ := bindT h
     simp [g1, g4, g6, g7, g21, g22, ex8, ex9, ex10, ex11, e14, ex15, ex16, ex17, ex18, ex19]
     refine ih (x16, true, x19) _ ?_ h
     exact ⟨_, _, by simp [hw], rfl, by simp [g1, g4, g6, g7, g21, g22, ex8, ex9, ex10, ex11, e14, ex15, ex16, ex17, ex18, ex19]⟩
    obtain ⟨x20, e21, h⟩ := bind_ok h
    have e21 : ∀ hp, E Tryd.prog Y0 54 [.l .bor .nz x16.length (x16.map iv), .l .bor .nz v5.length (v5.map iv)] hp = some (iv x20, hp, none) := fun hp => f54_is (a0 := true) (c0 := .nz) (a1 := true) (c1 := .nz) e21
    obtain ⟨x22, ex22, h⟩ := bindT h
    cases x22
    case true =>
     obtain ⟨x23, ex23, h⟩ := bindT h
     simp [g1, g4, g6, g7, g21, g22, ex8, ex9, ex10, ex11, e14, ex15, ex16, ex17, ex18, e21, ex22, ex23]
     refine ih (x16, true, x23) _ ?_ h
     exact ⟨_, _, by simp [hw], rfl, by simp [g1, g4, g6, g7, g21, g22, ex8, ex9, ex10, ex11, e14, ex15, ex16, ex17, ex18, e21, ex22, ex23]⟩
    obtain ⟨x24, ex24, h⟩ := bindT h
    simp [g1, g4, g6, g7, g21, g22, ex8, ex9, ex10, ex11, e14, ex15, ex16, ex17, ex18, e21, ex22, ex24]
    refine ih (v5, true, x24) _ ?_ h
    exact ⟨_, _, by simp [hw], rfl, by simp [g1, g4, g6, g7, g21, g22, ex8, ex9, ex10, ex11, e14, ex15, ex16, ex17, ex18, e21, ex22, ex24]⟩
end Go.Proofs.YtcdhajbhpnbdkaaDoor
