/-
  walks, Pages
  Printed by wip/tools/walk.py. Conditions: none; definitions and lemmas.
-/
import Derived.Test.YtcjephdjemapbaaDoorPen
set_option linter.unusedSimpArgs false
set_option linter.unusedVariables false
namespace Go.Proofs.YtcjephdjemapbaaDoor
open Go.Abs Go.Pur
set_option maxRecDepth 100000
set_option maxHeartbeats 2000000
attribute [local simp] EK_region EK_seq EK_cond EK_block EK_blk EK_loop EK_exit EK.ex EK_ret EK_skip EK_nil EO_cons EO_nil EO1_true EO1_false EO2_some EO3_some EB_true EB_false pwanted poper pq pev Go.Pur.look pputT isAssign drOf pinit Tr.get_set lget pvOf_int pvOf_bool pvOf_str pvOf_nil rdv_ak notOwn_ak prt_ak loose_ak rdv_own rdv_fz rdv_bor rdv_rf rdv_pt rdv_v rdv_a rdv_t rdv_r rdv_p rdv_s rdv_f pbin plen pload ppart idxAddr pcond Nat.blt goInt_eq prun_not prun_neg mayLoad ER_ret ER_normal presL presOne moved stor okDrop settle_v settle_l settle_a settle_p settle_f noref_v noref_fz noref_a norefs_nil norefs_cons pclose given dropB Y0_keep pevParts stors pvCells pvCells.go vcells pfill reps zipParts ownFz pcells cellOK one psrcLen srcFits psrc takeP pgrow take getPl setPl mapL plEq elder isList lowP pevs frzs addP partAt ble_lim24 killV_v killV_a killV_t killV_f killV_i killV_p killV_s killV_un killV_dead killV_lfz killV_lbor killV_lown killV_rfz killV_rbor killV_lak killV_rak frzV_v frzV_a frzV_t frzV_f frzV_i frzV_p frzV_s frzV_un frzV_dead frzV_lfz frzV_lbor frzV_lown frzV_rfz frzV_rbor frzV_lak frzV_rak killCell_v killCell_a killCell_t killCell_f killCell_i killCell_p killCell_s killCell_un killCell_dead killCell_lfz killCell_lbor killCell_lown killCell_rfz killCell_rbor killCell_lak killCell_rak killV_lrf killV_lpt killV_rpt frzV_lrf frzV_lpt frzV_rpt killCell_lrft killCell_lptt killCell_rptt killCell_lrfc killCell_lptc killCell_rptc argv_lak argv_rak argv_v argv_a argv_p argv_f argv_fz argv_bor argv_rf argv_pt argv_rc argv_own mayTurn_none argvs pcallOp firm refsTo_v refsTo_l refsTo_p refsTo_s refsTo_a refsTo_dead refsTo_nil refsTo_cons isOwn_lak ownFz_lak evSafe pskip plain pnewBlk fldAddr isOwn pput notOwn_fz notOwn_bor notOwn_own notOwn_rf notOwn_pt prt_fz prt_bor prt_own prt_rf prt_pt Go.Pur.freeze presM settles abin_and abin_or abin_andNot abin_mul abin_shr abin_shl abin_add abin_sub abin_eql abin_neq abin_lss abin_leq abin_gtr abin_geq hows pcallIn Y0_how Y0_part howOf partOf rdv_mown rdv_mfz rdv_mbor rdv_mrf killV_mown killV_mfz killV_mbor killV_mrf frzV_mown frzV_mfz frzV_mbor frzV_mrf killCell_mown killCell_mfz killCell_mbor killCell_mrf argv_mfz argv_mbor argv_mrf settle_m kls_v kls_l kls_a kls_t kls_r kls_p kls_s kls_f kls_i kls_it kls_un kls_dead kls_mown kls_mrf kls_mbor kls_mfz fzOf takable mapHere mapOwn mapTo flat toPlain toPlain.go ofFlat ofPair mapEs plook lookRes Y0_mv mvOf mvBlk premv Y0_fzm fzmOf poperX pconv keep20 keep58 sz3 by3 row3 zero3 sz4 by4 row4 zero4 sz5 by5 row5 zero5 sz9 by9 row9 shape9 zero9 sz21 by21 row21 zero21 sz23 by23 row23 shape23 zero23 sz24 by24 row24 zero24 sz38 by38 row38 shape38 zero38 sz47 by47 row47 shape47 zero47 parts47 sz51 by51 row51 zero51 sz54 by54 row54 shape54 zero54 sz55 by55 row55 shape55 zero55 sz58 by58 row58 shape58 zero58 sz60 by60 row60 zero60 sz63 by63 row63 shape63 zero63 sz73 by73 row73 shape73 zero73 parts73 sz79 by79 row79 shape79 zero79 sz81 by81 row81 shape81 zero81 parts81 sz86 by86 row86 shape86 parts86 sz90 by90 row90 zero90 sz92 by92 row92 zero92 sz96 by96 row96 zero96 parts96 field96_0 field96_1 sz99 by99 row99 zero99 sz104 by104 row104 zero104 sz106 by106 row106 zero106 parts106 field106_0 field106_1 sz119 by119 row119 zero119 sz123 by123 row123 zero123 sz124 by124 row124 shape124 zero124 parts124 sz125 by125 row125 shape125 zero125 parts125 sz126 by126 row126 shape126 parts126 sz128 by128 row128 zero128 parts128 field128_0 field128_1 sz129 by129 row129 shape129 zero129 parts129 sz133 by133 row133 zero133 bs_size gAt gAt0 sAt sAt0 optPlain rows_len noMaker_eq kindOf vlOf abin_rem abin_quo mayTurn_none lowOf_none Go.Pur.partAt rows_nil rows_cons ble_add ble_add0 ble_same toPlain toPlain.go intIn2_0 intIn2_1 ble12 ble22 tv lv max_int min_int pplains ak_true ak_false apartP beq_add beq_add0 beq_add1 argv_s wok_none wok_low_iff lowOf_wok
theorem elm23Ref2 : elemSz Tryd.prog 23 = some 1 := by kernel_rfl
def f58_L0 (F : Nat) (p0 : List UInt8) (K : Ck × List (Int × Int) × Int × Int × Int × Int → Option ((Ck × List (Int × Int)))) : Nat → Ck × List (Int × Int) × Nat × Int × Int × Int × Int → Option ((Ck × List (Int × Int)))
  | 0, _ => none
  | n + 1, (c2, v3, v4, v5, v6, v7, v8) => (some (Nat.ble (v4 + 1) p0.length)).bind fun x9 =>
    (match x9 with
    | true => ((gA p0 v4).bind fun x10 =>
    (some (penBy (x10 : Int) (v7, v8))).bind fun x11 =>
    (some (IntKind.i64.wrap (v5 + x11.1))).bind fun x12 =>
    (some (IntKind.i64.wrap (v6 + x11.2))).bind fun x13 =>
    (app1 v3 (x12, x13)).bind fun x15 =>
    f58_L0 F p0 K n (.nz, x15, v4 + 1, x12, x13, x11.1, x11.2))
    | false => (K (c2, v3, v5, v6, v7, v8)))
def f58S (F : Nat) (p0 : List UInt8) : Option ((Ck × List (Int × Int))) :=
  f58_L0 F p0 (fun (c16, v17, v18, v19, v20, v21) =>
    some (c16, v17)) F (.full, [(0, 0), (1, 0)], 0, 1, 0, 1, 0)
theorem f58_is {p0 : List UInt8} {hp : List (Option (List PV))} {F : Nat} {r : ((Ck × List (Int × Int)))}  (h : f58S F p0 = some r) :
    E Tryd.prog Y0 58 [.v (.string (bs p0))] hp = some (.l (vlOf r.1) r.1 r.2.length (rows r.2), hp, none) := by
  rw [E_bodyN 1 body58 rfl (by decide) rfl]
  simp only [Tryd.f58, Option.get_some]
  unfold f58S at h
  have q1 : spliceP 0 [iv 1, iv 0, iv 1, iv 0] [iv 0, iv 0, iv 0, iv 0] = some [iv 1, iv 0, iv 1, iv 0] := rfl
  simp [q1]
  all_goals try (rw [mayStore_of [12, 15] (by kernel_rfl) (by simp [q1])])
  all_goals try simp [q1]
  have hL0 := h; clear h
  refine loopS (S := f58_L0 F p0) (fun (c2, v3, v4, v5, v6, v7, v8) σ => ∃ (ts : Tr PV) (w : Option Nat), wok hp.length w ∧ σ = ⟨[], ts, hp ++ [some [iv v5, iv v6, iv v7, iv v8]], w⟩ ∧ ts.get 3 = some (.l (vlOf c2) c2 v3.length (rows v3)) ∧ ts.get 5 = some (.f 85 [.p hp.length 0] []) ∧ ts.get 20 = some (.it (bs p0) v4) ∧ True) (fun (c16, v17, v18, v19, v20, v21) σ => ∃ (ts : Tr PV) (w : Option Nat), wok hp.length w ∧ σ = ⟨[], ts, hp ++ [some [iv v18, iv v19, iv v20, iv v21]], w⟩ ∧ ts.get 3 = some (.l (vlOf c16) c16 v17.length (rows v17)) ∧ True) (fun _ => rfl) hL0 ?_ ?_ ?_
  · exact ⟨_, _, by simp, rfl, by simp [q1]⟩
  · rintro ⟨c16, v17, v18, v19, v20, v21⟩ σ ⟨ts, w, hw, rfl, g3, -⟩ h
    clear hL0
    try dsimp only at h
    cases c16 with
    | full =>
      obtain rfl := inj_ok h
      simp [g3, hw]
    | nz =>
      obtain rfl := inj_ok h
      simp [g3, hw]
    | any =>
      obtain rfl := inj_ok h
      simp [g3, hw]
  · rintro k n ⟨c2, v3, v4, v5, v6, v7, v8⟩ σ ⟨ts, w, hw, rfl, g3, g5, g20, -⟩ h ih ex
    clear hL0
    rw [f58_L0] at h
    cases c2 with
    | full =>
      obtain ⟨x9, ex9, h⟩ := bindT h
      cases x9
      case false =>
       simp [g3, g5, g20, ex9]
       refine ex (Ck.full, v3, v5, v6, v7, v8) _ ?_ h
       exact ⟨_, _, by simp [hw], rfl, by simp [g3, g5, g20, ex9]⟩
      obtain ⟨x10, ex10, h⟩ := bind_ok h
      have ex10 := gA_ok ex10
      obtain ⟨x11, ex11, h⟩ := bindT h
      obtain ⟨x12, ex12, h⟩ := bindT h
      obtain ⟨x13, ex13, h⟩ := bindT h
      have q14 := @step_is v5 v6 v7 v8 (x10 : Int) hp
      rw [ex11, ex12, ex13] at q14
      obtain ⟨x15, ex15, h⟩ := bind_ok h
      obtain ⟨ex15a, ex15b, ex15c, ex15q⟩ := app1_rows ex15
      have ex15b := ex15b 19 (by decide)
      simp [g3, g5, g20, ex9, ex10, ex11, ex12, ex13, q14, ex15a, ex15b, ex15c]
      refine ih (.nz, x15, v4 + 1, x12, x13, x11.1, x11.2) _ ?_ h
      exact ⟨_, _, by simp [hw], rfl, by simp [g3, g5, g20, ex9, ex10, ex11, ex12, ex13, q14, ex15a, ex15b, ex15c]⟩
    | nz =>
      obtain ⟨x9, ex9, h⟩ := bindT h
      cases x9
      case false =>
       simp [g3, g5, g20, ex9]
       refine ex (Ck.nz, v3, v5, v6, v7, v8) _ ?_ h
       exact ⟨_, _, by simp [hw], rfl, by simp [g3, g5, g20, ex9]⟩
      obtain ⟨x10, ex10, h⟩ := bind_ok h
      have ex10 := gA_ok ex10
      obtain ⟨x11, ex11, h⟩ := bindT h
      obtain ⟨x12, ex12, h⟩ := bindT h
      obtain ⟨x13, ex13, h⟩ := bindT h
      have q14 := @step_is v5 v6 v7 v8 (x10 : Int) hp
      rw [ex11, ex12, ex13] at q14
      obtain ⟨x15, ex15, h⟩ := bind_ok h
      obtain ⟨ex15a, ex15b, ex15c, ex15q⟩ := app1_rows ex15
      have ex15b := ex15b 19 (by decide)
      simp [g3, g5, g20, ex9, ex10, ex11, ex12, ex13, q14, ex15a, ex15b, ex15c]
      refine ih (.nz, x15, v4 + 1, x12, x13, x11.1, x11.2) _ ?_ h
      exact ⟨_, _, by simp [hw], rfl, by simp [g3, g5, g20, ex9, ex10, ex11, ex12, ex13, q14, ex15a, ex15b, ex15c]⟩
    | any =>
      obtain ⟨x9, ex9, h⟩ := bindT h
      cases x9
      case false =>
       simp [g3, g5, g20, ex9]
       refine ex (Ck.any, v3, v5, v6, v7, v8) _ ?_ h
       exact ⟨_, _, by simp [hw], rfl, by simp [g3, g5, g20, ex9]⟩
      obtain ⟨x10, ex10, h⟩ := bind_ok h
      have ex10 := gA_ok ex10
      obtain ⟨x11, ex11, h⟩ := bindT h
      obtain ⟨x12, ex12, h⟩ := bindT h
      obtain ⟨x13, ex13, h⟩ := bindT h
      have q14 := @step_is v5 v6 v7 v8 (x10 : Int) hp
      rw [ex11, ex12, ex13] at q14
      obtain ⟨x15, ex15, h⟩ := bind_ok h
      obtain ⟨ex15a, ex15b, ex15c, ex15q⟩ := app1_rows ex15
      have ex15b := ex15b 19 (by decide)
      simp [g3, g5, g20, ex9, ex10, ex11, ex12, ex13, q14, ex15a, ex15b, ex15c]
      refine ih (.nz, x15, v4 + 1, x12, x13, x11.1, x11.2) _ ?_ h
      exact ⟨_, _, by simp [hw], rfl, by simp [g3, g5, g20, ex9, ex10, ex11, ex12, ex13, q14, ex15a, ex15b, ex15c]⟩
def f20_L0 (F : Nat) (x4 : (Ck × List Int)) (K : List Int × List Int → Option ((Ck × List Int) × (Ck × List Int) × Int)) : Nat → Int × List Int × List Int → Option ((Ck × List Int) × (Ck × List Int) × Int)
  | 0, _ => none
  | n + 1, (v12, m13, m14) => (some (decide (v12 < (x4.2.length : Int)))).bind fun x15 =>
    (match x15 with
    | true => ((gI x4.2 v12).bind fun y16 =>
    (some (Int.tmod y16 2)).bind fun x17 =>
    (if x17 = 0 then ((some (mulI .i64 2 v12)).bind fun x18 =>
    (some (IntKind.i64.wrap (x18 + 1))).bind fun x19 =>
    (some (IntKind.i64.wrap (x18 + 2))).bind fun x20 =>
    (gI m13 y16).bind fun y21 =>
    (sI m13 y16 x19).bind fun m22 =>
    (gI m14 y16).bind fun y23 =>
    (sI m14 y16 x20).bind fun m24 =>
    (some (IntKind.i64.wrap (v12 + 1))).bind fun x25 =>
    f20_L0 F x4 K n (x25, m22, m24)) else ((if x17 = 1 then ((some (mulI .i64 2 v12)).bind fun x26 =>
    (some (IntKind.i64.wrap (x26 + 1))).bind fun x27 =>
    (some (IntKind.i64.wrap (x26 + 2))).bind fun x28 =>
    (gI m14 y16).bind fun y29 =>
    (sI m14 y16 x27).bind fun m30 =>
    (gI m13 y16).bind fun y31 =>
    (sI m13 y16 x28).bind fun m32 =>
    (some (IntKind.i64.wrap (v12 + 1))).bind fun x33 =>
    f20_L0 F x4 K n (x33, m32, m30)) else (none)))))
    | false => (K (m13, m14)))
def f20S (F : Nat) (p0 : List UInt8) : Option ((Ck × List Int) × (Ck × List Int) × Int) :=
  (some (checkE p0)).bind fun x1 =>
  (some (decide (x1 = 0))).bind fun x3 =>
  (match x3 with
  | true => ((pileO p0).bind fun x4 =>
  (some ((x4.2.length : Int))).bind fun x5 =>
  (gN x4.2.length).bind fun x6 =>
  (some (List.replicate x4.2.length (0 : Int))).bind fun m8 =>
  (gN x4.2.length).bind fun x9 =>
  f20_L0 F x4 (fun (m36, m37) =>
    some ((.any, m36), (.any, m37), 0)) F (0, m8, m8))
  | false => (some ((.nz, []), (.nz, []), x1)))
theorem f20_is {p0 : List UInt8} {hp : List (Option (List PV))} {F : Nat} {r : ((Ck × List Int) × (Ck × List Int) × Int)}  (h : f20S F p0 = some r) :
    E Tryd.prog Y0 20 [.v (.string (bs p0))] hp = some (.t [.l .fz r.1.1 r.1.2.length (r.1.2.map iv), .l .fz r.2.1.1 r.2.1.2.length (r.2.1.2.map iv), iv r.2.2], hp, none) := by
  rw [E_bodyN 1 body20 rfl (by decide) rfl]
  simp only [Tryd.f20, Option.get_some]
  unfold f20S at h
  replace h := bindT h; obtain ⟨x1, ex1, h⟩ := h
  have q2 : ∀ hp, E Tryd.prog Y0 27 [.v (.string (bs p0))] hp = some (iv x1, hp, none) := fun hp => f27_is ex1
  replace h := bindT h; obtain ⟨x3, ex3, h⟩ := h
  cases x3
  case false =>
   obtain rfl := inj_ok h
   simp [ex1, q2, ex3]
  replace h := bind_ok h; obtain ⟨x4, ex4, h⟩ := h
  have ex4 : ∀ hp, E Tryd.prog Y0 55 [.v (.string (bs p0))] hp = some (.l .fz x4.1 x4.2.length (x4.2.map iv), hp, none) := fun hp => f55_is ex4
  replace h := bindT h; obtain ⟨x5, ex5, h⟩ := h
  subst ex5
  replace h := bind_ok h; obtain ⟨x6, ex6, h⟩ := h
  have ex6 := gN_ok ex6 10 (by decide)
  replace h := bind_ok h; obtain ⟨m8, em8, h⟩ := h
  have em8 := inj_ok em8
  have em8r : reps [iv 0] x4.2.length = m8.map iv := by rw [← em8]; exact reps_rep
  have hl0 : m8.length = x4.2.length := by rw [← em8]; exact rep_len
  replace h := bind_ok h; obtain ⟨x9, ex9, h⟩ := h
  have ex9 := gN_ok ex9 10 (by decide)
  have hl1 : m8.length = x4.2.length := by rw [← em8]; exact rep_len
  have q11 : spliceP 0 [.s hp.length 0 x4.2.length x4.2.length, .s (hp.length + 1) 0 x4.2.length x4.2.length] [.l .own .nz 0 [], .l .own .nz 0 []] = some [.s hp.length 0 x4.2.length x4.2.length, .s (hp.length + 1) 0 x4.2.length x4.2.length] := rfl
  simp [ex1, q2, ex3, ex4, ex6, em8r, hl0, ex9, hl1, q11]
  all_goals try (rw [mayStore_of [] (by kernel_rfl) (by simp [ex1, q2, ex3, ex4, ex6, em8r, hl0, ex9, hl1, q11])])
  all_goals try simp [ex1, q2, ex3, ex4, ex6, em8r, hl0, ex9, hl1, q11]
  have hL0 := h; clear h
  refine loopS (S := f20_L0 F x4) (fun (v12, m13, m14) σ => ∃ (ts : Tr PV) (w : Option Nat), wok hp.length w ∧ σ = ⟨[], ts, hp ++ [some (m13.map iv), some (m14.map iv), some [.s hp.length 0 x4.2.length x4.2.length, .s (hp.length + 1) 0 x4.2.length x4.2.length]], w⟩ ∧ ts.get 7 = some (.p (hp.length + 2) 0) ∧ ts.get 24 = some (.l .fz x4.1 x4.2.length (x4.2.map iv)) ∧ ts.get 25 = some (iv (x4.2.length : Int)) ∧ ts.get 26 = some (iv v12) ∧ m13.length = x4.2.length ∧ m14.length = x4.2.length ∧ True) (fun (m36, m37) σ => ∃ (ts : Tr PV) (w : Option Nat), wok hp.length w ∧ σ = ⟨[], ts, hp ++ [some (m36.map iv), some (m37.map iv), some [.s hp.length 0 x4.2.length x4.2.length, .s (hp.length + 1) 0 x4.2.length x4.2.length]], w⟩ ∧ ts.get 7 = some (.p (hp.length + 2) 0) ∧ m36.length = x4.2.length ∧ m37.length = x4.2.length ∧ True) (fun _ => rfl) hL0 ?_ ?_ ?_
  · exact ⟨_, _, by simp, rfl, by simp [ex1, q2, ex3, ex4, ex6, em8r, hl0, ex9, hl1, q11]⟩
  · rintro ⟨m36, m37⟩ σ ⟨ts, w, hw, rfl, g7, hl0, hl1, -⟩ h
    clear hL0
    try dsimp only at h
    have st38 := settle_list (sz := elemSz Tryd.prog) (base := hp.length) (hp := hp ++ [some (m36.map iv), some (m37.map iv), some [.s hp.length 0 x4.2.length x4.2.length, .s (hp.length + 1) 0 x4.2.length x4.2.length]]) (t := 23) (b := hp.length) (cap := x4.2.length) iv (by omega) elm23Ref2 (by simp) hl0 (by intro z; rfl)
    have st39 := settle_list (sz := elemSz Tryd.prog) (base := hp.length) (hp := hp ++ [some (m36.map iv), some (m37.map iv), some [.s hp.length 0 x4.2.length x4.2.length, .s (hp.length + 1) 0 x4.2.length x4.2.length]]) (t := 23) (b := (hp.length + 1)) (cap := x4.2.length) iv (by omega) elm23Ref2 (by simp) hl1 (by intro z; rfl)
    obtain rfl := inj_ok h
    simp [g7, hl0, hl1, st38, st39, hw]
  · rintro k n ⟨v12, m13, m14⟩ σ ⟨ts, w, hw, rfl, g7, g24, g25, g26, hl0, hl1, -⟩ h ih ex
    clear hL0
    rw [f20_L0] at h
    replace h := bindT h; obtain ⟨x15, ex15, h⟩ := h
    cases x15
    case false =>
     simp [g7, g24, g25, g26, hl0, hl1, ex15]
     refine ex (m13, m14) _ ?_ h
     exact ⟨_, _, by simp [hw], rfl, by simp [g7, g24, g25, g26, hl0, hl1, ex15]⟩
    replace h := bind_ok h; obtain ⟨y16, ey16, h⟩ := h
    obtain ⟨ey16a, ey16e, ey16b, ey16c, ey16g⟩ := gI_ok rfl ey16
    replace h := bindT h; obtain ⟨x17, ex17, h⟩ := h
    by_cases h35 : x17 = 0
    · rw [if_pos h35] at h; subst h35
      have w1 : IntKind.i64.wrap (1) = 1 := rfl
      replace h := bindT h; obtain ⟨x18, ex18, h⟩ := h
      replace h := bindT h; obtain ⟨x19, ex19, h⟩ := h
      replace h := bindT h; obtain ⟨x20, ex20, h⟩ := h
      replace h := bind_ok h; obtain ⟨y21, ey21, h⟩ := h
      obtain ⟨ey21a, ey21e, ey21b, ey21c, ey21g⟩ := gI_ok hl0 ey21
      replace h := bind_ok h; obtain ⟨m22, em22, h⟩ := h
      obtain ⟨em22a, em22e, em22l, em22s, em22q⟩ := sI_ok iv hl0 em22
      have hl0 := em22l
      replace h := bind_ok h; obtain ⟨y23, ey23, h⟩ := h
      obtain ⟨ey23a, ey23e, ey23b, ey23c, ey23g⟩ := gI_ok hl1 ey23
      replace h := bind_ok h; obtain ⟨m24, em24, h⟩ := h
      obtain ⟨em24a, em24e, em24l, em24s, em24q⟩ := sI_ok iv hl1 em24
      have hl1 := em24l
      replace h := bindT h; obtain ⟨x25, ex25, h⟩ := h
      simp [g7, g24, g25, g26, hl0, hl1, ex15, ey16a, ey16b, ey16c, ex17, w1, ex18, ex19, ex20, ey21a, ey21b, ey21c, em22a, em22s, ey23a, ey23b, ey23c, em24a, em24s, ex25]
      all_goals try (rw [mayStore_of [33, 39] (by kernel_rfl) (by simp [g7, g24, g25, g26, hl0, hl1, ex15, ey16a, ey16b, ey16c, ex17, w1, ex18, ex19, ex20, ey21a, ey21b, ey21c, em22a, em22s, ey23a, ey23b, ey23c, em24a, em24s, ex25])])
      all_goals try simp [g7, g24, g25, g26, hl0, hl1, ex15, ey16a, ey16b, ey16c, ex17, w1, ex18, ex19, ex20, ey21a, ey21b, ey21c, em22a, em22s, ey23a, ey23b, ey23c, em24a, em24s, ex25]
      all_goals try (rw [mayStore_of [33, 39] (by kernel_rfl) (by simp [g7, g24, g25, g26, hl0, hl1, ex15, ey16a, ey16b, ey16c, ex17, w1, ex18, ex19, ex20, ey21a, ey21b, ey21c, em22a, em22s, ey23a, ey23b, ey23c, em24a, em24s, ex25])])
      all_goals try simp [g7, g24, g25, g26, hl0, hl1, ex15, ey16a, ey16b, ey16c, ex17, w1, ex18, ex19, ex20, ey21a, ey21b, ey21c, em22a, em22s, ey23a, ey23b, ey23c, em24a, em24s, ex25]
      refine ih (x25, m22, m24) _ ?_ h
      exact ⟨_, _, by simp [hw], rfl, by simp [g7, g24, g25, g26, hl0, hl1, ex15, ey16a, ey16b, ey16c, ex17, w1, ex18, ex19, ex20, ey21a, ey21b, ey21c, em22a, em22s, ey23a, ey23b, ey23c, em24a, em24s, ex25]⟩
    · rw [if_neg h35] at h
      by_cases h34 : x17 = 1
      · rw [if_pos h34] at h; subst h34
        have w0 : IntKind.i64.wrap (0) = 0 := rfl
        replace h := bindT h; obtain ⟨x26, ex26, h⟩ := h
        replace h := bindT h; obtain ⟨x27, ex27, h⟩ := h
        replace h := bindT h; obtain ⟨x28, ex28, h⟩ := h
        replace h := bind_ok h; obtain ⟨y29, ey29, h⟩ := h
        obtain ⟨ey29a, ey29e, ey29b, ey29c, ey29g⟩ := gI_ok hl1 ey29
        replace h := bind_ok h; obtain ⟨m30, em30, h⟩ := h
        obtain ⟨em30a, em30e, em30l, em30s, em30q⟩ := sI_ok iv hl1 em30
        have hl1 := em30l
        replace h := bind_ok h; obtain ⟨y31, ey31, h⟩ := h
        obtain ⟨ey31a, ey31e, ey31b, ey31c, ey31g⟩ := gI_ok hl0 ey31
        replace h := bind_ok h; obtain ⟨m32, em32, h⟩ := h
        obtain ⟨em32a, em32e, em32l, em32s, em32q⟩ := sI_ok iv hl0 em32
        have hl0 := em32l
        replace h := bindT h; obtain ⟨x33, ex33, h⟩ := h
        simp [g7, g24, g25, g26, hl0, hl1, ex15, ey16a, ey16b, ey16c, ex17, w0, ex26, ex27, ex28, ey29a, ey29b, ey29c, em30a, em30s, ey31a, ey31b, ey31c, em32a, em32s, ex33]
        all_goals try (rw [mayStore_of [33, 39] (by kernel_rfl) (by simp [g7, g24, g25, g26, hl0, hl1, ex15, ey16a, ey16b, ey16c, ex17, w0, ex26, ex27, ex28, ey29a, ey29b, ey29c, em30a, em30s, ey31a, ey31b, ey31c, em32a, em32s, ex33])])
        all_goals try simp [g7, g24, g25, g26, hl0, hl1, ex15, ey16a, ey16b, ey16c, ex17, w0, ex26, ex27, ex28, ey29a, ey29b, ey29c, em30a, em30s, ey31a, ey31b, ey31c, em32a, em32s, ex33]
        all_goals try (rw [mayStore_of [33, 39] (by kernel_rfl) (by simp [g7, g24, g25, g26, hl0, hl1, ex15, ey16a, ey16b, ey16c, ex17, w0, ex26, ex27, ex28, ey29a, ey29b, ey29c, em30a, em30s, ey31a, ey31b, ey31c, em32a, em32s, ex33])])
        all_goals try simp [g7, g24, g25, g26, hl0, hl1, ex15, ey16a, ey16b, ey16c, ex17, w0, ex26, ex27, ex28, ey29a, ey29b, ey29c, em30a, em30s, ey31a, ey31b, ey31c, em32a, em32s, ex33]
        refine ih (x33, m32, m30) _ ?_ h
        exact ⟨_, _, by simp [hw], rfl, by simp [g7, g24, g25, g26, hl0, hl1, ex15, ey16a, ey16b, ey16c, ex17, w0, ex26, ex27, ex28, ey29a, ey29b, ey29c, em30a, em30s, ey31a, ey31b, ey31c, em32a, em32s, ex33]⟩
      · rw [if_neg h34] at h
        cases h
end Go.Proofs.YtcjephdjemapbaaDoor
