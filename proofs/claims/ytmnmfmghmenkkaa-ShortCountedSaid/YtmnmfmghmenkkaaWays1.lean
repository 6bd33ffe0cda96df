/-
  Places of a part, counted; the first ones.
  Printed by wip/tools/walk.py. Conditions: none; definitions and lemmas.
-/
import Derived.Test.YtmnmfmghmenkkaaHolds1
import Derived.Test.YtmnmfmghmenkkaaPurJ
set_option linter.unusedSimpArgs false
set_option linter.unusedVariables false
namespace Go.Proofs.Ytmnmfmghmenkkaa
open Go.Abs Go.Pur
set_option maxRecDepth 100000
set_option maxHeartbeats 2000000
attribute [local simp] EK_region EK_seq EK_cond EK_block EK_blk EK_loop EK_exit EK.ex EK_ret EK_skip EK_nil EO_cons EO_nil EO1_true EO1_false EO2_some EO3_some EB_true EB_false pwanted poper pq pev Go.Pur.look pputT isAssign drOf pinit Tr.get_set lget pvOf_int pvOf_bool pvOf_str pvOf_nil rdv_ak notOwn_ak prt_ak loose_ak rdv_own rdv_fz rdv_bor rdv_rf rdv_pt rdv_v rdv_a rdv_t rdv_r rdv_p rdv_s rdv_f pbin plen pload ppart idxAddr pcond Nat.blt goInt_eq prun_not prun_neg mayLoad ER_ret ER_normal presL presOne moved stor okDrop settle_v settle_l settle_a settle_p settle_f noref_v noref_fz noref_a norefs_nil norefs_cons pclose given dropB Y0_keep pevParts stors pvCells pvCells.go vcells pfill reps zipParts ownFz pcells cellOK one psrcLen srcFits psrc takeP pgrow take getPl setPl mapL plEq elder isList lowP pevs frzs addP partAt ble_lim24 killV_v killV_a killV_t killV_f killV_i killV_p killV_s killV_un killV_dead killV_lfz killV_lbor killV_lown killV_rfz killV_rbor killV_lak killV_rak frzV_v frzV_a frzV_t frzV_f frzV_i frzV_p frzV_s frzV_un frzV_dead frzV_lfz frzV_lbor frzV_lown frzV_rfz frzV_rbor frzV_lak frzV_rak killCell_v killCell_a killCell_t killCell_f killCell_i killCell_p killCell_s killCell_un killCell_dead killCell_lfz killCell_lbor killCell_lown killCell_rfz killCell_rbor killCell_lak killCell_rak killV_lrf killV_lpt killV_rpt frzV_lrf frzV_lpt frzV_rpt killCell_lrft killCell_lptt killCell_rptt killCell_lrfc killCell_lptc killCell_rptc argv_lak argv_rak argv_v argv_a argv_p argv_f argv_fz argv_bor argv_rf argv_pt argv_rc argv_own mayTurn_none argvs pcallOp firm refsTo_v refsTo_l refsTo_p refsTo_s refsTo_a refsTo_dead refsTo_nil refsTo_cons isOwn_lak ownFz_lak evSafe pskip plain pnewBlk fldAddr isOwn pput notOwn_fz notOwn_bor notOwn_own notOwn_rf notOwn_pt prt_fz prt_bor prt_own prt_rf prt_pt Go.Pur.freeze presM settles abin_and abin_or abin_andNot abin_mul abin_shr abin_shl abin_add abin_sub abin_eql abin_neq abin_lss abin_leq abin_gtr abin_geq hows pcallIn Y0_how Y0_part howOf partOf rdv_mown rdv_mfz rdv_mbor rdv_mrf killV_mown killV_mfz killV_mbor killV_mrf frzV_mown frzV_mfz frzV_mbor frzV_mrf killCell_mown killCell_mfz killCell_mbor killCell_mrf argv_mfz argv_mbor argv_mrf settle_m kls_v kls_l kls_a kls_t kls_r kls_p kls_s kls_f kls_i kls_it kls_un kls_dead kls_mown kls_mrf kls_mbor kls_mfz fzOf takable mapHere mapOwn mapTo flat toPlain toPlain.go ofFlat ofPair mapEs plook lookRes Y0_mv mvOf mvBlk premv Y0_fzm fzmOf poperX pconv keep20 keep22 sz3 by3 row3 zero3 sz4 by4 row4 zero4 sz5 by5 row5 zero5 sz9 by9 row9 shape9 zero9 sz21 by21 row21 zero21 sz22 by22 row22 zero22 sz24 by24 row24 zero24 sz29 by29 row29 shape29 zero29 sz36 by36 row36 shape36 zero36 sz52 by52 row52 shape52 zero52 parts52 sz54 by54 row54 zero54 parts54 field54_0 field54_1 sz58 by58 row58 zero58 mt58 az3 sz63 by63 row63 zero63 sz66 by66 row66 shape66 zero66 parts66 sz67 by67 row67 shape67 zero67 sz75 by75 row75 shape75 zero75 sz76 by76 row76 shape76 zero76 sz78 by78 row78 zero78 mt78 sz79 by79 row79 shape79 zero79 sz92 by92 row92 zero92 sz94 by94 row94 zero94 parts94 field94_0 field94_1 sz99 by99 row99 shape99 zero99 sz102 by102 row102 zero102 mt102 az4 sz103 by103 row103 zero103 mt103 sz106 by106 row106 zero106 parts106 field106_0 field106_1 sz108 by108 row108 zero108 parts108 field108_0 field108_1 sz109 by109 row109 shape109 zero109 sz110 by110 row110 zero110 mt110 sz112 by112 row112 zero112 sz115 by115 row115 zero115 sz116 by116 row116 zero116 sz119 by119 row119 zero119 sz127 by127 row127 zero127 sz129 by129 row129 zero129 sz130 by130 row130 zero130 sz134 by134 row134 zero134 bs_size gAt gAt0 sAt sAt0 optPlain rows_len noMaker_eq kindOf vlOf abin_rem abin_quo mayTurn_none lowOf_none Go.Pur.partAt rows_nil rows_cons ble_add ble_add0 ble_same toPlain toPlain.go intIn2_0 intIn2_1 ble12 ble22 tv lv max_int min_int pplains ak_true ak_false apartP beq_add beq_add0 beq_add1 argv_s wok_none wok_low_iff lowOf_wok
def f20_L1 (F : Nat) (p1 : List UInt8) (y17 : Int) (K : List Int → Option (Int × Int)) : Nat → Int × List Int → Option (Int × Int)
  | 0, _ => none
  | n + 1, (v19, m20) => (some (decide (0 < v19))).bind fun x21 =>
    (match x21 with
    | true => ((some (IntKind.i64.wrap (v19 - 1))).bind fun x22 =>
    (gS p1 x22).bind fun x23 =>
    (some (decide (x23 = y17))).bind fun x24 =>
    (match x24 with
    | true => ((gI m20 v19).bind fun y25 =>
    (gI m20 x22).bind fun y26 =>
    (some (IntKind.i64.wrap (y25 + y26))).bind fun x27 =>
    (sI m20 v19 x27).bind fun m28 =>
    f20_L1 F p1 y17 K n (x22, m28))
    | false => (f20_L1 F p1 y17 K n (x22, m20))))
    | false => (K m20))
def f20_L0 (F : Nat) (p1 : List UInt8) (x12 : List Int) (x13 : Int) (K : List Int → Option (Int × Int)) : Nat → Int × List Int → Option (Int × Int)
  | 0, _ => none
  | n + 1, (v14, m15) => (some (decide (v14 < x13))).bind fun x16 =>
    (match x16 with
    | true => ((gI x12 v14).bind fun y17 =>
    (some ((p1.length : Int))).bind fun x18 =>
    f20_L1 F p1 y17 (fun m29 =>
      (some (IntKind.i64.wrap (v14 + 1))).bind fun x30 =>
      f20_L0 F p1 x12 x13 K n (x30, m29)) F (x18, m15))
    | false => (K m15))
def f20S (F : Nat) (p0 : List UInt8) (p1 : List UInt8) : Option (Int × Int) :=
  (f57S F [p0, p1]).bind fun x1 =>
  (some (decide (x1 = 0))).bind fun x3 =>
  (match x3 with
  | true => ((some ((p1.length : Int))).bind fun x4 =>
  (some (IntKind.i64.wrap (x4 + 1))).bind fun x5 =>
  (mkN x5).bind fun x6 =>
  (gN x6).bind fun x7 =>
  (some (List.replicate x6 (0 : Int))).bind fun m9 =>
  (gI m9 0).bind fun y10 =>
  (sI m9 0 1).bind fun m11 =>
  (bytO p0).bind fun x12 =>
  (some ((x12.length : Int))).bind fun x13 =>
  f20_L0 F p1 x12 x13 (fun m31 =>
    (some ((p1.length : Int))).bind fun x32 =>
    (gI m31 x32).bind fun y33 =>
    some (y33, 0)) F (0, m11))
  | false => (some (0, x1)))
theorem f20_is {p0 : List UInt8} {p1 : List UInt8} {hp : List (Option (List PV))} {F : Nat} {r : (Int × Int)}  (h : f20S F p0 p1 = some r) :
    E Try.prog Y0 20 [.v (.string (bs p0)), .v (.string (bs p1))] hp = some (.t [iv r.1, iv r.2], hp, none) := by
  rw [E_bodyN 2 body20 rfl (by decide) rfl]
  simp only [Try.f20, Option.get_some]
  unfold f20S at h
  replace h := bind_ok h; obtain ⟨x1, e2, h⟩ := h
  have e2 : ∀ hp, E Try.prog Y0 57 [.l .fz .full 2 [.v (.string (bs p0)), .v (.string (bs p1))]] hp = some (iv x1, hp, none) := fun hp => f57_is (a0 := false) (c0 := .full) e2
  replace h := bindT h; obtain ⟨x3, ex3, h⟩ := h
  cases x3
  case false =>
   obtain rfl := inj_ok h
   simp [e2, ex3]
  replace h := bindT h; obtain ⟨x4, ex4, h⟩ := h
  replace h := bindT h; obtain ⟨x5, ex5, h⟩ := h
  replace h := bind_ok h; obtain ⟨x6, ex6, h⟩ := h
  obtain ⟨ex6a, ex6b, ex6c⟩ := mkN_ok ex6
  subst ex6a
  replace h := bind_ok h; obtain ⟨x7, ex7, h⟩ := h
  have ex7 := gN_ok ex7 10 (by decide)
  replace h := bind_ok h; obtain ⟨m9, em9, h⟩ := h
  have em9 := inj_ok em9
  have em9r : reps [iv 0] x6 = m9.map iv := by rw [← em9]; exact reps_rep
  have hl0 : m9.length = x6 := by rw [← em9]; exact rep_len
  replace h := bind_ok h; obtain ⟨y10, ey10, h⟩ := h
  obtain ⟨ey10a, ey10b, ey10c⟩ := gI_lit (k := 0) hl0 ey10
  have ey10a : ∀ j, intIn x6 (.int j 0) = some 0 := ey10a
  replace h := bind_ok h; obtain ⟨m11, em11, h⟩ := h
  obtain ⟨em11a, em11e, em11l, em11s, em11q⟩ := sI_ok iv hl0 em11
  replace em11s : spliceP 0 _ _ = _ := em11s
  have hl0 := em11l
  replace h := bind_ok h; obtain ⟨x12, ex12, h⟩ := h
  obtain ⟨ex12l, ex12m, ex12s⟩ := bytO_ok ex12
  replace h := bindT h; obtain ⟨x13, ex13, h⟩ := h
  simp [e2, ex3, ex4, ex5, ex7, em9r, hl0, ey10a, ey10b, ey10c, em11a, em11s, ex12l, ex12m, ex12s, ex13]
  have hL0 := h; clear h
  refine loopS (S := f20_L0 F p1 x12 x13) (fun (v14, m15) σ => ∃ (ts : Tr PV) (w : Option Nat), wok hp.length w ∧ σ = ⟨[], ts, hp ++ [some (m15.map iv)], w⟩ ∧ ts.get 1 = some (.v (.string (bs p1))) ∧ ts.get 7 = some (.s hp.length 0 x6 x6) ∧ ts.get 25 = some (.l .fz .any x12.length (x12.map (kv .u8))) ∧ ts.get 26 = some (iv x13) ∧ ts.get 27 = some (iv v14) ∧ m15.length = x6 ∧ True) (fun m31 σ => ∃ (ts : Tr PV) (w : Option Nat), wok hp.length w ∧ σ = ⟨[], ts, hp ++ [some (m31.map iv)], w⟩ ∧ ts.get 1 = some (.v (.string (bs p1))) ∧ ts.get 7 = some (.s hp.length 0 x6 x6) ∧ m31.length = x6 ∧ True) (fun _ => rfl) hL0 ?_ ?_ ?_
  · exact ⟨_, _, by simp, rfl, by simp [e2, ex3, ex4, ex5, ex7, em9r, hl0, ey10a, ey10b, ey10c, em11a, em11s, ex12l, ex12m, ex12s, ex13]⟩
  · rintro m31 σ ⟨ts, w, hw, rfl, g1, g7, hl0, -⟩ h
    clear hL0
    try dsimp only at h
    replace h := bindT h; obtain ⟨x32, ex32, h⟩ := h
    replace h := bind_ok h; obtain ⟨y33, ey33, h⟩ := h
    obtain ⟨ey33a, ey33e, ey33b, ey33c, ey33g⟩ := gI_ok hl0 ey33
    obtain rfl := inj_ok h
    simp [g1, g7, hl0, ex32, ey33a, ey33b, ey33c, hw]
  · rintro k n ⟨v14, m15⟩ σ ⟨ts, w, hw, rfl, g1, g7, g25, g26, g27, hl0, -⟩ h ih ex
    clear hL0
    rw [f20_L0] at h
    replace h := bindT h; obtain ⟨x16, ex16, h⟩ := h
    cases x16
    case false =>
     simp [g1, g7, g25, g26, g27, hl0, ex16]
     refine ex m15 _ ?_ h
     exact ⟨_, _, by simp [hw], rfl, by simp [g1, g7, g25, g26, g27, hl0, ex16]⟩
    replace h := bind_ok h; obtain ⟨y17, ey17, h⟩ := h
    obtain ⟨ey17a, ey17e, ey17b, ey17c, ey17g⟩ := gI_ok rfl ey17
    replace h := bindT h; obtain ⟨x18, ex18, h⟩ := h
    simp [g1, g7, g25, g26, g27, hl0, ex16, ey17a, ey17b, ey17c, ex18]
    have hL1 := h; clear h
    refine loopS (S := f20_L1 F p1 y17) (fun (v19, m20) σ => ∃ (ts : Tr PV) (w : Option Nat), wok hp.length w ∧ σ = ⟨[], ts, hp ++ [some (m20.map iv)], w⟩ ∧ ts.get 1 = some (.v (.string (bs p1))) ∧ ts.get 7 = some (.s hp.length 0 x6 x6) ∧ ts.get 9 = some (kv .u8 y17) ∧ ts.get 10 = some (iv v19) ∧ ts.get 25 = some (.l .fz .any x12.length (x12.map (kv .u8))) ∧ ts.get 26 = some (iv x13) ∧ ts.get 27 = some (iv v14) ∧ m20.length = x6 ∧ True) (fun m29 σ => ∃ (ts : Tr PV) (w : Option Nat), wok hp.length w ∧ σ = ⟨[], ts, hp ++ [some (m29.map iv)], w⟩ ∧ ts.get 1 = some (.v (.string (bs p1))) ∧ ts.get 7 = some (.s hp.length 0 x6 x6) ∧ ts.get 25 = some (.l .fz .any x12.length (x12.map (kv .u8))) ∧ ts.get 26 = some (iv x13) ∧ ts.get 27 = some (iv v14) ∧ m29.length = x6 ∧ True) (fun _ => rfl) hL1 ?_ ?_ ?_
    · exact ⟨_, _, by simp [hw], rfl, by simp [g1, g7, g25, g26, g27, hl0, ex16, ey17a, ey17b, ey17c, ex18]⟩
    · rintro m29 σ ⟨ts, w, hw, rfl, g1, g7, g25, g26, g27, hl0, -⟩ h
      clear hL1
      try dsimp only at h
      replace h := bindT h; obtain ⟨x30, ex30, h⟩ := h
      simp [g1, g7, g25, g26, g27, hl0, ex30]
      refine ih (x30, m29) _ ?_ h
      exact ⟨_, _, by simp [hw], rfl, by simp [g1, g7, g25, g26, g27, hl0, ex30]⟩
    · rintro k n ⟨v19, m20⟩ σ ⟨ts, w, hw, rfl, g1, g7, g9, g10, g25, g26, g27, hl0, -⟩ h ih ex
      clear hL1
      rw [f20_L1] at h
      replace h := bindT h; obtain ⟨x21, ex21, h⟩ := h
      cases x21
      case false =>
       simp [g1, g7, g9, g10, g25, g26, g27, hl0, ex21]
       refine ex m20 _ ?_ h
       exact ⟨_, _, by simp [hw], rfl, by simp [g1, g7, g9, g10, g25, g26, g27, hl0, ex21]⟩
      replace h := bindT h; obtain ⟨x22, ex22, h⟩ := h
      replace h := bind_ok h; obtain ⟨x23, ex23, h⟩ := h
      have ex23 := (gS_ok (P := Try.prog) (t := 9) (k := .i64) Try.underlying9 shape9 ex23).1
      replace h := bindT h; obtain ⟨x24, ex24, h⟩ := h
      cases x24
      case false =>
       simp [g1, g7, g9, g10, g25, g26, g27, hl0, ex21, ex22, ex23, ex24]
       refine ih (x22, m20) _ ?_ h
       exact ⟨_, _, by simp [hw], rfl, by simp [g1, g7, g9, g10, g25, g26, g27, hl0, ex21, ex22, ex23, ex24]⟩
      replace h := bind_ok h; obtain ⟨y25, ey25, h⟩ := h
      obtain ⟨ey25a, ey25e, ey25b, ey25c, ey25g⟩ := gI_ok hl0 ey25
      replace h := bind_ok h; obtain ⟨y26, ey26, h⟩ := h
      obtain ⟨ey26a, ey26e, ey26b, ey26c, ey26g⟩ := gI_ok hl0 ey26
      replace h := bindT h; obtain ⟨x27, ex27, h⟩ := h
      replace h := bind_ok h; obtain ⟨m28, em28, h⟩ := h
      obtain ⟨em28a, em28e, em28l, em28s, em28q⟩ := sI_ok iv hl0 em28
      have hl0 := em28l
      simp [g1, g7, g9, g10, g25, g26, g27, hl0, ex21, ex22, ex23, ex24, ey25a, ey25b, ey25c, ey26a, ey26b, ey26c, ex27, em28a, em28s]
      all_goals try (generalize hmt : mayTurn _ = mb; obtain rfl : mb = true := hmt.symm.trans (by kernel_rfl); clear hmt)
      all_goals try simp [g1, g7, g9, g10, g25, g26, g27, hl0, ex21, ex22, ex23, ex24, ey25a, ey25b, ey25c, ey26a, ey26b, ey26c, ex27, em28a, em28s]
      refine ih (x22, m28) _ ?_ h
      exact ⟨_, _, by simp [hw], rfl, by simp [g1, g7, g9, g10, g25, g26, g27, hl0, ex21, ex22, ex23, ex24, ey25a, ey25b, ey25c, ey26a, ey26b, ey26c, ex27, em28a, em28s]⟩
end Go.Proofs.Ytmnmfmghmenkkaa
