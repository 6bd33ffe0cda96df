/-
  Missing.
  Printed by wip/tools/walk.py. Conditions: none; definitions and lemmas.
-/
import Derived.Test.YtmnmfmghmenkkaaArch1
set_option linter.unusedSimpArgs false
set_option linter.unusedVariables false
namespace Go.Proofs.Ytmnmfmghmenkkaa
open Go.Abs Go.Pur
set_option maxRecDepth 100000
set_option maxHeartbeats 2000000
attribute [local simp] EK_region EK_seq EK_cond EK_block EK_blk EK_loop EK_exit EK.ex EK_ret EK_skip EK_nil EO_cons EO_nil EO1_true EO1_false EO2_some EO3_some EB_true EB_false pwanted poper pq pev Go.Pur.look pputT isAssign drOf pinit Tr.get_set lget pvOf_int pvOf_bool pvOf_str pvOf_nil rdv_ak notOwn_ak prt_ak loose_ak rdv_own rdv_fz rdv_bor rdv_rf rdv_pt rdv_v rdv_a rdv_t rdv_r rdv_p rdv_s rdv_f pbin plen pload ppart idxAddr pcond Nat.blt goInt_eq prun_not prun_neg mayLoad ER_ret ER_normal presL presOne moved stor okDrop settle_v settle_l settle_a settle_p settle_f noref_v noref_fz noref_a norefs_nil norefs_cons pclose given dropB Y0_keep pevParts stors pvCells pvCells.go vcells pfill reps zipParts ownFz pcells cellOK one psrcLen srcFits psrc takeP pgrow take getPl setPl mapL plEq elder isList lowP pevs frzs addP partAt ble_lim24 killV_v killV_a killV_t killV_f killV_i killV_p killV_s killV_un killV_dead killV_lfz killV_lbor killV_lown killV_rfz killV_rbor killV_lak killV_rak frzV_v frzV_a frzV_t frzV_f frzV_i frzV_p frzV_s frzV_un frzV_dead frzV_lfz frzV_lbor frzV_lown frzV_rfz frzV_rbor frzV_lak frzV_rak killCell_v killCell_a killCell_t killCell_f killCell_i killCell_p killCell_s killCell_un killCell_dead killCell_lfz killCell_lbor killCell_lown killCell_rfz killCell_rbor killCell_lak killCell_rak killV_lrf killV_lpt killV_rpt frzV_lrf frzV_lpt frzV_rpt killCell_lrft killCell_lptt killCell_rptt killCell_lrfc killCell_lptc killCell_rptc argv_lak argv_rak argv_v argv_a argv_p argv_f argv_fz argv_bor argv_rf argv_pt argv_rc argv_own mayTurn_none argvs pcallOp firm refsTo_v refsTo_l refsTo_p refsTo_s refsTo_a refsTo_dead refsTo_nil refsTo_cons isOwn_lak ownFz_lak evSafe pskip plain pnewBlk fldAddr isOwn pput notOwn_fz notOwn_bor notOwn_own notOwn_rf notOwn_pt prt_fz prt_bor prt_own prt_rf prt_pt Go.Pur.freeze presM settles abin_and abin_or abin_andNot abin_mul abin_shr abin_shl abin_add abin_sub abin_eql abin_neq abin_lss abin_leq abin_gtr abin_geq hows pcallIn Y0_how Y0_part howOf partOf rdv_mown rdv_mfz rdv_mbor rdv_mrf killV_mown killV_mfz killV_mbor killV_mrf frzV_mown frzV_mfz frzV_mbor frzV_mrf killCell_mown killCell_mfz killCell_mbor killCell_mrf argv_mfz argv_mbor argv_mrf settle_m kls_v kls_l kls_a kls_t kls_r kls_p kls_s kls_f kls_i kls_it kls_un kls_dead kls_mown kls_mrf kls_mbor kls_mfz fzOf takable mapHere mapOwn mapTo flat toPlain toPlain.go ofFlat ofPair mapEs plook lookRes Y0_mv mvOf mvBlk premv Y0_fzm fzmOf poperX pconv keep38 keep39 keep69 sz3 by3 row3 zero3 sz4 by4 row4 zero4 sz5 by5 row5 zero5 sz9 by9 row9 shape9 zero9 sz21 by21 row21 zero21 sz22 by22 row22 zero22 sz24 by24 row24 zero24 sz29 by29 row29 shape29 zero29 sz36 by36 row36 shape36 zero36 sz52 by52 row52 shape52 zero52 parts52 sz54 by54 row54 zero54 parts54 field54_0 field54_1 sz58 by58 row58 zero58 mt58 az3 sz63 by63 row63 zero63 sz66 by66 row66 shape66 zero66 parts66 sz67 by67 row67 shape67 zero67 sz75 by75 row75 shape75 zero75 sz76 by76 row76 shape76 zero76 sz78 by78 row78 zero78 mt78 sz79 by79 row79 shape79 zero79 sz92 by92 row92 zero92 sz94 by94 row94 zero94 parts94 field94_0 field94_1 sz99 by99 row99 shape99 zero99 sz102 by102 row102 zero102 mt102 az4 sz103 by103 row103 zero103 mt103 sz106 by106 row106 zero106 parts106 field106_0 field106_1 sz108 by108 row108 zero108 parts108 field108_0 field108_1 sz109 by109 row109 shape109 zero109 sz110 by110 row110 zero110 mt110 sz112 by112 row112 zero112 sz115 by115 row115 zero115 sz116 by116 row116 zero116 sz119 by119 row119 zero119 sz127 by127 row127 zero127 sz129 by129 row129 zero129 sz130 by130 row130 zero130 sz134 by134 row134 zero134 bs_size gAt gAt0 sAt sAt0 optPlain rows_len noMaker_eq kindOf vlOf abin_rem abin_quo mayTurn_none lowOf_none Go.Pur.partAt rows_nil rows_cons ble_add ble_add0 ble_same toPlain toPlain.go intIn2_0 intIn2_1 ble12 ble22 tv lv max_int min_int pplains ak_true ak_false apartP beq_add beq_add0 beq_add1 argv_s wok_none wok_low_iff lowOf_wok
theorem conv_3_5Miss1 {z : Int} : prunP Try.prog (convert 3 5 (.int .i64 z)) = some (.int .u8 (IntKind.u8.wrap z)) := by kernel_rfl
theorem convn_75_9Miss1 : prunP Try.prog (convert 75 9 (.slice none 0 0)) = some (.string ByteArray.empty) := by kernel_rfl
def f38_L1 (F : Nat) (p1 : Int) (x11 : Int) (K : List UInt8 × List UInt8 × Int × List Int → Option (List UInt8 × Int)) : Nat → List UInt8 × List UInt8 × Int × List Int × Bool × Int → Option (List UInt8 × Int)
  | 0, _ => none
  | n + 1, (v12, v13, v14, v15, b16, v17) => (some (IntKind.i64.wrap (97 + p1))).bind fun x18 =>
    (some (IntKind.u8.wrap x18)).bind fun x19 =>
    (some (decide (v17 < x19))).bind fun x20 =>
    (match x20 with
    | true => ((match b16 with
    | true => (K (v12, v13, v14, v15))
    | false => ((bytO v12).bind fun x21 =>
    (f68S F x21 v17).bind fun x22 =>
    (some (decide (x22 < 0))).bind fun x24 =>
    (match x24 with
    | true => ((app1 v15 v17).bind fun x25 =>
    (some (bytesN x25)).bind fun x26 =>
    some (x26, 0))
    | false => ((some (decide (0 < x11))).bind fun x27 =>
    (match x27 with
    | true => ((some (IntKind.i64.wrap (x22 + 1))).bind fun x28 =>
    (subF v12 x28).bind fun x29 =>
    (f65S F x29 p1).bind fun (c30, l31) =>
    (some ((l31.length : Int))).bind fun x33 =>
    (some (IntKind.i64.wrap (x11 - 1))).bind fun x34 =>
    (some (decide (x33 = x34))).bind fun x35 =>
    (match x35 with
    | true => ((app1 v15 v17).bind fun x36 =>
    (some (IntKind.u8.wrap (v17 + 1))).bind fun x37 =>
    f38_L1 F p1 x11 K n (x29, v13, v14, x36, true, x37))
    | false => ((some (IntKind.u8.wrap (v17 + 1))).bind fun x38 =>
    f38_L1 F p1 x11 K n (v12, v13, v14, v15, false, x38))))
    | false => ((some (IntKind.u8.wrap (v17 + 1))).bind fun x39 =>
    f38_L1 F p1 x11 K n (v12, v13, v14, v15, false, x39))))))))
    | false => (K (v12, v13, v14, v15)))
def f38_L0 (F : Nat) (p1 : Int) (K : List UInt8 × Int → Option (List UInt8 × Int)) : Nat → List UInt8 × List UInt8 × Int × List Int → Option (List UInt8 × Int)
  | 0, _ => none
  | n + 1, (v4, v5, v6, v7) => (f65S F v4 p1).bind fun (c8, l9) =>
    (some ((l9.length : Int))).bind fun x11 =>
    f38_L1 F p1 x11 (fun (v40, v41, v42, v43) =>
      f38_L0 F p1 K n (v40, v41, v42, v43)) F (v4, v5, v6, v7, false, 97)
def f38S (F : Nat) (p0 : List UInt8) (p1 : Int) : Option (List UInt8 × Int) :=
  (f64S F p0 p1).bind fun x1 =>
  (some (decide (x1 = 0))).bind fun x3 =>
  (match x3 with
  | true => (f38_L0 F p1 (fun (v44, v45) =>
    some (v44, v45)) F (p0, [], 0, []))
  | false => (some ([], x1)))
theorem f38_is {p0 : List UInt8} {p1 : Int} {hp : List (Option (List PV))} {F : Nat} {r : (List UInt8 × Int)}  (h : f38S F p0 p1 = some r) :
    E Try.prog Y0 38 [.v (.string (bs p0)), iv p1] hp = some (.t [.v (.string (bs r.1)), iv r.2], hp, none) := by
  rw [E_bodyN 2 body38 rfl (by decide) rfl]
  simp only [Try.f38, Option.get_some]
  unfold f38S at h
  replace h := bind_ok h; obtain ⟨x1, e2, h⟩ := h
  have e2 : ∀ hp, E Try.prog Y0 64 [.v (.string (bs p0)), iv p1] hp = some (iv x1, hp, none) := fun hp => f64_is  e2
  replace h := bindT h; obtain ⟨x3, ex3, h⟩ := h
  cases x3
  case false =>
   obtain rfl := inj_ok h
   simp [e2, ex3]
  simp [e2, ex3]
  have hL0 := h; clear h
  refine loopS (S := f38_L0 F p1) (fun (v4, v5, v6, v7) σ => ∃ (ts : Tr PV) (w : Option Nat), wok hp.length w ∧ σ = ⟨[], ts, hp, w⟩ ∧ ts.get 0 = some (.v (.string (bs v4))) ∧ ts.get 1 = some (iv p1) ∧ ts.get 4 = some (.v (.string (bs v5))) ∧ ts.get 5 = some (iv v6) ∧ ts.get 7 = some (.l .own .nz v7.length (v7.map (kv .u8))) ∧ True) (fun (v44, v45) σ => ∃ (ts : Tr PV) (w : Option Nat), wok hp.length w ∧ σ = ⟨[], ts, hp, w⟩ ∧ ts.get 4 = some (.v (.string (bs v44))) ∧ ts.get 5 = some (iv v45) ∧ True) (fun _ => rfl) hL0 ?_ ?_ ?_
  · exact ⟨_, _, by simp, rfl, by simp [e2, ex3]⟩
  · rintro ⟨v44, v45⟩ σ ⟨ts, w, hw, rfl, g4, g5, -⟩ h
    clear hL0
    try dsimp only at h
    obtain rfl := inj_ok h
    simp [g4, g5, hw]
  · rintro k n ⟨v4, v5, v6, v7⟩ σ ⟨ts, w, hw, rfl, g0, g1, g4, g5, g7, -⟩ h ih ex
    clear hL0
    rw [f38_L0] at h
    replace h := bind_ok h; obtain ⟨⟨c8, l9⟩, e10, h⟩ := h
    try dsimp only at h
    have e10 : ∀ hp, E Try.prog Y0 65 [.v (.string (bs v4)), iv p1] hp = some (.l .own c8 l9.length (l9.map iv), hp, none) := fun hp => f65_is  e10
    replace h := bindT h; obtain ⟨x11, ex11, h⟩ := h
    simp [g0, g1, g4, g5, g7, e10, ex11]
    have hL1 := h; clear h
    refine loopS (S := f38_L1 F p1 x11) (fun (v12, v13, v14, v15, b16, v17) σ => ∃ (ts : Tr PV) (w : Option Nat), wok hp.length w ∧ σ = ⟨[], ts, hp, w⟩ ∧ ts.get 0 = some (.v (.string (bs v12))) ∧ ts.get 1 = some (iv p1) ∧ ts.get 4 = some (.v (.string (bs v13))) ∧ ts.get 5 = some (iv v14) ∧ ts.get 7 = some (.l .own .nz v15.length (v15.map (kv .u8))) ∧ ts.get 8 = some (iv x11) ∧ ts.get 9 = some (.v (.bool b16)) ∧ ts.get 10 = some (kv .u8 v17) ∧ True) (fun (v40, v41, v42, v43) σ => ∃ (ts : Tr PV) (w : Option Nat), wok hp.length w ∧ σ = ⟨[], ts, hp, w⟩ ∧ ts.get 0 = some (.v (.string (bs v40))) ∧ ts.get 1 = some (iv p1) ∧ ts.get 4 = some (.v (.string (bs v41))) ∧ ts.get 5 = some (iv v42) ∧ ts.get 7 = some (.l .own .nz v43.length (v43.map (kv .u8))) ∧ True) (fun _ => rfl) hL1 ?_ ?_ ?_
    · exact ⟨_, _, by simp [hw], rfl, by simp [g0, g1, g4, g5, g7, e10, ex11]⟩
    · rintro ⟨v40, v41, v42, v43⟩ σ ⟨ts, w, hw, rfl, g0, g1, g4, g5, g7, -⟩ h
      clear hL1
      try dsimp only at h
      simp [g0, g1, g4, g5, g7]
      refine ih (v40, v41, v42, v43) _ ?_ h
      exact ⟨_, _, by simp [hw], rfl, by simp [g0, g1, g4, g5, g7]⟩
    · rintro k n ⟨v12, v13, v14, v15, b16, v17⟩ σ ⟨ts, w, hw, rfl, g0, g1, g4, g5, g7, g8, g9, g10, -⟩ h ih ex
      clear hL1
      rw [f38_L1.eq_def] at h; dsimp only at h
      replace h := bindT h; obtain ⟨x18, ex18, h⟩ := h
      replace h := bindT h; obtain ⟨x19, ex19, h⟩ := h
      replace h := bindT h; obtain ⟨x20, ex20, h⟩ := h
      cases x20
      case false =>
       simp [g0, g1, g4, g5, g7, g8, g9, g10, ex18, conv_3_5Miss1, ex19, ex20]
       refine ex (v12, v13, v14, v15) _ ?_ h
       exact ⟨_, _, by simp [hw], rfl, by simp [g0, g1, g4, g5, g7, g8, g9, g10, ex18, conv_3_5Miss1, ex19, ex20]⟩
      cases b16
      case true =>
       simp [g0, g1, g4, g5, g7, g8, g9, g10, ex18, conv_3_5Miss1, ex19, ex20]
       refine ex (v12, v13, v14, v15) _ ?_ h
       exact ⟨_, _, by simp [hw], rfl, by simp [g0, g1, g4, g5, g7, g8, g9, g10, ex18, conv_3_5Miss1, ex19, ex20]⟩
      replace h := bind_ok h; obtain ⟨x21, ex21, h⟩ := h
      obtain ⟨ex21l, ex21m, ex21s⟩ := bytO_ok ex21
      replace h := bind_ok h; obtain ⟨x22, e23, h⟩ := h
      have e23 : ∀ hp, E Try.prog Y0 68 [.l .fz .any x21.length (x21.map (kv .u8)), kv .u8 v17] hp = some (iv x22, hp, none) := fun hp => f68_is (a0 := false) (c0 := .any) e23
      replace h := bindT h; obtain ⟨x24, ex24, h⟩ := h
      cases x24
      case true =>
       replace h := bind_ok h; obtain ⟨x25, ex25, h⟩ := h
       obtain ⟨ex25a, ex25b, ex25c, ex25q⟩ := app1_ok (kv .u8) ex25
       have ex25b := ex25b 3 (by decide)
       replace h := bind_ok h; obtain ⟨x26, ex26, h⟩ := h
       have ex26 := inj_ok ex26
       have ex26 := fun (x : Operand) (σ : St) (dr : Dr) hx hm => pbytes_l (dr := dr) (hm := hm) (P := Try.prog) (Y := Y0) (f := 38) (src := 75) (dst := 9) (x := x) (σ := σ) (k := .rf (.tmp 43)) (c := .nz) (l := x25) Try.underlying75 Try.underlying5 Try.underlying9 hx ex26 convn_75_9Miss1
       obtain rfl := inj_ok h
       simp [g0, g1, g4, g5, g7, g8, g9, g10, ex18, conv_3_5Miss1, ex19, ex20, ex21l, ex21m, ex21s, e23, ex24, ex25a, ex25b, ex25c, hw]
       rw [ex26 _ _ _ (by simp) (by kernel_rfl)]
       simp [g0, g1, g4, g5, g7, g8, g9, g10, ex18, conv_3_5Miss1, ex19, ex20, ex21l, ex21m, ex21s, e23, ex24, ex25a, ex25b, ex25c, hw]
      replace h := bindT h; obtain ⟨x27, ex27, h⟩ := h
      cases x27
      case false =>
       replace h := bindT h; obtain ⟨x39, ex39, h⟩ := h
       simp [g0, g1, g4, g5, g7, g8, g9, g10, ex18, conv_3_5Miss1, ex19, ex20, ex21l, ex21m, ex21s, e23, ex24, ex27, ex39]
       refine ih (v12, v13, v14, v15, false, x39) _ ?_ h
       exact ⟨_, _, by simp [hw], rfl, by simp [g0, g1, g4, g5, g7, g8, g9, g10, ex18, conv_3_5Miss1, ex19, ex20, ex21l, ex21m, ex21s, e23, ex24, ex27, ex39]⟩
      replace h := bindT h; obtain ⟨x28, ex28, h⟩ := h
      replace h := bind_ok h; obtain ⟨x29, ex29, h⟩ := h
      have ex29 := fun {k : IntKind} => subF_ok (P := Try.prog) (t := 9) Try.underlying9 ex29 (k := k)
      replace h := bind_ok h; obtain ⟨⟨c30, l31⟩, e32, h⟩ := h
      try dsimp only at h
      have e32 : ∀ hp, E Try.prog Y0 65 [.v (.string (bs x29)), iv p1] hp = some (.l .own c30 l31.length (l31.map iv), hp, none) := fun hp => f65_is  e32
      replace h := bindT h; obtain ⟨x33, ex33, h⟩ := h
      replace h := bindT h; obtain ⟨x34, ex34, h⟩ := h
      replace h := bindT h; obtain ⟨x35, ex35, h⟩ := h
      cases x35
      case false =>
       replace h := bindT h; obtain ⟨x38, ex38, h⟩ := h
       simp [g0, g1, g4, g5, g7, g8, g9, g10, ex18, conv_3_5Miss1, ex19, ex20, ex21l, ex21m, ex21s, e23, ex24, ex27, ex28, ex29, shape9, pqSlice, e32, ex33, ex34, ex35, ex38]
       refine ih (v12, v13, v14, v15, false, x38) _ ?_ h
       exact ⟨_, _, by simp [hw], rfl, by simp [g0, g1, g4, g5, g7, g8, g9, g10, ex18, conv_3_5Miss1, ex19, ex20, ex21l, ex21m, ex21s, e23, ex24, ex27, ex28, ex29, shape9, pqSlice, e32, ex33, ex34, ex35, ex38]⟩
      replace h := bind_ok h; obtain ⟨x36, ex36, h⟩ := h
      obtain ⟨ex36a, ex36b, ex36c, ex36q⟩ := app1_ok (kv .u8) ex36
      have ex36b := ex36b 3 (by decide)
      replace h := bindT h; obtain ⟨x37, ex37, h⟩ := h
      simp [g0, g1, g4, g5, g7, g8, g9, g10, ex18, conv_3_5Miss1, ex19, ex20, ex21l, ex21m, ex21s, e23, ex24, ex27, ex28, ex29, shape9, pqSlice, e32, ex33, ex34, ex35, ex36a, ex36b, ex36c, ex37]
      all_goals try (generalize hmt : mayTurn _ = mb; obtain rfl : mb = true := hmt.symm.trans (by kernel_rfl); clear hmt)
      all_goals try simp [g0, g1, g4, g5, g7, g8, g9, g10, ex18, conv_3_5Miss1, ex19, ex20, ex21l, ex21m, ex21s, e23, ex24, ex27, ex28, ex29, shape9, pqSlice, e32, ex33, ex34, ex35, ex36a, ex36b, ex36c, ex37]
      refine ih (x29, v13, v14, x36, true, x37) _ ?_ h
      exact ⟨_, _, by simp [hw], rfl, by simp [g0, g1, g4, g5, g7, g8, g9, g10, ex18, conv_3_5Miss1, ex19, ex20, ex21l, ex21m, ex21s, e23, ex24, ex27, ex28, ex29, shape9, pqSlice, e32, ex33, ex34, ex35, ex36a, ex36b, ex36c, ex37]⟩
end Go.Proofs.Ytmnmfmghmenkkaa
