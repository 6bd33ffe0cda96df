/-
  parts, different
  Printed by wip/tools/walk.py. Conditions: none; definitions and lemmas.
-/
import Derived.Test.YtmnmfmghmenkkaaKnown1
import Derived.Test.YtmnmfmghmenkkaaPurM
set_option linter.unusedSimpArgs false
set_option linter.unusedVariables false
namespace Go.Proofs.Ytmnmfmghmenkkaa
open Go.Abs Go.Pur
set_option maxRecDepth 100000
set_option maxHeartbeats 2000000
attribute [local simp] EK_region EK_seq EK_cond EK_block EK_blk EK_loop EK_exit EK.ex EK_ret EK_skip EK_nil EO_cons EO_nil EO1_true EO1_false EO2_some EO3_some EB_true EB_false pwanted poper pq pev Go.Pur.look pputT isAssign drOf pinit Tr.get_set lget pvOf_int pvOf_bool pvOf_str pvOf_nil rdv_ak notOwn_ak prt_ak loose_ak rdv_own rdv_fz rdv_bor rdv_rf rdv_pt rdv_v rdv_a rdv_t rdv_r rdv_p rdv_s rdv_f pbin plen pload ppart idxAddr pcond Nat.blt goInt_eq prun_not prun_neg mayLoad ER_ret ER_normal presL presOne moved stor okDrop settle_v settle_l settle_a settle_p settle_f noref_v noref_fz noref_a norefs_nil norefs_cons pclose given dropB Y0_keep pevParts stors pvCells pvCells.go vcells pfill reps zipParts ownFz pcells cellOK one psrcLen srcFits psrc takeP pgrow take getPl setPl mapL plEq elder isList lowP pevs frzs addP partAt ble_lim24 killV_v killV_a killV_t killV_f killV_i killV_p killV_s killV_un killV_dead killV_lfz killV_lbor killV_lown killV_rfz killV_rbor killV_lak killV_rak frzV_v frzV_a frzV_t frzV_f frzV_i frzV_p frzV_s frzV_un frzV_dead frzV_lfz frzV_lbor frzV_lown frzV_rfz frzV_rbor frzV_lak frzV_rak killCell_v killCell_a killCell_t killCell_f killCell_i killCell_p killCell_s killCell_un killCell_dead killCell_lfz killCell_lbor killCell_lown killCell_rfz killCell_rbor killCell_lak killCell_rak killV_lrf killV_lpt killV_rpt frzV_lrf frzV_lpt frzV_rpt killCell_lrft killCell_lptt killCell_rptt killCell_lrfc killCell_lptc killCell_rptc argv_lak argv_rak argv_v argv_a argv_p argv_f argv_fz argv_bor argv_rf argv_pt argv_rc argv_own mayTurn_none argvs pcallOp firm refsTo_v refsTo_l refsTo_p refsTo_s refsTo_a refsTo_dead refsTo_nil refsTo_cons isOwn_lak ownFz_lak evSafe pskip plain pnewBlk fldAddr isOwn pput notOwn_fz notOwn_bor notOwn_own notOwn_rf notOwn_pt prt_fz prt_bor prt_own prt_rf prt_pt Go.Pur.freeze presM settles abin_and abin_or abin_andNot abin_mul abin_shr abin_shl abin_add abin_sub abin_eql abin_neq abin_lss abin_leq abin_gtr abin_geq hows pcallIn Y0_how Y0_part howOf partOf rdv_mown rdv_mfz rdv_mbor rdv_mrf killV_mown killV_mfz killV_mbor killV_mrf frzV_mown frzV_mfz frzV_mbor frzV_mrf killCell_mown killCell_mfz killCell_mbor killCell_mrf argv_mfz argv_mbor argv_mrf settle_m kls_v kls_l kls_a kls_t kls_r kls_p kls_s kls_f kls_i kls_it kls_un kls_dead kls_mown kls_mrf kls_mbor kls_mfz fzOf takable mapHere mapOwn mapTo flat toPlain toPlain.go ofFlat ofPair mapEs plook lookRes Y0_mv mvOf mvBlk premv Y0_fzm fzmOf poperX pconv keep50 keep54 sz3 by3 row3 zero3 sz4 by4 row4 zero4 sz5 by5 row5 zero5 sz9 by9 row9 shape9 zero9 sz21 by21 row21 zero21 sz22 by22 row22 zero22 sz24 by24 row24 zero24 sz29 by29 row29 shape29 zero29 sz36 by36 row36 shape36 zero36 sz52 by52 row52 shape52 zero52 parts52 sz54 by54 row54 zero54 parts54 field54_0 field54_1 sz58 by58 row58 zero58 mt58 az3 sz63 by63 row63 zero63 sz66 by66 row66 shape66 zero66 parts66 sz67 by67 row67 shape67 zero67 sz75 by75 row75 shape75 zero75 sz76 by76 row76 shape76 zero76 sz78 by78 row78 zero78 mt78 sz79 by79 row79 shape79 zero79 sz92 by92 row92 zero92 sz94 by94 row94 zero94 parts94 field94_0 field94_1 sz99 by99 row99 shape99 zero99 sz102 by102 row102 zero102 mt102 az4 sz103 by103 row103 zero103 mt103 sz106 by106 row106 zero106 parts106 field106_0 field106_1 sz108 by108 row108 zero108 parts108 field108_0 field108_1 sz109 by109 row109 shape109 zero109 sz110 by110 row110 zero110 mt110 sz112 by112 row112 zero112 sz115 by115 row115 zero115 sz116 by116 row116 zero116 sz119 by119 row119 zero119 sz127 by127 row127 zero127 sz129 by129 row129 zero129 sz130 by130 row130 zero130 sz134 by134 row134 zero134 bs_size gAt gAt0 sAt sAt0 optPlain rows_len noMaker_eq kindOf vlOf abin_rem abin_quo mayTurn_none lowOf_none Go.Pur.partAt rows_nil rows_cons ble_add ble_add0 ble_same toPlain toPlain.go intIn2_0 intIn2_1 ble12 ble22 tv lv max_int min_int pplains ak_true ak_false apartP beq_add beq_add0 beq_add1 argv_s wok_none wok_low_iff lowOf_wok
theorem mty58Parts50 : mapTy Try.prog 58 = some (9, 3) := by kernel_rfl
theorem shm58Parts50 : shapeOf Try.prog 58 = none := by kernel_rfl
theorem kty9Parts50 : KeyT Try.prog 9 sV := key_str Try.underlying9
def f50_L0 (F : Nat) (p0 : List UInt8) (x2 : Int) (K : Mp (List UInt8) Int × Nat → Option ((Mp (List UInt8) Int × Nat))) : Nat → Mp (List UInt8) Int × Nat × Int → Option ((Mp (List UInt8) Int × Nat))
  | 0, _ => none
  | n + 1, (m3, k4, v5) => (some (decide (v5 < x2))).bind fun x6 =>
    (match x6 with
    | true => ((f53O p0 v5).bind fun x7 =>
    (some (mGetD 0 x7 m3)).bind fun x9 =>
    (some (IntKind.i64.wrap (x9 + 1))).bind fun x10 =>
    (some (mSet k4 x7 x10 m3)).bind fun x11 =>
    (some (mClk k4 x7 m3)).bind fun x12 =>
    (some (IntKind.i64.wrap (v5 + 1))).bind fun x14 =>
    f50_L0 F p0 x2 K n (x11, x12, x14))
    | false => (K (m3, k4)))
def f50S (F : Nat) (p0 : List UInt8) : Option ((Mp (List UInt8) Int × Nat)) :=
  (some ((p0.length : Int))).bind fun x1 =>
  (shlO .i64 1 x1).bind fun x2 =>
  f50_L0 F p0 x2 (fun (m15, k16) =>
    some (m15, k16)) F ([], 0, 0)
theorem f50_is {p0 : List UInt8} {hp : List (Option (List PV))} {F : Nat} {r : ((Mp (List UInt8) Int × Nat))}  (h : f50S F p0 = some r) :
    E Try.prog Y0 50 [.v (.string (bs p0))] hp = some (.m .own (mE sV (Value.int .i64) r.1) r.2, hp, none) := by
  rw [E_bodyN 1 body50 rfl (by decide) rfl]
  simp only [Try.f50, Option.get_some]
  unfold f50S at h
  obtain ⟨x1, ex1, h⟩ := bindT h
  obtain ⟨x2, ex2, h⟩ := bind_ok h
  obtain ⟨ex2a, ex2⟩ := shlO_ok ex2
  simp [pvOf_mnil, mE_nil, ex1, ex2, ex2a]
  have hL0 := h; clear h
  refine loopS (S := f50_L0 F p0 x2) (fun (m3, k4, v5) σ => ∃ (ts : Tr PV) (w : Option Nat), wok hp.length w ∧ σ = ⟨[], ts, hp, w⟩ ∧ ts.get 0 = some (.v (.string (bs p0))) ∧ ts.get 3 = some (.m .own (mE sV (Value.int .i64) m3) k4) ∧ ts.get 8 = some (iv x2) ∧ ts.get 9 = some (iv v5) ∧ True) (fun (m15, k16) σ => ∃ (ts : Tr PV) (w : Option Nat), wok hp.length w ∧ σ = ⟨[], ts, hp, w⟩ ∧ ts.get 3 = some (.m .own (mE sV (Value.int .i64) m15) k16) ∧ True) (fun _ => rfl) hL0 ?_ ?_ ?_
  · exact ⟨_, _, by simp, rfl, by simp [pvOf_mnil, mE_nil, ex1, ex2, ex2a]⟩
  · rintro ⟨m15, k16⟩ σ ⟨ts, w, hw, rfl, g3, -⟩ h
    clear hL0
    try dsimp only at h
    obtain rfl := inj_ok h
    simp [g3, hw]
  · rintro k n ⟨m3, k4, v5⟩ σ ⟨ts, w, hw, rfl, g0, g3, g8, g9, -⟩ h ih ex
    clear hL0
    rw [f50_L0] at h
    obtain ⟨x6, ex6, h⟩ := bindT h
    cases x6
    case false =>
     simp [g0, g3, g8, g9, ex6]
     refine ex (m3, k4) _ ?_ h
     exact ⟨_, _, by simp [hw], rfl, by simp [g0, g3, g8, g9, ex6]⟩
    obtain ⟨x7, ex7, h⟩ := bind_ok h
    have ex7 : ∀ hp, E Try.prog Y0 53 [.v (.string (bs p0)), iv v5] hp = some (.v (.string (bs x7)), hp, none) := fun hp => f53_is ex7
    obtain ⟨x9, ex9, h⟩ := bindT h
    have q8 : alook Try.prog 58 (mE sV (Value.int .i64) m3) (.string (bs x7)) false = some (.int .i64 x9) := (look_m (kf := sV) (vf := (Value.int .i64)) (l := m3) (k := x7) (d := 0) mty58Parts50 kty9Parts50 (by kernel_rfl) (fun _ => rfl) (ok := false)).trans (by rw [ex9]; rfl)
    obtain ⟨x10, ex10, h⟩ := bindT h
    obtain ⟨x11, ex11, h⟩ := bindT h
    obtain ⟨x12, ex12, h⟩ := bindT h
    have q13 : aupd Try.prog 58 (mE sV (Value.int .i64) m3) k4 (.string (bs x7)) (.int .i64 x10) = some ((mE sV (Value.int .i64) x11), x12) := (upd_m (kf := sV) (vf := (Value.int .i64)) (l := m3) (k := x7) (v := x10) mty58Parts50 kty9Parts50).trans (by rw [ex11, ex12])
    obtain ⟨x14, ex14, h⟩ := bindT h
    simp [g0, g3, g8, g9, ex6, ex7, mty58Parts50, Try.underlying58, mE_nil, shm58Parts50, ex9, q8, ex10, ex11, ex12, q13, ex14]
    refine ih (x11, x12, x14) _ ?_ h
    exact ⟨_, _, by simp [hw], rfl, by simp [g0, g3, g8, g9, ex6, ex7, mty58Parts50, Try.underlying58, mE_nil, shm58Parts50, ex9, q8, ex10, ex11, ex12, q13, ex14]⟩
end Go.Proofs.Ytmnmfmghmenkkaa
