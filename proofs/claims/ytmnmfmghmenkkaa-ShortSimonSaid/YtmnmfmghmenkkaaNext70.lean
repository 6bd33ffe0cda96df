/-
  short.differ: next, without what is known
  Printed by wip/tools/walk.py. Conditions: none; definitions and lemmas.
-/
import Derived.Test.YtmnmfmghmenkkaaPurBase
import Derived.Test.YtmnmfmghmenkkaaPurG
import Derived.Test.YtmnmfmghmenkkaaPurM
import Derived.Test.YtmnmfmghmenkkaaPurJ
set_option linter.unusedSimpArgs false
set_option linter.unusedVariables false
namespace Go.Proofs.Ytmnmfmghmenkkaa.Q
open Go.Abs Go.Pur
set_option maxRecDepth 100000
set_option maxHeartbeats 2000000
def Y0 : Pol := { keep := keepOf, glob := [], mv := mvOf }
theorem Y0_fzm {f t : Nat} : Y0.fzm f t = fzmOf f t := rfl
theorem Y0_keep {f t : Nat} : Y0.keep f t = keepOf f t := rfl
theorem Y0_how {f g : Nat} : Y0.how f g = howOf f g := rfl
theorem Y0_mv {f t : Nat} : Y0.mv f t = mvOf f t := rfl
theorem Y0_part {f : Nat} : Y0.part f = partOf f := rfl
attribute [local simp] EK_region EK_seq EK_cond EK_block EK_blk EK_loop EK_exit EK.ex EK_ret EK_skip EK_nil EO_cons EO_nil EO1_true EO1_false EO2_some EO3_some EB_true EB_false pwanted poper pq pev Go.Pur.look pputT isAssign drOf pinit Tr.get_set lget pvOf_int pvOf_bool pvOf_str pvOf_nil rdv_ak notOwn_ak prt_ak loose_ak rdv_own rdv_fz rdv_bor rdv_rf rdv_pt rdv_v rdv_a rdv_t rdv_r rdv_p rdv_s rdv_f pbin plen pload ppart idxAddr pcond Nat.blt goInt_eq prun_not prun_neg mayLoad ER_ret ER_normal presL presOne moved stor okDrop settle_v settle_l settle_a settle_p settle_f noref_v noref_fz noref_a norefs_nil norefs_cons pclose given dropB Y0_keep pevParts stors pvCells pvCells.go vcells pfill reps zipParts ownFz pcells cellOK one psrcLen srcFits psrc takeP pgrow take getPl setPl mapL plEq elder isList lowP pevs frzs addP partAt ble_lim24 killV_v killV_a killV_t killV_f killV_i killV_p killV_s killV_un killV_dead killV_lfz killV_lbor killV_lown killV_rfz killV_rbor killV_lak killV_rak frzV_v frzV_a frzV_t frzV_f frzV_i frzV_p frzV_s frzV_un frzV_dead frzV_lfz frzV_lbor frzV_lown frzV_rfz frzV_rbor frzV_lak frzV_rak killCell_v killCell_a killCell_t killCell_f killCell_i killCell_p killCell_s killCell_un killCell_dead killCell_lfz killCell_lbor killCell_lown killCell_rfz killCell_rbor killCell_lak killCell_rak killV_lrf killV_lpt killV_rpt frzV_lrf frzV_lpt frzV_rpt killCell_lrft killCell_lptt killCell_rptt killCell_lrfc killCell_lptc killCell_rptc argv_lak argv_rak argv_v argv_a argv_p argv_f argv_fz argv_bor argv_rf argv_pt argv_rc argv_own mayTurn_none argvs pcallOp firm refsTo_v refsTo_l refsTo_p refsTo_s refsTo_a refsTo_dead refsTo_nil refsTo_cons isOwn_lak ownFz_lak evSafe pskip plain pnewBlk fldAddr isOwn pput notOwn_fz notOwn_bor notOwn_own notOwn_rf notOwn_pt prt_fz prt_bor prt_own prt_rf prt_pt Go.Pur.freeze presM settles abin_and abin_or abin_andNot abin_mul abin_shr abin_shl abin_add abin_sub abin_eql abin_neq abin_lss abin_leq abin_gtr abin_geq hows pcallIn Y0_how Y0_part howOf partOf rdv_mown rdv_mfz rdv_mbor rdv_mrf killV_mown killV_mfz killV_mbor killV_mrf frzV_mown frzV_mfz frzV_mbor frzV_mrf killCell_mown killCell_mfz killCell_mbor killCell_mrf argv_mfz argv_mbor argv_mrf settle_m kls_v kls_l kls_a kls_t kls_r kls_p kls_s kls_f kls_i kls_it kls_un kls_dead kls_mown kls_mrf kls_mbor kls_mfz fzOf takable mapHere mapOwn mapTo flat toPlain toPlain.go ofFlat ofPair mapEs plook lookRes Y0_mv mvOf mvBlk premv Y0_fzm fzmOf poperX pconv keep68 keep81 sz3 by3 row3 zero3 sz4 by4 row4 zero4 sz5 by5 row5 zero5 sz9 by9 row9 shape9 zero9 sz21 by21 row21 zero21 sz22 by22 row22 zero22 sz24 by24 row24 zero24 sz29 by29 row29 shape29 zero29 sz36 by36 row36 shape36 zero36 sz52 by52 row52 shape52 zero52 parts52 sz54 by54 row54 zero54 parts54 field54_0 field54_1 sz58 by58 row58 zero58 mt58 az3 sz63 by63 row63 zero63 sz66 by66 row66 shape66 zero66 parts66 sz67 by67 row67 shape67 zero67 sz75 by75 row75 shape75 zero75 sz76 by76 row76 shape76 zero76 sz78 by78 row78 zero78 mt78 sz79 by79 row79 shape79 zero79 sz92 by92 row92 zero92 sz94 by94 row94 zero94 parts94 field94_0 field94_1 sz99 by99 row99 shape99 zero99 sz102 by102 row102 zero102 mt102 az4 sz103 by103 row103 zero103 mt103 sz106 by106 row106 zero106 parts106 field106_0 field106_1 sz108 by108 row108 zero108 parts108 field108_0 field108_1 sz109 by109 row109 shape109 zero109 sz110 by110 row110 zero110 mt110 sz112 by112 row112 zero112 sz115 by115 row115 zero115 sz116 by116 row116 zero116 sz119 by119 row119 zero119 sz127 by127 row127 zero127 sz129 by129 row129 zero129 sz130 by130 row130 zero130 sz134 by134 row134 zero134 bs_size gAt gAt0 sAt sAt0 optPlain rows_len noMaker_eq kindOf vlOf abin_rem abin_quo mayTurn_none lowOf_none Go.Pur.partAt rows_nil rows_cons ble_add ble_add0 ble_same toPlain toPlain.go intIn2_0 intIn2_1 ble12 ble22 tv lv max_int min_int pplains ak_true ak_false apartP beq_add beq_add0 beq_add1 argv_s wok_none wok_low_iff lowOf_wok
def f68_L0 (F : Nat) (p0 : List Int) (p1 : Int) (x1 : Int) (K : Unit → Option (Int)) : Nat → Int → Option (Int)
  | 0, _ => none
  | n + 1, v2 => (some (decide (v2 < x1))).bind fun x3 =>
    (match x3 with
    | true => ((gI p0 v2).bind fun y4 =>
    (some (decide (p1 = y4))).bind fun x5 =>
    (match x5 with
    | true => (some v2)
    | false => ((some (IntKind.i64.wrap (v2 + 1))).bind fun x6 =>
    f68_L0 F p0 p1 x1 K n x6)))
    | false => (K ()))
def f68S (F : Nat) (p0 : List Int) (p1 : Int) : Option (Int) :=
  (some ((p0.length : Int))).bind fun x1 =>
  f68_L0 F p0 p1 x1 (fun _ =>
    some (-1)) F 0
theorem f68_is {a0 : Bool} {c0 : Ck} {p0 : List Int} {p1 : Int} {hp : List (Option (List PV))} {F : Nat} {r : (Int)}  (h : f68S F p0 p1 = some r) :
    E Try.prog Y0 68 [.l (ak a0) c0 p0.length (p0.map (kv .u8)), kv .u8 p1] hp = some (iv r, hp, none) := by
  rw [E_bodyN 2 body68 rfl (by decide) rfl]
  simp only [Try.f68, Option.get_some]
  unfold f68S at h
  obtain ⟨x1, ex1, h⟩ := bindT h
  simp [ex1]
  have hL0 := h; clear h
  refine loopS (S := f68_L0 F p0 p1 x1) (fun v2 σ => ∃ (ts : Tr PV) (w : Option Nat), wok hp.length w ∧ σ = ⟨[], ts, hp, w⟩ ∧ ts.get 0 = some (.l (ak a0) c0 p0.length (p0.map (kv .u8))) ∧ ts.get 1 = some (kv .u8 p1) ∧ ts.get 7 = some (iv x1) ∧ ts.get 8 = some (iv v2) ∧ True) (fun _ σ => ∃ (ts : Tr PV) (w : Option Nat), wok hp.length w ∧ σ = ⟨[], ts, hp, w⟩ ∧ True) (fun _ => rfl) hL0 ?_ ?_ ?_
  · exact ⟨_, _, by simp, rfl, by simp [ex1]⟩
  · rintro ⟨⟩ σ ⟨ts, w, hw, rfl, -⟩ h
    clear hL0
    try dsimp only at h
    obtain rfl := inj_ok h
    simp [hw]
  · rintro k n v2 σ ⟨ts, w, hw, rfl, g0, g1, g7, g8, -⟩ h ih ex
    clear hL0
    rw [f68_L0] at h
    obtain ⟨x3, ex3, h⟩ := bindT h
    cases x3
    case false =>
     simp [g0, g1, g7, g8, ex3]
     refine ex () _ ?_ h
     exact ⟨_, _, by simp [hw], rfl, by simp [g0, g1, g7, g8, ex3]⟩
    obtain ⟨y4, ey4, h⟩ := bind_ok h
    obtain ⟨ey4a, ey4e, ey4b, ey4c, ey4g⟩ := gI_ok rfl ey4
    obtain ⟨x5, ex5, h⟩ := bindT h
    cases x5
    case true =>
     obtain rfl := inj_ok h
     simp [g0, g1, g7, g8, ex3, ey4a, ey4b, ey4c, ex5, hw]
    obtain ⟨x6, ex6, h⟩ := bindT h
    simp [g0, g1, g7, g8, ex3, ey4a, ey4b, ey4c, ex5, ex6]
    refine ih x6 _ ?_ h
    exact ⟨_, _, by simp [hw], rfl, by simp [g0, g1, g7, g8, ex3, ey4a, ey4b, ey4c, ex5, ex6]⟩
def f81S (F : Nat) (p0 : List UInt8) (p1 : Int) (p2 : Int) : Option (Int) :=
  (some (decide (p1 < 0))).bind fun x1 =>
  (match x1 with
  | true => (some (-1))
  | false => ((subF p0 p1).bind fun x2 =>
  (bytO x2).bind fun x3 =>
  (f68S F x3 p2).bind fun x4 =>
  (some (decide (x4 < 0))).bind fun x6 =>
  (match x6 with
  | true => (some (-1))
  | false => ((some (IntKind.i64.wrap (p1 + x4))).bind fun x7 =>
  (some (IntKind.i64.wrap (x7 + 1))).bind fun x8 =>
  some x8))))
theorem f81_is {p0 : List UInt8} {p1 : Int} {p2 : Int} {hp : List (Option (List PV))} {F : Nat} {r : (Int)}  (h : f81S F p0 p1 p2 = some r) :
    E Try.prog Y0 81 [.v (.string (bs p0)), iv p1, kv .u8 p2] hp = some (iv r, hp, none) := by
  rw [E_bodyN 3 body81 rfl (by decide) rfl]
  simp only [Try.f81, Option.get_some]
  unfold f81S at h
  obtain ⟨x1, ex1, h⟩ := bindT h
  cases x1
  case true =>
   obtain rfl := inj_ok h
   simp [ex1]
  obtain ⟨x2, ex2, h⟩ := bind_ok h
  have ex2 := fun {k : IntKind} => subF_ok (P := Try.prog) (t := 9) Try.underlying9 ex2 (k := k)
  obtain ⟨x3, ex3, h⟩ := bind_ok h
  obtain ⟨ex3l, ex3m, ex3s⟩ := bytO_ok ex3
  obtain ⟨x4, e5, h⟩ := bind_ok h
  have e5 : ∀ hp, E Try.prog Y0 68 [.l .fz .any x3.length (x3.map (kv .u8)), kv .u8 p2] hp = some (iv x4, hp, none) := fun hp => f68_is (a0 := false) (c0 := .any) e5
  obtain ⟨x6, ex6, h⟩ := bindT h
  cases x6
  case true =>
   obtain rfl := inj_ok h
   simp [ex1, ex2, shape9, pqSlice, ex3l, ex3m, ex3s, e5, ex6]
  obtain ⟨x7, ex7, h⟩ := bindT h
  obtain ⟨x8, ex8, h⟩ := bindT h
  obtain rfl := inj_ok h
  simp [ex1, ex2, shape9, pqSlice, ex3l, ex3m, ex3s, e5, ex6, ex7, ex8]
end Go.Proofs.Ytmnmfmghmenkkaa.Q
