/-
  Ways and the first places: the reference; ShortHolds: the walk.
  Conditions: none; definitions and lemmas.
-/
import Derived.Test.YtmnmfmghmenkkaaPlaces59
set_option linter.unusedSimpArgs false
set_option linter.unusedVariables false
namespace Go.Proofs.Ytmnmfmghmenkkaa
open Go.Abs Go.Pur
set_option maxRecDepth 100000
set_option maxHeartbeats 2000000
attribute [local simp] EK_region EK_seq EK_cond EK_block EK_blk EK_loop EK_exit EK.ex EK_ret EK_skip EK_nil EO_cons EO_nil EO1_true EO1_false EO2_some EO3_some EB_true EB_false pwanted poper pq pev Go.Pur.look pputT isAssign drOf pinit Tr.get_set lget pvOf_int pvOf_bool pvOf_str pvOf_nil rdv_ak notOwn_ak prt_ak loose_ak rdv_own rdv_fz rdv_bor rdv_rf rdv_pt rdv_v rdv_a rdv_t rdv_r rdv_p rdv_s rdv_f pbin plen pload ppart idxAddr pcond Nat.blt goInt_eq prun_not prun_neg mayLoad ER_ret ER_normal presL presOne moved stor okDrop settle_v settle_l settle_a settle_p settle_f noref_v noref_fz noref_a norefs_nil norefs_cons pclose given dropB Y0_keep pevParts stors pvCells pvCells.go vcells pfill reps zipParts ownFz pcells cellOK one psrcLen srcFits psrc takeP pgrow take getPl setPl mapL plEq elder isList lowP pevs frzs addP partAt ble_lim24 killV_v killV_a killV_t killV_f killV_i killV_p killV_s killV_un killV_dead killV_lfz killV_lbor killV_lown killV_rfz killV_rbor killV_lak killV_rak frzV_v frzV_a frzV_t frzV_f frzV_i frzV_p frzV_s frzV_un frzV_dead frzV_lfz frzV_lbor frzV_lown frzV_rfz frzV_rbor frzV_lak frzV_rak killCell_v killCell_a killCell_t killCell_f killCell_i killCell_p killCell_s killCell_un killCell_dead killCell_lfz killCell_lbor killCell_lown killCell_rfz killCell_rbor killCell_lak killCell_rak killV_lrf killV_lpt killV_rpt frzV_lrf frzV_lpt frzV_rpt killCell_lrft killCell_lptt killCell_rptt killCell_lrfc killCell_lptc killCell_rptc argv_lak argv_rak argv_v argv_a argv_p argv_f argv_fz argv_bor argv_rf argv_pt argv_rc argv_own mayTurn_none argvs pcallOp firm refsTo_v refsTo_l refsTo_p refsTo_s refsTo_a refsTo_dead refsTo_nil refsTo_cons isOwn_lak ownFz_lak evSafe pskip plain pnewBlk fldAddr isOwn pput notOwn_fz notOwn_bor notOwn_own notOwn_rf notOwn_pt prt_fz prt_bor prt_own prt_rf prt_pt Go.Pur.freeze presM settles abin_and abin_or abin_andNot abin_mul abin_shr abin_shl abin_add abin_sub abin_eql abin_neq abin_lss abin_leq abin_gtr abin_geq hows pcallIn Y0_how Y0_part howOf partOf rdv_mown rdv_mfz rdv_mbor rdv_mrf killV_mown killV_mfz killV_mbor killV_mrf frzV_mown frzV_mfz frzV_mbor frzV_mrf killCell_mown killCell_mfz killCell_mbor killCell_mrf argv_mfz argv_mbor argv_mrf settle_m kls_v kls_l kls_a kls_t kls_r kls_p kls_s kls_f kls_i kls_it kls_un kls_dead kls_mown kls_mrf kls_mbor kls_mfz fzOf takable mapHere mapOwn mapTo flat toPlain toPlain.go ofFlat ofPair mapEs plook lookRes Y0_mv mvOf mvBlk premv Y0_fzm fzmOf poperX pconv keep3 keep21 keep23 sz3 by3 row3 zero3 sz4 by4 row4 zero4 sz5 by5 row5 zero5 sz9 by9 row9 shape9 zero9 sz21 by21 row21 zero21 sz22 by22 row22 zero22 sz24 by24 row24 zero24 sz29 by29 row29 shape29 zero29 sz36 by36 row36 shape36 zero36 sz52 by52 row52 shape52 zero52 parts52 sz54 by54 row54 zero54 parts54 field54_0 field54_1 sz58 by58 row58 zero58 mt58 az3 sz63 by63 row63 zero63 sz66 by66 row66 shape66 zero66 parts66 sz67 by67 row67 shape67 zero67 sz75 by75 row75 shape75 zero75 sz76 by76 row76 shape76 zero76 sz78 by78 row78 zero78 mt78 sz79 by79 row79 shape79 zero79 sz92 by92 row92 zero92 sz94 by94 row94 zero94 parts94 field94_0 field94_1 sz99 by99 row99 shape99 zero99 sz102 by102 row102 zero102 mt102 az4 sz103 by103 row103 zero103 mt103 sz106 by106 row106 zero106 parts106 field106_0 field106_1 sz108 by108 row108 zero108 parts108 field108_0 field108_1 sz109 by109 row109 shape109 zero109 sz110 by110 row110 zero110 mt110 sz112 by112 row112 zero112 sz115 by115 row115 zero115 sz116 by116 row116 zero116 sz119 by119 row119 zero119 sz127 by127 row127 zero127 sz129 by129 row129 zero129 sz130 by130 row130 zero130 sz134 by134 row134 zero134 bs_size gAt gAt0 sAt sAt0 optPlain rows_len noMaker_eq kindOf vlOf abin_rem abin_quo mayTurn_none lowOf_none Go.Pur.partAt rows_nil rows_cons ble_add ble_add0 ble_same toPlain toPlain.go intIn2_0 intIn2_1 ble12 ble22 tv lv max_int min_int pplains ak_true ak_false apartP beq_add beq_add0 beq_add1 argv_s wok_none wok_low_iff lowOf_wok
section
variable {w p : List UInt8} {e : Int}
theorem f21_bad {hp : List (Option (List PV))} (e58 : ∀ hp, E Try.prog Y0 58 [.v (.string (bs w)), .v (.string (bs p))] hp = some (iv e, hp, none)) (he : e ≠ 0) :
  E Try.prog Y0 21 [.v (.string (bs w)), .v (.string (bs p))] hp = some (.t [iv 0, iv e], hp, none) := by
 rw [E_bodyN 2 body21 rfl (by decide) rfl]
 simp only [Try.f21, Option.get_some]
 simp [e58, he]
theorem f21_good {hp : List (Option (List PV))} (e58 : ∀ hp, E Try.prog Y0 58 [.v (.string (bs w)), .v (.string (bs p))] hp = some (iv 0, hp, none)) (hw : w.length ≤ 10) (hp10 : p.length ≤ 10) :
  E Try.prog Y0 21 [.v (.string (bs w)), .v (.string (bs p))] hp = some (.t [iv (plW w p 0).length, iv 0], hp, none) := by
 have e59 : ∀ hp, E Try.prog Y0 59 [.v (.string (bs w)), .v (.string (bs p)), iv 0] hp = some (.l (vlP p) (ckP p) (plW w p 0).length ((plW w p 0).map cellL), hp, none) := fun hp => f59_walk hw p hp10 0 hp (by omega)
 have hv : vlP p = .fz ∨ vlP p = .own := by cases p <;> simp [vlP]
 rw [E_bodyN 2 body21 rfl (by decide) rfl]
 simp only [Try.f21, Option.get_some]
 rcases hv with hv | hv
 ·rw [hv] at e59; simp [e58, e59]
 ·rw [hv] at e59; simp [e58, e59]
theorem f23_bad {hp : List (Option (List PV))} (e58 : ∀ hp, E Try.prog Y0 58 [.v (.string (bs w)), .v (.string (bs p))] hp = some (iv e, hp, none)) (he : e ≠ 0) :
  E Try.prog Y0 23 [.v (.string (bs w)), .v (.string (bs p))] hp = some (.t [.l .fz .nz 0 [], iv e], hp, none) := by
 rw [E_bodyN 2 body23 rfl (by decide) rfl]
 simp only [Try.f23, Option.get_some]
 simp [e58, he]
theorem f23_none {hp : List (Option (List PV))} (e58 : ∀ hp, E Try.prog Y0 58 [.v (.string (bs w)), .v (.string (bs p))] hp = some (iv 0, hp, none)) (hw : w.length ≤ 10) (hp10 : p.length ≤ 10) (h : plW w p 0 = []) :
  E Try.prog Y0 23 [.v (.string (bs w)), .v (.string (bs p))] hp = some (.t [.l .fz .nz 0 [], iv 12], hp, none) := by
 have e59 : ∀ hp, E Try.prog Y0 59 [.v (.string (bs w)), .v (.string (bs p)), iv 0] hp = some (.l (vlP p) (ckP p) (plW w p 0).length ((plW w p 0).map cellL), hp, none) := fun hp => f59_walk hw p hp10 0 hp (by omega)
 rw [h] at e59
 have hv : vlP p = .fz ∨ vlP p = .own := by cases p <;> simp [vlP]
 rw [E_bodyN 2 body23 rfl (by decide) rfl]
 simp only [Try.f23, Option.get_some]
 rcases hv with hv | hv
 ·rw [hv] at e59; simp [e58, e59]
 ·rw [hv] at e59; simp [e58, e59]
theorem f23_some {hp : List (Option (List PV))} {q : Ck × List Int} {L : List (Ck × List Int)} (e58 : ∀ hp, E Try.prog Y0 58 [.v (.string (bs w)), .v (.string (bs p))] hp = some (iv 0, hp, none)) (hw : w.length ≤ 10) (hp10 : p.length ≤ 10) (h : plW w p 0 = q :: L) :
  E Try.prog Y0 23 [.v (.string (bs w)), .v (.string (bs p))] hp = some (.t [.l .fz q.1 q.2.length (q.2.map iv), iv 0], hp, none) := by
 have e59 : ∀ hp, E Try.prog Y0 59 [.v (.string (bs w)), .v (.string (bs p)), iv 0] hp = some (.l (vlP p) (ckP p) (plW w p 0).length ((plW w p 0).map cellL), hp, none) := fun hp => f59_walk hw p hp10 0 hp (by omega)
 rw [h] at e59
 simp only [List.length_cons, List.map_cons, cellL] at e59
 have x0 : intIn (L.length + 1) (.int .i64 0) = some 0 := by
  have := @intIn_nat (L.length + 1) 0 .i64 (by omega)
  exact this
 have hz : ¬ ((L.length : Int) + 1 = 0) := by omega
 have hb : Nat.ble 1 (L.length + 1) = true := ble_true (by omega)
 have hv : vlP p = .fz ∨ vlP p = .own := by cases p <;> simp [vlP]
 rw [E_bodyN 2 body23 rfl (by decide) rfl]
 simp only [Try.f23, Option.get_some]
 rcases hv with hv | hv
 ·rw [hv] at e59; simp [e58, e59, x0, hz, hb]
 ·rw [hv] at e59; simp [e58, e59, x0, hz, hb]
end
theorem f3_long {w p : List UInt8} {a b : Bool} (e16 : ∀ hp, E Try.prog Y0 16 [.v (.string (bs w))] hp = some (.v (.bool a), hp, none)) (e16b : ∀ hp, E Try.prog Y0 16 [.v (.string (bs p))] hp = some (.v (.bool b), hp, none)) (h : (a || b) = true) :
  E Try.prog Y0 3 [.v (.string (bs w)), .v (.string (bs p))] [] = some (.v (.bool true), [], none) := by
 have e17 : ∀ hp, E Try.prog Y0 17 [] hp = some (.v (.bool true), hp, none) := fun hp => works_is
 rw [E_bodyN 2 body3 rfl (by decide) rfl]
 simp only [Try.f3, Option.get_some]
 cases a
 ·cases b
  ·cases h
  ·simp [e16, e16b, e17]
 ·simp [e16, e16b, e17]
theorem f3_walk {w p : List UInt8} {a b : Bool} {e n e2 e3 : Int} {c1 c2 : Ck} {l : List Int}
  (e16 : ∀ hp, E Try.prog Y0 16 [.v (.string (bs w))] hp = some (.v (.bool false), hp, none)) (e16b : ∀ hp, E Try.prog Y0 16 [.v (.string (bs p))] hp = some (.v (.bool false), hp, none))
  (e18 : ∀ hp, E Try.prog Y0 18 [.v (.string (bs w)), .v (.string (bs p))] hp = some (.t [.v (.bool a), iv e], hp, none))
  (e19 : ∀ hp, E Try.prog Y0 19 [.v (.string (bs w)), .v (.string (bs p))] hp = some (.t [.v (.bool a), iv e], hp, none))
  (e20 : ∀ hp, E Try.prog Y0 20 [.v (.string (bs w)), .v (.string (bs p))] hp = some (.t [iv n, iv e], hp, none))
  (e21 : ∀ hp, E Try.prog Y0 21 [.v (.string (bs w)), .v (.string (bs p))] hp = some (.t [iv n, iv e], hp, none))
  (e22 : ∀ hp, E Try.prog Y0 22 [.v (.string (bs w)), .v (.string (bs p))] hp = some (.t [.l .fz c1 l.length (l.map iv), iv e2], hp, none))
  (e23 : ∀ hp, E Try.prog Y0 23 [.v (.string (bs w)), .v (.string (bs p))] hp = some (.t [.l .fz c2 l.length (l.map iv), iv e2], hp, none))
  (e24 : ∀ hp, E Try.prog Y0 24 [.l .fz c1 l.length (l.map iv), .l .fz c2 l.length (l.map iv)] hp = some (.v (.bool true), hp, none))
  (e25 : ∀ hp, E Try.prog Y0 25 [.v (.string (bs w))] hp = some (iv e3, hp, none)) (e26 : ∀ hp, E Try.prog Y0 26 [.v (.string (bs w))] hp = some (iv e3, hp, none))
  (e27 : ∀ hp, E Try.prog Y0 27 [.v (.string (bs w)), .v (.string (bs p))] hp = some (.v (.bool b), hp, none)) (e28 : ∀ hp, E Try.prog Y0 28 [.v (.string (bs w)), .v (.string (bs p))] hp = some (.v (.bool b), hp, none)) :
  E Try.prog Y0 3 [.v (.string (bs w)), .v (.string (bs p))] [] = some (.v (.bool true), [], none) := by
 have e17 : ∀ hp, E Try.prog Y0 17 [] hp = some (.v (.bool true), hp, none) := fun hp => works_is
 have qb : ∀ (x y : Operand) (c : Bool), abin Try.prog .eql 4 x y (.bool c) (.bool c) = some (.bool true) := fun x y c => by cases c <;> kernel_rfl
 rw [E_bodyN 2 body3 rfl (by decide) rfl]
 simp only [Try.f3, Option.get_some]
 simp [e16, e16b, e17, e18, e19, e20, e21, e22, e23, e24, e25, e26, e27, e28, qb]
end Go.Proofs.Ytmnmfmghmenkkaa
