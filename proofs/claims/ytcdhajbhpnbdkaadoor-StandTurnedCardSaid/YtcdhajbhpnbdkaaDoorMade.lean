/-
  A job by numbers, by the pure evaluator.
  Conditions: none; definitions and lemmas.
-/
import Derived.Test.YtcdhajbhpnbdkaaDoorAdapt
import Derived.Test.YtcdhajbhpnbdkaaDoorPurG
set_option linter.unusedSimpArgs false
set_option linter.unusedVariables false
namespace Go.Proofs.YtcdhajbhpnbdkaaDoor
open Go.Abs Go.Pur
set_option maxRecDepth 100000
set_option maxHeartbeats 2000000
attribute [local simp] EK_region EK_seq EK_cond EK_block EK_blk EK_loop EK_exit EK.ex EK_ret EK_skip EK_nil EO_cons EO_nil EO1_true EO1_false EO2_some EO3_some EB_true EB_false pwanted poper pq pev Go.Pur.look pputT isAssign drOf pinit Tr.get_set lget pvOf_int pvOf_bool pvOf_str pvOf_nil rdv_ak notOwn_ak prt_ak loose_ak rdv_own rdv_fz rdv_bor rdv_rf rdv_pt rdv_v rdv_a rdv_t rdv_r rdv_p rdv_s rdv_f pbin plen pload ppart idxAddr pcond Nat.blt goInt_eq prun_not prun_neg mayLoad ER_ret ER_normal presL presOne moved stor okDrop settle_v settle_l settle_a settle_p settle_f noref_v noref_fz noref_a norefs_nil norefs_cons pclose given dropB Y0_keep pevParts stors pvCells pvCells.go vcells pfill reps zipParts ownFz pcells cellOK one psrcLen srcFits psrc takeP pgrow take getPl setPl mapL plEq elder isList lowP pevs frzs addP partAt ble_lim24 killV_v killV_a killV_t killV_f killV_i killV_p killV_s killV_un killV_dead killV_lfz killV_lbor killV_lown killV_rfz killV_rbor killV_lak killV_rak frzV_v frzV_a frzV_t frzV_f frzV_i frzV_p frzV_s frzV_un frzV_dead frzV_lfz frzV_lbor frzV_lown frzV_rfz frzV_rbor frzV_lak frzV_rak killCell_v killCell_a killCell_t killCell_f killCell_i killCell_p killCell_s killCell_un killCell_dead killCell_lfz killCell_lbor killCell_lown killCell_rfz killCell_rbor killCell_lak killCell_rak killV_lrf killV_lpt killV_rpt frzV_lrf frzV_lpt frzV_rpt killCell_lrft killCell_lptt killCell_rptt killCell_lrfc killCell_lptc killCell_rptc argv_lak argv_rak argv_v argv_a argv_p argv_f argv_fz argv_bor argv_rf argv_pt argv_rc argv_own mayTurn_none argvs pcallOp firm refsTo_v refsTo_l refsTo_p refsTo_s refsTo_a refsTo_dead refsTo_nil refsTo_cons isOwn_lak ownFz_lak evSafe pskip plain pnewBlk fldAddr isOwn pput notOwn_fz notOwn_bor notOwn_own notOwn_rf notOwn_pt prt_fz prt_bor prt_own prt_rf prt_pt Go.Pur.freeze presM settles abin_and abin_or abin_andNot abin_mul abin_shr abin_shl abin_add abin_sub abin_eql abin_neq abin_lss abin_leq abin_gtr abin_geq hows pcallIn Y0_how Y0_part howOf partOf rdv_mown rdv_mfz rdv_mbor rdv_mrf killV_mown killV_mfz killV_mbor killV_mrf frzV_mown frzV_mfz frzV_mbor frzV_mrf killCell_mown killCell_mfz killCell_mbor killCell_mrf argv_mfz argv_mbor argv_mrf settle_m kls_v kls_l kls_a kls_t kls_r kls_p kls_s kls_f kls_i kls_it kls_un kls_dead kls_mown kls_mrf kls_mbor kls_mfz fzOf takable mapHere mapOwn mapTo flat toPlain toPlain.go ofFlat ofPair mapEs plook lookRes Y0_mv mvOf mvBlk premv keep48 sz3 by3 row3 zero3 sz4 by4 row4 zero4 sz5 by5 row5 zero5 sz9 by9 row9 shape9 zero9 sz22 by22 row22 shape22 zero22 sz24 by24 row24 zero24 parts24 field24_0 field24_1 sz27 by27 row27 zero27 parts27 field27_0 field27_1 sz28 by28 row28 zero28 sz32 by32 row32 shape32 zero32 sz46 by46 row46 shape46 zero46 sz54 by54 row54 shape54 zero54 parts54 sz56 by56 row56 zero56 parts56 field56_0 field56_1 field56_2 sz63 by63 row63 shape63 zero63 parts63 sz70 by70 row70 shape70 zero70 parts70 sz75 by75 row75 shape75 zero75 parts75 sz79 by79 row79 zero79 sz84 by84 row84 zero84 sz86 by86 row86 shape86 zero86 sz91 by91 row91 zero91 sz93 by93 row93 zero93 parts93 field93_0 sz97 by97 row97 zero97 sz100 by100 row100 zero100 sz102 by102 row102 zero102 sz105 by105 row105 zero105 parts105 field105_0 field105_1 field105_2 sz106 by106 row106 zero106 sz108 by108 row108 zero108 parts108 field108_0 field108_1 sz109 by109 row109 shape109 zero109 parts109 sz110 by110 row110 shape110 parts110 sz112 by112 row112 parts112 field112_0 field112_1 sz126 by126 row126 shape126 zero126 sz127 by127 row127 zero127 sz134 by134 row134 zero134 sz136 by136 row136 zero136 sz140 by140 row140 zero140 sz147 by147 row147 shape147 zero147 parts147 sz148 by148 row148 shape148 zero148 parts148 sz149 by149 row149 zero149 sz153 by153 row153 zero153 bs_size gAt gAt0 sAt sAt0 optPlain rows_len noMaker_eq kindOf vlOf abin_rem abin_quo mayTurn_none lowOf_none Go.Pur.partAt rows_nil rows_cons ble_add ble_add0 ble_same toPlain toPlain.go intIn2_0 intIn2_1 ble12 ble22 tv lv max_int min_int pplains ak_true ak_false apartP beq_add beq_add0 beq_add1 argv_s wok_none wok_low_iff lowOf_wok
def madeL (ps : List Int) (n : Nat) : List Int := (ps.take n).map fun p => Int.tmod (IntKind.i64.wrap p) 6
def madeS (room times r a : Int) (ps : List Int) : Option (Int × List Int) :=
 match decide (room = 0), decide (IntKind.i64.wrap (times + 1) = 0), Int.tmod (IntKind.i64.wrap a) (IntKind.i64.wrap (times + 1)) with
 | false, false, .ofNat n => match Nat.ble n 12 with
  | true => some (IntKind.i64.wrap (1 + Int.tmod (IntKind.i64.wrap r) room), madeL ps n)
  | false => none
 | _, _, _ => none
theorem convM {z : Int} : prunP Tryd.prog (convert 5 3 (.int .u8 z)) = some (.int .i64 (IntKind.i64.wrap z)) := by kernel_rfl
theorem refs_kv {n : Nat} : ∀ {l : List Int}, refsTo.go n (l.map (kv .u8)) = true
 | [] => by simp [refsTo.go]
 | a :: l => by rw [List.map_cons, refsTo.go, refs_kv]; simp
theorem sp1m {a b c : PV} : spliceP 1 [b] [a, c] = some [a, b] := rfl
theorem sp2m {a b c d : PV} : spliceP 0 [a, b] [c, d] = some [a, b] := rfl
theorem slice54 {b : Nat} : ∀ (n : Nat), n ≤ 12 → pqSlice Tryd.prog 54 (.p b 2) none (some (.int .i64 (n : Int))) none = some (.s b 2 n 12)
 | 0, _ => rfl
 | 1, _ => rfl
 | 2, _ => rfl
 | 3, _ => rfl
 | 4, _ => rfl
 | 5, _ => rfl
 | 6, _ => rfl
 | 7, _ => rfl
 | 8, _ => rfl
 | 9, _ => rfl
 | 10, _ => rfl
 | 11, _ => rfl
 | 12, _ => rfl
 | n + 13, h => by omega
theorem f48_is {room times r a : Int} {ps : List Int} {hp : List (Option (List PV))} {x : Int × List Int} (hps : ps.length = 12) (h : madeS room times r a ps = some x) :
  E Tryd.prog Y0 48 [.a (kv .u8 r :: kv .u8 a :: ps.map (kv .u8)), iv room, iv times] hp = some (.a [iv x.1, .l .fz .nz x.2.length (x.2.map iv)], hp, none) := by
 unfold madeS at h
 split at h
 ·rename_i n h1 h2 h3
  split at h
  ·rename_i h4
   have h4 := Nat.le_of_ble_eq_true h4
   obtain rfl := Option.some.inj h
   have h1 : ¬ room = 0 := of_decide_eq_false h1
   have h2 : ¬ IntKind.i64.wrap (times + 1) = 0 := of_decide_eq_false h2
   rw [E_bodyN 3 body48 rfl (by decide) rfl]
   simp only [Tryd.f48, Option.get_some]
   have h5 : Nat.ble n 12 = true := ble_true h4
   simp [convM, h1, h2, h3, h4, h5, hps, refs_kv, sp2m, slice54 n h4]
   generalize IntKind.i64.wrap (1 + (IntKind.i64.wrap r).tmod room) = x1
   refine loop_ind (fun m σ => ∃ (j : Nat) (ts : Tr PV) (w : Option Nat), m + j = n ∧ wok hp.length w ∧ σ = ⟨[], ts, hp ++ [some (kv .u8 r :: kv .u8 a :: ps.map (kv .u8)), some [iv 0, .l .own .nz 0 []], some [iv x1, .l .own .nz j ((madeL ps j).map iv)]], w⟩ ∧ ts.get 6 = some (.p (hp.length + 1) 0) ∧ ts.get 7 = some (.p (hp.length + 2) 0) ∧ ts.get 24 = some (.s hp.length 2 n 12) ∧ ts.get 25 = some (iv n) ∧ ts.get 26 = some (iv j)) (n0 := n) ?_ ?_
   ·exact ⟨0, _, _, rfl, by simp, rfl, by simp, by simp, by simp, by simp, by simp⟩
   ·rintro m σ ⟨j, ts, w, hm, hw, rfl, g6, g7, g24, g25, g26⟩ ih
    rcases Nat.lt_or_ge j n with hj | hj
    ·have hjj : (j : Int) < n := by omega
     have hjp : j < ps.length := by omega
     have e1 : (kv .u8 r :: kv .u8 a :: ps.map (kv .u8))[2 + j]? = some (kv .u8 ps[j]) := by rw [Nat.add_comm]; simp [List.getElem?_eq_getElem hjp]
     have w1 := wrap_nat (show j < 1000000000000 by omega)
     have e2 : madeL ps (j + 1) = madeL ps j ++ [Int.tmod (IntKind.i64.wrap ps[j]) 6] := by
      unfold madeL
      rw [List.take_add_one, List.getElem?_eq_getElem hjp, List.map_append]; rfl
     have e3 : (madeL ps j).length = j := by unfold madeL; simp; omega
     have e4 : Nat.ble ((j + 1) * 10) limit = true := ble_true (by unfold limit; omega)
     simp [g6, g7, g24, g25, g26, hjj, intIn_nat hj, e1, convM, w1, e3, e4, sp2m, sp1m]
     rw [show List.map iv (madeL ps j) ++ [PV.v (.int .i64 (Int.tmod (IntKind.i64.wrap ps[j]) 6))] = (madeL ps (j + 1)).map iv by rw [e2]; simp]
     exact ih (m - 1) _ (by omega) ⟨j + 1, _, _, by omega, by simp [hw], rfl, by simp [g6], by simp [g7], by simp [g24], by simp [g25], by simp⟩
    ·have : j = n := by omega
     subst this
     have e3 : (madeL ps j).length = j := by unfold madeL; simp; omega
     have lw : lowOf hp.length (lowB w (hp.length + 1)) = none := lowOf_wok (by simp [hw])
     simp [g6, g7, g24, g25, g26, lowOf_wok hw, sp2m, lw, e3]
  ·cases h
 ·cases h
end Go.Proofs.YtcdhajbhpnbdkaaDoor
