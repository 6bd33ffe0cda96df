/-
  The error of a word; a string that is left of another one.
  Conditions: none; definitions and lemmas.
-/
import Derived.Test.YtmnmfmghmenkkaaPurBase
import Derived.Test.YtmnmfmghmenkkaaPurG
set_option linter.unusedSimpArgs false
set_option linter.unusedVariables false
namespace Go.Proofs.Ytmnmfmghmenkkaa
open Go.Abs Go.Pur
set_option maxRecDepth 100000
set_option maxHeartbeats 2000000
attribute [local simp] EK_region EK_seq EK_cond EK_block EK_blk EK_loop EK_exit EK.ex EK_ret EK_skip EK_nil EO_cons EO_nil EO1_true EO1_false EO2_some EO3_some EB_true EB_false pwanted poper pq pev Go.Pur.look pputT isAssign drOf pinit Tr.get_set lget pvOf_int pvOf_bool pvOf_str pvOf_nil rdv_ak notOwn_ak prt_ak loose_ak rdv_own rdv_fz rdv_bor rdv_rf rdv_pt rdv_v rdv_a rdv_t rdv_r rdv_p rdv_s rdv_f pbin plen pload ppart idxAddr pcond Nat.blt goInt_eq prun_not prun_neg mayLoad ER_ret ER_normal presL presOne moved stor okDrop settle_v settle_l settle_a settle_p settle_f noref_v noref_fz noref_a norefs_nil norefs_cons pclose given dropB Y0_keep pevParts stors pvCells pvCells.go vcells pfill reps zipParts ownFz pcells cellOK one psrcLen srcFits psrc takeP pgrow take getPl setPl mapL plEq elder isList lowP pevs frzs addP partAt ble_lim24 killV_v killV_a killV_t killV_f killV_i killV_p killV_s killV_un killV_dead killV_lfz killV_lbor killV_lown killV_rfz killV_rbor killV_lak killV_rak frzV_v frzV_a frzV_t frzV_f frzV_i frzV_p frzV_s frzV_un frzV_dead frzV_lfz frzV_lbor frzV_lown frzV_rfz frzV_rbor frzV_lak frzV_rak killCell_v killCell_a killCell_t killCell_f killCell_i killCell_p killCell_s killCell_un killCell_dead killCell_lfz killCell_lbor killCell_lown killCell_rfz killCell_rbor killCell_lak killCell_rak killV_lrf killV_lpt killV_rpt frzV_lrf frzV_lpt frzV_rpt killCell_lrft killCell_lptt killCell_rptt killCell_lrfc killCell_lptc killCell_rptc argv_lak argv_rak argv_v argv_a argv_p argv_f argv_fz argv_bor argv_rf argv_pt argv_rc argv_own mayTurn_none argvs pcallOp firm refsTo_v refsTo_l refsTo_p refsTo_s refsTo_a refsTo_dead refsTo_nil refsTo_cons isOwn_lak ownFz_lak evSafe pskip plain pnewBlk fldAddr isOwn pput notOwn_fz notOwn_bor notOwn_own notOwn_rf notOwn_pt prt_fz prt_bor prt_own prt_rf prt_pt Go.Pur.freeze presM settles abin_and abin_or abin_andNot abin_mul abin_shr abin_shl abin_add abin_sub abin_eql abin_neq abin_lss abin_leq abin_gtr abin_geq hows pcallIn Y0_how Y0_part howOf partOf rdv_mown rdv_mfz rdv_mbor rdv_mrf killV_mown killV_mfz killV_mbor killV_mrf frzV_mown frzV_mfz frzV_mbor frzV_mrf killCell_mown killCell_mfz killCell_mbor killCell_mrf argv_mfz argv_mbor argv_mrf settle_m kls_v kls_l kls_a kls_t kls_r kls_p kls_s kls_f kls_i kls_it kls_un kls_dead kls_mown kls_mrf kls_mbor kls_mfz fzOf takable mapHere mapOwn mapTo flat toPlain toPlain.go ofFlat ofPair mapEs plook lookRes Y0_mv mvOf mvBlk premv Y0_fzm fzmOf poperX pconv keep25 sz3 by3 row3 zero3 sz4 by4 row4 zero4 sz5 by5 row5 zero5 sz9 by9 row9 shape9 zero9 sz21 by21 row21 zero21 sz22 by22 row22 zero22 sz24 by24 row24 zero24 sz29 by29 row29 shape29 zero29 sz36 by36 row36 shape36 zero36 sz52 by52 row52 shape52 zero52 parts52 sz54 by54 row54 zero54 parts54 field54_0 field54_1 sz58 by58 row58 zero58 mt58 az3 sz63 by63 row63 zero63 sz66 by66 row66 shape66 zero66 parts66 sz67 by67 row67 shape67 zero67 sz75 by75 row75 shape75 zero75 sz76 by76 row76 shape76 zero76 sz78 by78 row78 zero78 mt78 sz79 by79 row79 shape79 zero79 sz92 by92 row92 zero92 sz94 by94 row94 zero94 parts94 field94_0 field94_1 sz99 by99 row99 shape99 zero99 sz102 by102 row102 zero102 mt102 az4 sz103 by103 row103 zero103 mt103 sz106 by106 row106 zero106 parts106 field106_0 field106_1 sz108 by108 row108 zero108 parts108 field108_0 field108_1 sz109 by109 row109 shape109 zero109 sz110 by110 row110 zero110 mt110 sz112 by112 row112 zero112 sz115 by115 row115 zero115 sz116 by116 row116 zero116 sz119 by119 row119 zero119 sz127 by127 row127 zero127 sz129 by129 row129 zero129 sz130 by130 row130 zero130 sz134 by134 row134 zero134 bs_size gAt gAt0 sAt sAt0 optPlain rows_len noMaker_eq kindOf vlOf abin_rem abin_quo mayTurn_none lowOf_none Go.Pur.partAt rows_nil rows_cons ble_add ble_add0 ble_same toPlain toPlain.go intIn2_0 intIn2_1 ble12 ble22 tv lv max_int min_int pplains ak_true ak_false apartP beq_add beq_add0 beq_add1 argv_s wok_none wok_low_iff lowOf_wok
theorem decode_hi {s : ByteArray} {i : Nat} (h : 128 ≤ (s.get! i).toNat) : 128 ≤ (Utf8.decode s i).1 := by
 unfold Utf8.decode
 simp only [Nat.add_zero]
 rw [if_neg (by omega)]
 repeat' split
 all_goals first
  | (simp only [Bool.and_eq_true, decide_eq_true_eq, ge_iff_le] at *; omega)
  | (simp only [Utf8.runeError]; omega)
theorem bs_get {l : List UInt8} {k : Nat} (h : k < l.length) : (bs l).get! k = l[k] := by
 simp [ByteArray.get!, h]
def letW (c : UInt8) : Bool := decide (97 ≤ c.toNat) && decide (c.toNat < 103)
def checkW (l : List UInt8) : Int := if 10 < l.length then 19 else if l.all letW then 0 else 10
theorem f25_is {l : List UInt8} {r : Int} {hp : List (Option (List PV))} (h : some (checkW l) = some r) : E Try.prog Y0 25 [.v (.string (bs l))] hp = some (iv r, hp, none) := by
 cases h
 rw [E_bodyN 1 body25 rfl (by decide) rfl]
 simp only [Try.f25, Option.get_some]
 unfold checkW
 by_cases h10 : 10 < l.length
 ·have h1 : (10 : Int) < (l.length : Int) := by omega
  rw [if_pos h10]
  simp [h1]
 ·have h1 : ¬ (10 : Int) < (l.length : Int) := by omega
  rw [if_neg h10]
  obtain ⟨r0, hr0⟩ : ∃ r0, (if l.all letW = true then (0 : Int) else 10) = r0 := ⟨_, rfl⟩
  rw [hr0]
  simp [h1]
  refine loop_ind (fun m σ => ∃ (k : Nat) (ts : Tr PV) (w : Option Nat), m + k = l.length ∧ wok hp.length w ∧ (l.take k).all letW = true ∧ σ = ⟨[], ts, hp, w⟩ ∧ ts.get 9 = some (.it (bs l) k)) (n0 := l.length) ?_ ?_
  ·exact ⟨0, _, _, by omega, by simp, by simp, rfl, by simp⟩
  ·rintro m σ ⟨k, ts, w, hm, hw, hall, rfl, g9⟩ ih
   by_cases hk : k < l.length
   ·have hb : Nat.ble (k + 1) l.length = true := ble_true hk
    by_cases hc : letW l[k] = true
    ·have hl : 97 ≤ l[k].toNat ∧ l[k].toNat < 103 := by simpa [letW] using hc
     have hd : Utf8.decode (bs l) k = (l[k].toNat, 1) := gA_ok (by
      unfold gA
      rw [List.getElem?_eq_getElem hk]
      simp only []
      rw [show Nat.blt l[k].toNat 128 = true from Nat.ble_eq_true_of_le (by omega)])
     have c1 : ¬ (l[k].toNat : Int) < 97 := by omega
     have c2 : ¬ (103 : Int) ≤ (l[k].toNat : Int) := by omega
     generalize hx : l[k] = x at *
     simp [g9, hb, hd, c1, c2]
     refine ih (m - 1) _ (by omega) ⟨k + 1, _, _, by omega, by simp [hw], ?_, rfl, by simp⟩
     rw [List.take_add_one, List.getElem?_eq_getElem hk, List.all_append, hall, hx]
     simp [hc]
    ·have hf : l.all letW = false := by
      rw [← Bool.not_eq_true, List.all_eq_true]
      intro h
      exact hc (h _ (List.getElem_mem hk))
     have hd : (Utf8.decode (bs l) k).1 < 97 ∨ 103 ≤ (Utf8.decode (bs l) k).1 := by
      by_cases h128 : 128 ≤ l[k].toNat
      ·have := decode_hi (s := bs l) (i := k) (by rw [bs_get hk]; exact h128)
       omega
      ·have hd : Utf8.decode (bs l) k = (l[k].toNat, 1) := gA_ok (by
        unfold gA
        rw [List.getElem?_eq_getElem hk]
        simp only []
        rw [show Nat.blt l[k].toNat 128 = true from Nat.ble_eq_true_of_le (by omega)])
       rw [hd]
       have : ¬ (97 ≤ l[k].toNat ∧ l[k].toNat < 103) := by simpa [letW] using hc
       simp only []
       omega
     rw [hf] at hr0
     obtain rfl : (10 : Int) = r0 := hr0
     clear ih
     rcases hd with hd | hd
     ·have c1 : ((Utf8.decode (bs l) k).1 : Int) < 97 := by omega
      simp [g9, hb, c1, hw]
     ·have c1 : ¬ ((Utf8.decode (bs l) k).1 : Int) < 97 := by omega
      have c2 : (103 : Int) ≤ ((Utf8.decode (bs l) k).1 : Int) := by omega
      simp [g9, hb, c1, c2, hw]
   ·have hb : Nat.ble (k + 1) l.length = false := bleF (by omega)
    rw [List.take_of_length_le (by omega)] at hall
    rw [hall] at hr0
    obtain rfl : (0 : Int) = r0 := hr0
    clear ih
    simp [g9, hb, hw]
end Go.Proofs.Ytmnmfmghmenkkaa
