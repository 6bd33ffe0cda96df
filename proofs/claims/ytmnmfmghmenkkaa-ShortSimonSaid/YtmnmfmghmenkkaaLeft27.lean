/-
  Whether a string is left of another one.
  Conditions: none; definitions and lemmas.
-/
import Derived.Test.YtmnmfmghmenkkaaCheck25
set_option linter.unusedSimpArgs false
set_option linter.unusedVariables false
namespace Go.Proofs.Ytmnmfmghmenkkaa
open Go.Abs Go.Pur
set_option maxRecDepth 100000
set_option maxHeartbeats 2000000
attribute [local simp] EK_region EK_seq EK_cond EK_block EK_blk EK_loop EK_exit EK.ex EK_ret EK_skip EK_nil EO_cons EO_nil EO1_true EO1_false EO2_some EO3_some EB_true EB_false pwanted poper pq pev Go.Pur.look pputT isAssign drOf pinit Tr.get_set lget pvOf_int pvOf_bool pvOf_str pvOf_nil rdv_ak notOwn_ak prt_ak loose_ak rdv_own rdv_fz rdv_bor rdv_rf rdv_pt rdv_v rdv_a rdv_t rdv_r rdv_p rdv_s rdv_f pbin plen pload ppart idxAddr pcond Nat.blt goInt_eq prun_not prun_neg mayLoad ER_ret ER_normal presL presOne moved stor okDrop settle_v settle_l settle_a settle_p settle_f noref_v noref_fz noref_a norefs_nil norefs_cons pclose given dropB Y0_keep pevParts stors pvCells pvCells.go vcells pfill reps zipParts ownFz pcells cellOK one psrcLen srcFits psrc takeP pgrow take getPl setPl mapL plEq elder isList lowP pevs frzs addP partAt ble_lim24 killV_v killV_a killV_t killV_f killV_i killV_p killV_s killV_un killV_dead killV_lfz killV_lbor killV_lown killV_rfz killV_rbor killV_lak killV_rak frzV_v frzV_a frzV_t frzV_f frzV_i frzV_p frzV_s frzV_un frzV_dead frzV_lfz frzV_lbor frzV_lown frzV_rfz frzV_rbor frzV_lak frzV_rak killCell_v killCell_a killCell_t killCell_f killCell_i killCell_p killCell_s killCell_un killCell_dead killCell_lfz killCell_lbor killCell_lown killCell_rfz killCell_rbor killCell_lak killCell_rak killV_lrf killV_lpt killV_rpt frzV_lrf frzV_lpt frzV_rpt killCell_lrft killCell_lptt killCell_rptt killCell_lrfc killCell_lptc killCell_rptc argv_lak argv_rak argv_v argv_a argv_p argv_f argv_fz argv_bor argv_rf argv_pt argv_rc argv_own mayTurn_none argvs pcallOp firm refsTo_v refsTo_l refsTo_p refsTo_s refsTo_a refsTo_dead refsTo_nil refsTo_cons isOwn_lak ownFz_lak evSafe pskip plain pnewBlk fldAddr isOwn pput notOwn_fz notOwn_bor notOwn_own notOwn_rf notOwn_pt prt_fz prt_bor prt_own prt_rf prt_pt Go.Pur.freeze presM settles abin_and abin_or abin_andNot abin_mul abin_shr abin_shl abin_add abin_sub abin_eql abin_neq abin_lss abin_leq abin_gtr abin_geq hows pcallIn Y0_how Y0_part howOf partOf rdv_mown rdv_mfz rdv_mbor rdv_mrf killV_mown killV_mfz killV_mbor killV_mrf frzV_mown frzV_mfz frzV_mbor frzV_mrf killCell_mown killCell_mfz killCell_mbor killCell_mrf argv_mfz argv_mbor argv_mrf settle_m kls_v kls_l kls_a kls_t kls_r kls_p kls_s kls_f kls_i kls_it kls_un kls_dead kls_mown kls_mrf kls_mbor kls_mfz fzOf takable mapHere mapOwn mapTo flat toPlain toPlain.go ofFlat ofPair mapEs plook lookRes Y0_mv mvOf mvBlk premv Y0_fzm fzmOf poperX pconv keep27 sz3 by3 row3 zero3 sz4 by4 row4 zero4 sz5 by5 row5 zero5 sz9 by9 row9 shape9 zero9 sz21 by21 row21 zero21 sz22 by22 row22 zero22 sz24 by24 row24 zero24 sz29 by29 row29 shape29 zero29 sz36 by36 row36 shape36 zero36 sz52 by52 row52 shape52 zero52 parts52 sz54 by54 row54 zero54 parts54 field54_0 field54_1 sz58 by58 row58 zero58 mt58 az3 sz63 by63 row63 zero63 sz66 by66 row66 shape66 zero66 parts66 sz67 by67 row67 shape67 zero67 sz75 by75 row75 shape75 zero75 sz76 by76 row76 shape76 zero76 sz78 by78 row78 zero78 mt78 sz79 by79 row79 shape79 zero79 sz92 by92 row92 zero92 sz94 by94 row94 zero94 parts94 field94_0 field94_1 sz99 by99 row99 shape99 zero99 sz102 by102 row102 zero102 mt102 az4 sz103 by103 row103 zero103 mt103 sz106 by106 row106 zero106 parts106 field106_0 field106_1 sz108 by108 row108 zero108 parts108 field108_0 field108_1 sz109 by109 row109 shape109 zero109 sz110 by110 row110 zero110 mt110 sz112 by112 row112 zero112 sz115 by115 row115 zero115 sz116 by116 row116 zero116 sz119 by119 row119 zero119 sz127 by127 row127 zero127 sz129 by129 row129 zero129 sz130 by130 row130 zero130 sz134 by134 row134 zero134 bs_size gAt gAt0 sAt sAt0 optPlain rows_len noMaker_eq kindOf vlOf abin_rem abin_quo mayTurn_none lowOf_none Go.Pur.partAt rows_nil rows_cons ble_add ble_add0 ble_same toPlain toPlain.go intIn2_0 intIn2_1 ble12 ble22 tv lv max_int min_int pplains ak_true ak_false apartP beq_add beq_add0 beq_add1 argv_s wok_none wok_low_iff lowOf_wok
theorem extract_tail {d : UInt8} {p : List UInt8} : (bs (d :: p)).extract 1 (bs (d :: p)).size = bs p := by
 apply ByteArray.ext
 apply Array.ext'
 simp [ByteArray.data_extract]
theorem slice_tail {d : UInt8} {p : List UInt8} : pqSlice Try.prog 9 (.v (.string (bs (d :: p)))) (some (.int .i64 1)) none none = some (.v (.string (bs p))) := by
 unfold pqSlice
 rw [shape9]
 simp only []
 have h := str_from (P := Try.prog) (t := 9) Try.underlying9 (s := bs (d :: p)) (k := .i64) (a := 1) (by rw [bs_size]; simp)
 rw [show ((1 : Nat) : Int) = 1 from rfl] at h
 rw [h, extract_tail]
 rfl
def leftW : List UInt8 → List UInt8 → Bool
 | _, [] => true
 | [], _ :: _ => false
 | c :: w, d :: p => if c = d then leftW w p else leftW w (d :: p)
theorem left_nil {w : List UInt8} : leftW w [] = true := by cases w <;> rfl
theorem left_drop {w p : List UInt8} {k : Nat} (h : k < w.length) (d : UInt8) : leftW (w.drop k) (d :: p) = if w[k] = d then leftW (w.drop (k + 1)) p else leftW (w.drop (k + 1)) (d :: p) := by
 rw [List.drop_eq_getElem_cons h, leftW]
theorem left_is {w p : List UInt8} {r : Bool} {hp : List (Option (List PV))} (hw : w.length < 1000000000) (h : some (leftW w p) = some r) : E Try.prog Y0 27 [.v (.string (bs w)), .v (.string (bs p))] hp = some (.v (.bool r), hp, none) := by
 cases h
 obtain ⟨r0, hr0⟩ : ∃ r0, leftW w p = r0 := ⟨_, rfl⟩
 rw [hr0]
 rw [E_bodyN 2 body27 rfl (by decide) rfl]
 simp only [Try.f27, Option.get_some]
 simp
 refine loop_ind (fun m σ => ∃ (k : Nat) (p' : List UInt8) (ts : Tr PV) (wl : Option Nat), m + k = w.length ∧ wok hp.length wl ∧ leftW (w.drop k) p' = r0 ∧ σ = ⟨[], ts, hp, wl⟩ ∧ ts.get 0 = some (.v (.string (bs w))) ∧ ts.get 1 = some (.v (.string (bs p'))) ∧ ts.get 5 = some (iv k)) (n0 := w.length) ?_ ?_
 ·exact ⟨0, p, _, _, by omega, by simp, hr0, rfl, by simp, by simp, by simp⟩
 ·rintro m σ ⟨k, p', ts, wl, hm, hwl, hr, rfl, g0, g1, g5⟩ ih
  have hsz : (bs w).size = w.length := bs_size
  cases p' with
  | nil =>
   rw [left_nil] at hr
   subst hr
   have q1 : ∀ x y, abin Try.prog .neq 9 x y (.string (bs [])) (.string ⟨#[]⟩) = some (.bool false) := fun x y => by kernel_rfl
   have q2 : ∀ x y, abin Try.prog .eql 9 x y (.string (bs [])) (.string ⟨#[]⟩) = some (.bool true) := fun x y => by kernel_rfl
   clear ih
   by_cases hk : (k : Int) < (w.length : Int)
   ·simp [g0, g1, g5, hsz, hk, q1, q2, hwl]
   ·simp [g0, g1, g5, hsz, hk, q1, q2, hwl]
  | cons d p' =>
   have q1 : ∀ x y, abin Try.prog .neq 9 x y (.string (bs (d :: p'))) (.string ⟨#[]⟩) = some (.bool true) := fun x y => by
    rw [abin_sneq]; simp
   have q2 : ∀ x y, abin Try.prog .eql 9 x y (.string (bs (d :: p'))) (.string ⟨#[]⟩) = some (.bool false) := fun x y => by
    rw [abin_seql]; simp
   by_cases hk : k < w.length
   ·have h1 : (k : Int) < (w.length : Int) := by omega
    have w1 : IntKind.i64.wrap ((k : Int) + 1) = ((k + 1 : Nat) : Int) := wrap_nat (by omega)
    have hg : gS w (k : Int) = some (w[k].toNat : Int) := by
     show (match w[k]? with | some c => some (c.toNat : Int) | none => none) = _
     rw [List.getElem?_eq_getElem hk]
    have e1 := (gS_ok (P := Try.prog) (t := 9) (k := .i64) Try.underlying9 shape9 hg).1
    have e2 := (gS_ok (P := Try.prog) (t := 9) (k := .i64) Try.underlying9 shape9 (show gS (d :: p') ((0 : Nat) : Int) = some (d.toNat : Int) from rfl)).1
    rw [show ((0 : Nat) : Int) = 0 from rfl] at e2
    rw [left_drop hk] at hr
    generalize w[k] = c at *
    by_cases hc : c = d
    ·subst hc
     rw [if_pos rfl] at hr
     simp [g0, g1, g5, hsz, h1, q1, q2, e1, e2, optPlain, slice_tail, w1]
     exact ih (m - 1) _ (by omega) ⟨k + 1, p', _, _, by omega, hwl, hr, rfl, by simp [g0], by simp, by simp⟩
    ·rw [if_neg hc] at hr
     have hc2 : ¬ (c.toNat : Int) = (d.toNat : Int) := fun e => hc (UInt8.toNat.inj (by omega))
     simp [g0, g1, g5, hsz, h1, q1, q2, e1, e2, hc2, w1]
     exact ih (m - 1) _ (by omega) ⟨k + 1, d :: p', _, _, by omega, hwl, hr, rfl, by simp [g0], by simp [g1], by simp⟩
   ·have h1 : ¬ (k : Int) < (w.length : Int) := by omega
    rw [List.drop_of_length_le (by omega)] at hr
    obtain rfl : false = r0 := hr
    clear ih
    simp [g0, g1, g5, hsz, h1, q1, q2, hwl]
def leftO (w p : List UInt8) : Option Bool := match Nat.ble w.length 1000 with
 | true => some (leftW w p)
 | false => none
theorem f27_is {w p : List UInt8} {r : Bool} {hp : List (Option (List PV))} (h : leftO w p = some r) : E Try.prog Y0 27 [.v (.string (bs w)), .v (.string (bs p))] hp = some (.v (.bool r), hp, none) := by
 unfold leftO at h
 split at h
 ·rename_i hb
  exact left_is (by have := Nat.le_of_ble_eq_true hb; omega) h
 ·cases h
end Go.Proofs.Ytmnmfmghmenkkaa
