/-
  short.Parts: the parts of a word of one size.
  Conditions: none; definitions and lemmas.
-/
import Derived.Test.YtmnmfmghmenkkaaCheck25
import Derived.Test.YtmnmfmghmenkkaaRows61
set_option linter.unusedSimpArgs false
set_option linter.unusedVariables false
namespace Go.Proofs.Ytmnmfmghmenkkaa
open Go.Abs Go.Pur
set_option maxRecDepth 100000
set_option maxHeartbeats 2000000
def strL (l : List (List UInt8)) : PV := .l .fz .any l.length (l.map tv)
theorem rows61_len {w : List UInt8} : (rows61 w).length = w.length + 1 := by simp [rows61]
theorem rows61_at {w : List UInt8} {i : Nat} (h : i < w.length + 1) : (rows61 w)[i]? = some (srt (allR w.length w i)) := by
 unfold rows61
 rw [List.getElem?_map, List.getElem?_range h]; rfl
theorem f61_is {w : List UInt8} {hp : List (Option (List PV))} (hw : w.length ≤ 10) (ha : ∀ x ∈ w, x.toNat < 128) : E Try.prog Y0 61 [.v (.string (bs w))] hp = some (.l .fz .any (w.length + 1) ((rows61 w).map strL), hp, none) := by
 refine E_known rfl ?_
 show libP e61 [.v (.string (bs w))] hp = _
 have hdl : (bs w).data.toList = w := by simp
 have h1 : Nat.ble (bs w).size 10 = true := Nat.ble_eq_true_of_le (by rw [bs_size]; exact hw)
 have h2 : ((bs w).data.toList.all fun x => Nat.blt x.toNat 128) = true := by
  rw [List.all_eq_true]
  intro x hx
  exact Nat.ble_eq_true_of_le (ha x (by simpa using hx))
 have he : e61 [.p (.string (bs w))] = some [.ll ((rows61 w).map fun (l : List (List UInt8)) => l.map strV)] := by
  show (match Nat.ble (bs w).size 10, (bs w).data.toList.all fun x => Nat.blt x.toNat 128 with
   | true, true => some [KR.ll ((rows61 (bs w).data.toList).map fun (l : List (List UInt8)) => l.map strV)]
   | _, _ => none) = _
  rw [h1, h2, hdl]
 have hok : [KR.ll ((rows61 w).map fun (l : List (List UInt8)) => l.map strV)].all okR = true := by
  simp only [List.all_cons, List.all_nil, Bool.and_true, okR, Bool.and_eq_true, List.length_map, rows61_len]
  refine ⟨?_, Nat.ble_eq_true_of_le (by unfold unkCap; omega)⟩
  rw [List.all_eq_true]
  intro cs hcs
  obtain ⟨l, hl, rfl⟩ := List.mem_map.1 hcs
  unfold okL
  rw [Bool.and_eq_true]
  refine ⟨?_, ?_⟩
  ·rw [List.all_eq_true]
   intro v hv
   obtain ⟨b, _, rfl⟩ := List.mem_map.1 hv
   rfl
  ·obtain ⟨i, hi, rfl⟩ := List.mem_map.1 hl
   have h3 := @allR_bound w.length w i
   have h4 : 2 ^ w.length ≤ 2 ^ 10 := Nat.pow_le_pow_right (by decide) hw
   refine Nat.ble_eq_true_of_le ?_
   rw [List.length_map]
   have : (srt (allR w.length w i)).length = (allR w.length w i).length := by simp [srt]
   unfold unkCap
   omega
 unfold libP
 show (match paArgs [PV.v (.string (bs w))] with
  | some ks => match e61 ks with
   | some rs => match rs.all okR with
    | true => some (pPack (pRes rs), hp, none)
    | false => none
   | none => none
  | none => none) = _
 rw [show paArgs [PV.v (.string (bs w))] = some [.p (.string (bs w))] from rfl]
 simp only [he, hok]
 simp only [pRes, pPack, List.map_map, List.length_map, rows61_len]
 congr 3
 refine List.map_congr_left fun l _ => ?_
 simp only [Function.comp, pIn, strL, List.map_map, List.length_map]
 rfl
attribute [local simp] EK_region EK_seq EK_cond EK_block EK_blk EK_loop EK_exit EK.ex EK_ret EK_skip EK_nil EO_cons EO_nil EO1_true EO1_false EO2_some EO3_some EB_true EB_false pwanted poper pq pev Go.Pur.look pputT isAssign drOf pinit Tr.get_set lget pvOf_int pvOf_bool pvOf_str pvOf_nil rdv_ak notOwn_ak prt_ak loose_ak rdv_own rdv_fz rdv_bor rdv_rf rdv_pt rdv_v rdv_a rdv_t rdv_r rdv_p rdv_s rdv_f pbin plen pload ppart idxAddr pcond Nat.blt goInt_eq prun_not prun_neg mayLoad ER_ret ER_normal presL presOne moved stor okDrop settle_v settle_l settle_a settle_p settle_f noref_v noref_fz noref_a norefs_nil norefs_cons pclose given dropB Y0_keep pevParts stors pvCells pvCells.go vcells pfill reps zipParts ownFz pcells cellOK one psrcLen srcFits psrc takeP pgrow take getPl setPl mapL plEq elder isList lowP pevs frzs addP partAt ble_lim24 killV_v killV_a killV_t killV_f killV_i killV_p killV_s killV_un killV_dead killV_lfz killV_lbor killV_lown killV_rfz killV_rbor killV_lak killV_rak frzV_v frzV_a frzV_t frzV_f frzV_i frzV_p frzV_s frzV_un frzV_dead frzV_lfz frzV_lbor frzV_lown frzV_rfz frzV_rbor frzV_lak frzV_rak killCell_v killCell_a killCell_t killCell_f killCell_i killCell_p killCell_s killCell_un killCell_dead killCell_lfz killCell_lbor killCell_lown killCell_rfz killCell_rbor killCell_lak killCell_rak killV_lrf killV_lpt killV_rpt frzV_lrf frzV_lpt frzV_rpt killCell_lrft killCell_lptt killCell_rptt killCell_lrfc killCell_lptc killCell_rptc argv_lak argv_rak argv_v argv_a argv_p argv_f argv_fz argv_bor argv_rf argv_pt argv_rc argv_own mayTurn_none argvs pcallOp firm refsTo_v refsTo_l refsTo_p refsTo_s refsTo_a refsTo_dead refsTo_nil refsTo_cons isOwn_lak ownFz_lak evSafe pskip plain pnewBlk fldAddr isOwn pput notOwn_fz notOwn_bor notOwn_own notOwn_rf notOwn_pt prt_fz prt_bor prt_own prt_rf prt_pt Go.Pur.freeze presM settles abin_and abin_or abin_andNot abin_mul abin_shr abin_shl abin_add abin_sub abin_eql abin_neq abin_lss abin_leq abin_gtr abin_geq hows pcallIn Y0_how Y0_part howOf partOf rdv_mown rdv_mfz rdv_mbor rdv_mrf killV_mown killV_mfz killV_mbor killV_mrf frzV_mown frzV_mfz frzV_mbor frzV_mrf killCell_mown killCell_mfz killCell_mbor killCell_mrf argv_mfz argv_mbor argv_mrf settle_m kls_v kls_l kls_a kls_t kls_r kls_p kls_s kls_f kls_i kls_it kls_un kls_dead kls_mown kls_mrf kls_mbor kls_mfz fzOf takable mapHere mapOwn mapTo flat toPlain toPlain.go ofFlat ofPair mapEs plook lookRes Y0_mv mvOf mvBlk premv Y0_fzm fzmOf poperX pconv keep31 sz3 by3 row3 zero3 sz4 by4 row4 zero4 sz5 by5 row5 zero5 sz9 by9 row9 shape9 zero9 sz21 by21 row21 zero21 sz22 by22 row22 zero22 sz24 by24 row24 zero24 sz29 by29 row29 shape29 zero29 sz36 by36 row36 shape36 zero36 sz52 by52 row52 shape52 zero52 parts52 sz54 by54 row54 zero54 parts54 field54_0 field54_1 sz58 by58 row58 zero58 mt58 az3 sz63 by63 row63 zero63 sz66 by66 row66 shape66 zero66 parts66 sz67 by67 row67 shape67 zero67 sz75 by75 row75 shape75 zero75 sz76 by76 row76 shape76 zero76 sz78 by78 row78 zero78 mt78 sz79 by79 row79 shape79 zero79 sz92 by92 row92 zero92 sz94 by94 row94 zero94 parts94 field94_0 field94_1 sz99 by99 row99 shape99 zero99 sz102 by102 row102 zero102 mt102 az4 sz103 by103 row103 zero103 mt103 sz106 by106 row106 zero106 parts106 field106_0 field106_1 sz108 by108 row108 zero108 parts108 field108_0 field108_1 sz109 by109 row109 shape109 zero109 sz110 by110 row110 zero110 mt110 sz112 by112 row112 zero112 sz115 by115 row115 zero115 sz116 by116 row116 zero116 sz119 by119 row119 zero119 sz127 by127 row127 zero127 sz129 by129 row129 zero129 sz130 by130 row130 zero130 sz134 by134 row134 zero134 bs_size gAt gAt0 sAt sAt0 optPlain rows_len noMaker_eq kindOf vlOf abin_rem abin_quo mayTurn_none lowOf_none Go.Pur.partAt rows_nil rows_cons ble_add ble_add0 ble_same toPlain toPlain.go intIn2_0 intIn2_1 ble12 ble22 tv lv max_int min_int pplains ak_true ak_false apartP beq_add beq_add0 beq_add1 argv_s wok_none wok_low_iff lowOf_wok
def f31O (w : List UInt8) (z : Int) : Option ((Ck × List (List UInt8)) × Int) :=
 if checkW w = 0 then (if z < 0 then some ((.nz, []), 1) else if (w.length : Int) < z then some ((.nz, []), 1) else some ((.any, srt (allR w.length w z.toNat)), 0)) else some ((.nz, []), checkW w)
theorem checkW_let {w : List UInt8} (h : checkW w = 0) : w.length ≤ 10 ∧ ∀ x ∈ w, 97 ≤ x.toNat ∧ x.toNat < 103 := by
 unfold checkW at h
 split at h
 ·cases h
 ·split at h
  ·rename_i h1 h2
   refine ⟨by omega, fun x hx => ?_⟩
   have := List.all_eq_true.1 h2 x hx
   unfold letW at this
   simpa using this
  ·cases h
theorem f31O_is {w : List UInt8} {z : Int} {hp : List (Option (List PV))} {r : (Ck × List (List UInt8)) × Int} (h : f31O w z = some r) :
  E Try.prog Y0 31 [.v (.string (bs w)), iv z] hp = some (.t [.l .fz r.1.1 r.1.2.length (r.1.2.map tv), iv r.2], hp, none) := by
 rw [E_bodyN 2 body31 rfl (by decide) rfl]
 simp only [Try.f31, Option.get_some]
 have e25 : ∀ hp, E Try.prog Y0 25 [.v (.string (bs w))] hp = some (iv (checkW w), hp, none) := fun hp => f25_is rfl
 have hsz := @bs_size w
 unfold f31O at h
 by_cases hc : checkW w = 0
 ·rw [if_pos hc] at h
  rw [hc] at e25
  obtain ⟨h10, hlet⟩ := checkW_let hc
  by_cases h0 : z < 0
  ·rw [if_pos h0] at h
   obtain rfl := inj_ok h
   simp [e25, h0]
  ·rw [if_neg h0] at h
   by_cases h1 : (w.length : Int) < z
   ·rw [if_pos h1] at h
    obtain rfl := inj_ok h
    simp [e25, h0, h1]
   ·rw [if_neg h1] at h
    obtain rfl := inj_ok h
    have e61 := fun hp => @f61_is w hp h10 (fun x hx => by have := hlet x hx; omega)
    obtain ⟨i, rfl⟩ := Int.eq_ofNat_of_zero_le (show 0 ≤ z by omega)
    have x1 : intIn (w.length + 1) (.int .i64 (i : Int)) = some i := intIn_nat (by omega)
    have b1 : Nat.ble (i + 1) (w.length + 1) = true := ble_true (by omega)
    have hL : ((rows61 w).map strL)[i]? = some (.l .fz .any (srt (allR w.length w i)).length ((srt (allR w.length w i)).map tv)) := by
     rw [List.getElem?_map, rows61_at (by omega)]; rfl
    simp [e25, h0, h1, e61, x1, b1, hL, rows61_len]
 ·rw [if_neg hc] at h
  obtain rfl := inj_ok h
  simp [e25, hc]
def f31S (F : Nat) (p0 : List UInt8) (p1 : Int) : Option ((Ck × List (List UInt8)) × Int) := f31O p0 p1
theorem f31_is {p0 : List UInt8} {p1 : Int} {hp : List (Option (List PV))} {F : Nat} {r : ((Ck × List (List UInt8)) × Int)} (h : f31S F p0 p1 = some r) :
  E Try.prog Y0 31 [.v (.string (bs p0)), iv p1] hp = some (.t [.l .fz r.1.1 r.1.2.length (r.1.2.map tv), iv r.2], hp, none) := f31O_is h
end Go.Proofs.Ytmnmfmghmenkkaa
