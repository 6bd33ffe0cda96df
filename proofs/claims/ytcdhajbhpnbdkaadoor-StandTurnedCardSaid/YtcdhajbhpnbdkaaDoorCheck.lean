/-
  What small list functions of the chapter answer, by the pure evaluator.
  What small list functions of the chapter answer, by the pure evaluator.
  put, in, and the reference's Check, by the pure evaluator.
  The given Check, by the pure evaluator.
  Conditions: none; definitions and lemmas.
-/
import Derived.Test.YtcdhajbhpnbdkaaDoorPurBase
set_option linter.unusedSimpArgs false
set_option linter.unusedVariables false
namespace Go.Proofs.YtcdhajbhpnbdkaaDoor
open Go.Abs Go.Pur
set_option maxRecDepth 100000
attribute [local simp] EK_region EK_seq EK_cond EK_block EK_blk EK_loop EK_exit EK.ex EK_ret EK_skip EK_nil EO_cons EO_nil EO1_true EO1_false EO2_some EO3_some EB_true EB_false pwanted poper pq pev Go.Pur.look pputT isAssign drOf pinit Tr.get_set lget pvOf_int pvOf_bool pvOf_str pvOf_nil rdv_ak notOwn_ak prt_ak loose_ak rdv_own rdv_fz rdv_bor rdv_rf rdv_pt rdv_v rdv_a rdv_t rdv_r rdv_p rdv_s rdv_f pbin plen pload ppart idxAddr pcond Nat.blt goInt_eq prun_not prun_neg mayLoad ER_ret ER_normal presL presOne moved stor okDrop settle_v settle_l settle_a settle_p settle_f noref_v noref_fz noref_a norefs_nil norefs_cons pclose given lowOf dropB Y0_keep pevParts stors pvCells pvCells.go vcells pfill reps zipParts ownFz pcells cellOK one psrcLen srcFits psrc takeP pgrow take getPl setPl mapL plEq elder isList lowP pevs frzs addP partAt ble_lim24 killV_v killV_a killV_t killV_f killV_i killV_p killV_s killV_un killV_dead killV_lfz killV_lbor killV_lown killV_rfz killV_rbor killV_lak killV_rak frzV_v frzV_a frzV_t frzV_f frzV_i frzV_p frzV_s frzV_un frzV_dead frzV_lfz frzV_lbor frzV_lown frzV_rfz frzV_rbor frzV_lak frzV_rak killCell_v killCell_a killCell_t killCell_f killCell_i killCell_p killCell_s killCell_un killCell_dead killCell_lfz killCell_lbor killCell_lown killCell_rfz killCell_rbor killCell_lak killCell_rak killV_lrf killV_lpt killV_rpt frzV_lrf frzV_lpt frzV_rpt killCell_lrft killCell_lptt killCell_rptt killCell_lrfc killCell_lptc killCell_rptc argv_lak argv_rak argv_v argv_a argv_p argv_f argv_fz argv_bor argv_rf argv_pt argv_rc argv_own mayTurn_none argvs pcallOp firm lowB refsTo_v refsTo_l refsTo_p refsTo_s refsTo_a refsTo_dead refsTo_nil refsTo_cons isOwn_lak ownFz_lak evSafe pskip plain pnewBlk fldAddr isOwn pput spliceP notOwn_fz notOwn_bor notOwn_own notOwn_rf notOwn_pt prt_fz prt_bor prt_own prt_rf prt_pt Go.Pur.freeze presM settles abin_and abin_or abin_andNot abin_mul abin_shr abin_shl abin_add abin_sub abin_eql abin_neq abin_lss abin_leq abin_gtr abin_geq hows pcallIn Y0_how Y0_part howOf partOf rdv_mown rdv_mfz rdv_mbor rdv_mrf killV_mown killV_mfz killV_mbor killV_mrf frzV_mown frzV_mfz frzV_mbor frzV_mrf killCell_mown killCell_mfz killCell_mbor killCell_mrf argv_mfz argv_mbor argv_mrf settle_m kls_v kls_l kls_a kls_t kls_r kls_p kls_s kls_f kls_i kls_it kls_un kls_dead kls_mown kls_mrf kls_mbor kls_mfz fzOf takable mapHere mapOwn mapTo flat toPlain toPlain.go ofFlat ofPair mapEs plook lookRes Y0_mv mvOf mvBlk premv
end Go.Proofs.YtcdhajbhpnbdkaaDoor
set_option linter.unusedSimpArgs false
set_option linter.unusedVariables false
namespace Go.Proofs.YtcdhajbhpnbdkaaDoor
open Go.Abs Go.Pur
set_option maxRecDepth 100000
attribute [local simp] EK_region EK_seq EK_cond EK_block EK_blk EK_loop EK_exit EK.ex EK_ret EK_skip EK_nil EO_cons EO_nil EO1_true EO1_false EO2_some EO3_some EB_true EB_false pwanted poper pq pev Go.Pur.look pputT isAssign drOf pinit Tr.get_set lget pvOf_int pvOf_bool pvOf_str pvOf_nil rdv_ak notOwn_ak prt_ak loose_ak rdv_own rdv_fz rdv_bor rdv_rf rdv_pt rdv_v rdv_a rdv_t rdv_r rdv_p rdv_s rdv_f pbin plen pload ppart idxAddr pcond Nat.blt goInt_eq prun_not prun_neg mayLoad ER_ret ER_normal presL presOne moved stor okDrop settle_v settle_l settle_a settle_p settle_f noref_v noref_fz noref_a norefs_nil norefs_cons pclose given lowOf dropB Y0_keep pevParts stors pvCells pvCells.go vcells pfill reps zipParts ownFz pcells cellOK one psrcLen srcFits psrc takeP pgrow take getPl setPl mapL plEq elder isList lowP pevs frzs addP partAt ble_lim24 killV_v killV_a killV_t killV_f killV_i killV_p killV_s killV_un killV_dead killV_lfz killV_lbor killV_lown killV_rfz killV_rbor killV_lak killV_rak frzV_v frzV_a frzV_t frzV_f frzV_i frzV_p frzV_s frzV_un frzV_dead frzV_lfz frzV_lbor frzV_lown frzV_rfz frzV_rbor frzV_lak frzV_rak killCell_v killCell_a killCell_t killCell_f killCell_i killCell_p killCell_s killCell_un killCell_dead killCell_lfz killCell_lbor killCell_lown killCell_rfz killCell_rbor killCell_lak killCell_rak killV_lrf killV_lpt killV_rpt frzV_lrf frzV_lpt frzV_rpt killCell_lrft killCell_lptt killCell_rptt killCell_lrfc killCell_lptc killCell_rptc argv_lak argv_rak argv_v argv_a argv_p argv_f argv_fz argv_bor argv_rf argv_pt argv_rc argv_own mayTurn_none argvs pcallOp firm lowB refsTo_v refsTo_l refsTo_p refsTo_s refsTo_a refsTo_dead refsTo_nil refsTo_cons isOwn_lak ownFz_lak evSafe pskip plain pnewBlk fldAddr isOwn pput spliceP notOwn_fz notOwn_bor notOwn_own notOwn_rf notOwn_pt prt_fz prt_bor prt_own prt_rf prt_pt Go.Pur.freeze presM settles abin_and abin_or abin_andNot abin_mul abin_shr abin_shl abin_add abin_sub abin_eql abin_neq abin_lss abin_leq abin_gtr abin_geq hows pcallIn Y0_how Y0_part howOf partOf rdv_mown rdv_mfz rdv_mbor rdv_mrf killV_mown killV_mfz killV_mbor killV_mrf frzV_mown frzV_mfz frzV_mbor frzV_mrf killCell_mown killCell_mfz killCell_mbor killCell_mrf argv_mfz argv_mbor argv_mrf settle_m kls_v kls_l kls_a kls_t kls_r kls_p kls_s kls_f kls_i kls_it kls_un kls_dead kls_mown kls_mrf kls_mbor kls_mfz fzOf takable mapHere mapOwn mapTo flat toPlain toPlain.go ofFlat ofPair mapEs plook lookRes Y0_mv mvOf mvBlk premv
def wo (l : List Int) (x : Int) : List Int := l.filter (· ≠ x)
end Go.Proofs.YtcdhajbhpnbdkaaDoor
set_option linter.unusedSimpArgs false
set_option linter.unusedVariables false
namespace Go.Proofs.YtcdhajbhpnbdkaaDoor
open Go.Abs Go.Pur
set_option maxRecDepth 100000
attribute [local simp] EK_region EK_seq EK_cond EK_block EK_blk EK_loop EK_exit EK.ex EK_ret EK_skip EK_nil EO_cons EO_nil EO1_true EO1_false EO2_some EO3_some EB_true EB_false pwanted poper pq pev Go.Pur.look pputT isAssign drOf pinit Tr.get_set lget pvOf_int pvOf_bool pvOf_str pvOf_nil rdv_ak notOwn_ak prt_ak loose_ak rdv_own rdv_fz rdv_bor rdv_rf rdv_pt rdv_v rdv_a rdv_t rdv_r rdv_p rdv_s rdv_f pbin plen pload ppart idxAddr pcond Nat.blt goInt_eq prun_not prun_neg mayLoad ER_ret ER_normal presL presOne moved stor okDrop settle_v settle_l settle_a settle_p settle_f noref_v noref_fz noref_a norefs_nil norefs_cons pclose given lowOf dropB Y0_keep pevParts stors pvCells pvCells.go vcells pfill reps zipParts ownFz pcells cellOK one psrcLen srcFits psrc takeP pgrow take getPl setPl mapL plEq elder isList lowP pevs frzs addP partAt ble_lim24 killV_v killV_a killV_t killV_f killV_i killV_p killV_s killV_un killV_dead killV_lfz killV_lbor killV_lown killV_rfz killV_rbor killV_lak killV_rak frzV_v frzV_a frzV_t frzV_f frzV_i frzV_p frzV_s frzV_un frzV_dead frzV_lfz frzV_lbor frzV_lown frzV_rfz frzV_rbor frzV_lak frzV_rak killCell_v killCell_a killCell_t killCell_f killCell_i killCell_p killCell_s killCell_un killCell_dead killCell_lfz killCell_lbor killCell_lown killCell_rfz killCell_rbor killCell_lak killCell_rak killV_lrf killV_lpt killV_rpt frzV_lrf frzV_lpt frzV_rpt killCell_lrft killCell_lptt killCell_rptt killCell_lrfc killCell_lptc killCell_rptc argv_lak argv_rak argv_v argv_a argv_p argv_f argv_fz argv_bor argv_rf argv_pt argv_rc argv_own mayTurn_none argvs pcallOp firm lowB refsTo_v refsTo_l refsTo_p refsTo_s refsTo_a refsTo_dead refsTo_nil refsTo_cons isOwn_lak ownFz_lak evSafe pskip plain pnewBlk fldAddr isOwn pput spliceP notOwn_fz notOwn_bor notOwn_own notOwn_rf notOwn_pt prt_fz prt_bor prt_own prt_rf prt_pt Go.Pur.freeze presM settles abin_and abin_or abin_andNot abin_mul abin_shr abin_shl abin_add abin_sub abin_eql abin_neq abin_lss abin_leq abin_gtr abin_geq hows pcallIn Y0_how Y0_part howOf partOf rdv_mown rdv_mfz rdv_mbor rdv_mrf killV_mown killV_mfz killV_mbor killV_mrf frzV_mown frzV_mfz frzV_mbor frzV_mrf killCell_mown killCell_mfz killCell_mbor killCell_mrf argv_mfz argv_mbor argv_mrf settle_m kls_v kls_l kls_a kls_t kls_r kls_p kls_s kls_f kls_i kls_it kls_un kls_dead kls_mown kls_mrf kls_mbor kls_mfz fzOf takable mapHere mapOwn mapTo flat toPlain toPlain.go ofFlat ofPair mapEs plook lookRes Y0_mv mvOf mvBlk premv
def chk (room : Int) (pages : List Int) : Int := if 1 ≤ room ∧ room ≤ 5 then (if pages.length ≤ 12 then (if ∀ p ∈ pages, 0 ≤ p ∧ p ≤ 5 then 0 else 2) else 3) else 1
end Go.Proofs.YtcdhajbhpnbdkaaDoor
set_option linter.unusedSimpArgs false
set_option linter.unusedVariables false
namespace Go.Proofs.YtcdhajbhpnbdkaaDoor
open Go.Abs Go.Pur
set_option maxRecDepth 100000
attribute [local simp] EK_region EK_seq EK_cond EK_block EK_blk EK_loop EK_exit EK.ex EK_ret EK_skip EK_nil EO_cons EO_nil EO1_true EO1_false EO2_some EO3_some EB_true EB_false pwanted poper pq pev Go.Pur.look pputT isAssign drOf pinit Tr.get_set lget pvOf_int pvOf_bool pvOf_str pvOf_nil rdv_ak notOwn_ak prt_ak loose_ak rdv_own rdv_fz rdv_bor rdv_rf rdv_pt rdv_v rdv_a rdv_t rdv_r rdv_p rdv_s rdv_f pbin plen pload ppart idxAddr pcond Nat.blt goInt_eq prun_not prun_neg mayLoad ER_ret ER_normal presL presOne moved stor okDrop settle_v settle_l settle_a settle_p settle_f noref_v noref_fz noref_a norefs_nil norefs_cons pclose given lowOf dropB Y0_keep pevParts stors pvCells pvCells.go vcells pfill reps zipParts ownFz pcells cellOK one psrcLen srcFits psrc takeP pgrow take getPl setPl mapL plEq elder isList lowP pevs frzs addP partAt ble_lim24 killV_v killV_a killV_t killV_f killV_i killV_p killV_s killV_un killV_dead killV_lfz killV_lbor killV_lown killV_rfz killV_rbor killV_lak killV_rak frzV_v frzV_a frzV_t frzV_f frzV_i frzV_p frzV_s frzV_un frzV_dead frzV_lfz frzV_lbor frzV_lown frzV_rfz frzV_rbor frzV_lak frzV_rak killCell_v killCell_a killCell_t killCell_f killCell_i killCell_p killCell_s killCell_un killCell_dead killCell_lfz killCell_lbor killCell_lown killCell_rfz killCell_rbor killCell_lak killCell_rak killV_lrf killV_lpt killV_rpt frzV_lrf frzV_lpt frzV_rpt killCell_lrft killCell_lptt killCell_rptt killCell_lrfc killCell_lptc killCell_rptc argv_lak argv_rak argv_v argv_a argv_p argv_f argv_fz argv_bor argv_rf argv_pt argv_rc argv_own mayTurn_none argvs pcallOp firm lowB refsTo_v refsTo_l refsTo_p refsTo_s refsTo_a refsTo_dead refsTo_nil refsTo_cons isOwn_lak ownFz_lak evSafe pskip plain pnewBlk fldAddr isOwn pput spliceP notOwn_fz notOwn_bor notOwn_own notOwn_rf notOwn_pt prt_fz prt_bor prt_own prt_rf prt_pt Go.Pur.freeze presM settles abin_and abin_or abin_andNot abin_mul abin_shr abin_shl abin_add abin_sub abin_eql abin_neq abin_lss abin_leq abin_gtr abin_geq hows pcallIn Y0_how Y0_part howOf partOf rdv_mown rdv_mfz rdv_mbor rdv_mrf killV_mown killV_mfz killV_mbor killV_mrf frzV_mown frzV_mfz frzV_mbor frzV_mrf killCell_mown killCell_mfz killCell_mbor killCell_mrf argv_mfz argv_mbor argv_mrf settle_m kls_v kls_l kls_a kls_t kls_r kls_p kls_s kls_f kls_i kls_it kls_un kls_dead kls_mown kls_mrf kls_mbor kls_mfz fzOf takable mapHere mapOwn mapTo flat toPlain toPlain.go ofFlat ofPair mapEs plook lookRes Y0_mv mvOf mvBlk premv
def ixOf (p : Int → Bool) (l : List Int) : Int := match l.findIdx? p with
 | some i => i
 | none => -1
theorem findIdx_at {p : Int → Bool} {l : List Int} {j : Nat} (h : ∀ y ∈ l.take j, p y = false) (hj : j < l.length) (hp : p l[j] = true) : ixOf p l = j := by
 unfold ixOf
 have : l.findIdx? p = some j := by
  rw [List.findIdx?_eq_some_iff_getElem]
  refine ⟨hj, hp, fun i hi => ?_⟩
  have := h l[i] (List.mem_take_iff_getElem.2 ⟨i, by omega, rfl⟩)
  simp [this]
 rw [this]
theorem findIdx_none {p : Int → Bool} {l : List Int} (h : ∀ y ∈ l, p y = false) : ixOf p l = -1 := by
 unfold ixOf
 have : l.findIdx? p = none := by
  rw [List.findIdx?_eq_none_iff]
  exact h
 rw [this]
theorem indexFunc_is {l : List Int} {g : FuncId} {p : Int → Bool} {b : Bool} {c : Ck} {hp : List (Option (List PV))} (hl : l.length < 1000000000) (hg : ∀ (x : Int) (hp : List (Option (List PV))), E Tryd.prog Y0 g [iv x] hp = some (.v (.bool (p x)), hp, none)) :
  E Tryd.prog Y0 99 [.l (ak b) c l.length (l.map iv), .f g [] []] hp = some (iv (ixOf p l), hp, none) := by
 rw [E_bodyN 2 body99 rfl (by decide) rfl]
 simp only [Tryd.f99, Option.get_some]
 simp [keep99, shape22]
 refine loop_ind (fun m σ => ∃ j ts, m + j = l.length ∧ σ = ⟨[], ts, hp, none⟩ ∧ ts.get 0 = some (.l (ak b) c l.length (l.map iv)) ∧ ts.get 1 = some (.f g [] []) ∧ ts.get 7 = some (iv l.length) ∧ ts.get 8 = some (iv j) ∧ ∀ y ∈ l.take j, p y = false) (n0 := l.length) ?_ ?_
 ·exact ⟨0, _, rfl, rfl, by simp, by simp, by simp, by simp, by simp⟩
 ·rintro m σ ⟨j, ts, hm, rfl, g0, g1, g7, g8, hx⟩ ih
  rcases Nat.lt_or_ge j l.length with hj | hj
  ·have h2 : Nat.ble (j + 1) l.length = true := ble_true hj
   have h3 : l[j]? = some l[j] := List.getElem?_eq_getElem hj
   by_cases hx2 : p l[j] = true
   ·have := findIdx_at hx hj hx2
    simp [keep99, g0, g1, g7, g8, shape22, row3, hj, intIn_nat hj, h2, h3, hx2, hg, this]
   ·simp [keep99, g0, g1, g7, g8, shape22, row3, hj, intIn_nat hj, h2, h3, hx2, hg, wrap_nat (show j < 1000000000000 by omega)]
    refine ih (m - 1) _ (by omega) ⟨j + 1, _, by omega, rfl, by simp [g0], by simp [g1], by simp [g7], by simp, ?_⟩
    intro y e
    rw [List.take_add_one, h3, List.mem_append] at e
    exact e.elim (hx y) fun e => by simp at e; subst e; simpa using hx2
  ·rw [List.take_of_length_le hj] at hx
   simp [keep99, g0, g1, g7, g8, shape22, row3, hj, Int.not_lt.2 (Int.ofNat_le.2 hj), findIdx_none hx]
theorem containsFunc_is {l : List Int} {g : FuncId} {p : Int → Bool} {b : Bool} {c : Ck} {hp : List (Option (List PV))} (hl : l.length < 1000000000) (hg : ∀ (x : Int) (hp : List (Option (List PV))), E Tryd.prog Y0 g [iv x] hp = some (.v (.bool (p x)), hp, none)) :
  E Tryd.prog Y0 70 [.l (ak b) c l.length (l.map iv), .f g [] []] hp = some (.v (.bool (decide (0 ≤ ixOf p l))), hp, none) := by
 rw [E_bodyN 2 body70 rfl (by decide) rfl]
 simp only [Tryd.f70, Option.get_some]
 simp [keep70, indexFunc_is (b := b) (p := p) hl hg]
def off (x : Int) : Bool := decide (x < 0 ∨ 6 ≤ x)
theorem check1_is {x : Int} {hp : List (Option (List PV))} : E Tryd.prog Y0 71 [iv x] hp = some (.v (.bool (off x)), hp, none) := by
 rw [E_bodyN 1 body71 rfl (by decide) rfl]
 simp only [Tryd.f71, Option.get_some]
 by_cases h : x < 0
 ·simp [keep71, h, off]
 ·simp [keep71, h, off]
theorem ixOf_off {l : List Int} : 0 ≤ ixOf off l ↔ ¬ ∀ p ∈ l, 0 ≤ p ∧ p ≤ 5 := by
 unfold ixOf
 constructor
 ·intro h hx
  have : l.findIdx? off = none := by
   rw [List.findIdx?_eq_none_iff]
   intro y hy
   have := hx y hy
   simp [off]; omega
  rw [this] at h
  simp at h
 ·intro h
  have : l.findIdx? off ≠ none := fun e => by
   rw [List.findIdx?_eq_none_iff] at e
   refine h fun p hp => ?_
   have := e p hp
   simp [off] at this; omega
  obtain ⟨i, hi⟩ := Option.ne_none_iff_exists'.1 this
  rw [hi]
  simp
theorem check_is {room : Int} {pages : List Int} {c : Ck} {hp : List (Option (List PV))} (hl : pages.length < 1000000000) : E Tryd.prog Y0 24 [.a [iv room, .l .fz c pages.length (pages.map iv)]] hp = some (iv (chk room pages), hp, none) := by
 rw [E_bodyN 1 body24 rfl (by decide) rfl]
 simp only [Tryd.f24, Option.get_some]
 by_cases h0 : room < 1
 ·simp [keep24, field24_0, field24_1, row3, row22, shape22, h0, chk, show ¬ 1 ≤ room by omega]
 ·by_cases h1 : 5 < room
  ·simp [keep24, field24_0, field24_1, row3, row22, shape22, h0, h1, chk, show ¬ room ≤ 5 by omega]
  ·have h1' : 1 ≤ room ∧ room ≤ 5 := by omega
   by_cases h2 : (12 : Int) < pages.length
   ·simp [keep24, field24_0, field24_1, row3, row22, shape22, h0, h1, h1', h2, chk, show ¬ pages.length ≤ 12 by omega]
   ·have h2' : pages.length ≤ 12 := by omega
    have h3 := @containsFunc_is pages 71 off false c (hp ++ [some [iv room, .l .fz c pages.length (pages.map iv)]]) hl (fun x hp => check1_is)
    by_cases h4 : ∀ p ∈ pages, 0 ≤ p ∧ p ≤ 5
    ·have h5 : ¬ 0 ≤ ixOf off pages := fun h => ixOf_off.1 h h4
     simp only [chk, if_pos h1', if_pos h2', if_pos h4]
     simp [ak, h5] at h3
     simp [keep24, field24_0, field24_1, row3, row22, shape22, h0, h1, h2, h3]
    ·have h5 : 0 ≤ ixOf off pages := ixOf_off.2 h4
     simp only [chk, if_pos h1', if_pos h2', if_neg h4]
     simp [ak, h5] at h3
     simp [keep24, field24_0, field24_1, row3, row22, shape22, h0, h1, h2, h3]
end Go.Proofs.YtcdhajbhpnbdkaaDoor
