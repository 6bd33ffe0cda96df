/-
  put, in, and the reference's Check, by the pure evaluator.
  Conditions: none; lemmas.
-/
import Derived.Test.YtcdhajbhpnbdkaaDoorWithout
set_option linter.unusedSimpArgs false
set_option linter.unusedVariables false
namespace Go.Proofs.YtcdhajbhpnbdkaaDoor
open Go.Abs Go.Pur
set_option maxRecDepth 100000
attribute [local simp] EK_region EK_seq EK_cond EK_block EK_blk EK_loop EK_exit EK.ex EK_ret EK_skip EK_nil EO_cons EO_nil EO1_true EO1_false EO2_some EO3_some EB_true EB_false pwanted poper pq pev Go.Pur.look pputT isAssign drOf pinit Tr.get_set lget pvOf_int pvOf_bool pvOf_str pvOf_nil rdv_ak notOwn_ak prt_ak loose_ak rdv_own rdv_fz rdv_bor rdv_rf rdv_pt rdv_v rdv_a rdv_t rdv_r rdv_p rdv_s rdv_f pbin plen pload ppart idxAddr pcond Nat.blt goInt_eq prun_not prun_neg mayLoad ER_ret ER_normal presL presOne moved stor okDrop settle_v settle_l settle_a settle_p settle_f noref_v noref_fz noref_a norefs_nil norefs_cons pclose given lowOf dropB Y0_keep pevParts stors pvCells pvCells.go vcells pfill reps zipParts ownFz pcells cellOK one psrcLen srcFits psrc takeP pgrow take getPl setPl mapL plEq elder isList lowP pevs frzs addP partAt ble_lim24 killV_v killV_a killV_t killV_f killV_i killV_p killV_s killV_un killV_dead killV_lfz killV_lbor killV_lown killV_rfz killV_rbor killV_lak killV_rak frzV_v frzV_a frzV_t frzV_f frzV_i frzV_p frzV_s frzV_un frzV_dead frzV_lfz frzV_lbor frzV_lown frzV_rfz frzV_rbor frzV_lak frzV_rak killCell_v killCell_a killCell_t killCell_f killCell_i killCell_p killCell_s killCell_un killCell_dead killCell_lfz killCell_lbor killCell_lown killCell_rfz killCell_rbor killCell_lak killCell_rak killV_lrf killV_lpt killV_rpt frzV_lrf frzV_lpt frzV_rpt killCell_lrft killCell_lptt killCell_rptt killCell_lrfc killCell_lptc killCell_rptc argv_lak argv_rak argv_v argv_a argv_p argv_f argv_fz argv_bor argv_rf argv_pt argv_rc argv_own mayTurn_none argvs pcallOp firm lowB refsTo_v refsTo_l refsTo_p refsTo_s refsTo_a refsTo_dead refsTo_nil refsTo_cons isOwn_lak ownFz_lak evSafe pskip plain pnewBlk fldAddr isOwn pput spliceP notOwn_fz notOwn_bor notOwn_own notOwn_rf notOwn_pt prt_fz prt_bor prt_own prt_rf prt_pt Go.Pur.freeze presM settles abin_and abin_or abin_andNot abin_mul abin_shr abin_shl abin_add abin_sub abin_eql abin_neq abin_lss abin_leq abin_gtr abin_geq
abbrev HasIs (k : Vl) : Prop := ∀ {l : List Int} {x : Int} {c : Ck} {hp : List (Option (List PV))}, l.length < 1000000000 → E Tryd.prog Y0 69 [.l k c l.length (l.map iv), iv x] hp = some (.v (.bool (decide (x ∈ l))), hp, none)
theorem has_bor : HasIs .bor := @fun l x c hp h => has_is (b := true) h
theorem has_fz : HasIs .fz := @fun l x c hp h => has_is (b := false) h
abbrev WoIs (k : Vl) : Prop := ∀ {l : List Int} {x : Int} {c : Ck} {hp : List (Option (List PV))}, l.length < 1000000000 → E Tryd.prog Y0 96 [.l k c l.length (l.map iv), iv x] hp = some (.l .own .nz (wo l x).length ((wo l x).map iv), hp, none)
theorem wo_bor : WoIs .bor := @fun l x c hp h => without_is (b := true) h
theorem wo_fz : WoIs .fz := @fun l x c hp h => without_is (b := false) h
theorem put_is {l : List Int} {x : Int} {b : Bool} {c : Ck} {hp : List (Option (List PV))} (hl : l.length < 1000000000) : E Tryd.prog Y0 97 [.l (ak b) c l.length (l.map iv), iv x] hp = some (.l .own .nz (wo l x ++ [x]).length ((wo l x ++ [x]).map iv), hp, none) := by
  rw [E_bodyN 2 body97 rfl (by decide) rfl]
  simp only [Tryd.f97, Option.get_some]
  have h6 : Nat.ble (((wo l x).length + 1) * 10) limit = true := ble_true (by have := @wo_length l x; unfold limit; omega)
  have h7 := @without_is l x b c hp hl
  simp only [iv] at h7
  simp [keep97, shape22, row3, zero3, by3, iv, h6, h7]
abbrev PutIs (k : Vl) : Prop := ∀ {l : List Int} {x : Int} {c : Ck} {hp : List (Option (List PV))}, l.length < 1000000000 → E Tryd.prog Y0 97 [.l k c l.length (l.map iv), iv x] hp = some (.l .own .nz (wo l x ++ [x]).length ((wo l x ++ [x]).map iv), hp, none)
theorem put_bor : PutIs .bor := @fun l x c hp h => put_is (b := true) h
theorem put_fz : PutIs .fz := @fun l x c hp h => put_is (b := false) h
theorem in_is {n lo hi : Int} {hp : List (Option (List PV))} : E Tryd.prog Y0 72 [iv n, iv lo, iv hi] hp = some (.v (.bool (decide (lo ≤ n ∧ n ≤ hi))), hp, none) := by
  rw [E_bodyN 3 body72 rfl (by decide) rfl]
  simp only [Tryd.f72, Option.get_some]
  by_cases h : lo ≤ n
  · simp [keep72, iv, h]
  · simp [keep72, iv, h]
def jv (room : Int) (pages : List Int) : PV := .a [iv room, .l .fz .any pages.length (pages.map iv)]
def chk (room : Int) (pages : List Int) : Int := if 1 ≤ room ∧ room ≤ 5 then (if pages.length ≤ 12 then (if ∀ p ∈ pages, 0 ≤ p ∧ p ≤ 5 then 0 else 2) else 3) else 1
theorem refCheck_is {room : Int} {pages : List Int} {c : Ck} {hp : List (Option (List PV))} (hl : pages.length < 1000000000) : E Tryd.prog Y0 25 [.a [iv room, .l .fz c pages.length (pages.map iv)]] hp = some (iv (chk room pages), hp, none) := by
  rw [E_bodyN 1 body25 rfl (by decide) rfl]
  simp only [Tryd.f25, Option.get_some]
  by_cases h1 : 1 ≤ room ∧ room ≤ 5
  · by_cases h2 : (12 : Int) < pages.length
    · simp [keep25, field27_0, field27_1, row3, row22, @in_is, h1, shape22, h2, chk, show ¬ pages.length ≤ 12 by omega]
    · have h2' : pages.length ≤ 12 := by omega
      simp [keep25, field27_0, field27_1, row3, row22, @in_is, h1, shape22, h2]
      refine loop_ind (fun m σ => ∃ j ts, m + j = pages.length ∧ σ = ⟨[], ts, hp ++ [some [iv room, .l .fz c pages.length (pages.map iv)]], none⟩ ∧ ts.get 1 = some (.p hp.length 0) ∧ ts.get 3 = some (iv j) ∧ ∀ p ∈ pages.take j, 0 ≤ p ∧ p ≤ 5) (n0 := pages.length) ?_ ?_
      · exact ⟨0, _, by simp, rfl, by simp, by simp, by simp⟩
      · rintro m σ ⟨j, ts, hm, rfl, g1, g3, hx⟩ ih
        rcases Nat.lt_or_ge j pages.length with hj | hj
        · have h3 : Nat.ble (j + 1) pages.length = true := ble_true hj
          have h4 : pages[j]? = some pages[j] := List.getElem?_eq_getElem hj
          by_cases h5 : 0 ≤ pages[j] ∧ pages[j] ≤ 5
          · simp [keep25, field27_0, field27_1, row3, row22, @in_is, shape22, g1, g3, hj, intIn_nat hj, h3, h4, h5, wrap_nat (show j < 1000000000000 by omega)]
            refine ih (m - 1) _ (by omega) ⟨j + 1, _, by omega, rfl, by simp [g1], by simp, ?_⟩
            intro p e
            rw [List.take_add_one, h4, List.mem_append] at e
            exact e.elim (hx p) fun e => by simp at e; rw [e]; exact h5
          · have h6 : ¬ ∀ p ∈ pages, 0 ≤ p ∧ p ≤ 5 := fun h => h5 (h _ (List.getElem_mem hj))
            simp only [chk, if_pos h1, if_pos h2', if_neg h6]
            simp [keep25, field27_0, field27_1, row3, row22, @in_is, shape22, g1, g3, hj, intIn_nat hj, h3, h4, h5]
        · rw [List.take_of_length_le hj] at hx
          simp only [chk, if_pos h1, if_pos h2', if_pos hx]
          simp [keep25, field27_0, field27_1, row3, row22, @in_is, shape22, g1, g3, Int.not_lt.2 (Int.ofNat_le.2 hj)]
  · simp [keep25, field27_0, field27_1, row3, row22, @in_is, h1, shape22, chk]
end Go.Proofs.YtcdhajbhpnbdkaaDoor
