/-
  list, full and with, by the pure evaluator.
  Conditions: none; lemmas.
-/
import Derived.Test.YtcdhajbhpnbdkaaDoorTz
set_option linter.unusedSimpArgs false
set_option linter.unusedVariables false
namespace Go.Proofs.YtcdhajbhpnbdkaaDoor
open Go.Abs Go.Pur
set_option maxRecDepth 100000
attribute [local simp] EK_region EK_seq EK_cond EK_block EK_blk EK_loop EK_exit EK.ex EK_ret EK_skip EK_nil EO_cons EO_nil EO1_true EO1_false EO2_some EO3_some EB_true EB_false pwanted poper pq pev Go.Pur.look pputT isAssign drOf pinit Tr.get_set lget pvOf_int pvOf_bool pvOf_str pvOf_nil rdv_ak notOwn_ak prt_ak loose_ak rdv_own rdv_fz rdv_bor rdv_rf rdv_pt rdv_v rdv_a rdv_t rdv_r rdv_p rdv_s rdv_f pbin plen pload ppart idxAddr pcond Nat.blt goInt_eq prun_not prun_neg mayLoad ER_ret ER_normal presL presOne moved stor okDrop settle_v settle_l settle_a settle_p settle_f noref_v noref_fz noref_a norefs_nil norefs_cons pclose given lowOf dropB Y0_keep pevParts stors pvCells pvCells.go vcells pfill reps zipParts ownFz pcells cellOK one psrcLen srcFits psrc takeP pgrow take getPl setPl mapL plEq elder isList lowP pevs frzs addP partAt ble_lim24 killV_v killV_a killV_t killV_f killV_i killV_p killV_s killV_un killV_dead killV_lfz killV_lbor killV_lown killV_rfz killV_rbor killV_lak killV_rak frzV_v frzV_a frzV_t frzV_f frzV_i frzV_p frzV_s frzV_un frzV_dead frzV_lfz frzV_lbor frzV_lown frzV_rfz frzV_rbor frzV_lak frzV_rak killCell_v killCell_a killCell_t killCell_f killCell_i killCell_p killCell_s killCell_un killCell_dead killCell_lfz killCell_lbor killCell_lown killCell_rfz killCell_rbor killCell_lak killCell_rak killV_lrf killV_lpt killV_rpt frzV_lrf frzV_lpt frzV_rpt killCell_lrft killCell_lptt killCell_rptt killCell_lrfc killCell_lptc killCell_rptc argv_lak argv_rak argv_v argv_a argv_p argv_f argv_fz argv_bor argv_rf argv_pt argv_rc argv_own mayTurn_none argvs pcallOp firm lowB refsTo_v refsTo_l refsTo_p refsTo_s refsTo_a refsTo_dead refsTo_nil refsTo_cons isOwn_lak ownFz_lak evSafe pskip plain pnewBlk fldAddr isOwn pput spliceP notOwn_fz notOwn_bor notOwn_own notOwn_rf notOwn_pt prt_fz prt_bor prt_own prt_rf prt_pt Go.Pur.freeze presM settles abin_and abin_or abin_andNot abin_mul abin_shr abin_shl abin_add abin_sub abin_eql abin_neq abin_lss abin_leq abin_gtr abin_geq
theorem list_is {s : Nat} {hp : List (Option (List PV))} (h : s < 4096) : E Tryd.prog Y0 68 [uv s] hp = some (.l .own .nz (bitsL s).length ((bitsL s).map iv), hp, none) := by
  rw [E_bodyN 1 body68 rfl (by decide) rfl]
  simp only [Tryd.f68, Option.get_some]
  simp [keep68]
  refine loop_ind (fun m σ => ∃ (out : List Int) (ts : Tr PV), m < 4096 ∧ out ++ bitsL m = bitsL s ∧ σ = ⟨[], ts, hp, none⟩ ∧ ts.get 0 = some (uv m) ∧ ts.get 3 = some (.l .own .nz out.length (out.map iv))) (n0 := s) ?_ ?_
  · exact ⟨[], _, h, rfl, rfl, by simp, by simp⟩
  · rintro m σ ⟨out, ts, hm, ho, rfl, g0, g3⟩ ih
    by_cases h0 : m = 0
    · subst h0
      have : bitsL 0 = [] := by decide
      rw [this, List.append_nil] at ho
      subst ho
      simp [keep68, g0, g3, shape22]
    · obtain ⟨i, _, _, _, d, e, f, g⟩ := tz_tab hm h0
      have hl : (bitsL s).length ≤ 12 := by unfold bitsL bitsN; rw [List.length_map]; exact List.length_filter_le _ _
      have hl2 : (out ++ bitsL m).length ≤ 12 := by rw [ho]; exact hl
      have h6 : Nat.ble ((out.length + 1) * 10) limit = true := ble_true (by rw [List.length_append] at hl2; unfold limit; omega)
      simp [keep68, g0, g3, shape22, row3, zero3, by3, h0, tz_is hm h0, e, h6]
      refine ih _ _ f ⟨out ++ [(tz m : Int)], _, by omega, ?_, rfl, by simp, by simp⟩
      rw [← ho]
      unfold bitsL
      rw [d]
      simp
def fullB (s p : Nat) (room : Int) : Bool := !s.testBit p && decide (room ≤ cnt s)
theorem full_is {s p : Nat} {room : Int} {hp : List (Option (List PV))} (h : s < 64) (h1 : p < 6) : E Tryd.prog Y0 81 [.a [uv s], iv p, iv room] hp = some (.v (.bool (fullB s p room)), hp, none) := by
  obtain ⟨a, _⟩ := bit_at h h1
  rw [E_bodyN 3 body81 rfl (by decide) rfl]
  simp only [Tryd.f81, Option.get_some]
  cases hb : s.testBit p with
  | true =>
    rw [hb, if_pos rfl] at a
    simp [keep81, field93_0, row91, a, fullB, hb]
  | false =>
    rw [hb, if_neg (by decide)] at a
    have := onesE_eq (show s < 4096 by omega)
    simp [keep81, field93_0, row91, a, fullB, hb, ones_is, this]
def withB (s p : Nat) (g : Int) : Nat := setB (if 0 ≤ g then clrB s g.toNat else s) p
theorem with_is {s p : Nat} {g : Int} {hp : List (Option (List PV))} (h : s < 64) (h1 : p < 6) (h2 : g = -1 ∨ 0 ≤ g ∧ g < 6) : E Tryd.prog Y0 82 [.a [uv s], iv p, iv g] hp = some (.a [uv (withB s p g)], hp, none) := by
  rw [E_bodyN 3 body82 rfl (by decide) rfl]
  simp only [Tryd.f82, Option.get_some]
  rcases h2 with rfl | ⟨h2, h3⟩
  · obtain ⟨_, _, a, _⟩ := bit_at h h1
    simp [keep82, field93_0, row91, row93, zero93, sz91, sz93, a, withB, nble, show ¬ hp.length + 1 ≤ hp.length by omega]
    generalize hmt : mayTurn _ = mb
    obtain rfl : mb = true := by rw [← hmt]; kernel_rfl
    simp [keep82, field93_0, row91, row93, zero93, sz91, sz93, a, withB, nble, show ¬ hp.length + 1 ≤ hp.length by omega]
  · obtain ⟨g, rfl⟩ := Int.eq_ofNat_of_zero_le h2
    obtain ⟨_, b, _, b2, _⟩ := bit_at h (show g < 6 by omega)
    obtain ⟨_, _, a, _⟩ := bit_at b2 h1
    simp [keep82, field93_0, row91, row93, zero93, sz91, sz93, a, b, withB, nble, show ¬ hp.length + 1 ≤ hp.length by omega]
    generalize hmt : mayTurn _ = mb
    obtain rfl : mb = true := by rw [← hmt]; kernel_rfl
    simp [keep82, field93_0, row91, row93, zero93, sz91, sz93, a, b, withB, nble, show ¬ hp.length + 1 ≤ hp.length by omega]
    generalize hmt2 : mayTurn _ = mc
    obtain rfl : mc = true := by rw [← hmt2]; kernel_rfl
    simp [keep82, field93_0, row91, row93, zero93, sz91, sz93, a, b, withB, nble, show ¬ hp.length + 1 ≤ hp.length by omega]
end Go.Proofs.YtcdhajbhpnbdkaaDoor
