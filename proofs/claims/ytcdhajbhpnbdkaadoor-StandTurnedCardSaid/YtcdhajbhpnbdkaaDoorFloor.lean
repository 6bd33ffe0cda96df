/-
  OnesCount, TrailingZeros of small sets, by the pure evaluator.
  TrailingZeros, by the pure evaluator.
  list, full and with, by the pure evaluator.
  Floors are compared.
  Conditions: none; definitions and lemmas.
-/
import Derived.Test.YtcdhajbhpnbdkaaDoorPurBase
set_option linter.unusedSimpArgs false
set_option linter.unusedVariables false
namespace Go.Proofs.YtcdhajbhpnbdkaaDoor
open Go.Abs Go.Pur
set_option maxRecDepth 100000
attribute [local simp] EK_region EK_seq EK_cond EK_block EK_blk EK_loop EK_exit EK.ex EK_ret EK_skip EK_nil EO_cons EO_nil EO1_true EO1_false EO2_some EO3_some EB_true EB_false pwanted poper pq pev Go.Pur.look pputT isAssign drOf pinit Tr.get_set lget pvOf_int pvOf_bool pvOf_str pvOf_nil rdv_ak notOwn_ak prt_ak loose_ak rdv_own rdv_fz rdv_bor rdv_rf rdv_pt rdv_v rdv_a rdv_t rdv_r rdv_p rdv_s rdv_f pbin plen pload ppart idxAddr pcond Nat.blt goInt_eq prun_not prun_neg mayLoad ER_ret ER_normal presL presOne moved stor okDrop settle_v settle_l settle_a settle_p settle_f noref_v noref_fz noref_a norefs_nil norefs_cons pclose given lowOf dropB Y0_keep pevParts stors pvCells pvCells.go vcells pfill reps zipParts ownFz pcells cellOK one psrcLen srcFits psrc takeP pgrow take getPl setPl mapL plEq elder isList lowP pevs frzs addP partAt ble_lim24 killV_v killV_a killV_t killV_f killV_i killV_p killV_s killV_un killV_dead killV_lfz killV_lbor killV_lown killV_rfz killV_rbor killV_lak killV_rak frzV_v frzV_a frzV_t frzV_f frzV_i frzV_p frzV_s frzV_un frzV_dead frzV_lfz frzV_lbor frzV_lown frzV_rfz frzV_rbor frzV_lak frzV_rak killCell_v killCell_a killCell_t killCell_f killCell_i killCell_p killCell_s killCell_un killCell_dead killCell_lfz killCell_lbor killCell_lown killCell_rfz killCell_rbor killCell_lak killCell_rak killV_lrf killV_lpt killV_rpt frzV_lrf frzV_lpt frzV_rpt killCell_lrft killCell_lptt killCell_rptt killCell_lrfc killCell_lptc killCell_rptc argv_lak argv_rak argv_v argv_a argv_p argv_f argv_fz argv_bor argv_rf argv_pt argv_rc argv_own mayTurn_none argvs pcallOp firm lowB refsTo_v refsTo_l refsTo_p refsTo_s refsTo_a refsTo_dead refsTo_nil refsTo_cons isOwn_lak ownFz_lak evSafe pskip plain pnewBlk fldAddr isOwn pput spliceP notOwn_fz notOwn_bor notOwn_own notOwn_rf notOwn_pt prt_fz prt_bor prt_own prt_rf prt_pt Go.Pur.freeze presM settles abin_and abin_or abin_andNot abin_mul abin_shr abin_shl abin_add abin_sub abin_eql abin_neq abin_lss abin_leq abin_gtr abin_geq hows pcallIn Y0_how Y0_part howOf partOf rdv_mown rdv_mfz rdv_mbor rdv_mrf killV_mown killV_mfz killV_mbor killV_mrf frzV_mown frzV_mfz frzV_mbor frzV_mrf killCell_mown killCell_mfz killCell_mbor killCell_mrf argv_mfz argv_mbor argv_mrf settle_m kls_v kls_l kls_a kls_t kls_r kls_p kls_s kls_f kls_i kls_it kls_un kls_dead kls_mown kls_mrf kls_mbor kls_mfz fzOf takable mapHere mapOwn mapTo flat toPlain toPlain.go ofFlat ofPair mapEs plook lookRes Y0_mv mvOf mvBlk premv
theorem conv_136_3 {n : Int} : prunP Tryd.prog (convert 136 3 (.int .u64 n)) = some (.int .i64 (IntKind.i64.wrap n)) := by kernel_rfl
theorem conv_5_3 {n : Int} : prunP Tryd.prog (convert 5 3 (.int .u8 n)) = some (.int .i64 (IntKind.i64.wrap n)) := by kernel_rfl
abbrev uv (n : Int) : PV := .v (.int .u64 n)
def ones1 (s : Int) : Int := IntKind.u64.wrap (andI .u64 (shrI .u64 s 1) 6148914691236517205 + andI .u64 s 6148914691236517205)
def ones2 (s : Int) : Int := IntKind.u64.wrap (andI .u64 (shrI .u64 s 2) 3689348814741910323 + andI .u64 s 3689348814741910323)
def ones3 (s : Int) : Int := andI .u64 (IntKind.u64.wrap (shrI .u64 s 4 + s)) 1085102592571150095
def ones4 (k s : Int) : Int := IntKind.u64.wrap (s + shrI .u64 s k)
def onesE (s : Int) : Int := andI .i64 (IntKind.i64.wrap (ones4 32 (ones4 16 (ones4 8 (ones3 (ones2 (ones1 s))))))) 127
theorem ones64_is {s : Int} {hp : List (Option (List PV))} : E Tryd.prog Y0 104 [uv s] hp = some (iv (onesE s), hp, none) := by
 rw [E_bodyN 1 body104 rfl (by decide) rfl]
 simp only [Tryd.f104, Option.get_some]
 simp [keep104, conv_136_3]
 rfl
theorem ones_is {s : Int} {hp : List (Option (List PV))} : E Tryd.prog Y0 90 [uv s] hp = some (iv (onesE s), hp, none) := by
 rw [E_bodyN 1 body90 rfl (by decide) rfl]
 simp only [Tryd.f90, Option.get_some]
 simp [keep90, ones64_is]
def cnt (s : Nat) : Nat := ((List.range 12).filter fun i => s.testBit i).length
theorem onesE_eq {s : Nat} (h : s < 4096) : onesE s = cnt s := by
 have : (List.range 4096).all (fun s => decide (onesE s = cnt s)) = true := by kernel_rfl
 rw [List.all_eq_true] at this
 simpa using this s (List.mem_range.2 h)
end Go.Proofs.YtcdhajbhpnbdkaaDoor
set_option linter.unusedSimpArgs false
set_option linter.unusedVariables false
namespace Go.Proofs.YtcdhajbhpnbdkaaDoor
open Go.Abs Go.Pur
set_option maxRecDepth 100000
attribute [local simp] EK_region EK_seq EK_cond EK_block EK_blk EK_loop EK_exit EK.ex EK_ret EK_skip EK_nil EO_cons EO_nil EO1_true EO1_false EO2_some EO3_some EB_true EB_false pwanted poper pq pev Go.Pur.look pputT isAssign drOf pinit Tr.get_set lget pvOf_int pvOf_bool pvOf_str pvOf_nil rdv_ak notOwn_ak prt_ak loose_ak rdv_own rdv_fz rdv_bor rdv_rf rdv_pt rdv_v rdv_a rdv_t rdv_r rdv_p rdv_s rdv_f pbin plen pload ppart idxAddr pcond Nat.blt goInt_eq prun_not prun_neg mayLoad ER_ret ER_normal presL presOne moved stor okDrop settle_v settle_l settle_a settle_p settle_f noref_v noref_fz noref_a norefs_nil norefs_cons pclose given lowOf dropB Y0_keep pevParts stors pvCells pvCells.go vcells pfill reps zipParts ownFz pcells cellOK one psrcLen srcFits psrc takeP pgrow take getPl setPl mapL plEq elder isList lowP pevs frzs addP partAt ble_lim24 killV_v killV_a killV_t killV_f killV_i killV_p killV_s killV_un killV_dead killV_lfz killV_lbor killV_lown killV_rfz killV_rbor killV_lak killV_rak frzV_v frzV_a frzV_t frzV_f frzV_i frzV_p frzV_s frzV_un frzV_dead frzV_lfz frzV_lbor frzV_lown frzV_rfz frzV_rbor frzV_lak frzV_rak killCell_v killCell_a killCell_t killCell_f killCell_i killCell_p killCell_s killCell_un killCell_dead killCell_lfz killCell_lbor killCell_lown killCell_rfz killCell_rbor killCell_lak killCell_rak killV_lrf killV_lpt killV_rpt frzV_lrf frzV_lpt frzV_rpt killCell_lrft killCell_lptt killCell_rptt killCell_lrfc killCell_lptc killCell_rptc argv_lak argv_rak argv_v argv_a argv_p argv_f argv_fz argv_bor argv_rf argv_pt argv_rc argv_own mayTurn_none argvs pcallOp firm lowB refsTo_v refsTo_l refsTo_p refsTo_s refsTo_a refsTo_dead refsTo_nil refsTo_cons isOwn_lak ownFz_lak evSafe pskip plain pnewBlk fldAddr isOwn pput spliceP notOwn_fz notOwn_bor notOwn_own notOwn_rf notOwn_pt prt_fz prt_bor prt_own prt_rf prt_pt Go.Pur.freeze presM settles abin_and abin_or abin_andNot abin_mul abin_shr abin_shl abin_add abin_sub abin_eql abin_neq abin_lss abin_leq abin_gtr abin_geq hows pcallIn Y0_how Y0_part howOf partOf rdv_mown rdv_mfz rdv_mbor rdv_mrf killV_mown killV_mfz killV_mbor killV_mrf frzV_mown frzV_mfz frzV_mbor frzV_mrf killCell_mown killCell_mfz killCell_mbor killCell_mrf argv_mfz argv_mbor argv_mrf settle_m kls_v kls_l kls_a kls_t kls_r kls_p kls_s kls_f kls_i kls_it kls_un kls_dead kls_mown kls_mrf kls_mbor kls_mfz fzOf takable mapHere mapOwn mapTo flat toPlain toPlain.go ofFlat ofPair mapEs plook lookRes Y0_mv mvOf mvBlk premv
def bitsN (s : Nat) : List Nat := (List.range 12).filter fun i => s.testBit i
def bitsL (s : Nat) : List Int := (bitsN s).map Int.ofNat
def tz (s : Nat) : Nat := match bitsN s with
 | i :: _ => i
 | [] => 64
def tzI (s : Int) : Int := shrI .u64 (mulI .u64 (andI .u64 s (IntKind.u64.wrap (0 - s))) 285870213051353865) 58
theorem tz_tab {s : Nat} (h : s < 4096) (h0 : s ≠ 0) : ∃ i, tzI s = (i : Nat) ∧ i < 64 ∧ tab64[i]? = some (tz s : Int) ∧ bitsN s = tz s :: bitsN (s &&& (s - 1)) ∧ andI .u64 s (IntKind.u64.wrap (s - 1)) = ((s &&& (s - 1) : Nat) : Int) ∧ (s &&& (s - 1)) < s ∧ tz s < 12 := by
 have : (List.range 4096).all (fun s => decide (s = 0) || (decide (tzI s = ((tzI s).toNat : Nat)) && decide ((tzI s).toNat < 64) && decide (tab64[(tzI s).toNat]? = some (tz s : Int)) && decide (bitsN s = tz s :: bitsN (s &&& (s - 1))) && decide (andI .u64 s (IntKind.u64.wrap (s - 1)) = ((s &&& (s - 1) : Nat) : Int)) && decide ((s &&& (s - 1)) < s) && decide (tz s < 12))) = true := by kernel_rfl
 rw [List.all_eq_true] at this
 have := this s (List.mem_range.2 h)
 simp only [Bool.or_eq_true, Bool.and_eq_true, decide_eq_true_eq] at this
 rcases this with h | h
 ·exact absurd h h0
 ·obtain ⟨⟨⟨⟨⟨⟨a, b⟩, c⟩, d⟩, e⟩, f⟩, g⟩ := h
  exact ⟨_, a, b, c, d, e, f, g⟩
theorem glob1 : Y0.glob[1]? = some (tab64.map fun n => PV.v (.int .u8 n)) := rfl
theorem tz64_is {s : Nat} {hp : List (Option (List PV))} (h : s < 4096) (h0 : s ≠ 0) : E Tryd.prog Y0 110 [uv s] hp = some (iv (tz s), hp, none) := by
 obtain ⟨i, a, b, c, _, _, _, g⟩ := tz_tab h h0
 rw [E_bodyN 1 body110 rfl (by decide) rfl]
 simp only [Tryd.f110, Option.get_some]
 simp [tzI] at a
 have h1 : IntKind.i64.wrap (tz s : Int) = tz s := wrap64 (by omega) (by omega)
 have h2 : Nat.ble (i + 1) tab64.length = true := ble_true (show i + 1 ≤ 64 by omega)
 simp [keep110, h0, a, intIn_nat b, glob1, c, shape148, row5, conv_5_3, h1, h2]
theorem tz_is {s : Nat} {hp : List (Option (List PV))} (h : s < 4096) (h0 : s ≠ 0) : E Tryd.prog Y0 98 [uv s] hp = some (iv (tz s), hp, none) := by
 rw [E_bodyN 1 body98 rfl (by decide) rfl]
 simp only [Tryd.f98, Option.get_some]
 simp [keep98, tz64_is h h0]
def clrB (s g : Nat) : Nat := if s.testBit g then s - 2 ^ g else s
def setB (s p : Nat) : Nat := if s.testBit p then s else s + 2 ^ p
theorem bit_at {s p : Nat} (h : s < 64) (hp : p < 6) : andI .u64 (shrI .u64 s p) 1 = (if s.testBit p then 1 else 0) ∧ andNotI .u64 s (shlI .u64 1 p) = ((clrB s p : Nat) : Int) ∧ orI .u64 s (shlI .u64 1 p) = ((setB s p : Nat) : Int) ∧ clrB s p < 64 ∧ setB s p < 64 ∧ (∀ q, q < 6 → (clrB s p).testBit q = (s.testBit q && !decide (q = p)) ∧ (setB s p).testBit q = (s.testBit q || decide (q = p))) := by
 have : (List.range 64).all (fun s => (List.range 6).all fun p => decide (andI .u64 (shrI .u64 s p) 1 = (if s.testBit p then 1 else 0)) && decide (andNotI .u64 s (shlI .u64 1 p) = ((clrB s p : Nat) : Int)) && decide (orI .u64 s (shlI .u64 1 p) = ((setB s p : Nat) : Int)) && decide (clrB s p < 64) && decide (setB s p < 64) && (List.range 6).all fun q => decide ((clrB s p).testBit q = (s.testBit q && !decide (q = p)) ∧ (setB s p).testBit q = (s.testBit q || decide (q = p)))) = true := by kernel_rfl
 rw [List.all_eq_true] at this
 have := this s (List.mem_range.2 h)
 rw [List.all_eq_true] at this
 have := this p (List.mem_range.2 hp)
 simp only [Bool.and_eq_true, decide_eq_true_eq] at this
 obtain ⟨⟨⟨⟨⟨a, b⟩, c⟩, d⟩, e⟩, f⟩ := this
 refine ⟨a, b, c, d, e, fun q hq => ?_⟩
 rw [List.all_eq_true] at f
 simpa using f q (List.mem_range.2 hq)
end Go.Proofs.YtcdhajbhpnbdkaaDoor
set_option linter.unusedSimpArgs false
set_option linter.unusedVariables false
namespace Go.Proofs.YtcdhajbhpnbdkaaDoor
open Go.Abs Go.Pur
set_option maxRecDepth 100000
attribute [local simp] EK_region EK_seq EK_cond EK_block EK_blk EK_loop EK_exit EK.ex EK_ret EK_skip EK_nil EO_cons EO_nil EO1_true EO1_false EO2_some EO3_some EB_true EB_false pwanted poper pq pev Go.Pur.look pputT isAssign drOf pinit Tr.get_set lget pvOf_int pvOf_bool pvOf_str pvOf_nil rdv_ak notOwn_ak prt_ak loose_ak rdv_own rdv_fz rdv_bor rdv_rf rdv_pt rdv_v rdv_a rdv_t rdv_r rdv_p rdv_s rdv_f pbin plen pload ppart idxAddr pcond Nat.blt goInt_eq prun_not prun_neg mayLoad ER_ret ER_normal presL presOne moved stor okDrop settle_v settle_l settle_a settle_p settle_f noref_v noref_fz noref_a norefs_nil norefs_cons pclose given lowOf dropB Y0_keep pevParts stors pvCells pvCells.go vcells pfill reps zipParts ownFz pcells cellOK one psrcLen srcFits psrc takeP pgrow take getPl setPl mapL plEq elder isList lowP pevs frzs addP partAt ble_lim24 killV_v killV_a killV_t killV_f killV_i killV_p killV_s killV_un killV_dead killV_lfz killV_lbor killV_lown killV_rfz killV_rbor killV_lak killV_rak frzV_v frzV_a frzV_t frzV_f frzV_i frzV_p frzV_s frzV_un frzV_dead frzV_lfz frzV_lbor frzV_lown frzV_rfz frzV_rbor frzV_lak frzV_rak killCell_v killCell_a killCell_t killCell_f killCell_i killCell_p killCell_s killCell_un killCell_dead killCell_lfz killCell_lbor killCell_lown killCell_rfz killCell_rbor killCell_lak killCell_rak killV_lrf killV_lpt killV_rpt frzV_lrf frzV_lpt frzV_rpt killCell_lrft killCell_lptt killCell_rptt killCell_lrfc killCell_lptc killCell_rptc argv_lak argv_rak argv_v argv_a argv_p argv_f argv_fz argv_bor argv_rf argv_pt argv_rc argv_own mayTurn_none argvs pcallOp firm lowB refsTo_v refsTo_l refsTo_p refsTo_s refsTo_a refsTo_dead refsTo_nil refsTo_cons isOwn_lak ownFz_lak evSafe pskip plain pnewBlk fldAddr isOwn pput spliceP notOwn_fz notOwn_bor notOwn_own notOwn_rf notOwn_pt prt_fz prt_bor prt_own prt_rf prt_pt Go.Pur.freeze presM settles abin_and abin_or abin_andNot abin_mul abin_shr abin_shl abin_add abin_sub abin_eql abin_neq abin_lss abin_leq abin_gtr abin_geq hows pcallIn Y0_how Y0_part howOf partOf rdv_mown rdv_mfz rdv_mbor rdv_mrf killV_mown killV_mfz killV_mbor killV_mrf frzV_mown frzV_mfz frzV_mbor frzV_mrf killCell_mown killCell_mfz killCell_mbor killCell_mrf argv_mfz argv_mbor argv_mrf settle_m kls_v kls_l kls_a kls_t kls_r kls_p kls_s kls_f kls_i kls_it kls_un kls_dead kls_mown kls_mrf kls_mbor kls_mfz fzOf takable mapHere mapOwn mapTo flat toPlain toPlain.go ofFlat ofPair mapEs plook lookRes Y0_mv mvOf mvBlk premv
theorem list_is {s : Nat} {hp : List (Option (List PV))} (h : s < 4096) : E Tryd.prog Y0 68 [uv s] hp = some (.l .own .nz (bitsL s).length ((bitsL s).map iv), hp, none) := by
 rw [E_bodyN 1 body68 rfl (by decide) rfl]
 simp only [Tryd.f68, Option.get_some]
 simp [keep68]
 refine loop_ind (fun m σ => ∃ (out : List Int) (ts : Tr PV), m < 4096 ∧ out ++ bitsL m = bitsL s ∧ σ = ⟨[], ts, hp, none⟩ ∧ ts.get 0 = some (uv m) ∧ ts.get 3 = some (.l .own .nz out.length (out.map iv))) (n0 := s) ?_ ?_
 ·exact ⟨[], _, h, rfl, rfl, by simp, by simp⟩
 ·rintro m σ ⟨out, ts, hm, ho, rfl, g0, g3⟩ ih
  by_cases h0 : m = 0
  ·subst h0
   have : bitsL 0 = [] := by decide
   rw [this, List.append_nil] at ho
   subst ho
   simp [keep68, g0, g3, shape22]
  ·obtain ⟨i, _, _, _, d, e, f, g⟩ := tz_tab hm h0
   have hl : (bitsL s).length ≤ 12 := by unfold bitsL bitsN; rw [List.length_map]; exact List.length_filter_le _ _
   have hl2 : (out ++ bitsL m).length ≤ 12 := by rw [ho]; exact hl
   have h6 : Nat.ble ((out.length + 1) * 10) limit = true := ble_true (by rw [List.length_append] at hl2; unfold limit; omega)
   simp [keep68, g0, g3, shape22, row3, zero3, by3, h0, tz_is hm h0, e, h6]
   refine ih _ _ f ⟨out ++ [(tz m : Int)], _, by omega, ?_, rfl, by simp, by simp⟩
   rw [← ho]
   unfold bitsL
   rw [d]
   simp
def fullB (s p : Nat) (room : Int) : Bool := !s.testBit p && decide (room ≤ cnt s)
theorem full_is {s p : Nat} {room : Int} {hp : List (Option (List PV))} (h : s < 64) (h1 : p < 6) : E Tryd.prog Y0 81 [.a [uv s], iv p, iv room] hp = some (.v (.bool (fullB s p room)), hp, none) := by
 obtain ⟨a, _⟩ := bit_at h h1
 rw [E_bodyN 3 body81 rfl (by decide) rfl]
 simp only [Tryd.f81, Option.get_some]
 cases hb : s.testBit p with
 | true =>
  rw [hb, if_pos rfl] at a
  simp [keep81, field93_0, row91, a, fullB, hb]
 | false =>
  rw [hb, if_neg (by decide)] at a
  have := onesE_eq (show s < 4096 by omega)
  simp [keep81, field93_0, row91, a, fullB, hb, ones_is, this]
def withB (s p : Nat) (g : Int) : Nat := setB (if 0 ≤ g then clrB s g.toNat else s) p
theorem with_is {s p : Nat} {g : Int} {hp : List (Option (List PV))} (h : s < 64) (h1 : p < 6) (h2 : g = -1 ∨ 0 ≤ g ∧ g < 6) : E Tryd.prog Y0 82 [.a [uv s], iv p, iv g] hp = some (.a [uv (withB s p g)], hp, none) := by
 rw [E_bodyN 3 body82 rfl (by decide) rfl]
 simp only [Tryd.f82, Option.get_some]
 rcases h2 with rfl | ⟨h2, h3⟩
 ·obtain ⟨_, _, a, _⟩ := bit_at h h1
  simp [keep82, field93_0, row91, row93, zero93, sz91, sz93, a, withB, nble, show ¬ hp.length + 1 ≤ hp.length by omega]
  generalize hmt : mayTurn _ = mb
  obtain rfl : mb = true := by rw [← hmt]; kernel_rfl
  simp [keep82, field93_0, row91, row93, zero93, sz91, sz93, a, withB, nble, show ¬ hp.length + 1 ≤ hp.length by omega]
 ·obtain ⟨g, rfl⟩ := Int.eq_ofNat_of_zero_le h2
  obtain ⟨_, b, _, b2, _⟩ := bit_at h (show g < 6 by omega)
  obtain ⟨_, _, a, _⟩ := bit_at b2 h1
  simp [keep82, field93_0, row91, row93, zero93, sz91, sz93, a, b, withB, nble, show ¬ hp.length + 1 ≤ hp.length by omega]
  generalize hmt : mayTurn _ = mb
  obtain rfl : mb = true := by rw [← hmt]; kernel_rfl
  simp [keep82, field93_0, row91, row93, zero93, sz91, sz93, a, b, withB, nble, show ¬ hp.length + 1 ≤ hp.length by omega]
  generalize hmt2 : mayTurn _ = mc
  obtain rfl : mc = true := by rw [← hmt2]; kernel_rfl
  simp [keep82, field93_0, row91, row93, zero93, sz91, sz93, a, b, withB, nble, show ¬ hp.length + 1 ≤ hp.length by omega]
end Go.Proofs.YtcdhajbhpnbdkaaDoor
set_option linter.unusedSimpArgs false
set_option linter.unusedVariables false
namespace Go.Proofs.YtcdhajbhpnbdkaaDoor
open Go.Abs Go.Pur
set_option maxRecDepth 100000
theorem neq93 {a b : Nat} (ha : a < 64) (hb : b < 64) : abin Tryd.prog .neq 93 (.tmp 70) (.tmp 71) (.agg #[.int .u64 a]) (.agg #[.int .u64 b]) = some (.bool (!decide (a = b))) := by
 have : (List.range 64).all (fun a => (List.range 64).all fun b => match abin Tryd.prog .neq 93 (.tmp 70) (.tmp 71) (.agg #[.int .u64 a]) (.agg #[.int .u64 b]) with
  | some (.bool r) => r == !decide (a = b)
  | _ => false) = true := by kernel_rfl
 rw [List.all_eq_true] at this
 have := this a (List.mem_range.2 ha)
 rw [List.all_eq_true] at this
 have := this b (List.mem_range.2 hb)
 split at this
 ·rename_i r hr
  rw [hr]
  simp only [beq_iff_eq] at this
  rw [this]
 ·cases this
theorem toPlain1 {x : Value} : toPlain (.a [.v x]) = some (.agg #[x]) := rfl
end Go.Proofs.YtcdhajbhpnbdkaaDoor
