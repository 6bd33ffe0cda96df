/-
  TrailingZeros, by the pure evaluator.
  Conditions: none; lemmas.
-/
import Derived.Test.YtcdhajbhpnbdkaaDoorBits
set_option linter.unusedSimpArgs false
set_option linter.unusedVariables false
namespace Go.Proofs.YtcdhajbhpnbdkaaDoor
open Go.Abs Go.Pur
set_option maxRecDepth 100000
attribute [local simp] EK_region EK_seq EK_cond EK_block EK_blk EK_loop EK_exit EK.ex EK_ret EK_skip EK_nil EO_cons EO_nil EO1_true EO1_false EO2_some EO3_some EB_true EB_false pwanted poper pq pev Go.Pur.look pputT isAssign drOf pinit Tr.get_set lget pvOf_int pvOf_bool pvOf_str pvOf_nil rdv_ak notOwn_ak prt_ak loose_ak rdv_own rdv_fz rdv_bor rdv_rf rdv_pt rdv_v rdv_a rdv_t rdv_r rdv_p rdv_s rdv_f pbin plen pload ppart idxAddr pcond Nat.blt goInt_eq prun_not prun_neg mayLoad ER_ret ER_normal presL presOne moved stor okDrop settle_v settle_l settle_a settle_p settle_f noref_v noref_fz noref_a norefs_nil norefs_cons pclose given lowOf dropB Y0_keep pevParts stors pvCells pvCells.go vcells pfill reps zipParts ownFz pcells cellOK one psrcLen srcFits psrc takeP pgrow take getPl setPl mapL plEq elder isList lowP pevs frzs addP partAt ble_lim24 killV_v killV_a killV_t killV_f killV_i killV_p killV_s killV_un killV_dead killV_lfz killV_lbor killV_lown killV_rfz killV_rbor killV_lak killV_rak frzV_v frzV_a frzV_t frzV_f frzV_i frzV_p frzV_s frzV_un frzV_dead frzV_lfz frzV_lbor frzV_lown frzV_rfz frzV_rbor frzV_lak frzV_rak killCell_v killCell_a killCell_t killCell_f killCell_i killCell_p killCell_s killCell_un killCell_dead killCell_lfz killCell_lbor killCell_lown killCell_rfz killCell_rbor killCell_lak killCell_rak killV_lrf killV_lpt killV_rpt frzV_lrf frzV_lpt frzV_rpt killCell_lrft killCell_lptt killCell_rptt killCell_lrfc killCell_lptc killCell_rptc argv_lak argv_rak argv_v argv_a argv_p argv_f argv_fz argv_bor argv_rf argv_pt argv_rc argv_own mayTurn_none argvs pcallOp firm lowB refsTo_v refsTo_l refsTo_p refsTo_s refsTo_a refsTo_dead refsTo_nil refsTo_cons isOwn_lak ownFz_lak evSafe pskip plain pnewBlk fldAddr isOwn pput spliceP notOwn_fz notOwn_bor notOwn_own notOwn_rf notOwn_pt prt_fz prt_bor prt_own prt_rf prt_pt Go.Pur.freeze presM settles abin_and abin_or abin_andNot abin_mul abin_shr abin_shl abin_add abin_sub abin_eql abin_neq abin_lss abin_leq abin_gtr abin_geq
def bitsN (s : Nat) : List Nat := (List.range 12).filter fun i => s.testBit i
def bitsL (s : Nat) : List Int := (bitsN s).map Int.ofNat
def tz (s : Nat) : Nat := match bitsN s with
  | i :: _ => i
  | [] => 64
def tzI (s : Int) : Int := shrI .u64 (mulI .u64 (andI .u64 s (IntKind.u64.wrap (0 - s))) 285870213051353865) 58
theorem tz_tab {s : Nat} (h : s < 4096) (h0 : s ≠ 0) : ∃ i, tzI s = (i : Nat) ∧ i < 64 ∧ tab64[i]? = some (tz s : Int) ∧ bitsN s = tz s :: bitsN (s &&& (s - 1)) ∧ andI .u64 s (IntKind.u64.wrap (s - 1)) = ((s &&& (s - 1) : Nat) : Int) ∧ (s &&& (s - 1)) < s ∧ tz s < 12 := by
  have : (List.range 4096).all (fun s => decide (s = 0) || (decide (tzI s = ((tzI s).toNat : Nat)) && decide ((tzI s).toNat < 64) && decide (tab64[(tzI s).toNat]? = some (tz s : Int)) && decide (bitsN s = tz s :: bitsN (s &&& (s - 1))) && decide (andI .u64 s (IntKind.u64.wrap (s - 1)) = ((s &&& (s - 1) : Nat) : Int)) && decide ((s &&& (s - 1)) < s) && decide (tz s < 12))) = true := by kernel_rfl
  rw [List.all_eq_true] at this
  have := this s (List.mem_range.2 h)
  simp only [Bool.or_eq_true, Bool.and_eq_true, decide_eq_true_eq] at this
  rcases this with h | h
  · exact absurd h h0
  · obtain ⟨⟨⟨⟨⟨⟨a, b⟩, c⟩, d⟩, e⟩, f⟩, g⟩ := h
    exact ⟨_, a, b, c, d, e, f, g⟩
theorem glob1 : Y0.glob[1]? = some (tab64.map fun n => PV.v (.int .u8 n)) := rfl
theorem tz64_is {s : Nat} {hp : List (Option (List PV))} (h : s < 4096) (h0 : s ≠ 0) : E Tryd.prog Y0 110 [uv s] hp = some (iv (tz s), hp, none) := by
  obtain ⟨i, a, b, c, _, _, _, g⟩ := tz_tab h h0
  rw [E_bodyN 1 body110 rfl (by decide) rfl]
  simp only [Tryd.f110, Option.get_some]
  simp [tzI] at a
  have h1 : IntKind.i64.wrap (tz s : Int) = tz s := wrap64 (by omega) (by omega)
  have h2 : Nat.ble (i + 1) tab64.length = true := ble_true (show i + 1 ≤ 64 by omega)
  simp [keep110, h0, a, intIn_nat b, glob1, c, shape148, row5, conv_5_3, h1, h2]
theorem tz_is {s : Nat} {hp : List (Option (List PV))} (h : s < 4096) (h0 : s ≠ 0) : E Tryd.prog Y0 98 [uv s] hp = some (iv (tz s), hp, none) := by
  rw [E_bodyN 1 body98 rfl (by decide) rfl]
  simp only [Tryd.f98, Option.get_some]
  simp [keep98, tz64_is h h0]
def clrB (s g : Nat) : Nat := if s.testBit g then s - 2 ^ g else s
def setB (s p : Nat) : Nat := if s.testBit p then s else s + 2 ^ p
theorem bit_at {s p : Nat} (h : s < 64) (hp : p < 6) : andI .u64 (shrI .u64 s p) 1 = (if s.testBit p then 1 else 0) ∧ andNotI .u64 s (shlI .u64 1 p) = ((clrB s p : Nat) : Int) ∧ orI .u64 s (shlI .u64 1 p) = ((setB s p : Nat) : Int) ∧ clrB s p < 64 ∧ setB s p < 64 ∧ (∀ q, q < 6 → (clrB s p).testBit q = (s.testBit q && !decide (q = p)) ∧ (setB s p).testBit q = (s.testBit q || decide (q = p))) := by
  have : (List.range 64).all (fun s => (List.range 6).all fun p => decide (andI .u64 (shrI .u64 s p) 1 = (if s.testBit p then 1 else 0)) && decide (andNotI .u64 s (shlI .u64 1 p) = ((clrB s p : Nat) : Int)) && decide (orI .u64 s (shlI .u64 1 p) = ((setB s p : Nat) : Int)) && decide (clrB s p < 64) && decide (setB s p < 64) && (List.range 6).all fun q => decide ((clrB s p).testBit q = (s.testBit q && !decide (q = p)) ∧ (setB s p).testBit q = (s.testBit q || decide (q = p)))) = true := by kernel_rfl
  rw [List.all_eq_true] at this
  have := this s (List.mem_range.2 h)
  rw [List.all_eq_true] at this
  have := this p (List.mem_range.2 hp)
  simp only [Bool.and_eq_true, decide_eq_true_eq] at this
  obtain ⟨⟨⟨⟨⟨a, b⟩, c⟩, d⟩, e⟩, f⟩ := this
  refine ⟨a, b, c, d, e, fun q hq => ?_⟩
  rw [List.all_eq_true] at f
  simpa using f q (List.mem_range.2 hq)
end Go.Proofs.YtcdhajbhpnbdkaaDoor
