/-
  The strings of creases that numbers stand for.
  Conditions: none; lemmas.
-/
import Derived.Test.YtcjephdjemapbaaDoorAdapt2
import Derived.Test.YtcjephdjemapbaaDoorPilesB
set_option linter.unusedSimpArgs false
set_option linter.unusedVariables false
namespace Go.Proofs.YtcjephdjemapbaaDoor
open Go.Abs Go.Pur
set_option maxRecDepth 100000
attribute [local simp] EK_region EK_seq EK_cond EK_block EK_blk EK_loop EK_exit EK.ex EK_ret EK_skip EK_nil EO_cons EO_nil EO1_true EO1_false EO2_some EO3_some EB_true EB_false pwanted poper pq pev Go.Pur.look pputT isAssign drOf pinit Tr.get_set lget pvOf_int pvOf_bool pvOf_str pvOf_nil rdv_ak notOwn_ak prt_ak loose_ak rdv_own rdv_fz rdv_bor rdv_rf rdv_pt rdv_v rdv_a rdv_t rdv_r rdv_p rdv_s rdv_f pbin plen pload ppart idxAddr pcond Nat.blt goInt_eq prun_not prun_neg mayLoad ER_ret ER_normal presL presOne moved stor okDrop settle_v settle_l settle_a settle_p settle_f noref_v noref_fz noref_a norefs_nil norefs_cons pclose given lowOf dropB Y0_keep pevParts stors pvCells pvCells.go vcells pfill reps zipParts ownFz pcells cellOK one psrcLen srcFits psrc takeP pgrow take getPl setPl mapL plEq elder isList lowP pevs frzs addP partAt ble_lim24 killV_v killV_a killV_t killV_f killV_i killV_p killV_s killV_un killV_dead killV_lfz killV_lbor killV_lown killV_rfz killV_rbor killV_lak killV_rak frzV_v frzV_a frzV_t frzV_f frzV_i frzV_p frzV_s frzV_un frzV_dead frzV_lfz frzV_lbor frzV_lown frzV_rfz frzV_rbor frzV_lak frzV_rak killCell_v killCell_a killCell_t killCell_f killCell_i killCell_p killCell_s killCell_un killCell_dead killCell_lfz killCell_lbor killCell_lown killCell_rfz killCell_rbor killCell_lak killCell_rak killV_lrf killV_lpt killV_rpt frzV_lrf frzV_lpt frzV_rpt killCell_lrft killCell_lptt killCell_rptt killCell_lrfc killCell_lptc killCell_rptc argv_lak argv_rak argv_v argv_a argv_p argv_f argv_fz argv_bor argv_rf argv_pt argv_rc argv_own mayTurn_none argvs pcallOp firm lowB refsTo_v refsTo_l refsTo_p refsTo_s refsTo_a refsTo_dead refsTo_nil refsTo_cons isOwn_lak ownFz_lak evSafe pskip plain pnewBlk fldAddr isOwn pput spliceP notOwn_fz notOwn_bor notOwn_own notOwn_rf notOwn_pt prt_fz prt_bor prt_own prt_rf prt_pt Go.Pur.freeze presM settles abin_and abin_or abin_andNot abin_mul abin_shr abin_shl abin_add abin_sub abin_eql abin_neq abin_lss abin_leq abin_gtr abin_geq hows pcallIn Y0_how Y0_part howOf partOf rdv_mown rdv_mfz rdv_mbor rdv_mrf killV_mown killV_mfz killV_mbor killV_mrf frzV_mown frzV_mfz frzV_mbor frzV_mrf killCell_mown killCell_mfz killCell_mbor killCell_mrf argv_mfz argv_mbor argv_mrf settle_m kls_v kls_l kls_a kls_t kls_r kls_p kls_s kls_f kls_i kls_it kls_un kls_dead kls_mown kls_mrf kls_mbor kls_mfz fzOf takable mapHere mapOwn mapTo flat toPlain toPlain.go ofFlat ofPair mapEs plook lookRes Y0_mv mvOf mvBlk premv
theorem u64_at {y i : Nat} (hi : i < 64) : andI .u64 (shrI .u64 y i) 1 = (if y.testBit i then 1 else 0) := by
 have e0 : shrI .u64 (y : Int) (i : Int) = ((y / 2 ^ i : Nat) : Int) := Option.some.inj (shrU (a := y) hi)
 rw [e0]
 have e1 : andI .u64 ((y / 2 ^ i : Nat) : Int) 1 = ((y / 2 ^ i % 2 : Nat) : Int) := by
  unfold andI
  have e : (BitVec.ofInt IntKind.u64.bits ((y / 2 ^ i : Nat) : Int) &&& BitVec.ofInt IntKind.u64.bits 1).toNat = y / 2 ^ i % 2 := by
   rw [BitVec.toNat_and]
   simp only [BitVec.toNat_ofInt, IntKind.bits]
   rw [show ((1 : Int) % ((2 ^ 64 : Nat) : Int)).toNat = 1 by decide, Nat.and_one_is_mod]
   omega
  rw [e]
  exact wrapUC (by omega)
 rw [e1, Nat.testBit_eq_decide_div_mod_eq]
 by_cases h : y / 2 ^ i % 2 = 1
 ·simp [h]
 ·have : y / 2 ^ i % 2 = 0 := by omega
  simp [this]
theorem vh0 : pqSlice Tryd.prog 9 (sv ⟨#[118, 104]⟩) (some (.int .u64 0)) (some (.int .u64 1)) none = some (sv ⟨#[118]⟩) := by kernel_rfl
theorem vh1 : pqSlice Tryd.prog 9 (sv ⟨#[118, 104]⟩) (some (.int .u64 1)) (some (.int .u64 2)) none = some (sv ⟨#[104]⟩) := by kernel_rfl
theorem creased_is {m y : Nat} {hp : List (Option (List PV))} (hm : m < 256) : E Tryd.prog Y0 46 [uv m, .v (.int .u64 y)] hp = some (sv (lettersB 118 104 (m % 64) y), hp, none) := by
 rw [E_bodyN 2 body46 rfl (by decide) rfl]
 simp only [Tryd.f46, Option.get_some]
 have w1 : IntKind.i64.wrap (m : Int) = m := wrap64 (by omega) (by omega)
 have hM : m % 64 < 64 := Nat.mod_lt _ (by decide)
 have w2 : (m : Int).tmod 64 = ((m % 64 : Nat) : Int) := rfl
 generalize m % 64 = M at hM w2 ⊢
 simp [keep46, conv53, w1, abin_rem, w2]
 refine loop_ind (fun k σ => ∃ (i : Nat) (ts : Tr PV), k + i = M ∧ σ = ⟨[], ts, hp, none⟩ ∧ ts.get 1 = some (.v (.int .u64 y)) ∧ ts.get 5 = some (sv (lettersB 118 104 i y)) ∧ ts.get 9 = some (.v (.int .i64 M)) ∧ ts.get 10 = some (.v (.int .i64 i))) (n0 := M) ?_ ?_
 ·refine ⟨0, _, rfl, rfl, by simp, by simp; rfl, by simp, by simp⟩
 ·rintro k σ ⟨i, ts, hk, rfl, g1, g5, g9, g10⟩ ih
  by_cases hi : i < M
  ·have a1 := @u64_at y i (by omega)
   have hii : (i : Int) < (M : Nat) := by omega
   have w3 := wrap_nat (show i < 1000000000000 by omega)
   have u1 : IntKind.u64.wrap 1 = 1 := rfl
   have u2 : IntKind.u64.wrap 2 = 2 := rfl
   have st := @lettersB_succ 118 104 i y
   have sz : ∀ c : UInt8, (lettersB 118 104 i y).size + (ByteArray.mk #[c]).size ≤ 9223372036854775807 := fun c => by rw [lettersB_size]; simp [ByteArray.size]; omega
   cases hb : y.testBit i with
   | true =>
    rw [hb, if_pos rfl] at a1 st
    simp [keep46, g1, g5, g9, g10, hii, a1, u1, u2, optPlain, vh0, vh1, abin_sadd (sz _), st, w3]
    exact ih (k - 1) _ (by omega) ⟨i + 1, _, by omega, rfl, by simp [g1], by simp, by simp [g9], by simp⟩
   | false =>
    rw [hb, if_neg (by decide)] at a1 st
    simp [keep46, g1, g5, g9, g10, hii, a1, u1, u2, optPlain, vh0, vh1, abin_sadd (sz _), st, w3]
    exact ih (k - 1) _ (by omega) ⟨i + 1, _, by omega, rfl, by simp [g1], by simp, by simp [g9], by simp⟩
  ·have hii : ¬ (i : Int) < (M : Nat) := by omega
   obtain rfl : i = M := by omega
   simp [keep46, g1, g5, g9, g10, hii]
def creasedL (k y : Nat) : List UInt8 := (List.range k).map fun i => if y.testBit i then 104 else 118
def creasedO (m y : Int) : Option (List UInt8) := match m, y with
 | .ofNat m, .ofNat y => match Nat.blt m 256 with
  | true => some (creasedL (m % 64) y)
  | false => none
 | _, _ => none
theorem f46_is {p0 p1 : Int} {hp : List (Option (List PV))} {r : List UInt8} (h : creasedO p0 p1 = some r) : E Tryd.prog Y0 46 [kv .u8 p0, kv .u64 p1] hp = some (.v (.string (bs r)), hp, none) := by
 cases p0 with
 | negSucc k => cases h
 | ofNat m =>
  cases p1 with
  | negSucc k => cases h
  | ofNat y =>
   unfold creasedO at h
   cases hm : Nat.blt m 256 with
   | false => simp only [hm] at h; cases h
   | true =>
    simp only [hm] at h
    obtain rfl := inj_ok h
    exact creased_is (Nat.le_of_ble_eq_true hm)
end Go.Proofs.YtcjephdjemapbaaDoor
