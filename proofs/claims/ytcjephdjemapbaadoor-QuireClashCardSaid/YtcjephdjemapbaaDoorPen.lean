/-
  The pen's step; the length of a number in bits.
  Conditions: none; lemmas.
-/
import Derived.Test.YtcjephdjemapbaaDoorAdapt
set_option linter.unusedSimpArgs false
set_option linter.unusedVariables false
namespace Go.Proofs.YtcjephdjemapbaaDoor
open Go.Abs Go.Pur
set_option maxRecDepth 100000
attribute [local simp] EK_region EK_seq EK_cond EK_block EK_blk EK_loop EK_exit EK.ex EK_ret EK_skip EK_nil EO_cons EO_nil EO1_true EO1_false EO2_some EO3_some EB_true EB_false pwanted poper pq pev Go.Pur.look pputT isAssign drOf pinit Tr.get_set lget pvOf_int pvOf_bool pvOf_str pvOf_nil rdv_ak notOwn_ak prt_ak loose_ak rdv_own rdv_fz rdv_bor rdv_rf rdv_pt rdv_v rdv_a rdv_t rdv_r rdv_p rdv_s rdv_f pbin plen pload ppart idxAddr pcond Nat.blt goInt_eq prun_not prun_neg mayLoad ER_ret ER_normal presL presOne moved stor okDrop settle_v settle_l settle_a settle_p settle_f noref_v noref_fz noref_a norefs_nil norefs_cons pclose given dropB Y0_keep pevParts stors pvCells pvCells.go vcells pfill reps zipParts ownFz pcells cellOK one psrcLen srcFits psrc takeP pgrow take getPl setPl mapL plEq elder isList lowP pevs frzs addP partAt ble_lim24 killV_v killV_a killV_t killV_f killV_i killV_p killV_s killV_un killV_dead killV_lfz killV_lbor killV_lown killV_rfz killV_rbor killV_lak killV_rak frzV_v frzV_a frzV_t frzV_f frzV_i frzV_p frzV_s frzV_un frzV_dead frzV_lfz frzV_lbor frzV_lown frzV_rfz frzV_rbor frzV_lak frzV_rak killCell_v killCell_a killCell_t killCell_f killCell_i killCell_p killCell_s killCell_un killCell_dead killCell_lfz killCell_lbor killCell_lown killCell_rfz killCell_rbor killCell_lak killCell_rak killV_lrf killV_lpt killV_rpt frzV_lrf frzV_lpt frzV_rpt killCell_lrft killCell_lptt killCell_rptt killCell_lrfc killCell_lptc killCell_rptc argv_lak argv_rak argv_v argv_a argv_p argv_f argv_fz argv_bor argv_rf argv_pt argv_rc argv_own mayTurn_none argvs pcallOp firm refsTo_v refsTo_l refsTo_p refsTo_s refsTo_a refsTo_dead refsTo_nil refsTo_cons isOwn_lak ownFz_lak evSafe pskip plain pnewBlk fldAddr isOwn pput notOwn_fz notOwn_bor notOwn_own notOwn_rf notOwn_pt prt_fz prt_bor prt_own prt_rf prt_pt Go.Pur.freeze presM settles abin_and abin_or abin_andNot abin_mul abin_shr abin_shl abin_add abin_sub abin_eql abin_neq abin_lss abin_leq abin_gtr abin_geq hows pcallIn Y0_how Y0_part howOf partOf rdv_mown rdv_mfz rdv_mbor rdv_mrf killV_mown killV_mfz killV_mbor killV_mrf frzV_mown frzV_mfz frzV_mbor frzV_mrf killCell_mown killCell_mfz killCell_mbor killCell_mrf argv_mfz argv_mbor argv_mrf settle_m kls_v kls_l kls_a kls_t kls_r kls_p kls_s kls_f kls_i kls_it kls_un kls_dead kls_mown kls_mrf kls_mbor kls_mfz fzOf takable mapHere mapOwn mapTo flat toPlain toPlain.go ofFlat ofPair mapEs plook lookRes Y0_mv mvOf mvBlk premv Y0_fzm fzmOf poperX pconv keep85 keep86 keep100 sz3 by3 row3 zero3 sz4 by4 row4 zero4 sz5 by5 row5 zero5 sz9 by9 row9 shape9 zero9 sz21 by21 row21 zero21 sz23 by23 row23 shape23 zero23 sz24 by24 row24 zero24 sz38 by38 row38 shape38 zero38 sz47 by47 row47 shape47 zero47 parts47 sz51 by51 row51 zero51 sz54 by54 row54 shape54 zero54 sz55 by55 row55 shape55 zero55 sz58 by58 row58 shape58 zero58 sz60 by60 row60 zero60 sz63 by63 row63 shape63 zero63 sz73 by73 row73 shape73 zero73 parts73 sz79 by79 row79 shape79 zero79 sz81 by81 row81 shape81 zero81 parts81 sz86 by86 row86 shape86 parts86 sz90 by90 row90 zero90 sz92 by92 row92 zero92 sz96 by96 row96 zero96 parts96 field96_0 field96_1 sz99 by99 row99 zero99 sz104 by104 row104 zero104 sz106 by106 row106 zero106 parts106 field106_0 field106_1 sz119 by119 row119 zero119 sz123 by123 row123 zero123 sz124 by124 row124 shape124 zero124 parts124 sz125 by125 row125 shape125 zero125 parts125 sz126 by126 row126 shape126 parts126 sz128 by128 row128 zero128 parts128 field128_0 field128_1 sz129 by129 row129 shape129 zero129 parts129 sz133 by133 row133 zero133 bs_size gAt gAt0 sAt sAt0 optPlain rows_len noMaker_eq kindOf vlOf abin_rem abin_quo mayTurn_none lowOf_none Go.Pur.partAt rows_nil rows_cons ble_add ble_add0 ble_same toPlain toPlain.go intIn2_0 intIn2_1 ble12 ble22 tv lv max_int min_int pplains ak_true ak_false apartP beq_add beq_add0 beq_add1 argv_s wok_none wok_low_iff lowOf_wok
def penBy (c : Int) (d : Int × Int) : Int × Int := if c = 118 then (IntKind.i64.wrap (-d.2), IntKind.i64.wrap (-(IntKind.i64.wrap (-d.1)))) else (d.2, IntKind.i64.wrap (-d.1))
theorem step_is {x y u v c : Int} {hp : List (Option (List PV))} : E Tryd.prog Y0 85 [.p hp.length 0, .v (.int .i32 c)] (hp ++ [some [iv x, iv y, iv u, iv v]]) =
  some (.a [iv (IntKind.i64.wrap (x + (penBy c (u, v)).1)), iv (IntKind.i64.wrap (y + (penBy c (u, v)).2))], hp ++ [some [iv (IntKind.i64.wrap (x + (penBy c (u, v)).1)), iv (IntKind.i64.wrap (y + (penBy c (u, v)).2)), iv (penBy c (u, v)).1, iv (penBy c (u, v)).2]], some hp.length) := by
 rw [E_bodyN 2 body85 rfl (by decide) rfl]
 simp only [Tryd.f85, Option.get_some]
 by_cases h : c = 118
 ·have e : penBy c (u, v) = (IntKind.i64.wrap (-v), IntKind.i64.wrap (-(IntKind.i64.wrap (-u)))) := by unfold penBy; rw [if_pos h]
  rw [e]
  simp [h, spliceP]
  generalize hmt : mayTurn _ = mb; obtain rfl : mb = true := hmt.symm.trans (by kernel_rfl); clear hmt
  simp [h, spliceP]
  generalize hmt : mayTurn _ = mb; obtain rfl : mb = true := hmt.symm.trans (by kernel_rfl); clear hmt
  simp [h, spliceP]
  generalize hmt : mayTurn _ = mb; obtain rfl : mb = true := hmt.symm.trans (by kernel_rfl); clear hmt
  simp [h, spliceP]
  simp [lowB, lowOf, min_same, min_add, take_app1]
 ·have e : penBy c (u, v) = (v, IntKind.i64.wrap (-u)) := by unfold penBy; rw [if_neg h]
  rw [e]
  simp [h, spliceP]
  generalize hmt : mayTurn _ = mb; obtain rfl : mb = true := hmt.symm.trans (by kernel_rfl); clear hmt
  simp [h, spliceP]
  generalize hmt : mayTurn _ = mb; obtain rfl : mb = true := hmt.symm.trans (by kernel_rfl); clear hmt
  simp [h, spliceP]
  simp [lowB, lowOf, min_same, min_add, take_app1]
def lenN (n : Nat) : Nat := (((List.range 7).find? fun i => n == 2 ^ i).getD 63) + 1
theorem len64_is {n : Nat} {hp : List (Option (List PV))} (h : n = 1 ∨ n = 2 ∨ n = 4 ∨ n = 8 ∨ n = 16 ∨ n = 32 ∨ n = 64) : E Tryd.prog Y0 100 [kv .u64 n] hp = some (iv (lenN n), hp, none) := by
 rw [E_bodyN 1 body100 rfl (by decide) rfl]
 simp only [Tryd.f100, Option.get_some]
 have c1 : ∀ z, prunP Tryd.prog (convert 51 5 (.int .u64 z)) = some (.int .u8 (IntKind.u8.wrap z)) := fun z => by kernel_rfl
 have c2 : ∀ z, prunP Tryd.prog (convert 5 3 (.int .u8 z)) = some (.int .i64 (IntKind.i64.wrap z)) := fun z => by kernel_rfl
 rcases h with rfl | rfl | rfl | rfl | rfl | rfl | rfl
 ·simp [c1, c2]
  generalize hx : pqIndex _ _ _ _ = z
  obtain rfl : z = some (uv 1) := hx.symm.trans (by kernel_rfl)
  have e : lenN 1 = 1 := rfl
  have e2 : IntKind.i64.wrap 1 = 1 := rfl
  simp [c1, c2, e, e2]
 ·simp [c1, c2]
  generalize hx : pqIndex _ _ _ _ = z
  obtain rfl : z = some (uv 2) := hx.symm.trans (by kernel_rfl)
  have e : lenN 2 = 2 := rfl
  have e2 : IntKind.i64.wrap 2 = 2 := rfl
  simp [c1, c2, e, e2]
 ·simp [c1, c2]
  generalize hx : pqIndex _ _ _ _ = z
  obtain rfl : z = some (uv 3) := hx.symm.trans (by kernel_rfl)
  have e : lenN 4 = 3 := rfl
  have e2 : IntKind.i64.wrap 3 = 3 := rfl
  simp [c1, c2, e, e2]
 ·simp [c1, c2]
  generalize hx : pqIndex _ _ _ _ = z
  obtain rfl : z = some (uv 4) := hx.symm.trans (by kernel_rfl)
  have e : lenN 8 = 4 := rfl
  have e2 : IntKind.i64.wrap 4 = 4 := rfl
  simp [c1, c2, e, e2]
 ·simp [c1, c2]
  generalize hx : pqIndex _ _ _ _ = z
  obtain rfl : z = some (uv 5) := hx.symm.trans (by kernel_rfl)
  have e : lenN 16 = 5 := rfl
  have e2 : IntKind.i64.wrap 5 = 5 := rfl
  simp [c1, c2, e, e2]
 ·simp [c1, c2]
  generalize hx : pqIndex _ _ _ _ = z
  obtain rfl : z = some (uv 6) := hx.symm.trans (by kernel_rfl)
  have e : lenN 32 = 6 := rfl
  have e2 : IntKind.i64.wrap 6 = 6 := rfl
  simp [c1, c2, e, e2]
 ·simp [c1, c2]
  generalize hx : pqIndex _ _ _ _ = z
  obtain rfl : z = some (uv 7) := hx.symm.trans (by kernel_rfl)
  have e : lenN 64 = 7 := rfl
  have e2 : IntKind.i64.wrap 7 = 7 := rfl
  simp [c1, c2, e, e2]
def lenO (z : Int) : Option Int := if z = 1 ∨ z = 2 ∨ z = 4 ∨ z = 8 ∨ z = 16 ∨ z = 32 ∨ z = 64 then some (lenN z.toNat) else none
theorem f86_is {p0 : Int} {hp : List (Option (List PV))} {r : Int} (h : lenO p0 = some r) : E Tryd.prog Y0 86 [kv .u64 p0] hp = some (iv r, hp, none) := by
 unfold lenO at h
 split at h
 ·rename_i hl
  obtain rfl := inj_ok h
  have hz : p0 = ((p0.toNat : Nat) : Int) := by omega
  generalize p0.toNat = n at hz
  subst hz
  have q := fun hp => @len64_is n hp (by omega)
  rw [E_bodyN 1 body86 rfl (by decide) rfl]
  simp only [Tryd.f86, Option.get_some]
  simp [q]
 ·cases h
end Go.Proofs.YtcjephdjemapbaaDoor
