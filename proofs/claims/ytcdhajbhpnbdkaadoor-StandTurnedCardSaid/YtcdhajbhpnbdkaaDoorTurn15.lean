/-
  StandTurned: the walk.
  Conditions: none; lemmas.
-/
import Derived.Test.YtcdhajbhpnbdkaaDoorReversed
import Derived.Test.YtcdhajbhpnbdkaaDoorOut2
set_option linter.unusedSimpArgs false
set_option linter.unusedVariables false
namespace Go.Proofs.YtcdhajbhpnbdkaaDoor
open Go.Abs Go.Pur
set_option maxRecDepth 100000
set_option maxHeartbeats 2000000
attribute [local simp] EK_region EK_seq EK_cond EK_block EK_blk EK_loop EK_exit EK.ex EK_ret EK_skip EK_nil EO_cons EO_nil EO1_true EO1_false EO2_some EO3_some EB_true EB_false pwanted poper pq pev Go.Pur.look pputT isAssign drOf pinit Tr.get_set lget pvOf_int pvOf_bool pvOf_str pvOf_nil rdv_ak notOwn_ak prt_ak loose_ak rdv_own rdv_fz rdv_bor rdv_rf rdv_pt rdv_v rdv_a rdv_t rdv_r rdv_p rdv_s rdv_f pbin plen pload ppart idxAddr pcond Nat.blt goInt_eq prun_not prun_neg mayLoad ER_ret ER_normal presL presOne moved stor okDrop settle_v settle_l settle_a settle_p settle_f noref_v noref_fz noref_a norefs_nil norefs_cons pclose given dropB Y0_keep pevParts stors pvCells pvCells.go vcells pfill reps zipParts ownFz pcells cellOK one psrcLen srcFits psrc takeP pgrow take getPl setPl mapL plEq elder isList lowP pevs frzs addP partAt ble_lim24 killV_v killV_a killV_t killV_f killV_i killV_p killV_s killV_un killV_dead killV_lfz killV_lbor killV_lown killV_rfz killV_rbor killV_lak killV_rak frzV_v frzV_a frzV_t frzV_f frzV_i frzV_p frzV_s frzV_un frzV_dead frzV_lfz frzV_lbor frzV_lown frzV_rfz frzV_rbor frzV_lak frzV_rak killCell_v killCell_a killCell_t killCell_f killCell_i killCell_p killCell_s killCell_un killCell_dead killCell_lfz killCell_lbor killCell_lown killCell_rfz killCell_rbor killCell_lak killCell_rak killV_lrf killV_lpt killV_rpt frzV_lrf frzV_lpt frzV_rpt killCell_lrft killCell_lptt killCell_rptt killCell_lrfc killCell_lptc killCell_rptc argv_lak argv_rak argv_v argv_a argv_p argv_f argv_fz argv_bor argv_rf argv_pt argv_rc argv_own mayTurn_none argvs pcallOp firm refsTo_v refsTo_l refsTo_p refsTo_s refsTo_a refsTo_dead refsTo_nil refsTo_cons isOwn_lak ownFz_lak evSafe pskip plain pnewBlk fldAddr isOwn pput notOwn_fz notOwn_bor notOwn_own notOwn_rf notOwn_pt prt_fz prt_bor prt_own prt_rf prt_pt Go.Pur.freeze presM settles abin_and abin_or abin_andNot abin_mul abin_shr abin_shl abin_add abin_sub abin_eql abin_neq abin_lss abin_leq abin_gtr abin_geq hows pcallIn Y0_how Y0_part howOf partOf rdv_mown rdv_mfz rdv_mbor rdv_mrf killV_mown killV_mfz killV_mbor killV_mrf frzV_mown frzV_mfz frzV_mbor frzV_mrf killCell_mown killCell_mfz killCell_mbor killCell_mrf argv_mfz argv_mbor argv_mrf settle_m kls_v kls_l kls_a kls_t kls_r kls_p kls_s kls_f kls_i kls_it kls_un kls_dead kls_mown kls_mrf kls_mbor kls_mfz fzOf takable mapHere mapOwn mapTo flat toPlain toPlain.go ofFlat ofPair mapEs plook lookRes Y0_mv mvOf mvBlk premv keep15 sz3 by3 row3 zero3 sz4 by4 row4 zero4 sz5 by5 row5 zero5 sz9 by9 row9 shape9 zero9 sz22 by22 row22 shape22 zero22 sz24 by24 row24 zero24 parts24 field24_0 field24_1 sz27 by27 row27 zero27 parts27 field27_0 field27_1 sz28 by28 row28 zero28 sz32 by32 row32 shape32 zero32 sz46 by46 row46 shape46 zero46 sz54 by54 row54 shape54 zero54 parts54 sz56 by56 row56 zero56 parts56 field56_0 field56_1 field56_2 sz63 by63 row63 shape63 zero63 parts63 sz70 by70 row70 shape70 zero70 parts70 sz75 by75 row75 shape75 zero75 parts75 sz79 by79 row79 zero79 sz84 by84 row84 zero84 sz86 by86 row86 shape86 zero86 sz91 by91 row91 zero91 sz93 by93 row93 zero93 parts93 field93_0 sz97 by97 row97 zero97 sz100 by100 row100 zero100 sz102 by102 row102 zero102 sz105 by105 row105 zero105 parts105 field105_0 field105_1 field105_2 sz106 by106 row106 zero106 sz108 by108 row108 zero108 parts108 field108_0 field108_1 sz109 by109 row109 shape109 zero109 parts109 sz110 by110 row110 shape110 parts110 sz112 by112 row112 parts112 field112_0 field112_1 sz126 by126 row126 shape126 zero126 sz127 by127 row127 zero127 sz134 by134 row134 zero134 sz136 by136 row136 zero136 sz140 by140 row140 zero140 sz147 by147 row147 shape147 zero147 parts147 sz148 by148 row148 shape148 zero148 parts148 sz149 by149 row149 zero149 sz153 by153 row153 zero153 bs_size gAt gAt0 sAt sAt0 optPlain rows_len noMaker_eq kindOf vlOf abin_rem abin_quo mayTurn_none lowOf_none Go.Pur.partAt rows_nil rows_cons ble_add ble_add0 ble_same toPlain toPlain.go intIn2_0 intIn2_1 ble12 ble22 tv lv max_int min_int pplains ak_true ak_false apartP beq_add beq_add0 beq_add1 argv_s wok_none wok_low_iff lowOf_wok
attribute [local simp] ble_addc
theorem conv_79_3 {z : Int} : prunP Tryd.prog (convert 79 3 (.int .u16 z)) = some (.int .i64 (IntKind.i64.wrap z)) := by kernel_rfl
theorem lowOf0 {w : Option Nat} : lowOf 0 w = none := by
 cases w with
 | none => rfl
 | some a => rfl
theorem stl_iv {b n : Nat} {cs : List PV} : (stlV b n cs ∘ iv) = iv := rfl
theorem all_iv {l : List Int} : l.all (cellOK ∘ iv) = true := by simp [cellOK, noref]
theorem f15_walk {a b c d e f g h i j k l m n t : Int} {room N M D s : Int} {pages L : List Int}
  (e48 : ∀ hp, E Tryd.prog Y0 48 [.a [kv .u8 a, kv .u8 b, kv .u8 c, kv .u8 d, kv .u8 e, kv .u8 f, kv .u8 g, kv .u8 h, kv .u8 i, kv .u8 j, kv .u8 k, kv .u8 l, kv .u8 m, kv .u8 n], iv 5, iv 12] hp = some (.a [iv room, .l .fz .nz pages.length (pages.map iv)], hp, none))
  (e61 : ∀ hp, E Tryd.prog Y0 61 [.l .fz .nz pages.length (pages.map iv)] hp = some (.l .own .nz pages.length (pages.map iv), hp, none))
  (hn : pages.length ≤ 12) (h0 : pages.length ≠ 0) (hc : (pages.map iv).all cellOK = true) (ht : IntKind.i64.wrap t = t) (hsh : shlI .i64 1 (pages.length : Int) = M) (hM : M ≠ 0) (hrem : Int.tmod t M = s)
  (e51 : ∀ hp, E Tryd.prog Y0 51 [iv s] hp = some (.l .own .nz L.length (L.map iv), hp, none)) (hL : L.length ≤ 12) (hLr : ∀ x ∈ L, 0 ≤ x ∧ x < 12)
  (e33 : ∀ hp, E Tryd.prog Y0 33 [.a [iv room, .l .fz .nz pages.length (pages.map iv)]] hp = some (.t [iv N, iv 0], hp, none))
  (e33b : ∀ hp, E Tryd.prog Y0 33 [.a [iv room, .l .fz .any pages.length (pages.map iv).reverse]] hp = some (.t [iv N, iv 0], hp, none))
  (e41 : ∀ hp, E Tryd.prog Y0 41 [.a [iv room, .l .fz .nz pages.length (pages.map iv)], .l .fz .nz L.length (L.map iv)] hp = some (.t [iv D, iv 0], hp, none))
  (e41b : ∀ hp c k, k = Vl.fz ∨ k = Vl.bor → E Tryd.prog Y0 41 [.a [iv room, .l .fz .any pages.length (pages.map iv).reverse], .l k c L.length ((L.map fun x => (pages.length : Int) - 1 - x).map iv).reverse] hp = some (.t [iv D, iv 0], hp, none))
  (e53 : ∀ hp, E Tryd.prog Y0 53 [.a [iv room, .l .fz .nz pages.length (pages.map iv)], iv s] hp = some (iv D, hp, none))
  (e18 : ∀ hp, E Tryd.prog Y0 18 [] hp = some (.v (.bool true), hp, none)) (hDN : D ≤ N) :
  E Tryd.prog Y0 15 [.a [kv .u8 a, kv .u8 b, kv .u8 c, kv .u8 d, kv .u8 e, kv .u8 f, kv .u8 g, kv .u8 h, kv .u8 i, kv .u8 j, kv .u8 k, kv .u8 l, kv .u8 m, kv .u8 n], kv .u16 t] [] = some (.v (.bool true), [], none) := by
 have hz : Nat.beq pages.length 0 = false := beqF h0
 rw [E_bodyN 2 body15 rfl (by decide) rfl]
 simp only [Tryd.f15, Option.get_some]
 simp [e48, e61, blkArg, unset, hz, klV, take, sp2]
 generalize hmt : mayTurn _ = mb; obtain rfl : mb = true := hmt.symm.trans (by kernel_rfl); clear hmt
 simp [e48, e61, blkArg, unset, hz, klV, take, sp2]
 obtain ⟨w1, hw1, q1⟩ := @f62_is [some [kv .u8 a, kv .u8 b, kv .u8 c, kv .u8 d, kv .u8 e, kv .u8 f, kv .u8 g, kv .u8 h, kv .u8 i, kv .u8 j, kv .u8 k, kv .u8 l, kv .u8 m, kv .u8 n], some [iv room, .l .fz .nz pages.length (pages.map iv)], some (pages.map iv), some [iv room, .s 2 0 pages.length unkCap]] 2 unkCap pages rfl (by omega)
 simp only [List.set] at q1
 rw [q1]
 clear q1
 rcases hw1 with rfl | rfl
 all_goals simp [e48, e61, blkArg, unset, hz, klV, take, sp2, conv_79_3, ht, hsh, hM, hrem, e51]
 all_goals
  refine loop_phi (fun R => R = some (.v (.bool true), [], none))
   (fun q σ => ∃ (u : Nat) (ts : Tr PV) (wl0 : Option Nat) (out : List Int), q + u = L.length ∧ out = (L.take u).map (fun x => (pages.length : Int) - 1 - x) ∧ σ = ⟨[], ts, [some [kv .u8 a, kv .u8 b, kv .u8 c, kv .u8 d, kv .u8 e, kv .u8 f, kv .u8 g, kv .u8 h, kv .u8 i, kv .u8 j, kv .u8 k, kv .u8 l, kv .u8 m, kv .u8 n], some [iv room, .l .fz .nz pages.length (pages.map iv)], some (pages.map iv).reverse, some [iv room, .s 2 0 pages.length unkCap]], wl0⟩ ∧
    ts.get 1 = some (kv .u16 t) ∧ ts.get 5 = some (.p 1 0) ∧ ts.get 6 = some (iv pages.length) ∧ ts.get 7 = some (.p 3 0) ∧ ts.get 8 = some (.l .fz .nz L.length (L.map iv)) ∧ ts.get 9 = some (.l .own .nz out.length (out.map iv)) ∧ ts.get 40 = some (.l .fz .nz L.length (L.map iv)) ∧ ts.get 41 = some (iv L.length) ∧ ts.get 42 = some (iv u)) (n0 := L.length) ?_ ?_
  ·exact ⟨0, _, _, [], by omega, by simp, rfl, by simp, by simp, by simp, by simp, by simp, by simp, by simp, by simp, by simp⟩
  ·rintro r σ ⟨i', ts, wl0, out, hri, hout, rfl, g1, g5, g6, g7, g8, g9, g40, g41, g42⟩ ih
   by_cases hi : i' < L.length
   ·have h1 : (i' : Int) < (L.length : Int) := by omega
    have x1 : intIn L.length (.int .i64 (i' : Int)) = some i' := intIn_nat hi
    have b1 : Nat.ble (i' + 1) L.length = true := ble_true (by omega)
    obtain ⟨y, hy⟩ : ∃ y, L[i'] = y := ⟨_, rfl⟩
    have hq : L[i']? = some y := by rw [List.getElem?_eq_getElem hi, hy]
    have hyr := hLr y (by rw [← hy]; exact List.getElem_mem hi)
    have hol : out.length = i' := by rw [hout]; simp; omega
    have hlim : Nat.ble ((out.length + 1) * 10) limit = true := ble_true (by unfold limit; omega)
    have w1 : IntKind.i64.wrap ((pages.length : Int) - 1) = (pages.length : Int) - 1 := wrap64 (by omega) (by omega)
    have w2 : IntKind.i64.wrap ((pages.length : Int) - 1 - y) = (pages.length : Int) - 1 - y := wrap64 (by omega) (by omega)
    have w3 : IntKind.i64.wrap ((i' : Int) + 1) = ((i' + 1 : Nat) : Int) := wrap_nat (by omega)
    simp [g1, g5, g6, g7, g8, g9, g40, g41, g42, h1, x1, b1, hq, hlim, w1, w2, w3]
    refine ih (r - 1) _ (by omega) ⟨i' + 1, _, _, out ++ [(pages.length : Int) - 1 - y], by omega, ?_, rfl, by simp [g1], by simp [g5], by simp [g6], by simp [g7], by simp [g8], by simp, by simp [g40], by simp [g41], by simp⟩
    rw [List.take_add_one, hq, List.map_append, ← hout]; rfl
   ·have h1 : ¬ (i' : Int) < (L.length : Int) := by omega
    clear ih
    rw [List.take_of_length_le (by omega)] at hout
    have hol : out.length = L.length := by rw [hout]; simp
    have hcr : ((pages.map iv).reverse).all cellOK = true := by rw [List.all_reverse]; exact hc
    rcases Nat.eq_zero_or_pos L.length with hz0 | hz0
    ·have : L = [] := List.length_eq_zero_iff.1 hz0
     subst this
     simp at hout
     subst hout
     have hb2 := fun hp c => e41b hp c .bor (Or.inr rfl)
     simp only [List.length_nil, List.map_nil, List.reverse_nil] at e41 hb2 e51
     obtain rfl : i' = 0 := by simp at hri; omega
     simp at g8 g9 g40 g41 g42
     simp [g1, g5, g6, g7, g8, g9, g40, g41, g42, blkArg]
     have e62 : ∀ hp, E Tryd.prog Y0 62 [.l .bor .nz 0 []] hp = some (.t [], hp, none) := fun hp => @f62_nil hp true .nz
     simp [e62, g1, g5, g6, g7, g8, g9, fzArg, findU, stlA, stlV, stlB, hcr, e33, e33b, e41, hb2, e53, e18, hDN, conv_79_3, ht, hsh, hM, hrem]
     exact ⟨by rw [lowOf0], lowOf0⟩
    ·have hzo : Nat.beq out.length 0 = false := beqF (by omega)
     have hco : ((out.map iv).reverse).all cellOK = true := by
      rw [List.all_reverse]
      simp [cellOK, noref]
     simp [g1, g5, g6, g7, g8, g9, g40, g41, g42, h1, blkArg, unset, hzo, klV, take]
     obtain ⟨w2, hw2, q2⟩ := @f62_is [some [kv .u8 a, kv .u8 b, kv .u8 c, kv .u8 d, kv .u8 e, kv .u8 f, kv .u8 g, kv .u8 h, kv .u8 i, kv .u8 j, kv .u8 k, kv .u8 l, kv .u8 m, kv .u8 n], some [iv room, .l .fz .nz pages.length (pages.map iv)], some (pages.map iv).reverse, some [iv room, .s 2 0 pages.length unkCap], some (out.map iv)] 4 unkCap out rfl (by omega)
     simp only [List.set] at q2
     rw [q2]
     clear q2
     rw [List.map_reverse]
     have hb2 := fun hp c => e41b hp c .fz (Or.inl rfl)
     rw [← hout, ← hol] at hb2
     rcases hw2 with rfl | rfl
     all_goals simp [g1, g5, g6, g7, g8, g9, fzArg, findU, stlA, stlV, stlB, stl_iv, all_iv, hcr, hco, e33, e33b, e41, hb2, e53, e18, hDN, conv_79_3, ht, hsh, hM, hrem]
     all_goals exact ⟨by rw [lowOf0], lowOf0⟩
end Go.Proofs.YtcdhajbhpnbdkaaDoor
