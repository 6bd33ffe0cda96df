/-
  StandTurned answers true: the plain law.
  Conditions: none; lemmas.
-/
import Derived.Test.YtcdhajbhpnbdkaaDoorTurn15
import Derived.Test.YtcdhajbhpnbdkaaDoorBoundLaw
import Derived.Test.YtcdhajbhpnbdkaaDoorAdapt2
import Derived.Test.YtcdhajbhpnbdkaaDoorWorks4
set_option linter.unusedSimpArgs false
set_option linter.unusedVariables false
namespace Go.Proofs.YtcdhajbhpnbdkaaDoor
open Go.Abs Go.Pur
set_option maxRecDepth 100000
set_option maxHeartbeats 2000000
theorem bitsN_n {n s : Nat} (hn : n ≤ 12) (hs : s < 2 ^ n) : bitsN s = (List.range n).filter fun i => s.testBit i := by
 unfold bitsN
 rw [List.range_eq_range', List.range_eq_range', show 12 = n + (12 - n) by omega, ← List.range'_append_1, List.filter_append]
 have : (List.range' (0 + n) (12 - n)).filter (fun t => s.testBit t) = [] := by
  rw [List.filter_eq_nil_iff]
  intro t ht
  rw [List.mem_range'_1] at ht
  have : 2 ^ n ≤ 2 ^ t := Nat.pow_le_pow_right (by decide) (by omega)
  rw [Nat.testBit_lt_two_pow (by omega)]
  decide
 rw [this, List.append_nil]
theorem range_rev (n : Nat) : (List.range n).reverse = (List.range n).map (n - 1 - ·) := by
 refine List.ext_getElem? fun i => ?_
 by_cases h : i < n
 ·rw [List.getElem?_reverse (by simpa using h), List.getElem?_map, List.length_range, List.getElem?_range h, List.getElem?_range (by omega)]; rfl
 ·rw [List.getElem?_eq_none (by simp; omega), List.getElem?_eq_none (by simp; omega)]
theorem bits_rev {n s : Nat} (hn : n ≤ 12) (hs : s < 2 ^ n) : ∃ s', s' < 2 ^ n ∧ (∀ t, t < n → s'.testBit t = s.testBit (n - 1 - t)) ∧ ((bitsL s).map fun x => (n : Int) - 1 - x).reverse = bitsL s' := by
 obtain ⟨s', h1, h2⟩ := bits_of (((List.range n).map s.testBit).reverse)
 simp only [List.length_reverse, List.length_map, List.length_range] at h1 h2
 have h3 : ∀ t, t < n → s'.testBit t = s.testBit (n - 1 - t) := fun t ht => by
  rw [h2 t ht, List.getD_eq_getElem?_getD, List.getElem?_reverse (by simpa using ht), List.getElem?_map, List.length_map, List.length_range, List.getElem?_range (by omega)]
  rfl
 refine ⟨s', h1, h3, ?_⟩
 unfold bitsL
 rw [bitsN_n hn hs, bitsN_n hn h1]
 have e1 : (List.range n).filter (fun t => s'.testBit t) = (List.range n).filter fun t => s.testBit (n - 1 - t) :=
  List.filter_congr fun t ht => by rw [h3 t (List.mem_range.1 ht)]
 rw [e1]
 have e2 : ((List.range n).filter fun t => s.testBit (n - 1 - t)) = (((List.range n).filter fun t => s.testBit t).map (n - 1 - ·)).reverse := by
  rw [← List.map_reverse, ← List.filter_reverse, range_rev, List.filter_map, List.map_map]
  have e4 : (List.filter ((fun t => s.testBit t) ∘ fun x => n - 1 - x) (List.range n)).map ((fun x => n - 1 - x) ∘ fun x => n - 1 - x) = List.filter ((fun t => s.testBit t) ∘ fun x => n - 1 - x) (List.range n) := by
   rw [List.map_congr_left (g := id) (fun x hx => ?_), List.map_id]
   have := List.mem_range.1 (List.mem_filter.1 hx).1
   simp; omega
  rw [e4]
  rfl
 rw [e2, List.map_map, List.map_reverse, List.map_map]
 congr 1
 refine List.map_congr_left fun x hx => ?_
 have := List.mem_range.1 (List.mem_filter.1 hx).1
 simp only [Function.comp_apply]
 show (n : Int) - 1 - (x : Int) = ((n - 1 - x : Nat) : Int)
 omega
theorem bndT_rev {pages : List Int} {room : Int} {s s' : Nat} (hpg : ∀ q ∈ pages, 0 ≤ q) (hn : pages.length ≤ 12) (hs : s < 2 ^ pages.length) (hs' : s' < 2 ^ pages.length) (h : ∀ t, t < pages.length → s'.testBit t = s.testBit (pages.length - 1 - t)) :
  bndT room pages.reverse (bitsL s') = bndT room pages (bitsL s) := by
 have b1 : ((List.range pages.length).map s.testBit).length = pages.length := by simp
 rw [bndT_eq (fun q hq => hpg q (List.mem_reverse.1 hq)) (by simpa using hn) (by simpa using hs'), bndT_eq hpg hn hs,
  zip_bits pages ((List.range pages.length).map s.testBit) 0 b1 (fun t ht => by
   rw [b1] at ht
   rw [Nat.zero_add, List.getD_eq_getElem?_getD, List.getElem?_map, List.getElem?_range ht]; rfl),
  zip_bits pages.reverse ((List.range pages.length).map s.testBit).reverse 0 (by simp) (fun t ht => by
   simp only [List.length_reverse, b1] at ht
   rw [Nat.zero_add, h t ht, List.getD_eq_getElem?_getD, List.getElem?_reverse (by rw [b1]; exact ht), b1, List.getElem?_map, List.getElem?_range (by omega)]; rfl),
  List.map_reverse, ← zip_rev (by simp), boundF_rev]
attribute [local simp] EK_region EK_seq EK_cond EK_block EK_blk EK_loop EK_exit EK.ex EK_ret EK_skip EK_nil EO_cons EO_nil EO1_true EO1_false EO2_some EO3_some EB_true EB_false pwanted poper pq pev Go.Pur.look pputT isAssign drOf pinit Tr.get_set lget pvOf_int pvOf_bool pvOf_str pvOf_nil rdv_ak notOwn_ak prt_ak loose_ak rdv_own rdv_fz rdv_bor rdv_rf rdv_pt rdv_v rdv_a rdv_t rdv_r rdv_p rdv_s rdv_f pbin plen pload ppart idxAddr pcond Nat.blt goInt_eq prun_not prun_neg mayLoad ER_ret ER_normal presL presOne moved stor okDrop settle_v settle_l settle_a settle_p settle_f noref_v noref_fz noref_a norefs_nil norefs_cons pclose given dropB Y0_keep pevParts stors pvCells pvCells.go vcells pfill reps zipParts ownFz pcells cellOK one psrcLen srcFits psrc takeP pgrow take getPl setPl mapL plEq elder isList lowP pevs frzs addP partAt ble_lim24 killV_v killV_a killV_t killV_f killV_i killV_p killV_s killV_un killV_dead killV_lfz killV_lbor killV_lown killV_rfz killV_rbor killV_lak killV_rak frzV_v frzV_a frzV_t frzV_f frzV_i frzV_p frzV_s frzV_un frzV_dead frzV_lfz frzV_lbor frzV_lown frzV_rfz frzV_rbor frzV_lak frzV_rak killCell_v killCell_a killCell_t killCell_f killCell_i killCell_p killCell_s killCell_un killCell_dead killCell_lfz killCell_lbor killCell_lown killCell_rfz killCell_rbor killCell_lak killCell_rak killV_lrf killV_lpt killV_rpt frzV_lrf frzV_lpt frzV_rpt killCell_lrft killCell_lptt killCell_rptt killCell_lrfc killCell_lptc killCell_rptc argv_lak argv_rak argv_v argv_a argv_p argv_f argv_fz argv_bor argv_rf argv_pt argv_rc argv_own mayTurn_none argvs pcallOp firm refsTo_v refsTo_l refsTo_p refsTo_s refsTo_a refsTo_dead refsTo_nil refsTo_cons isOwn_lak ownFz_lak evSafe pskip plain pnewBlk fldAddr isOwn pput notOwn_fz notOwn_bor notOwn_own notOwn_rf notOwn_pt prt_fz prt_bor prt_own prt_rf prt_pt Go.Pur.freeze presM settles abin_and abin_or abin_andNot abin_mul abin_shr abin_shl abin_add abin_sub abin_eql abin_neq abin_lss abin_leq abin_gtr abin_geq hows pcallIn Y0_how Y0_part howOf partOf rdv_mown rdv_mfz rdv_mbor rdv_mrf killV_mown killV_mfz killV_mbor killV_mrf frzV_mown frzV_mfz frzV_mbor frzV_mrf killCell_mown killCell_mfz killCell_mbor killCell_mrf argv_mfz argv_mbor argv_mrf settle_m kls_v kls_l kls_a kls_t kls_r kls_p kls_s kls_f kls_i kls_it kls_un kls_dead kls_mown kls_mrf kls_mbor kls_mfz fzOf takable mapHere mapOwn mapTo flat toPlain toPlain.go ofFlat ofPair mapEs plook lookRes Y0_mv mvOf mvBlk premv keep15 sz3 by3 row3 zero3 sz4 by4 row4 zero4 sz5 by5 row5 zero5 sz9 by9 row9 shape9 zero9 sz22 by22 row22 shape22 zero22 sz24 by24 row24 zero24 parts24 field24_0 field24_1 sz27 by27 row27 zero27 parts27 field27_0 field27_1 sz28 by28 row28 zero28 sz32 by32 row32 shape32 zero32 sz46 by46 row46 shape46 zero46 sz54 by54 row54 shape54 zero54 parts54 sz56 by56 row56 zero56 parts56 field56_0 field56_1 field56_2 sz63 by63 row63 shape63 zero63 parts63 sz70 by70 row70 shape70 zero70 parts70 sz75 by75 row75 shape75 zero75 parts75 sz79 by79 row79 zero79 sz84 by84 row84 zero84 sz86 by86 row86 shape86 zero86 sz91 by91 row91 zero91 sz93 by93 row93 zero93 parts93 field93_0 sz97 by97 row97 zero97 sz100 by100 row100 zero100 sz102 by102 row102 zero102 sz105 by105 row105 zero105 parts105 field105_0 field105_1 field105_2 sz106 by106 row106 zero106 sz108 by108 row108 zero108 parts108 field108_0 field108_1 sz109 by109 row109 shape109 zero109 parts109 sz110 by110 row110 shape110 parts110 sz112 by112 row112 parts112 field112_0 field112_1 sz126 by126 row126 shape126 zero126 sz127 by127 row127 zero127 sz134 by134 row134 zero134 sz136 by136 row136 zero136 sz140 by140 row140 zero140 sz147 by147 row147 shape147 zero147 parts147 sz148 by148 row148 shape148 zero148 parts148 sz149 by149 row149 zero149 sz153 by153 row153 zero153 bs_size gAt gAt0 sAt sAt0 optPlain rows_len noMaker_eq kindOf vlOf abin_rem abin_quo mayTurn_none lowOf_none Go.Pur.partAt rows_nil rows_cons ble_add ble_add0 ble_same toPlain toPlain.go intIn2_0 intIn2_1 ble12 ble22 tv lv max_int min_int pplains ak_true ak_false apartP beq_add beq_add0 beq_add1 argv_s wok_none wok_low_iff lowOf_wok
attribute [local simp] ble_addc
theorem f15_none {a b c d e f g h i j k l m n t : Int} {room N D : Int}
  (e48 : ∀ hp, E Tryd.prog Y0 48 [.a [kv .u8 a, kv .u8 b, kv .u8 c, kv .u8 d, kv .u8 e, kv .u8 f, kv .u8 g, kv .u8 h, kv .u8 i, kv .u8 j, kv .u8 k, kv .u8 l, kv .u8 m, kv .u8 n], iv 5, iv 12] hp = some (.a [iv room, .l .fz .nz 0 []], hp, none))
  (e61 : ∀ hp, E Tryd.prog Y0 61 [.l .fz .nz 0 []] hp = some (.l .own .nz 0 [], hp, none))
  (ht : IntKind.i64.wrap t = t)
  (e51 : ∀ hp, E Tryd.prog Y0 51 [iv 0] hp = some (.l .own .nz 0 [], hp, none))
  (e33 : ∀ hp, E Tryd.prog Y0 33 [.a [iv room, .l .fz .nz 0 []]] hp = some (.t [iv N, iv 0], hp, none))
  (e41 : ∀ hp k, k = Vl.fz ∨ k = Vl.bor → E Tryd.prog Y0 41 [.a [iv room, .l .fz .nz 0 []], .l k .nz 0 []] hp = some (.t [iv D, iv 0], hp, none))
  (e53 : ∀ hp, E Tryd.prog Y0 53 [.a [iv room, .l .fz .nz 0 []], iv 0] hp = some (iv D, hp, none))
  (e18 : ∀ hp, E Tryd.prog Y0 18 [] hp = some (.v (.bool true), hp, none)) (hDN : D ≤ N) :
  E Tryd.prog Y0 15 [.a [kv .u8 a, kv .u8 b, kv .u8 c, kv .u8 d, kv .u8 e, kv .u8 f, kv .u8 g, kv .u8 h, kv .u8 i, kv .u8 j, kv .u8 k, kv .u8 l, kv .u8 m, kv .u8 n], kv .u16 t] [] = some (.v (.bool true), [], none) := by
 have e62 : ∀ hp k, k = Vl.fz ∨ k = Vl.bor → E Tryd.prog Y0 62 [.l k .nz 0 []] hp = some (.t [], hp, none) := fun hp k hk => by
  rcases hk with rfl | rfl
  ·exact @f62_nil hp false .nz
  ·exact @f62_nil hp true .nz
 have a1 := fun hp => e62 hp .fz (Or.inl rfl)
 have a2 := fun hp => e62 hp .bor (Or.inr rfl)
 have b1 := fun hp => e41 hp .fz (Or.inl rfl)
 have b2 := fun hp => e41 hp .bor (Or.inr rfl)
 have hsh : shlI .i64 1 0 = 1 := by decide
 rw [E_bodyN 2 body15 rfl (by decide) rfl]
 simp only [Tryd.f15, Option.get_some]
 simp [e48, e61, blkArg, klV, take, sp2, fzArg, findU, stlA, stlV, stlB, a1, a2]
 generalize hmt : mayTurn _ = mb; obtain rfl : mb = true := hmt.symm.trans (by kernel_rfl); clear hmt
 simp [e48, e61, blkArg, klV, take, sp2, a1, a2, b1, b2, conv_79_3, ht, hsh, e51, e33, e53, e18, hDN, fzArg, findU, stlA, stlV, stlB]
 rw [EK_lp]
 simp [e48, e61, blkArg, klV, take, sp2, a1, a2, b1, b2, conv_79_3, ht, hsh, e51, e33, e53, e18, hDN, fzArg, findU, stlA, stlV, stlB]
theorem chk_rev {room : Int} {pages : List Int} (h : chk room pages = 0) : chk room pages.reverse = 0 := by
 unfold chk at h ⊢
 rw [List.length_reverse]
 simp only [List.mem_reverse]
 exact h
theorem f61_two {F : Nat} {l : List Int} (hl : l.length ≤ 1000000) : f61S F .nz l = some (.nz, l) := by
 unfold f61S
 cases l with
 | nil => rfl
 | cons a l =>
  have h0 : isNil .nz (a :: l).length = some false := rfl
  have h1 : neL (a :: l) = some () := by
   unfold neL
   rw [beqF (by simp), ble_true hl]
  rw [h0]
  simp only [Option.bind_some, List.isEmpty_cons, h1]
theorem standTurned_is {a b c d e f g h i j k l m n t : Int} (ha : byte a) (hb : byte b) (hs : ∀ p ∈ [c, d, e, f, g, h, i, j, k, l, m, n], byte p) (ht0 : 0 ≤ t) (ht1 : t < 65536) :
  E Tryd.prog Y0 15 [.a [kv .u8 a, kv .u8 b, kv .u8 c, kv .u8 d, kv .u8 e, kv .u8 f, kv .u8 g, kv .u8 h, kv .u8 i, kv .u8 j, kv .u8 k, kv .u8 l, kv .u8 m, kv .u8 n], kv .u16 t] [] = some (.v (.bool true), [], none) := by
 obtain ⟨room, pages, e1, h1, h2, h3, h4⟩ := made_ok (room := 5) (times := 12) (by decide) (by decide) (by decide) (by decide) ha hb hs
 have hn : pages.length ≤ 12 := by omega
 have hF : 1000 < fuel := by rw [fuel_eq]; decide
 have hc : chk room pages = 0 := chk_intro h1 (by omega) hn h4
 have hp0 : ∀ q ∈ pages, 0 ≤ q := fun q hq => (h4 q hq).1
 have hM : 2 ^ pages.length ≤ 4096 := Nat.le_trans (Nat.pow_le_pow_right (by decide) hn) (by decide)
 have hM0 : 0 < 2 ^ pages.length := Nat.pow_pos (by decide)
 have hsh : shlI .i64 1 (pages.length : Int) = ((2 ^ pages.length : Nat) : Int) := by
  have := shl64_tab
  rw [List.all_eq_true] at this
  exact of_decide_eq_true (this pages.length (List.mem_range.2 (by omega)))
 obtain ⟨s, hs0, hst⟩ : ∃ s : Nat, s < 2 ^ pages.length ∧ Int.tmod t ((2 ^ pages.length : Nat) : Int) = (s : Int) := by
  refine ⟨t.toNat % 2 ^ pages.length, Nat.mod_lt _ hM0, ?_⟩
  rw [Int.tmod_eq_emod_of_nonneg ht0, Int.natCast_emod, Int.toNat_of_nonneg ht0]
 have hw : IntKind.i64.wrap t = t := wrap64 (by omega) (by omega)
 have hL : (bitsL s).length ≤ 12 := by rw [bitsL_len, ← bitsN_len]; exact bitsN_le
 have hcell : ∀ l : List Int, (l.map iv).all cellOK = true := fun l => by simp [cellOK, noref]
 have e48 : ∀ hp, E Tryd.prog Y0 48 [.a [kv .u8 a, kv .u8 b, kv .u8 c, kv .u8 d, kv .u8 e, kv .u8 f, kv .u8 g, kv .u8 h, kv .u8 i, kv .u8 j, kv .u8 k, kv .u8 l, kv .u8 m, kv .u8 n], iv 5, iv 12] hp = some (.a [iv room, .l .fz .nz pages.length (pages.map iv)], hp, none) := fun hp => f48_is (ps := [c, d, e, f, g, h, i, j, k, l, m, n]) rfl e1
 have e61 : ∀ hp, E Tryd.prog Y0 61 [.l .fz .nz pages.length (pages.map iv)] hp = some (.l .own .nz pages.length (pages.map iv), hp, none) := fun hp => f61_is (a0 := false) (c0 := .nz) (F := fuel) (f61_two (by omega))
 have e51 : ∀ hp, E Tryd.prog Y0 51 [iv (s : Int)] hp = some (.l .own .nz (bitsL s).length ((bitsL s).map iv), hp, none) := fun hp => f51_is (F := fuel) (f51_eq (by omega) (by omega))
 have e33 : ∀ hp, E Tryd.prog Y0 33 [.a [iv room, .l .fz .nz pages.length (pages.map iv)]] hp = some (.t [iv ((need room (rem6 pages 0) 0 : Nat) : Int), iv 0], hp, none) := fun hp => f33_is (c := .nz) (r := (((need room (rem6 pages 0) 0 : Nat) : Int), 0)) (by
  rw [onS_at (by omega)]; unfold fewS; rw [if_pos hc, hc])
 have e33b : ∀ hp, E Tryd.prog Y0 33 [.a [iv room, .l .fz .any pages.length (pages.map iv).reverse]] hp = some (.t [iv ((need room (rem6 pages 0) 0 : Nat) : Int), iv 0], hp, none) := fun hp => by
  have := f33_is (room := room) (pages := pages.reverse) (c := .any) (hp := hp) (r := (((need room (rem6 pages 0) 0 : Nat) : Int), 0)) (by
   rw [onS_at (by rw [List.length_reverse]; omega)]; unfold fewS; rw [if_pos (chk_rev hc), chk_rev hc]
   have e : rem6 pages.reverse 0 = (rem6 pages 0).reverse := by unfold rem6; simp
   rw [e, need_rev h1 (fun p hp => by
    unfold rem6 at hp
    rw [List.drop_zero, List.mem_map] at hp
    obtain ⟨q, hq, rfl⟩ := hp
    have := h4 q hq
    omega)])
  rw [List.length_reverse, List.map_reverse] at this
  exact this
 have e41 : ∀ hp, E Tryd.prog Y0 41 [.a [iv room, .l .fz .nz pages.length (pages.map iv)], .l .fz .nz (bitsL s).length ((bitsL s).map iv)] hp = some (.t [iv (bndT room pages (bitsL s)), iv 0], hp, none) := fun hp => f41_is (a1 := false) (F := fuel) (f41_eq h1 (by omega) hn hc hs0 hF)
 obtain ⟨s', hs', hbit, hrev⟩ := bits_rev hn hs0
 have e41b : ∀ hp c k, k = Vl.fz ∨ k = Vl.bor → E Tryd.prog Y0 41 [.a [iv room, .l .fz .any pages.length (pages.map iv).reverse], .l k c (bitsL s).length (((bitsL s).map fun x => (pages.length : Int) - 1 - x).map iv).reverse] hp = some (.t [iv (bndT room pages (bitsL s)), iv 0], hp, none) := fun hp c k hk => by
  have hl : (bitsL s).length = (bitsL s').length := by rw [← hrev]; simp
  have e := f41_eq (pages := pages.reverse) (F := fuel) h1 (by omega) (by rw [List.length_reverse]; exact hn) (chk_rev hc) (s := s') (by rw [List.length_reverse]; exact hs') hF
  rw [bndT_rev hp0 hn hs0 hs' hbit] at e
  rw [← List.map_reverse, ← List.map_reverse, hrev, hl]
  have e2 := fun a1 => @f41_is room .any pages.reverse a1 c (bitsL s') hp fuel _ e
  rw [List.length_reverse] at e2
  rcases hk with rfl | rfl
  ·exact e2 false
  ·exact e2 true
 have e53 : ∀ hp, E Tryd.prog Y0 53 [.a [iv room, .l .fz .nz pages.length (pages.map iv)], iv (s : Int)] hp = some (iv (bndT room pages (bitsL s)), hp, none) := fun hp => f53_is (F := fuel) (f53_eq h1 (by omega) hn hs0 hF)
 have hDN := bndT_le h1 h4 hn hs0
 rcases Nat.eq_zero_or_pos pages.length with hz | hz
 ·have hp : pages = [] := List.length_eq_zero_iff.1 hz
  subst hp
  have hs1 : s = 0 := by simpa using hs0
  subst hs1
  have hb0 : bitsL 0 = [] := by decide +kernel
  rw [hb0] at e41 e51 e53 hDN
  exact f15_none e48 e61 hw e51 e33 (fun hp k hk => by
   have e := f41_eq (pages := []) (F := fuel) h1 (by omega) hn hc (s := 0) (by simp) hF
   rw [hb0] at e
   rcases hk with rfl | rfl
   ·exact f41_is (a1 := false) (F := fuel) e
   ·exact f41_is (a1 := true) (F := fuel) e) e53 (fun hp => works_is) hDN
 ·exact f15_walk e48 e61 hn (by omega) (hcell _) hw hsh (by omega) hst e51 hL (fun x hx => by
   obtain ⟨q, rfl, hq, _⟩ := bitsL_mem.1 hx
   omega) e33 e33b e41 e41b e53 (fun hp => works_is) hDN
end Go.Proofs.YtcdhajbhpnbdkaaDoor
