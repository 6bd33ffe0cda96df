/-
  Fewest, Count and First of the given program, by the pure evaluator.
  Conditions: none; definitions and lemmas.
-/
import Derived.Test.YtcdhajbhpnbdkaaDoorLeast
set_option linter.unusedSimpArgs false
set_option linter.unusedVariables false
namespace Go.Proofs.YtcdhajbhpnbdkaaDoor
open Go.Abs Go.Pur
set_option maxRecDepth 100000
set_option maxHeartbeats 2000000
attribute [local simp] EK_region EK_seq EK_cond EK_block EK_blk EK_loop EK_exit EK.ex EK_ret EK_skip EK_nil EO_cons EO_nil EO1_true EO1_false EO2_some EO3_some EB_true EB_false pwanted poper pq pev Go.Pur.look pputT isAssign drOf pinit Tr.get_set lget pvOf_int pvOf_bool pvOf_str pvOf_nil rdv_ak notOwn_ak prt_ak loose_ak rdv_own rdv_fz rdv_bor rdv_rf rdv_pt rdv_v rdv_a rdv_t rdv_r rdv_p rdv_s rdv_f pbin plen pload ppart idxAddr pcond Nat.blt goInt_eq prun_not prun_neg mayLoad ER_ret ER_normal presL presOne moved stor okDrop settle_v settle_l settle_a settle_p settle_f noref_v noref_fz noref_a norefs_nil norefs_cons pclose given dropB Y0_keep pevParts stors pvCells pvCells.go vcells pfill reps zipParts ownFz pcells cellOK one psrcLen srcFits psrc takeP pgrow take getPl setPl mapL plEq elder isList lowP pevs frzs addP partAt ble_lim24 killV_v killV_a killV_t killV_f killV_i killV_p killV_s killV_un killV_dead killV_lfz killV_lbor killV_lown killV_rfz killV_rbor killV_lak killV_rak frzV_v frzV_a frzV_t frzV_f frzV_i frzV_p frzV_s frzV_un frzV_dead frzV_lfz frzV_lbor frzV_lown frzV_rfz frzV_rbor frzV_lak frzV_rak killCell_v killCell_a killCell_t killCell_f killCell_i killCell_p killCell_s killCell_un killCell_dead killCell_lfz killCell_lbor killCell_lown killCell_rfz killCell_rbor killCell_lak killCell_rak killV_lrf killV_lpt killV_rpt frzV_lrf frzV_lpt frzV_rpt killCell_lrft killCell_lptt killCell_rptt killCell_lrfc killCell_lptc killCell_rptc argv_lak argv_rak argv_v argv_a argv_p argv_f argv_fz argv_bor argv_rf argv_pt argv_rc argv_own mayTurn_none argvs pcallOp firm refsTo_v refsTo_l refsTo_p refsTo_s refsTo_a refsTo_dead refsTo_nil refsTo_cons isOwn_lak ownFz_lak evSafe pskip plain pnewBlk fldAddr isOwn pput notOwn_fz notOwn_bor notOwn_own notOwn_rf notOwn_pt prt_fz prt_bor prt_own prt_rf prt_pt Go.Pur.freeze presM settles abin_and abin_or abin_andNot abin_mul abin_shr abin_shl abin_add abin_sub abin_eql abin_neq abin_lss abin_leq abin_gtr abin_geq hows pcallIn Y0_how Y0_part howOf partOf rdv_mown rdv_mfz rdv_mbor rdv_mrf killV_mown killV_mfz killV_mbor killV_mrf frzV_mown frzV_mfz frzV_mbor frzV_mrf killCell_mown killCell_mfz killCell_mbor killCell_mrf argv_mfz argv_mbor argv_mrf settle_m kls_v kls_l kls_a kls_t kls_r kls_p kls_s kls_f kls_i kls_it kls_un kls_dead kls_mown kls_mrf kls_mbor kls_mfz fzOf takable mapHere mapOwn mapTo flat toPlain toPlain.go ofFlat ofPair mapEs plook lookRes Y0_mv mvOf mvBlk premv keep33 keep35 keep37 sz3 by3 row3 zero3 sz4 by4 row4 zero4 sz5 by5 row5 zero5 sz9 by9 row9 shape9 zero9 sz22 by22 row22 shape22 zero22 sz24 by24 row24 zero24 parts24 field24_0 field24_1 sz27 by27 row27 zero27 parts27 field27_0 field27_1 sz28 by28 row28 zero28 sz32 by32 row32 shape32 zero32 sz46 by46 row46 shape46 zero46 sz54 by54 row54 shape54 zero54 parts54 sz56 by56 row56 zero56 parts56 field56_0 field56_1 field56_2 sz63 by63 row63 shape63 zero63 parts63 sz70 by70 row70 shape70 zero70 parts70 sz75 by75 row75 shape75 zero75 parts75 sz79 by79 row79 zero79 sz84 by84 row84 zero84 sz86 by86 row86 shape86 zero86 sz91 by91 row91 zero91 sz93 by93 row93 zero93 parts93 field93_0 sz97 by97 row97 zero97 sz100 by100 row100 zero100 sz102 by102 row102 zero102 sz105 by105 row105 zero105 parts105 field105_0 field105_1 field105_2 sz106 by106 row106 zero106 sz108 by108 row108 zero108 parts108 field108_0 field108_1 sz109 by109 row109 shape109 zero109 parts109 sz110 by110 row110 shape110 parts110 sz112 by112 row112 parts112 field112_0 field112_1 sz126 by126 row126 shape126 zero126 sz127 by127 row127 zero127 sz134 by134 row134 zero134 sz136 by136 row136 zero136 sz140 by140 row140 zero140 sz147 by147 row147 shape147 zero147 parts147 sz148 by148 row148 shape148 zero148 parts148 sz149 by149 row149 zero149 sz153 by153 row153 zero153 bs_size gAt gAt0 sAt sAt0 optPlain rows_len noMaker_eq kindOf vlOf abin_rem abin_quo mayTurn_none lowOf_none Go.Pur.partAt rows_nil rows_cons ble_add ble_add0 ble_same toPlain toPlain.go intIn2_0 intIn2_1 ble12 ble22 tv lv max_int min_int pplains ak_true ak_false apartP beq_add beq_add0 beq_add1 argv_s wok_none wok_low_iff lowOf_wok
def zt : List Int := List.replicate 1536 0
theorem good_zt {room : Int} {pages : List Int} : Good room pages zt := good_zero
def z112 : List Value := .int .i64 0 :: .slice none 0 0 :: List.replicate 1536 (.int .i64 0)
theorem zero112 : zeroOf Tryd.prog 112 = some (.agg z112.toArray) := by kernel_rfl
theorem cells112 : pvCells.go z112 = some (iv 0 :: .l .own .nz 0 [] :: zt.map iv) := by kernel_rfl
theorem pf108_0 {a b : Int} : pfield Tryd.prog 108 (.a [iv a, iv b]) 0 = some (iv a) := by kernel_rfl
theorem pf108_1 {a b : Int} : pfield Tryd.prog 108 (.a [iv a, iv b]) 1 = some (iv b) := by kernel_rfl
theorem refs_zt {n : Nat} {l : List Int} : refsTo.go n (l.map iv) = true := by
 induction l with
 | nil => rfl
 | cons x l ih => simp [refsTo.go, refsTo, ih]
theorem fill112 {a b x y : PV} {l : List PV} : pfill (Pur.partAt (.rows [(0, 2), (2, 1536)])) [(0, .a [a, b])] (x :: y :: l) = some (a :: b :: l) := by
 simp [pfill, Pur.partAt, pcells]
def fewS (room : Int) (pages : List Int) : Int := if chk room pages = 0 then (need room (rem6 pages 0) 0 : Nat) else 0
def cntS (room : Int) (pages : List Int) : Int := if chk room pages = 0 then (ways room (rem6 pages 0) 0 : Nat) else 0
theorem fewest_is {room : Int} {pages : List Int} {c : Ck} {hp : List (Option (List PV))} (hl : pages.length < 1000000000) :
  E Tryd.prog Y0 33 [.a [iv room, .l .fz c pages.length (pages.map iv)]] hp = some (.t [iv (fewS room pages), iv (chk room pages)], hp, none) := by
 rw [E_bodyN 1 body33 rfl (by decide) rfl]
 simp only [Tryd.f33, Option.get_some]
 unfold fewS
 by_cases h1 : chk room pages = 0
 ·obtain ⟨hr1, hr2, hn, hpg⟩ := chk_ok h1
  rw [if_pos h1]
  obtain ⟨T, w, hg, hw, q⟩ := least_is (c := c) hr1 hn hpg pages.length 0 (by omega) 0 zt (hp.length + 1) (hp ++ [some [iv room, .l .fz c pages.length (pages.map iv)], some (tblC room c pages zt)]) (by decide) (by rw [cnt_zero]; omega) (by simp) good_zt
  simp at q
  have hset : (hp ++ [some [iv room, .l .fz c pages.length (pages.map iv)], some (tblC room c pages zt)]).set (hp.length + 1) (some (tblC room c pages T)) = hp ++ [some [iv room, .l .fz c pages.length (pages.map iv)], some (tblC room c pages T)] := by
   rw [List.set_append_right _ _ (by omega), show hp.length + 1 - hp.length = 1 by omega]; rfl
  rw [bst_need hr1] at q
  rcases hw with rfl | rfl <;> simp [keep33, check_is hl, h1, zero112, cells112, fill112, refs_zt, pf108_0, pf108_1, q, lowB, lowOf, low_no, low_no0]
 ·rw [if_neg h1]
  simp [keep33, check_is hl, h1]
theorem count_is {room : Int} {pages : List Int} {c : Ck} {hp : List (Option (List PV))} (hl : pages.length < 1000000000) :
  E Tryd.prog Y0 37 [.a [iv room, .l .fz c pages.length (pages.map iv)]] hp = some (.t [iv (cntS room pages), iv (chk room pages)], hp, none) := by
 rw [E_bodyN 1 body37 rfl (by decide) rfl]
 simp only [Tryd.f37, Option.get_some]
 unfold cntS
 by_cases h1 : chk room pages = 0
 ·obtain ⟨hr1, hr2, hn, hpg⟩ := chk_ok h1
  rw [if_pos h1]
  obtain ⟨T, w, hg, hw, q⟩ := least_is (c := c) hr1 hn hpg pages.length 0 (by omega) 0 zt (hp.length + 1) (hp ++ [some [iv room, .l .fz c pages.length (pages.map iv)], some (tblC room c pages zt)]) (by decide) (by rw [cnt_zero]; omega) (by simp) good_zt
  simp at q
  have hset : (hp ++ [some [iv room, .l .fz c pages.length (pages.map iv)], some (tblC room c pages zt)]).set (hp.length + 1) (some (tblC room c pages T)) = hp ++ [some [iv room, .l .fz c pages.length (pages.map iv)], some (tblC room c pages T)] := by
   rw [List.set_append_right _ _ (by omega), show hp.length + 1 - hp.length = 1 by omega]; rfl
  unfold ways
  rcases hw with rfl | rfl <;> simp [keep37, check_is hl, h1, zero112, cells112, fill112, refs_zt, pf108_0, pf108_1, q, lowB, lowOf, low_no, low_no0]
 ·rw [if_neg h1]
  simp [keep37, check_is hl, h1]
theorem find_at {q : Nat → Bool} {l : List Nat} {j : Nat} (hj : j < l.length) (h : ∀ y ∈ l.take j, q y = false) (hq : q l[j] = true) : l.find? q = some l[j] := by
 rw [List.find?_eq_some_iff_getElem]
 refine ⟨hq, j, hj, rfl, fun i hi => ?_⟩
 have := h l[i] (List.mem_take_iff_getElem.2 ⟨i, by omega, rfl⟩)
 simp [this]
theorem full_ex {room : Int} {p s : Nat} {r : List Nat} (h1 : 1 ≤ room) (hb : s.testBit p = false) (h2 : ¬ (cnt s : Int) < room) : ∃ g ∈ bitsN s, need room r (setB (clrB s g) p) + 1 = need room (p :: r) s := by
 have := minL_mem (l := (bitsN s).map fun g => need room r (setB (clrB s g) p)) (by simpa using bits_ne h1 h2)
 obtain ⟨g, hg, e⟩ := List.mem_map.1 this
 refine ⟨g, hg, ?_⟩
 simp only [need]
 rw [if_neg (by simp [hb]), if_neg h2]
 omega
theorem errF_range {room : Int} {s p : Nat} {g : Int} (he : errF room s p g = 0) : g = -1 ∨ 0 ≤ g ∧ g < 6 := by
 unfold errF at he
 split at he
 ·split at he
  ·rename_i h2; exact Or.inr ⟨h2.1, h2.2.1⟩
  ·omega
 ·split at he
  ·exact Or.inl (by assumption)
  ·omega
theorem errF_no {room : Int} {s p : Nat} (h : fullB s p room = false) : errF room s p (-1) = 0 := by unfold errF; rw [h]; rfl
theorem errF_yes {room : Int} {s p g : Nat} (h : fullB s p room = true) (hg : g < 6) (hb : s.testBit g = true) : errF room s p (g : Int) = 0 := by
 unfold errF
 rw [if_pos h, if_pos ⟨by omega, by omega, by simpa using hb⟩]
def firS (room : Int) (pages : List Int) : List Int := if chk room pages = 0 then firstN room (rem6 pages 0) 0 else []
abbrev j3 (room : Int) (c : Ck) (pages T : List Int) (s : Nat) : List (Option (List PV)) := [some [iv room, .l .fz c pages.length (pages.map iv)], some (tblC room c pages T), some [uv s]]
theorem withB_no {s p : Nat} : withB s p (-1) = setB s p := by unfold withB; rw [if_neg (by decide)]
theorem withB_yes {s p g : Nat} : withB s p (g : Int) = setB (clrB s g) p := by unfold withB; rw [if_pos (by omega), Int.toNat_natCast]
theorem setB_in {s p : Nat} (h : s.testBit p = true) : setB s p = s := by unfold setB; rw [if_pos h]
theorem sp1x {a c : PV} : spliceP 0 [a] [c] = some [a] := rfl
theorem first_is {room : Int} {pages : List Int} {c : Ck} {hp : List (Option (List PV))} (hl : pages.length < 1000000000) :
  E Tryd.prog Y0 35 [.a [iv room, .l .fz c pages.length (pages.map iv)]] hp = some (.t [.l .fz .nz (firS room pages).length ((firS room pages).map iv), iv (chk room pages)], hp, none) := by
 rw [E_bodyN 1 body35 rfl (by decide) rfl]
 simp only [Tryd.f35, Option.get_some]
 by_cases h1 : chk room pages = 0
 ·obtain ⟨hr1, hr2, hn, hpg⟩ := chk_ok h1
  have hR : firS room pages = firstN room (rem6 pages 0) 0 := by rw [firS, if_pos h1]
  generalize firS room pages = Q at hR ⊢
  have key : ∀ t ≤ pages.length, ∀ (s s' : Nat) (T : List Int), s < 64 → (cnt s : Int) ≤ room → Good room pages T → ∃ T' w, Good room pages T' ∧ wok hp.length w ∧ E Tryd.prog Y0 79 [.p (hp.length + 1) 0, iv t, .a [uv s]] (hp ++ j3 room c pages T s') = some (.a [iv (need room (rem6 pages t) s), iv (bst room (rem6 pages t) s).2], hp ++ j3 room c pages T' s', w) := by
   intro t ht s s' T hs hc hg
   obtain ⟨T', w, h1, h2, q⟩ := least_is (c := c) hr1 hn hpg (pages.length - t) t (by omega) s T (hp.length + 1) (hp ++ j3 room c pages T s') hs hc (by simp) hg
   refine ⟨T', w, h1, ?_, ?_⟩
   ·rcases h2 with rfl | rfl
    ·exact Or.inl rfl
    ·exact Or.inr ⟨_, rfl, by omega⟩
   ·rw [q, bst_need hr1, List.set_append_right _ _ (by omega), show hp.length + 1 - hp.length = 1 by omega]; rfl
  simp [keep35, check_is hl, h1, zero112, cells112, fill112, refs_zt]
  refine loop_ind (fun m σ => ∃ (t s : Nat) (T out : List Int) (ts : Tr PV) (w : Option Nat), m + t = pages.length ∧ out ++ firstN room (rem6 pages t) s = Q ∧ out.length = t ∧ s < 64 ∧ (cnt s : Int) ≤ room ∧ Good room pages T ∧ wok hp.length w ∧ σ = ⟨[], ts, hp ++ j3 room c pages T s, w⟩ ∧
   ts.get 1 = some (.p hp.length 0) ∧ ts.get 5 = some (.p (hp.length + 1) 0) ∧ ts.get 6 = some (.p (hp.length + 2) 0) ∧ ts.get 7 = some (.l .own .nz out.length (out.map iv)) ∧ ts.get 23 = some (.l .fz c pages.length (pages.map iv)) ∧ ts.get 24 = some (iv pages.length) ∧ ts.get 25 = some (iv t)) (n0 := pages.length) ?_ ?_
  ·exact ⟨0, 0, zt, [], _, _, rfl, hR.symm, rfl, by decide, by rw [cnt_zero]; omega, good_zt, by first | exact Or.inl rfl | exact Or.inr ⟨_, rfl, by omega⟩, rfl, by simp, by simp, by simp, by simp, by simp, by simp, by simp⟩
  ·rintro m σ ⟨t, s, T, out, ts, w, hm, hQ, hout, hs, hc, hg, hw, rfl, g1, g5, g6, g7, g23, g24, g25⟩ ih
   rcases Nat.lt_or_ge t pages.length with ht | ht
   ·have htt : (t : Int) < pages.length := by omega
    have q1 : Nat.ble (t + 1) pages.length = true := ble_true ht
    have q2 : pages[t]? = some pages[t] := List.getElem?_eq_getElem ht
    obtain ⟨hp0, hp5⟩ := hpg _ (List.getElem_mem ht)
    obtain ⟨p, hpp⟩ := Int.eq_ofNat_of_zero_le hp0
    have hp6 : p < 6 := by omega
    rw [hpp] at q2
    rw [rem6_cons ht hpp] at hQ
    have wt := wrap_nat (show t < 1000000000000 by omega)
    have w5 : Nat.ble ((out.length + 1) * 10) limit = true := ble_true (by unfold limit; omega)
    have hfl := fun hp => @full_is s p room hp hs hp6
    have wok1 : ∀ {u : Option Nat} (k : Nat), wok hp.length u → wok hp.length (lowB u (hp.length + k)) := fun k h => wok_low h (by omega)
    have fin : ∀ (ts' : Tr PV) (T' : List Int) (w' : Option Nat) (g : Int), errF room s p g = 0 → out ++ g :: firstN room (rem6 pages (t + 1)) (withB s p g) = Q → Good room pages T' → wok hp.length w' →
      ts'.get 1 = some (.p hp.length 0) → ts'.get 5 = some (.p (hp.length + 1) 0) → ts'.get 6 = some (.p (hp.length + 2) 0) → ts'.get 7 = some (.l .own .nz (out ++ [g]).length ((out ++ [g]).map iv)) → ts'.get 23 = some (.l .fz c pages.length (pages.map iv)) → ts'.get 24 = some (iv pages.length) → ts'.get 25 = some (iv ((t : Int) + 1)) → _ := fun ts' T' w' g e0 e1 e2 e3 e4 e5 e6 e7 e8 e9 e10 =>
     ih (m - 1) ⟨[], ts', hp ++ j3 room c pages T' (withB s p g), w'⟩ (by omega) ⟨t + 1, withB s p g, T', out ++ [g], ts', w', by omega, by simpa using e1, by simp [hout], withB_lt hs hp6 (errF_range e0), cnt_with hr1 hr2 hs hp6 e0 hc, e2, e3, rfl, e4, e5, e6, e7, e8, e9, e10⟩
    clear ih
    cases hf : fullB s p room with
    | false =>
     rw [hf] at hfl
     have hwi := fun hp => @with_is s p (-1) hp hs hp6 (Or.inl rfl)
     simp [keep35, g1, g5, g6, g7, g23, g24, g25, htt, intIn_nat ht, q1, q2, hfl, hwi, wt, w5, sp1x]
     refine fin _ T _ (-1) (errF_no hf) ?_ hg (wok1 2 hw) (by simp [g1]) (by simp [g5]) (by simp [g6]) (by simp) (by simp [g23]) (by simp [g24]) (by simp)
     rw [← hQ]
     congr 1
     unfold fullB at hf
     simp only [firstN]
     by_cases hb : s.testBit p = true
     ·rw [if_pos hb, withB_no, setB_in hb]
     ·rw [if_neg hb, if_pos (by simp [hb] at hf; exact hf), withB_no]
    | true =>
     rw [hf] at hfl
     have hls := fun hp => @list_is s hp (by omega)
     have hfb := hf
     unfold fullB at hfb
     simp only [Bool.and_eq_true, Bool.not_eq_true', decide_eq_true_eq] at hfb
     obtain ⟨hbit, hcr⟩ := hfb
     obtain ⟨g0, hg0, eg0⟩ := full_ex (r := rem6 pages (t + 1)) hr1 hbit (by omega)
     simp only [firstN] at hQ
     rw [if_neg (by simp [hbit]), if_neg (by omega)] at hQ
     obtain ⟨T1, w1, hg1, hw1, k1⟩ := key t (by omega) s s T hs hc hg
     rw [rem6_cons ht hpp] at k1
     have hN1 : 1 ≤ need room (p :: rem6 pages (t + 1)) s := by omega
     have hN2 : need room (p :: rem6 pages (t + 1)) s ≤ 12 := by
      rw [← bst_need hr1]
      have := (bst_le (room := room) (p :: rem6 pages (t + 1)) s).1
      have : (p :: rem6 pages (t + 1)).length ≤ 12 := by unfold rem6; simp; omega
      omega
     generalize need room (p :: rem6 pages (t + 1)) s = N at hQ k1 eg0 hN1 hN2
     generalize (bst room (p :: rem6 pages (t + 1)) s).2 = N2 at k1
     have wN : IntKind.i64.wrap ((N : Int) - 1) = (N : Int) - 1 := wrap64 (by omega) (by omega)
     have hbn : (bitsL s).length = (bitsN s).length := by simp [bitsL]
     simp [keep35, g1, g5, g6, g7, g23, g24, g25, htt, intIn_nat ht, q1, q2, hfl]
     rw [k1]
     have wok0 : ∀ x, hp.length ≤ x → wok hp.length (lowB w x) := fun x h => wok_low hw h
     rcases hw1 with rfl | ⟨x1, rfl, hx1⟩ <;> (
      simp [keep35, g1, g5, g6, g7, g23, g24, g25, pf108_0, wN, hls]
      refine loop_ind (fun m2 σ => ∃ (j : Nat) (T2 : List Int) (ts2 : Tr PV) (w2 : Option Nat), m2 + j = (bitsN s).length ∧ (∀ g ∈ (bitsN s).take j, need room (rem6 pages (t + 1)) (setB (clrB s g) p) + 1 ≠ N) ∧ Good room pages T2 ∧ wok hp.length w2 ∧ σ = ⟨[], ts2, hp ++ j3 room c pages T2 s, w2⟩ ∧
       ts2.get 1 = some (.p hp.length 0) ∧ ts2.get 5 = some (.p (hp.length + 1) 0) ∧ ts2.get 6 = some (.p (hp.length + 2) 0) ∧ ts2.get 7 = some (.l .own .nz out.length (out.map iv)) ∧ ts2.get 8 = some (iv t) ∧ ts2.get 9 = some (iv p) ∧ ts2.get 11 = some (iv ((N : Int) - 1)) ∧
       ts2.get 23 = some (.l .fz c pages.length (pages.map iv)) ∧ ts2.get 24 = some (iv pages.length) ∧ ts2.get 25 = some (iv t) ∧ ts2.get 43 = some (.l .own .nz (bitsL s).length ((bitsL s).map iv)) ∧ ts2.get 44 = some (iv (bitsN s).length) ∧ ts2.get 45 = some (iv j)) (n0 := (bitsN s).length) ?_ ?_
      ·exact ⟨0, T1, _, _, rfl, by simp, hg1, by first | exact hw | exact wok0 _ hx1, rfl, by simp [g1], by simp [g5], by simp [g6], by simp [g7], by simp, by simp, by simp, by simp [g23], by simp [g24], by simp [g25], by simp, by simp [hbn], by simp⟩
      ·rintro m2 σ ⟨j, T2, ts2, w2, hm2, hno, hg2, hw2, rfl, f1, f5, f6, f7, f8, f9, f11, f23, f24, f25, f43, f44, f45⟩ ih2
       rcases Nat.lt_or_ge j (bitsN s).length with hj | hj
       ·have hjj : (j : Int) < (bitsN s).length := by omega
        obtain ⟨g, hgj⟩ : ∃ g, (bitsN s)[j] = g := ⟨_, rfl⟩
        have hgm : g ∈ bitsN s := by rw [← hgj]; exact List.getElem_mem hj
        obtain ⟨gx, gb⟩ := (bitsN_mem hs).1 hgm
        have hcs := cnt_swap hs hp6 gx gb hbit
        have hwi := fun hp => @with_is s p (g : Int) hp hs hp6 (Or.inr ⟨by omega, by omega⟩)
        rw [withB_yes] at hwi
        have hq2 : (bitsL s)[j]? = some (g : Int) := by simp [bitsL, List.getElem?_eq_getElem hj, hgj]
        have hq1 : Nat.ble (j + 1) (bitsL s).length = true := ble_true (by rw [hbn]; exact hj)
        have hqi : intIn (bitsL s).length (.int .i64 (j : Int)) = some j := intIn_nat (by rw [hbn]; exact hj)
        have wj := wrap_nat (show j < 1000000000000 by have := bitsN_le (s := s); omega)
        obtain ⟨T3, w3, hg3, hw3, k3⟩ := key (t + 1) (by omega) (setB (clrB s g) p) s T2 (set_lt (clr_lt hs gx) hp6) (by rw [hcs]; exact hc) hg2
        rw [Int.natCast_add] at k3
        simp at k3
        have wok3 : ∀ x, hp.length ≤ x → wok hp.length (lowB w2 x) := fun x h => wok_low hw2 h
        simp [keep35, f1, f5, f6, f7, f8, f9, f11, f23, f24, f25, f43, f44, f45, hjj, hqi, hq1, hq2, hwi, wt]
        rw [k3]
        by_cases hd : need room (rem6 pages (t + 1)) (setB (clrB s g) p) + 1 = N
        ·have hd1 : decide ((need room (rem6 pages (t + 1)) (setB (clrB s g) p) : Int) = (N : Int) - 1) = true := decide_eq_true (by omega)
         have hfd : (bitsN s).find? (fun g => decide (need room (rem6 pages (t + 1)) (setB (clrB s g) p) + 1 = N)) = some g := by
          rw [← hgj]
          exact find_at hj (fun y hy => decide_eq_false (hno y hy)) (by rw [hgj]; exact decide_eq_true hd)
         rw [hfd] at hQ
         rcases hw3 with rfl | ⟨x3, rfl, hx3⟩ <;> (
          simp [keep35, f1, f5, f6, f7, f8, f9, f11, f23, f24, f25, f43, f44, f45, pf108_0, hd1, hwi, w5, sp1x, wt]
          refine fin _ T3 _ (g : Int) (errF_yes hf gx gb) (by rw [withB_yes]; exact hQ) hg3 (by first | exact wok1 2 hw2 | exact wok1 2 (wok3 _ hx3)) (by simp [f1]) (by simp [f5]) (by simp [f6]) (by simp) (by simp [f23]) (by simp [f24]) (by simp))
        ·have hd1 : ¬ (need room (rem6 pages (t + 1)) (setB (clrB s g) p) : Int) = (N : Int) - 1 := by omega
         rcases hw3 with rfl | ⟨x3, rfl, hx3⟩ <;> (
          simp [keep35, f1, f5, f6, f7, f8, f9, f11, f23, f24, f25, f43, f44, f45, pf108_0, hd1, wj]
          refine ih2 (m2 - 1) _ (by omega) ⟨j + 1, T3, _, _, by omega, ?_, hg3, by first | exact hw2 | exact wok3 _ hx3, rfl, by simp [f1], by simp [f5], by simp [f6], by simp [f7], by simp [f8], by simp [f9], by simp [f11], by simp [f23], by simp [f24], by simp [f25], by simp [f43], by simp [f44], by simp⟩
          intro y hy
          rw [List.take_add_one, List.getElem?_eq_getElem hj, List.mem_append] at hy
          rcases hy with hy | hy
          ·exact hno y hy
          ·simp [hgj] at hy; subst hy; exact hd)
       ·exfalso
        obtain ⟨g, hgm, hge⟩ : ∃ g ∈ bitsN s, need room (rem6 pages (t + 1)) (setB (clrB s g) p) + 1 = N := ⟨g0, hg0, eg0⟩
        rw [List.take_of_length_le hj] at hno
        exact hno g hgm hge)
   ·have hpl : t = pages.length := by omega
    have hre : rem6 pages t = [] := by unfold rem6; rw [List.drop_of_length_le (by simpa using ht)]
    rw [hre] at hQ
    simp only [firstN, List.append_nil] at hQ
    subst hQ
    simp [keep35, g1, g5, g6, g7, g23, g24, g25, lowOf_wok hw, show ¬ (t : Int) < pages.length by omega]
 ·have hR : firS room pages = [] := by rw [firS, if_neg h1]
  rw [hR]
  simp [keep35, check_is hl, h1]
end Go.Proofs.YtcdhajbhpnbdkaaDoor
