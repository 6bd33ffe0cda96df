/-
  The reference's why, by the pure evaluator.
  Conditions: none; definitions and lemmas.
-/
import Derived.Test.YtcdhajbhpnbdkaaDoorWhy1
set_option linter.unusedSimpArgs false
set_option linter.unusedVariables false
namespace Go.Proofs.YtcdhajbhpnbdkaaDoor
open Go.Abs Go.Pur
set_option maxRecDepth 100000
set_option maxHeartbeats 2000000
attribute [local simp] EK_region EK_seq EK_cond EK_block EK_blk EK_loop EK_exit EK.ex EK_ret EK_skip EK_nil EO_cons EO_nil EO1_true EO1_false EO2_some EO3_some EB_true EB_false pwanted poper pq pev Go.Pur.look pputT isAssign drOf pinit Tr.get_set lget pvOf_int pvOf_bool pvOf_str pvOf_nil rdv_ak notOwn_ak prt_ak loose_ak rdv_own rdv_fz rdv_bor rdv_rf rdv_pt rdv_v rdv_a rdv_t rdv_r rdv_p rdv_s rdv_f pbin plen pload ppart idxAddr pcond Nat.blt goInt_eq prun_not prun_neg mayLoad ER_ret ER_normal presL presOne moved stor okDrop settle_v settle_l settle_a settle_p settle_f noref_v noref_fz noref_a norefs_nil norefs_cons pclose given dropB Y0_keep pevParts stors pvCells pvCells.go vcells pfill reps zipParts ownFz pcells cellOK one psrcLen srcFits psrc takeP pgrow take getPl setPl mapL plEq elder isList lowP pevs frzs addP partAt ble_lim24 killV_v killV_a killV_t killV_f killV_i killV_p killV_s killV_un killV_dead killV_lfz killV_lbor killV_lown killV_rfz killV_rbor killV_lak killV_rak frzV_v frzV_a frzV_t frzV_f frzV_i frzV_p frzV_s frzV_un frzV_dead frzV_lfz frzV_lbor frzV_lown frzV_rfz frzV_rbor frzV_lak frzV_rak killCell_v killCell_a killCell_t killCell_f killCell_i killCell_p killCell_s killCell_un killCell_dead killCell_lfz killCell_lbor killCell_lown killCell_rfz killCell_rbor killCell_lak killCell_rak killV_lrf killV_lpt killV_rpt frzV_lrf frzV_lpt frzV_rpt killCell_lrft killCell_lptt killCell_rptt killCell_lrfc killCell_lptc killCell_rptc argv_lak argv_rak argv_v argv_a argv_p argv_f argv_fz argv_bor argv_rf argv_pt argv_rc argv_own mayTurn_none argvs pcallOp firm refsTo_v refsTo_l refsTo_p refsTo_s refsTo_a refsTo_dead refsTo_nil refsTo_cons isOwn_lak ownFz_lak evSafe pskip plain pnewBlk fldAddr isOwn pput notOwn_fz notOwn_bor notOwn_own notOwn_rf notOwn_pt prt_fz prt_bor prt_own prt_rf prt_pt Go.Pur.freeze presM settles abin_and abin_or abin_andNot abin_mul abin_shr abin_shl abin_add abin_sub abin_eql abin_neq abin_lss abin_leq abin_gtr abin_geq keep80 sz3 by3 row3 zero3 sz4 by4 row4 zero4 sz5 by5 row5 zero5 sz9 by9 row9 shape9 zero9 sz22 by22 row22 shape22 zero22 sz24 by24 row24 zero24 parts24 field24_0 field24_1 sz27 by27 row27 zero27 parts27 field27_0 field27_1 sz28 by28 row28 zero28 sz32 by32 row32 shape32 zero32 sz46 by46 row46 shape46 zero46 sz54 by54 row54 shape54 zero54 parts54 sz56 by56 row56 zero56 parts56 field56_0 field56_1 field56_2 sz63 by63 row63 shape63 zero63 parts63 sz70 by70 row70 shape70 zero70 parts70 sz75 by75 row75 shape75 zero75 parts75 sz79 by79 row79 zero79 sz84 by84 row84 zero84 sz86 by86 row86 shape86 zero86 sz91 by91 row91 zero91 sz93 by93 row93 zero93 parts93 field93_0 sz97 by97 row97 zero97 sz100 by100 row100 zero100 sz102 by102 row102 zero102 sz105 by105 row105 zero105 parts105 field105_0 field105_1 field105_2 sz106 by106 row106 zero106 sz108 by108 row108 zero108 parts108 field108_0 field108_1 sz109 by109 row109 shape109 zero109 parts109 sz110 by110 row110 shape110 parts110 sz112 by112 row112 parts112 field112_0 field112_1 sz126 by126 row126 shape126 zero126 sz127 by127 row127 zero127 sz134 by134 row134 zero134 sz136 by136 row136 zero136 sz140 by140 row140 zero140 sz147 by147 row147 shape147 zero147 parts147 sz148 by148 row148 shape148 zero148 parts148 sz149 by149 row149 zero149 sz153 by153 row153 zero153 bs_size gAt gAt0 sAt sAt0 optPlain rows_len noMaker_eq kindOf vlOf abin_rem abin_quo mayTurn_none lowOf_none Go.Pur.partAt rows_nil rows_cons ble_add ble_add0 ble_same toPlain toPlain.go intIn2_0 intIn2_1 ble12 ble22 tv lv max_int min_int pplains ak_true ak_false apartP beq_add beq_add0 beq_add1 argv_s wok_none wok_low_iff lowOf_wok
def whyIn (F : Nat) (room : Int) (pages : List Int) : List (Ck × List Int) → (Ck × List Int) × Int → Option ((Ck × List Int) × Int)
 | [], b => some b
 | x :: l, b => (f89S F room pages x.2).bind fun n => whyIn F room pages l (if b.2 < n then (x, n) else b)
def whyOut (F : Nat) (room : Int) (pages : List Int) : Nat → Nat → (Ck × List Int) × Int → Option ((Ck × List Int) × Int)
 | 0, _, b => some b
 | k + 1, many, b => (f101S F F pages.length many .nz []).bind fun (c, l) => (gN l.length).bind fun _ => (whyIn F room pages l b).bind fun b' => whyOut F room pages k (many + 1) b'
def f80S (F : Nat) (room : Int) (pages : List Int) : Option ((Ck × List Int) × Int) := match short pages with
 | true => whyOut F room pages (pages.length + 1) 0 ((.nz, []), -1)
 | false => none
theorem f80_is {p0a : Int} {c0b : Ck} {p0b : List Int} {hp : List (Option (List PV))} {F : Nat} {r : (Ck × List Int) × Int} (h : f80S F p0a p0b = some r) :
  E Tryd.prog Y0 80 [.a [iv p0a, .l .fz c0b p0b.length (p0b.map iv)]] hp = some (.t [.l .fz r.1.1 r.1.2.length (r.1.2.map iv), iv r.2], hp, none) := by
 have hl : p0b.length < 1000000000 := by
  unfold f80S at h
  split at h
  ·rename_i e; exact short_lt e
  ·cases h
 have h : whyOut F p0a p0b (p0b.length + 1) 0 ((.nz, []), -1) = some r := by
  unfold f80S at h
  split at h
  ·exact h
  ·cases h
 rw [E_bodyN 1 body80 rfl (by decide) rfl]
 simp only [Tryd.f80, Option.get_some]
 simp
 refine loop_ind (fun m σ => ∃ (j : Nat) (b : (Ck × List Int) × Int) (k : Vl) (ts : Tr PV) (w : Option Nat), m + j = p0b.length + 1 ∧ whyOut F p0a p0b m j b = some r ∧ (k = .fz ∨ k = .own ∧ b.1 = (.nz, [])) ∧ wok hp.length w ∧ σ = ⟨[], ts, hp ++ [some [iv p0a, .l .fz c0b p0b.length (p0b.map iv)]], w⟩ ∧
  ts.get 1 = some (.p hp.length 0) ∧ ts.get 4 = some (.l k b.1.1 b.1.2.length (b.1.2.map iv)) ∧ ts.get 5 = some (iv b.2) ∧ ts.get 6 = some (iv j)) (n0 := p0b.length + 1) ?_ ?_
 ·exact ⟨0, ((.nz, []), -1), .own, _, _, rfl, h, Or.inr ⟨rfl, rfl⟩, by simp, rfl, by simp, by simp, by simp, by simp⟩
 ·rintro m σ ⟨j, b, k, ts, w, hm, hw, hk, hwk, rfl, g1, g4, g5, g6⟩ ih
  cases m with
  | zero =>
   simp only [whyOut, Option.some.injEq] at hw
   subst hw
   rcases hk with rfl | ⟨rfl, hk⟩
   ·simp [g1, g4, g5, g6, lowOf_wok hwk, show ¬ (j : Int) ≤ p0b.length by omega]
   ·rw [hk] at g4
    simp [g1, g4, g5, g6, hk, lowOf_wok hwk, show ¬ (j : Int) ≤ p0b.length by omega]
  | succ m =>
   simp only [whyOut] at hw
   obtain ⟨⟨c, l⟩, e1, hw⟩ := bind_ok hw
   dsimp only at hw
   obtain ⟨u, e2, hw⟩ := bind_ok hw
   obtain ⟨b', e3, hw⟩ := bind_ok hw
   have e2 := gN_ok e2 1 (by decide)
   have hll : l.length ≤ 1099511627776 := by
    have := Nat.le_of_ble_eq_true e2
    unfold limit at this; omega
   have q1 := fun hp => @f101_is F F p0b.length j .nz [] hp _ e1
   simp at q1
   have hj : (j : Int) ≤ p0b.length := by omega
   have wj := wrap_nat (show j < 1000000000000 by omega)
   cases c with
   | full =>
    simp [g1, g4, g5, g6, hj, q1]
    refine loop_ind (fun m2 σ => ∃ (i : Nat) (b2 : (Ck × List Int) × Int) (k2 : Vl) (ts2 : Tr PV) (w2 : Option Nat), m2 + i = l.length ∧ whyIn F p0a p0b (l.drop i) b2 = some b' ∧ (k2 = .fz ∨ k2 = .own ∧ b2.1 = (.nz, [])) ∧ wok hp.length w2 ∧ σ = ⟨[], ts2, hp ++ [some [iv p0a, .l .fz c0b p0b.length (p0b.map iv)]], w2⟩ ∧
     ts2.get 1 = some (.p hp.length 0) ∧ ts2.get 4 = some (.l k2 b2.1.1 b2.1.2.length (b2.1.2.map iv)) ∧ ts2.get 5 = some (iv b2.2) ∧ ts2.get 6 = some (iv j) ∧ ts2.get 7 = some (.l .fz .full l.length (l.map lv)) ∧ ts2.get 8 = some (iv i)) (n0 := l.length) ?_ ?_
    ·exact ⟨0, b, k, _, _, rfl, e3, hk, hwk, rfl, by simp [g1], by simp [g4], by simp [g5], by simp [g6], by simp, by simp⟩
    ·rintro m2 σ ⟨i, b2, k2, ts2, w2, hm2, hw2, hk2, hwk2, rfl, f1, f4, f5, f6, f7, f8⟩ ih2
     rcases Nat.lt_or_ge i l.length with hi | hi
     ·have hii : (i : Int) < l.length := by omega
      obtain ⟨x, hx⟩ : ∃ x, l[i] = x := ⟨_, rfl⟩
      have hl2 : l[i]? = some x := by rw [List.getElem?_eq_getElem hi, hx]
      have hb1 : Nat.ble (i + 1) l.length = true := ble_true hi
      rw [List.drop_eq_getElem_cons hi, hx] at hw2
      simp only [whyIn] at hw2
      obtain ⟨n, e4, hw2⟩ := bind_ok hw2
      have q2 := fun hp => @f89_is p0a c0b p0b false x.1 x.2 hp F n e4
      simp only [ak_false] at q2
      have wi : IntKind.i64.wrap ((i : Int) + 1) = (i : Int) + 1 := wrap64 (by omega) (by omega)
      by_cases hn : b2.2 < n
      ·rw [if_pos hn] at hw2
       simp [f1, f4, f5, f6, f7, f8, hii, intIn_nat hi, hb1, hl2, lv, q2, hn, wi]
       exact ih2 (m2 - 1) _ (by omega) ⟨i + 1, (x, n), .fz, _, _, by omega, hw2, Or.inl rfl, hwk2, rfl, by simp [f1], by simp, by simp, by simp [f6], by simp [f7], by simp⟩
      ·rw [if_neg hn] at hw2
       simp [f1, f4, f5, f6, f7, f8, hii, intIn_nat hi, hb1, hl2, lv, q2, hn, wi]
       exact ih2 (m2 - 1) _ (by omega) ⟨i + 1, b2, k2, _, _, by omega, hw2, hk2, hwk2, rfl, by simp [f1], by simp [f4], by simp [f5], by simp [f6], by simp [f7], by simp⟩
     ·rw [List.drop_of_length_le hi] at hw2
      simp only [whyIn, Option.some.injEq] at hw2
      subst hw2
      simp [f1, f4, f5, f6, f7, f8, show ¬ (i : Int) < l.length by omega, wj]
      exact ih m _ (by omega) ⟨j + 1, b2, k2, _, _, by omega, hw, hk2, hwk2, rfl, by simp [f1], by simp [f4], by simp [f5], by simp⟩
   | nz =>
    simp [g1, g4, g5, g6, hj, q1]
    refine loop_ind (fun m2 σ => ∃ (i : Nat) (b2 : (Ck × List Int) × Int) (k2 : Vl) (ts2 : Tr PV) (w2 : Option Nat), m2 + i = l.length ∧ whyIn F p0a p0b (l.drop i) b2 = some b' ∧ (k2 = .fz ∨ k2 = .own ∧ b2.1 = (.nz, [])) ∧ wok hp.length w2 ∧ σ = ⟨[], ts2, hp ++ [some [iv p0a, .l .fz c0b p0b.length (p0b.map iv)]], w2⟩ ∧
     ts2.get 1 = some (.p hp.length 0) ∧ ts2.get 4 = some (.l k2 b2.1.1 b2.1.2.length (b2.1.2.map iv)) ∧ ts2.get 5 = some (iv b2.2) ∧ ts2.get 6 = some (iv j) ∧ ts2.get 7 = some (.l .own .nz l.length (l.map lv)) ∧ ts2.get 8 = some (iv i)) (n0 := l.length) ?_ ?_
    ·exact ⟨0, b, k, _, _, rfl, e3, hk, hwk, rfl, by simp [g1], by simp [g4], by simp [g5], by simp [g6], by simp, by simp⟩
    ·rintro m2 σ ⟨i, b2, k2, ts2, w2, hm2, hw2, hk2, hwk2, rfl, f1, f4, f5, f6, f7, f8⟩ ih2
     rcases Nat.lt_or_ge i l.length with hi | hi
     ·have hii : (i : Int) < l.length := by omega
      obtain ⟨x, hx⟩ : ∃ x, l[i] = x := ⟨_, rfl⟩
      have hl2 : l[i]? = some x := by rw [List.getElem?_eq_getElem hi, hx]
      have hb1 : Nat.ble (i + 1) l.length = true := ble_true hi
      rw [List.drop_eq_getElem_cons hi, hx] at hw2
      simp only [whyIn] at hw2
      obtain ⟨n, e4, hw2⟩ := bind_ok hw2
      have q2 := fun hp => @f89_is p0a c0b p0b false x.1 x.2 hp F n e4
      simp only [ak_false] at q2
      have wi : IntKind.i64.wrap ((i : Int) + 1) = (i : Int) + 1 := wrap64 (by omega) (by omega)
      by_cases hn : b2.2 < n
      ·rw [if_pos hn] at hw2
       simp [f1, f4, f5, f6, f7, f8, hii, intIn_nat hi, hb1, hl2, lv, q2, hn, wi]
       exact ih2 (m2 - 1) _ (by omega) ⟨i + 1, (x, n), .fz, _, _, by omega, hw2, Or.inl rfl, hwk2, rfl, by simp [f1], by simp, by simp, by simp [f6], by simp [f7], by simp⟩
      ·rw [if_neg hn] at hw2
       simp [f1, f4, f5, f6, f7, f8, hii, intIn_nat hi, hb1, hl2, lv, q2, hn, wi]
       exact ih2 (m2 - 1) _ (by omega) ⟨i + 1, b2, k2, _, _, by omega, hw2, hk2, hwk2, rfl, by simp [f1], by simp [f4], by simp [f5], by simp [f6], by simp [f7], by simp⟩
     ·rw [List.drop_of_length_le hi] at hw2
      simp only [whyIn, Option.some.injEq] at hw2
      subst hw2
      simp [f1, f4, f5, f6, f7, f8, show ¬ (i : Int) < l.length by omega, wj]
      exact ih m _ (by omega) ⟨j + 1, b2, k2, _, _, by omega, hw, hk2, hwk2, rfl, by simp [f1], by simp [f4], by simp [f5], by simp⟩
   | any =>
    simp [g1, g4, g5, g6, hj, q1]
    refine loop_ind (fun m2 σ => ∃ (i : Nat) (b2 : (Ck × List Int) × Int) (k2 : Vl) (ts2 : Tr PV) (w2 : Option Nat), m2 + i = l.length ∧ whyIn F p0a p0b (l.drop i) b2 = some b' ∧ (k2 = .fz ∨ k2 = .own ∧ b2.1 = (.nz, [])) ∧ wok hp.length w2 ∧ σ = ⟨[], ts2, hp ++ [some [iv p0a, .l .fz c0b p0b.length (p0b.map iv)]], w2⟩ ∧
     ts2.get 1 = some (.p hp.length 0) ∧ ts2.get 4 = some (.l k2 b2.1.1 b2.1.2.length (b2.1.2.map iv)) ∧ ts2.get 5 = some (iv b2.2) ∧ ts2.get 6 = some (iv j) ∧ ts2.get 7 = some (.l .own .any l.length (l.map lv)) ∧ ts2.get 8 = some (iv i)) (n0 := l.length) ?_ ?_
    ·exact ⟨0, b, k, _, _, rfl, e3, hk, hwk, rfl, by simp [g1], by simp [g4], by simp [g5], by simp [g6], by simp, by simp⟩
    ·rintro m2 σ ⟨i, b2, k2, ts2, w2, hm2, hw2, hk2, hwk2, rfl, f1, f4, f5, f6, f7, f8⟩ ih2
     rcases Nat.lt_or_ge i l.length with hi | hi
     ·have hii : (i : Int) < l.length := by omega
      obtain ⟨x, hx⟩ : ∃ x, l[i] = x := ⟨_, rfl⟩
      have hl2 : l[i]? = some x := by rw [List.getElem?_eq_getElem hi, hx]
      have hb1 : Nat.ble (i + 1) l.length = true := ble_true hi
      rw [List.drop_eq_getElem_cons hi, hx] at hw2
      simp only [whyIn] at hw2
      obtain ⟨n, e4, hw2⟩ := bind_ok hw2
      have q2 := fun hp => @f89_is p0a c0b p0b false x.1 x.2 hp F n e4
      simp only [ak_false] at q2
      have wi : IntKind.i64.wrap ((i : Int) + 1) = (i : Int) + 1 := wrap64 (by omega) (by omega)
      by_cases hn : b2.2 < n
      ·rw [if_pos hn] at hw2
       simp [f1, f4, f5, f6, f7, f8, hii, intIn_nat hi, hb1, hl2, lv, q2, hn, wi]
       exact ih2 (m2 - 1) _ (by omega) ⟨i + 1, (x, n), .fz, _, _, by omega, hw2, Or.inl rfl, hwk2, rfl, by simp [f1], by simp, by simp, by simp [f6], by simp [f7], by simp⟩
      ·rw [if_neg hn] at hw2
       simp [f1, f4, f5, f6, f7, f8, hii, intIn_nat hi, hb1, hl2, lv, q2, hn, wi]
       exact ih2 (m2 - 1) _ (by omega) ⟨i + 1, b2, k2, _, _, by omega, hw2, hk2, hwk2, rfl, by simp [f1], by simp [f4], by simp [f5], by simp [f6], by simp [f7], by simp⟩
     ·rw [List.drop_of_length_le hi] at hw2
      simp only [whyIn, Option.some.injEq] at hw2
      subst hw2
      simp [f1, f4, f5, f6, f7, f8, show ¬ (i : Int) < l.length by omega, wj]
      exact ih m _ (by omega) ⟨j + 1, b2, k2, _, _, by omega, hw, hk2, hwk2, rfl, by simp [f1], by simp [f4], by simp [f5], by simp⟩
end Go.Proofs.YtcdhajbhpnbdkaaDoor
