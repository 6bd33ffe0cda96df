/-
  All plans are tried: the walk of the statements' own fewest.
  Conditions: none; lemmas.
-/
import Derived.Test.YtcdhajbhpnbdkaaDoorPut
import Derived.Test.YtcdhajbhpnbdkaaDoorPurI
set_option linter.unusedSimpArgs false
set_option linter.unusedVariables false
namespace Go.Proofs.YtcdhajbhpnbdkaaDoor
open Go.Abs Go.Pur
set_option maxRecDepth 100000
set_option maxHeartbeats 2000000
attribute [local simp] EK_region EK_seq EK_cond EK_block EK_blk EK_loop EK_exit EK.ex EK_ret EK_skip EK_nil EO_cons EO_nil EO1_true EO1_false EO2_some EO3_some EB_true EB_false pwanted poper pq pev Go.Pur.look pputT isAssign drOf pinit Tr.get_set lget pvOf_int pvOf_bool pvOf_str pvOf_nil rdv_ak notOwn_ak prt_ak loose_ak rdv_own rdv_fz rdv_bor rdv_rf rdv_pt rdv_v rdv_a rdv_t rdv_r rdv_p rdv_s rdv_f pbin plen pload ppart idxAddr pcond Nat.blt goInt_eq prun_not prun_neg mayLoad ER_ret ER_normal presL presOne moved stor okDrop settle_v settle_l settle_a settle_p settle_f noref_v noref_fz noref_a norefs_nil norefs_cons pclose given dropB Y0_keep pevParts stors pvCells pvCells.go vcells pfill reps zipParts ownFz pcells cellOK one psrcLen srcFits psrc takeP pgrow take getPl setPl mapL plEq elder isList lowP pevs frzs addP partAt ble_lim24 killV_v killV_a killV_t killV_f killV_i killV_p killV_s killV_un killV_dead killV_lfz killV_lbor killV_lown killV_rfz killV_rbor killV_lak killV_rak frzV_v frzV_a frzV_t frzV_f frzV_i frzV_p frzV_s frzV_un frzV_dead frzV_lfz frzV_lbor frzV_lown frzV_rfz frzV_rbor frzV_lak frzV_rak killCell_v killCell_a killCell_t killCell_f killCell_i killCell_p killCell_s killCell_un killCell_dead killCell_lfz killCell_lbor killCell_lown killCell_rfz killCell_rbor killCell_lak killCell_rak killV_lrf killV_lpt killV_rpt frzV_lrf frzV_lpt frzV_rpt killCell_lrft killCell_lptt killCell_rptt killCell_lrfc killCell_lptc killCell_rptc argv_lak argv_rak argv_v argv_a argv_p argv_f argv_fz argv_bor argv_rf argv_pt argv_rc argv_own mayTurn_none argvs pcallOp firm refsTo_v refsTo_l refsTo_p refsTo_s refsTo_a refsTo_dead refsTo_nil refsTo_cons isOwn_lak ownFz_lak evSafe pskip plain pnewBlk fldAddr isOwn pput notOwn_fz notOwn_bor notOwn_own notOwn_rf notOwn_pt prt_fz prt_bor prt_own prt_rf prt_pt Go.Pur.freeze presM settles abin_and abin_or abin_andNot abin_mul abin_shr abin_shl abin_add abin_sub abin_eql abin_neq abin_lss abin_leq abin_gtr abin_geq keep49 keep91 sz3 by3 row3 zero3 sz4 by4 row4 zero4 sz5 by5 row5 zero5 sz9 by9 row9 shape9 zero9 sz22 by22 row22 shape22 zero22 sz24 by24 row24 zero24 parts24 field24_0 field24_1 sz27 by27 row27 zero27 parts27 field27_0 field27_1 sz28 by28 row28 zero28 sz32 by32 row32 shape32 zero32 sz46 by46 row46 shape46 zero46 sz54 by54 row54 shape54 zero54 parts54 sz56 by56 row56 zero56 parts56 field56_0 field56_1 field56_2 sz63 by63 row63 shape63 zero63 parts63 sz70 by70 row70 shape70 zero70 parts70 sz75 by75 row75 shape75 zero75 parts75 sz79 by79 row79 zero79 sz84 by84 row84 zero84 sz86 by86 row86 shape86 zero86 sz91 by91 row91 zero91 sz93 by93 row93 zero93 parts93 field93_0 sz97 by97 row97 zero97 sz100 by100 row100 zero100 sz102 by102 row102 zero102 sz105 by105 row105 zero105 parts105 field105_0 field105_1 field105_2 sz106 by106 row106 zero106 sz108 by108 row108 zero108 parts108 field108_0 field108_1 sz109 by109 row109 shape109 zero109 parts109 sz110 by110 row110 shape110 parts110 sz112 by112 row112 parts112 field112_0 field112_1 sz126 by126 row126 shape126 zero126 sz127 by127 row127 zero127 sz134 by134 row134 zero134 sz136 by136 row136 zero136 sz140 by140 row140 zero140 sz147 by147 row147 shape147 zero147 parts147 sz148 by148 row148 shape148 zero148 parts148 sz149 by149 row149 zero149 sz153 by153 row153 zero153 bs_size gAt gAt0 sAt sAt0 optPlain rows_len noMaker_eq kindOf vlOf abin_rem abin_quo mayTurn_none lowOf_none Go.Pur.partAt rows_nil rows_cons ble_add ble_add0 ble_same toPlain toPlain.go intIn2_0 intIn2_1 ble12 ble22 tv lv max_int min_int pplains ak_true ak_false apartP beq_add beq_add0 beq_add1 argv_s wok_none wok_low_iff lowOf_wok
abbrev capsP (h : Nat) : List PV := [.p (h + 1) 0, .p h 0, .p (h + 2) 0, .p (h + 3) 0, .p (h + 4) 0]
abbrev HP (hp : List (Option (List PV))) (room : Int) (c : Ck) (pages : List Int) (st : PSt) (k : Vl) : List (Option (List PV)) :=
 hp ++ [some [iv room, .l .fz c pages.length (pages.map iv)], some [iv st.1], some [iv st.2.1], some [.l k .nz st.2.2.length (st.2.2.map iv)], some [.f 91 [] (capsP hp.length)]]
def okK (k : Vl) (st : PSt) : Prop := k = .fz ∨ k = .own ∧ st.2.2 = []
def PRes (hp : List (Option (List PV))) (room : Int) (c : Ck) (pages : List Int) (X : PSt) (R : Option (PV × List (Option (List PV)) × Option Nat)) : Prop :=
 ∃ k' w, okK k' X ∧ lowOk (hp.length + 1) w ∧ R = some (.t [], HP hp room c pages X k', w)
def TryIs (hp : List (Option (List PV))) (room : Int) (c : Ck) (pages : List Int) (t : Nat) : Prop := ∀ (plan : List Int) (s set : Nat) (st : PSt) (k : Vl), plan.length = t → s < 64 → (cnt s : Int) ≤ room → set ≤ t → st.1 ≤ 100 → st.2.1 + 12 ^ (pages.length - t) ≤ 4611686018427387904 → okK k st →
 ∃ k' w, okK k' (putP room (rem6 pages t) plan s set st) ∧ lowOk (hp.length + 1) w ∧ E Tryd.prog Y0 91 ([.l .fz .nz plan.length (plan.map iv), iv s, iv set] ++ capsP hp.length) (HP hp room c pages st k) = some (.t [], HP hp room c pages (putP room (rem6 pages t) plan s set st) k', w)
theorem lb0 {b : Nat} : lowB none b = some b := rfl
theorem lb1 {a b : Nat} (h : a ≤ b) : lowB (some a) b = some a := congrArg some (Nat.min_eq_left h)
theorem lo1 {a b : Nat} (h : a < b) : lowOf b (some a) = some a := by
 show (match Nat.blt a b with | true => some a | false => none) = some a
 rw [blt_true h]
theorem lo2 {b : Nat} : lowOf b none = none := rfl
theorem spx {a c : PV} : spliceP 0 [a] [c] = some [a] := rfl
theorem takeHP {hp : List (Option (List PV))} {a b c d e : Option (List PV)} : List.take (hp.length + 5) (hp ++ [a, b, c, d, e]) = hp ++ [a, b, c, d, e] := List.take_of_length_le (by simp)
theorem put_tab : (List.range 64).all (fun s => (List.range 6).all fun p => decide (andI .i64 (shrI .i64 (s : Int) (p : Int)) 1 = if s.testBit p then 1 else 0) && decide (orI .i64 (s : Int) (shlI .i64 1 (p : Int)) = ((setB s p : Nat) : Int)) && decide (andNotI .i64 (s : Int) (shlI .i64 1 (p : Int)) = ((clrB s p : Nat) : Int))) = true := by kernel_rfl
theorem put_bit {s p : Nat} (hs : s < 64) (hp : p < 6) : andI .i64 (shrI .i64 (s : Int) (p : Int)) 1 = (if s.testBit p then 1 else 0) ∧ orI .i64 (s : Int) (shlI .i64 1 (p : Int)) = ((setB s p : Nat) : Int) ∧ andNotI .i64 (s : Int) (shlI .i64 1 (p : Int)) = ((clrB s p : Nat) : Int) := by
 have := put_tab
 rw [List.all_eq_true] at this
 have := this s (List.mem_range.2 hs)
 rw [List.all_eq_true] at this
 have := this p (List.mem_range.2 hp)
 simp only [Bool.and_eq_true, decide_eq_true_eq] at this
 exact ⟨this.1.1, this.1.2, this.2⟩
theorem slice3 {l : List Int} : pqSlice Tryd.prog 22 (.l .fz .nz l.length (l.map iv)) none (some (.int .i64 (l.length : Int))) (some (.int .i64 (l.length : Int))) = some (.l .fz .full l.length (l.map iv)) := by
 unfold pqSlice
 rw [shape22]
 simp only []
 unfold pslice
 have e2 : natOfO 0 l.length l.length (some (.int .i64 (l.length : Int))) = some l.length := by
  show (match Nat.ble 0 l.length && Nat.ble l.length l.length with | true => some l.length | false => none) = some l.length
  simp only [nble, Nat.zero_le, Nat.le_refl, decide_true, Bool.and_self]
 have e3 : natOfO 0 l.length 0 none = some 0 := rfl
 simp only [e2, e3]
 rw [show (Nat.ble l.length l.length && hiOk (some (.int .i64 (l.length : Int))) (some (.int .i64 (l.length : Int))) && notOwn .fz && Nat.ble (l.length * 1) (l.map iv).length) = true by simp [hiOk, notOwn, nble]]
 simp [slCk, capK, nbeq, prt]
 exact List.take_of_length_le (by simp)
theorem lowOk_of {b x : Nat} {w : Option Nat} (h : lowOk b w) : lowOk b (lowOf x w) := by
 rcases h with rfl | ⟨j, rfl, hj⟩
 ·exact Or.inl rfl
 ·show lowOk b (match Nat.blt j x with | true => some j | false => none)
  split
  ·exact Or.inr ⟨j, rfl, hj⟩
  ·exact Or.inl rfl
section
variable {hp : List (Option (List PV))} {room : Int} {c : Ck} {pages : List Int}
theorem put_cut {t : Nat} {plan : List Int} {s set : Nat} {st : PSt} {k : Vl} (hlt : st.1 < set) : E Tryd.prog Y0 91 ([.l .fz .nz plan.length (plan.map iv), iv s, iv set] ++ capsP hp.length) (HP hp room c pages st k) = some (.t [], HP hp room c pages st k, none) := by
 rw [E_bodyN 8 body91 rfl (by decide) rfl]
 simp only [Tryd.f91, Option.get_some]
 have h1 : (st.1 : Int) < (set : Int) := by omega
 simp [h1, takeHP]
theorem put_end {plan : List Int} {s set : Nat} {st : PSt} {k : Vl} (hlen : plan.length = pages.length) (hset : set ≤ 100) (hm : st.2.1 + 1 ≤ 4611686018427387904) (hk : okK k st) (hlt : ¬ st.1 < set) :
  ∃ k' w, okK k' (putP room [] plan s set st) ∧ lowOk (hp.length + 1) w ∧ E Tryd.prog Y0 91 ([.l .fz .nz plan.length (plan.map iv), iv s, iv set] ++ capsP hp.length) (HP hp room c pages st k) = some (.t [], HP hp room c pages (putP room [] plan s set st) k', w) := by
 have h1 : ¬ (st.1 : Int) < (set : Int) := by omega
 have hl : (plan.length : Int) = (pages.length : Int) := by omega
 simp only [putP, if_neg hlt]
 rw [E_bodyN 8 body91 rfl (by decide) rfl]
 simp only [Tryd.f91, Option.get_some]
 by_cases h2 : set < st.1
 ·have h3 : (set : Int) < (st.1 : Int) := by omega
  rw [if_pos h2]
  refine ⟨.fz, some (hp.length + 1), Or.inl rfl, Or.inr ⟨_, rfl, Nat.le_refl _⟩, ?_⟩
  simp [h1, hl, h3, lb0, lb1, lo1, spx, takeHP, show IntKind.i64.wrap 1 = 1 from rfl]
 ·have h3 : ¬ (set : Int) < (st.1 : Int) := by omega
  have w1 : IntKind.i64.wrap ((st.2.1 : Int) + 1) = ((st.2.1 + 1 : Nat) : Int) := wrap64 (by omega) (by omega)
  rw [if_neg h2]
  refine ⟨k, some (hp.length + 2), hk, Or.inr ⟨_, rfl, by omega⟩, ?_⟩
  simp [h1, hl, h3, lb0, lb1, lo1, spx, takeHP, w1]
theorem put_in {t p : Nat} {plan : List Int} {s set : Nat} {st : PSt} {k : Vl} (hn : pages.length ≤ 12) (ht : t < pages.length) (hp6 : p < 6) (hpt : pages[t] = (p : Int)) (ih : TryIs hp room c pages (t + 1)) (hlen : plan.length = t) (hs : s < 64) (hc : (cnt s : Int) ≤ room) (hset : set ≤ t) (hst : st.1 ≤ 100)
  (hm : st.2.1 + 12 ^ (pages.length - t) ≤ 4611686018427387904) (hk : okK k st) (hlt : ¬ st.1 < set) (hb : s.testBit p = true) :
  ∃ k' w, okK k' (putP room (rem6 pages t) plan s set st) ∧ lowOk (hp.length + 1) w ∧ E Tryd.prog Y0 91 ([.l .fz .nz plan.length (plan.map iv), iv s, iv set] ++ capsP hp.length) (HP hp room c pages st k) = some (.t [], HP hp room c pages (putP room (rem6 pages t) plan s set st) k', w) := by
 have h1 : ¬ (st.1 : Int) < (set : Int) := by omega
 have hl : ¬ (plan.length : Int) = (pages.length : Int) := by omega
 obtain ⟨a1, _⟩ := put_bit hs hp6
 rw [hb, if_pos rfl] at a1
 have hq : pages[plan.length]? = some (p : Int) := by rw [hlen, List.getElem?_eq_getElem ht, hpt]
 have hbt : Nat.ble (plan.length + 1) pages.length = true := ble_true (by omega)
 have hin : intIn pages.length (.int .i64 (plan.length : Int)) = some plan.length := intIn_nat (by omega)
 have hlim : Nat.ble ((plan.length + 1) * 10) limit = true := ble_true (by unfold limit; omega)
 have hpow : 12 ^ (pages.length - (t + 1)) ≤ 12 ^ (pages.length - t) := Nat.pow_le_pow_right (by decide) (by omega)
 rw [rem6_cons ht hpt]
 simp only [putP, if_neg hlt, hb, if_true]
 obtain ⟨k', w, e1, e2, q⟩ := ih (plan ++ [-1]) s set st k (by simp [hlen]) hs hc (by omega) hst (by omega) hk
 refine ⟨k', lowOf (hp.length + 5) w, e1, lowOk_of e2, ?_⟩
 generalize putP room (rem6 pages (t + 1)) (plan ++ [-1]) s set st = X at q
 simp at q
 rw [E_bodyN 8 body91 rfl (by decide) rfl]
 simp only [Tryd.f91, Option.get_some]
 simp [h1, hl, hin, hq, hbt, a1, slice3, hlim]
 rw [q]
 rcases e2 with rfl | ⟨j, rfl, hj⟩
 ·simp [lb0, lb1, lo1, lo2, takeHP]
 ·simp [lb0, lb1, lo1, lo2, takeHP]
  generalize hmt : mayTurn _ = mb; obtain rfl : mb = true := hmt.symm.trans (by kernel_rfl); clear hmt
  simp [lb0, lb1, lo1, lo2, takeHP]
  cases lowOf (hp.length + 5) (some j) <;> rfl
def ct (s i : Nat) : Nat := ((List.range i).filter fun j => s.testBit j).length
theorem ct_succ {s i : Nat} : ct s (i + 1) = ct s i + if s.testBit i then 1 else 0 := by
 unfold ct
 rw [List.range_succ, List.filter_append, List.length_append]
 congr 1
 cases h : s.testBit i <;> simp [h]
theorem ct_le {s i : Nat} : ct s i ≤ i := by
 unfold ct
 exact Nat.le_trans (List.length_filter_le _ _) (by simp)
theorem ct_six {s : Nat} (h : s < 64) : ct s 6 = cnt s := by
 unfold ct cnt
 rw [show (12 : Nat) = 6 + 6 from rfl, List.range_add, List.filter_append]
 have : ((List.range 6).map fun x => 6 + x).filter (fun j => s.testBit j) = [] := by
  rw [List.filter_eq_nil_iff]
  intro j hj
  obtain ⟨x, _, rfl⟩ := List.mem_map.1 hj
  have h2 : 2 ^ 6 ≤ 2 ^ (6 + x) := Nat.pow_le_pow_right (by decide) (by omega)
  rw [Nat.testBit_lt_two_pow (by omega)]; simp
 rw [this, List.append_nil]
def bt (s i : Nat) : List Nat := (List.range i).filter fun j => s.testBit j
theorem bt_succ {s i : Nat} : bt s (i + 1) = if s.testBit i then bt s i ++ [i] else bt s i := by
 unfold bt
 rw [List.range_succ, List.filter_append]
 cases h : s.testBit i <;> simp [h]
theorem bt_six {s : Nat} (h : s < 64) : bt s 6 = bitsN s := by
 unfold bt bitsN
 rw [show (12 : Nat) = 6 + 6 from rfl, List.range_add, List.filter_append]
 have : ((List.range 6).map fun x => 6 + x).filter (fun j => s.testBit j) = [] := by
  rw [List.filter_eq_nil_iff]
  intro j hj
  obtain ⟨x, _, rfl⟩ := List.mem_map.1 hj
  have h2 : 2 ^ 6 ≤ 2 ^ (6 + x) := Nat.pow_le_pow_right (by decide) (by omega)
  rw [Nat.testBit_lt_two_pow (by omega)]; simp
 rw [this, List.append_nil]
theorem put_no {t p : Nat} {plan : List Int} {s set : Nat} {st : PSt} {k : Vl} (hr1 : 1 ≤ room) (hr2 : room ≤ 5) (hn : pages.length ≤ 12) (ht : t < pages.length) (hp6 : p < 6) (hpt : pages[t] = (p : Int)) (ih : TryIs hp room c pages (t + 1)) (hlen : plan.length = t) (hs : s < 64) (hc : (cnt s : Int) ≤ room) (hset : set ≤ t) (hst : st.1 ≤ 100)
  (hm : st.2.1 + 12 ^ (pages.length - t) ≤ 4611686018427387904) (hk : okK k st) (hlt : ¬ st.1 < set) (hb : s.testBit p = false) :
  PRes hp room c pages (putP room (rem6 pages t) plan s set st) (E Tryd.prog Y0 91 ([.l .fz .nz plan.length (plan.map iv), iv s, iv set] ++ capsP hp.length) (HP hp room c pages st k)) := by
 have h1 : ¬ (st.1 : Int) < (set : Int) := by omega
 have hl : ¬ (plan.length : Int) = (pages.length : Int) := by omega
 obtain ⟨a1, a2, a3⟩ := put_bit hs hp6
 rw [hb, if_neg (by decide)] at a1
 have hq : pages[plan.length]? = some (p : Int) := by rw [hlen, List.getElem?_eq_getElem ht, hpt]
 have hbt : Nat.ble (plan.length + 1) pages.length = true := ble_true (by omega)
 have hin : intIn pages.length (.int .i64 (plan.length : Int)) = some plan.length := intIn_nat (by omega)
 have hlim : Nat.ble ((plan.length + 1) * 10) limit = true := ble_true (by unfold limit; omega)
 have hpow : 12 ^ (pages.length - (t + 1)) * 12 = 12 ^ (pages.length - t) := by rw [← Nat.pow_succ]; congr 1; omega
 have ws : IntKind.i64.wrap ((set : Int) + 1) = ((set + 1 : Nat) : Int) := wrap_nat (by omega)
 rw [rem6_cons ht hpt]
 rw [E_bodyN 8 body91 rfl (by decide) rfl]
 simp only [Tryd.f91, Option.get_some]
 simp [h1, hl, hin, hq, hbt, a1, slice3, hlim]
 refine loop_phi (PRes hp room c pages (putP room (p :: rem6 pages (t + 1)) plan s set st))
  (fun m σ => ∃ (i : Nat) (ts : Tr PV), m + i = 6 ∧ σ = ⟨[], ts, HP hp room c pages st k, none⟩ ∧ ts.get 0 = some (.l .fz .nz plan.length (plan.map iv)) ∧ ts.get 1 = some (iv s) ∧ ts.get 2 = some (iv set) ∧ ts.get 3 = some (.p (hp.length + 1) 0) ∧ ts.get 7 = some (.p (hp.length + 4) 0) ∧
   ts.get 11 = some (iv plan.length) ∧ ts.get 12 = some (iv p) ∧ ts.get 13 = some (iv (room - (ct s i : Nat))) ∧ ts.get 55 = some (iv i)) (n0 := 6) ?_ ?_
 ·exact ⟨0, _, rfl, rfl, by simp, by simp, by simp, by simp, by simp, by simp, by simp, by simp [ct], by simp⟩
 ·rintro m σ ⟨i, ts, hmi, rfl, g0, g1, g2, g3, g7, g11, g12, g13, g55⟩ ih1
  have hct := @ct_le s i
  rcases Nat.lt_or_ge i 6 with hi | hi
  ·have hii : (i : Int) < 6 := by omega
   obtain ⟨b1, _, _⟩ := put_bit hs hi
   have wi := wrap_nat (show i < 1000000000000 by omega)
   have wr : IntKind.i64.wrap (room - (ct s i : Nat) - (if s.testBit i then 1 else 0)) = room - (ct s (i + 1) : Nat) := by
    rw [ct_succ]
    cases s.testBit i
    ·simp only [Bool.false_eq_true, if_false, Nat.add_zero, Int.sub_zero]
     exact wrap64 (by omega) (by omega)
    ·simp only [if_true]
     rw [wrap64 (by omega) (by omega)]; omega
   simp [g0, g1, g2, g3, g7, g11, g12, g13, g55, hii, b1, wi, wr]
   exact ih1 (m - 1) _ (by omega) ⟨i + 1, _, by omega, rfl, by simp [g0], by simp [g1], by simp [g2], by simp [g3], by simp [g7], by simp [g11], by simp [g12], by simp, by simp⟩
  ·have : i = 6 := by omega
   subst this
   rw [ct_six hs] at g13
   clear ih1
   by_cases hroom : (cnt s : Int) < room
   ·have h4 : 0 < room - (cnt s : Int) := by omega
    have hcs : cnt (setB s p) = cnt s + 1 := by rw [cnt_set hs hp6, hb]; rfl
    simp only [putP, if_neg hlt, hb, Bool.false_eq_true, if_false, if_pos hroom]
    obtain ⟨k', w, e1, e2, q⟩ := ih (plan ++ [-1]) (setB s p) (set + 1) st k (by simp [hlen]) (set_lt hs hp6) (by omega) (by omega) hst (by omega) hk
    refine ⟨k', lowOf (hp.length + 5) w, e1, lowOk_of e2, ?_⟩
    generalize putP room (rem6 pages (t + 1)) (plan ++ [-1]) (setB s p) (set + 1) st = X at q
    simp at q
    simp [g0, g1, g2, g3, g7, g11, g12, g13, g55, hroom, a2, slice3, hlim, ws]
    rw [q]
    rcases e2 with rfl | ⟨j, rfl, hj⟩
    ·simp [lb0, lb1, lo1, lo2, takeHP]
    ·simp [lb0, lb1, lo1, lo2, takeHP]
     generalize hmt : mayTurn _ = mb; obtain rfl : mb = true := hmt.symm.trans (by kernel_rfl); clear hmt
     simp [lb0, lb1, lo1, lo2, takeHP]
     cases lowOf (hp.length + 5) (some j) <;> rfl
   ·have hcr : (cnt s : Int) = room := by omega
    have hX : putP room (p :: rem6 pages (t + 1)) plan s set st = (bt s 6).foldl (fun (st : PSt) (g : Nat) => putP room (rem6 pages (t + 1)) (plan ++ [(g : Int)]) (setB (clrB s g) p) (set + 1) st) st := by
     simp only [putP, if_neg hlt, hb, Bool.false_eq_true, if_false, if_neg hroom]
     rw [bt_six hs]
    have hrl : (rem6 pages (t + 1)).length = pages.length - (t + 1) := by unfold rem6; simp
    simp [g0, g1, g2, g3, g7, g11, g12, g13, g55, hroom]
    refine loop_phi (PRes hp room c pages (putP room (p :: rem6 pages (t + 1)) plan s set st))
     (fun m σ => ∃ (j : Nat) (ts : Tr PV) (w : Option Nat) (k2 : Vl) (S : PSt), m + j = 6 ∧ lowOk (hp.length + 1) w ∧ okK k2 S ∧ S = (bt s j).foldl (fun (st : PSt) (g : Nat) => putP room (rem6 pages (t + 1)) (plan ++ [(g : Int)]) (setB (clrB s g) p) (set + 1) st) st ∧ S.1 ≤ 100 ∧ S.2.1 ≤ st.2.1 + j * 12 ^ (pages.length - (t + 1)) ∧
      σ = ⟨[], ts, HP hp room c pages S k2, w⟩ ∧ ts.get 0 = some (.l .fz .nz plan.length (plan.map iv)) ∧ ts.get 1 = some (iv s) ∧ ts.get 2 = some (iv set) ∧ ts.get 7 = some (.p (hp.length + 4) 0) ∧
      ts.get 11 = some (iv plan.length) ∧ ts.get 12 = some (iv p) ∧ ts.get 81 = some (iv j)) (n0 := 6) ?_ ?_
    ·exact ⟨0, _, none, k, st, rfl, Or.inl rfl, hk, rfl, hst, by omega, rfl, by simp [g0], by simp [g1], by simp [g2], by simp [g7], by simp [g11], by simp [g12], by simp⟩
    ·clear g0 g1 g2 g3 g7 g11 g12 g13 g55
     rintro m σ ⟨j, ts, w, k2, S, hmj, hw, hk2, hS, hS1, hS2, rfl, g0, g1, g2, g7, g11, g12, g81⟩ ih2
     rcases Nat.lt_or_ge j 6 with hj | hj
     ·have hjj : (j : Int) < 6 := by omega
      obtain ⟨b1, b2, b3⟩ := put_bit hs hj
      have wj := wrap_nat (show j < 1000000000000 by omega)
      have hbs := @bt_succ s j
      cases hbj : s.testBit j with
      | false =>
       rw [hbj, if_neg (by decide)] at b1 hbs
       simp [g0, g1, g2, g7, g11, g12, g81, hjj, b1, wj]
       exact ih2 (m - 1) _ (by omega) ⟨j + 1, _, w, k2, S, by omega, hw, hk2, by rw [hbs]; exact hS, hS1, by rw [Nat.add_mul]; omega, rfl, by simp [g0], by simp [g1], by simp [g2], by simp [g7], by simp [g11], by simp [g12], by simp⟩
      | true =>
       rw [hbj, if_pos rfl] at b1 hbs
       have hcl := clr_lt hs hj
       have hsw := cnt_swap hs hp6 hj hbj hb
       obtain ⟨d1, d2, d3⟩ := put_bit hcl hp6
       obtain ⟨k', w', e1, e2, q⟩ := ih (plan ++ [(j : Int)]) (setB (clrB s j) p) (set + 1) S k2 (by simp [hlen]) (set_lt hcl hp6) (by omega) (by omega) hS1 (by
        have : j * 12 ^ (pages.length - (t + 1)) ≤ 11 * 12 ^ (pages.length - (t + 1)) := Nat.mul_le_mul_right _ (by omega)
        omega) hk2
       have hpb := putP_bound hr1 (l := rem6 pages (t + 1)) (plan := plan ++ [(j : Int)]) (s := setB (clrB s j) p) (set := set + 1) (st := S)
       rw [hrl] at hpb
       have hS' : putP room (rem6 pages (t + 1)) (plan ++ [(j : Int)]) (setB (clrB s j) p) (set + 1) S = (bt s (j + 1)).foldl (fun (st : PSt) (g : Nat) => putP room (rem6 pages (t + 1)) (plan ++ [(g : Int)]) (setB (clrB s g) p) (set + 1) st) st := by
        rw [hbs, List.foldl_append, ← hS]; rfl
       generalize putP room (rem6 pages (t + 1)) (plan ++ [(j : Int)]) (setB (clrB s j) p) (set + 1) S = X at q hpb hS' e1
       simp at q
       simp [g0, g1, g2, g7, g11, g12, g81, hjj, b1, slice3, hlim, ws, b3, d2]
       rw [q]
       rcases e2 with rfl | ⟨a, rfl, ha⟩
       ·simp [g0, g1, g2, g7, g11, g12, g81, wj]
        exact ih2 (m - 1) _ (by omega) ⟨j + 1, _, w, k', X, by omega, hw, e1, hS', by omega, by rw [Nat.add_mul]; omega, rfl, by simp [g0], by simp [g1], by simp [g2], by simp [g7], by simp [g11], by simp [g12], by simp⟩
       ·simp [g0, g1, g2, g7, g11, g12, g81, wj]
        generalize hmt : mayTurn _ = mb; obtain rfl : mb = true := hmt.symm.trans (by kernel_rfl); clear hmt
        simp [g0, g1, g2, g7, g11, g12, g81, wj]
        exact ih2 (m - 1) _ (by omega) ⟨j + 1, _, lowB w a, k', X, by omega, lowOk_low hw ha, e1, hS', by omega, by rw [Nat.add_mul]; omega, rfl, by simp [g0], by simp [g1], by simp [g2], by simp [g7], by simp [g11], by simp [g12], by simp⟩
     ·have : j = 6 := by omega
      subst this
      rw [hX, ← hS]
      clear ih2
      refine ⟨k2, lowOf (hp.length + 5) w, hk2, lowOk_of hw, ?_⟩
      simp [g0, g1, g2, g7, g11, g12, g81, takeHP]
      cases lowOf (hp.length + 5) w <;> rfl
theorem try_is (hr1 : 1 ≤ room) (hr2 : room ≤ 5) (hn : pages.length ≤ 12) (hpg : ∀ p ∈ pages, 0 ≤ p ∧ p ≤ 5) : ∀ (m t : Nat), m + t = pages.length → TryIs hp room c pages t
 | 0, t, h => by
  intro plan s set st k hlen hs hc hset hst hm hk
  have e : rem6 pages t = [] := by unfold rem6; rw [List.drop_of_length_le (by simp; omega)]
  rw [e]
  by_cases hlt : st.1 < set
  ·simp only [putP, if_pos hlt]
   exact ⟨k, none, hk, Or.inl rfl, put_cut (t := 0) hlt⟩
  ·have hp1 : 1 ≤ 12 ^ (pages.length - t) := Nat.pow_pos (by decide)
   exact put_end (by omega) (by omega) (by omega) hk hlt
 | m + 1, t, h => by
  have ih := try_is hr1 hr2 hn hpg m (t + 1) (by omega)
  have ht : t < pages.length := by omega
  intro plan s set st k hlen hs hc hset hst hm hk
  obtain ⟨p, hp'⟩ := Int.eq_ofNat_of_zero_le (hpg _ (List.getElem_mem ht)).1
  have hp6 : p < 6 := by have := (hpg _ (List.getElem_mem ht)).2; omega
  by_cases hlt : st.1 < set
  ·rw [rem6_cons ht hp']
   simp only [putP, if_pos hlt]
   exact ⟨k, none, hk, Or.inl rfl, put_cut (t := 0) hlt⟩
  ·cases hb : s.testBit p with
   | true => exact put_in hn ht hp6 hp' ih hlen hs hc hset hst hm hk hlt hb
   | false => exact put_no hr1 hr2 hn ht hp6 hp' ih hlen hs hc hset hst hm hk hlt hb
def bruS (room : Int) (pages : List Int) : Option (Int × List Int × Int) := match decide (chk room pages = 0) with
 | true => some ((need room (rem6 pages 0) 0 : Nat), firstN room (rem6 pages 0) 0, (ways room (rem6 pages 0) 0 : Nat))
 | false => none
theorem f49_is {r : Int × List Int × Int} (h : bruS room pages = some r) : E Tryd.prog Y0 49 [.a [iv room, .l .fz c pages.length (pages.map iv)]] hp = some (.t [iv r.1, .l .fz .nz r.2.1.length (r.2.1.map iv), iv r.2.2], hp, none) := by
 unfold bruS at h
 split at h
 ·rename_i hc
  have hc := of_decide_eq_true hc
  obtain rfl := Option.some.inj h
  obtain ⟨hr1, hr2, hn, hpg⟩ := chk_ok hc
  have hp12 : (12 : Nat) ^ pages.length ≤ 12 ^ 12 := Nat.pow_le_pow_right (by decide) hn
  obtain ⟨k', w, e1, e2, q⟩ := try_is (hp := hp) (c := c) hr1 hr2 hn hpg pages.length 0 (by omega) [] 0 0 (100, 0, []) .own rfl (by decide) (by rw [cnt_zero]; omega) (Nat.le_refl _) (Nat.le_refl _) (by
   have h12 : (12 : Nat) ^ 12 = 8916100448256 := by decide
   simp only [Nat.sub_zero]
   omega) (Or.inr ⟨rfl, rfl⟩)
  rw [putP_all hr1 (by unfold rem6; simpa using hn)] at q e1
  rw [E_bodyN 1 body49 rfl (by decide) rfl]
  simp only [Tryd.f49, Option.get_some]
  generalize need room (rem6 pages 0) 0 = a at q e1 ⊢
  generalize ways room (rem6 pages 0) 0 = b at q e1 ⊢
  generalize firstN room (rem6 pages 0) 0 = f at q e1 ⊢
  simp only [HP, capsP] at q
  simp at q
  have nf : pvOf .nilFunc = some (.v .nilFunc) := rfl
  have rf : ∀ h : Nat, refsTo (h + 4) (.f 91 [] [.p (h + 1) 0, .p h 0, .p (h + 2) 0, .p (h + 3) 0, .p (h + 4) 0]) = true := fun h => by simp [refsTo, refsTo.go, nble]
  simp [spx, nf, rf]
  rw [q]
  have lw : ∀ x, lowOk (hp.length + 1) x → lowOf hp.length x = none := fun x hx => by
   rcases hx with rfl | ⟨j, rfl, hj⟩
   ·rfl
   ·show (match Nat.blt j hp.length with | true => some j | false => none) = none
    rw [show Nat.blt j hp.length = false from bleF (by omega)]
  have b1 : Nat.ble (hp.length + 1 + 1) (hp.length + 5) = true := ble_true (by omega)
  have b2 : Nat.ble (hp.length + 2 + 1) (hp.length + 5) = true := ble_true (by omega)
  have b3 : Nat.ble (hp.length + 3 + 1) (hp.length + 5) = true := ble_true (by omega)
  have l0 : lowOk (hp.length + 1) (lowB (lowB (lowB none (hp.length + 1)) (hp.length + 2)) (hp.length + 4)) := lowOk_low (lowOk_low (lowOk_low (Or.inl rfl) (by omega)) (by omega)) (by omega)
  rcases e2 with rfl | ⟨j, rfl, hj⟩
  ·rcases e1 with rfl | ⟨rfl, e1⟩
   ·simp [lw _ l0, b1, b2, b3]
   ·simp at e1
    subst e1
    simp [lw _ l0, b1, b2, b3]
  ·have l1 := lowOk_low l0 hj
   rcases e1 with rfl | ⟨rfl, e1⟩
   ·simp [lw _ l1, b1, b2, b3]
   ·simp at e1
    subst e1
    have l2 : lowOk (hp.length + 1) (lowB _ (hp.length + 3)) := lowOk_low l1 (by omega)
    simp [lw _ l1, lw _ l2, b1, b2, b3]
 ·cases h
end
end Go.Proofs.YtcdhajbhpnbdkaaDoor
