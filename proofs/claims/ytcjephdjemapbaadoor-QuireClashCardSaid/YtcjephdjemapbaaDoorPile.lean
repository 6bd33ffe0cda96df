/-
  pile and Pile, by the pure evaluator.
  Conditions: none; lemmas.
-/
import Derived.Test.YtcjephdjemapbaaDoorWritten
set_option linter.unusedSimpArgs false
set_option linter.unusedVariables false
namespace Go.Proofs.YtcjephdjemapbaaDoor
open Go.Abs Go.Pur
set_option maxRecDepth 100000
attribute [local simp] EK_region EK_seq EK_cond EK_block EK_blk EK_loop EK_exit EK.ex EK_ret EK_skip EK_nil EO_cons EO_nil EO1_true EO1_false EO2_some EO3_some EB_true EB_false pwanted poper pq pev Go.Pur.look pputT isAssign drOf pinit Tr.get_set lget pvOf_int pvOf_bool pvOf_str pvOf_nil rdv_ak notOwn_ak prt_ak loose_ak rdv_own rdv_fz rdv_bor rdv_rf rdv_pt rdv_v rdv_a rdv_t rdv_r rdv_p rdv_s rdv_f pbin plen pload ppart idxAddr pcond Nat.blt goInt_eq prun_not prun_neg mayLoad ER_ret ER_normal presL presOne moved stor okDrop settle_v settle_l settle_a settle_p settle_f noref_v noref_fz noref_a norefs_nil norefs_cons pclose given lowOf dropB Y0_keep pevParts stors pvCells pvCells.go vcells pfill reps zipParts ownFz pcells cellOK one psrcLen srcFits psrc takeP pgrow take getPl setPl mapL plEq elder isList lowP pevs frzs addP partAt ble_lim24 killV_v killV_a killV_t killV_f killV_i killV_p killV_s killV_un killV_dead killV_lfz killV_lbor killV_lown killV_rfz killV_rbor killV_lak killV_rak frzV_v frzV_a frzV_t frzV_f frzV_i frzV_p frzV_s frzV_un frzV_dead frzV_lfz frzV_lbor frzV_lown frzV_rfz frzV_rbor frzV_lak frzV_rak killCell_v killCell_a killCell_t killCell_f killCell_i killCell_p killCell_s killCell_un killCell_dead killCell_lfz killCell_lbor killCell_lown killCell_rfz killCell_rbor killCell_lak killCell_rak killV_lrf killV_lpt killV_rpt frzV_lrf frzV_lpt frzV_rpt killCell_lrft killCell_lptt killCell_rptt killCell_lrfc killCell_lptc killCell_rptc argv_lak argv_rak argv_v argv_a argv_p argv_f argv_fz argv_bor argv_rf argv_pt argv_rc argv_own mayTurn_none argvs pcallOp firm lowB refsTo_v refsTo_l refsTo_p refsTo_s refsTo_a refsTo_dead refsTo_nil refsTo_cons isOwn_lak ownFz_lak evSafe pskip plain pnewBlk fldAddr isOwn pput spliceP notOwn_fz notOwn_bor notOwn_own notOwn_rf notOwn_pt prt_fz prt_bor prt_own prt_rf prt_pt Go.Pur.freeze presM settles abin_and abin_or abin_andNot abin_mul abin_shr abin_shl abin_add abin_sub abin_eql abin_neq abin_lss abin_leq abin_gtr abin_geq hows pcallIn Y0_how Y0_part howOf partOf rdv_mown rdv_mfz rdv_mbor rdv_mrf killV_mown killV_mfz killV_mbor killV_mrf frzV_mown frzV_mfz frzV_mbor frzV_mrf killCell_mown killCell_mfz killCell_mbor killCell_mrf argv_mfz argv_mbor argv_mrf settle_m kls_v kls_l kls_a kls_t kls_r kls_p kls_s kls_f kls_i kls_it kls_un kls_dead kls_mown kls_mrf kls_mbor kls_mfz fzOf takable mapHere mapOwn mapTo flat toPlain toPlain.go ofFlat ofPair mapEs plook lookRes Y0_mv mvOf mvBlk premv Y0_fzm fzmOf poperX pconv
def pairOf (c : UInt8) (n : Nat) (s : Int) : List Int := if ((c == 111) != (s % 2 == 0)) = true then [s, 2 * n - 1 - s] else [2 * n - 1 - s, s]
def pileL : List UInt8 → List Int
 | [] => [0]
 | c :: r => (pileL r).flatMap (pairOf c (pileL r).length)
theorem pairOf_len {c : UInt8} {n : Nat} {s : Int} : (pairOf c n s).length = 2 := by unfold pairOf; split <;> rfl
theorem flat_len {α : Type} {f : α → List Int} (h : ∀ a, (f a).length = 2) : ∀ l : List α, (l.flatMap f).length = 2 * l.length
 | [] => rfl
 | a :: l => by simp [h, flat_len h l]; omega
theorem pileL_len : ∀ l, (pileL l).length = 2 ^ l.length
 | [] => rfl
 | c :: r => by rw [pileL, flat_len (fun a => pairOf_len), pileL_len r, List.length_cons, Nat.pow_succ]; omega
theorem pileL_range : ∀ l, ∀ s ∈ pileL l, 0 ≤ s ∧ s < 2 ^ l.length
 | [], s, h => by simp [pileL] at h; subst h; simp
 | c :: r, s, h => by
  obtain ⟨t, ht, hs⟩ := List.mem_flatMap.1 h
  have h1 := pileL_range r t ht
  have h2 := pileL_len r
  have h3 : (2 : Int) ^ (c :: r).length = 2 * 2 ^ r.length := by rw [List.length_cons, Int.pow_succ]; omega
  have h4 : (((pileL r).length : Nat) : Int) = 2 ^ r.length := by rw [h2]; simp
  rw [h3]
  unfold pairOf at hs
  rw [h4] at hs
  split at hs <;> simp at hs <;> omega
def pileC : List UInt8 → Ck
 | [] => .full
 | _ => .any
theorem bool_neq {x y : Operand} {a b : Bool} : abin Tryd.prog .neq 4 x y (.bool a) (.bool b) = some (.bool (a != b)) := by cases a <;> cases b <;> kernel_rfl
theorem bool_eql {x y : Operand} {a b : Bool} : abin Tryd.prog .eql 4 x y (.bool a) (.bool b) = some (.bool (a == b)) := by cases a <;> cases b <;> kernel_rfl
theorem sl47 {b : Nat} : pqSlice Tryd.prog 47 (.p b 0) none none none = some (.s b 0 2 2) := by
 unfold pqSlice
 rw [shape47]
 rfl
theorem splice_app {n : Nat} {l vs pad : List PV} (h : l.length = n) (h2 : vs.length ≤ pad.length) : spliceP n vs (l ++ pad) = some (l ++ (vs ++ pad.drop vs.length)) := by
 subst h
 unfold spliceP
 rw [show Nat.ble (l.length + vs.length) (l ++ pad).length = true from ble_true (by simp; omega)]
 simp
theorem el23 : elemSz Tryd.prog 23 = some 1 := by kernel_rfl
theorem reps_len1 {v : PV} : ∀ {n : Nat}, (reps [v] n).length = n
 | 0 => rfl
 | n + 1 => by simp [reps, reps_len1]
theorem pile_is : ∀ {l : List UInt8} {hp : List (Option (List PV))}, l.length ≤ 6 → E Tryd.prog Y0 55 [sv (bs l)] hp = some (.l .fz (pileC l) (pileL l).length ((pileL l).map iv), hp, none)
 | [], hp, _ => by
  rw [E_bodyN 1 body55 rfl (by decide) rfl]
  simp only [Tryd.f55, Option.get_some]
  simp [keep55, shape9, bs_size, shape23, zero3, pileL, pileC]
 | c :: r, hp, hl => by
  have ih := fun hp => @pile_is r hp (by simp at hl; omega)
  have hlen := pileL_len r
  have h64 : 2 ^ r.length ≤ 32 := Nat.pow_le_pow_right (n := 2) (by decide) (show r.length ≤ 5 by simp at hl; omega)
  rw [← hlen] at h64
  have hr := pileL_range r
  rw [E_bodyN 1 body55 rfl (by decide) rfl]
  simp only [Tryd.f55, Option.get_some]
  have q2 : pqSlice Tryd.prog 9 (sv (bs (c :: r))) (some (.int .i64 1)) none none = some (sv (bs r)) := by
   have := str_from (P := Tryd.prog) (t := 9) Tryd.underlying9 (s := bs (c :: r)) (k := .i64) (a := 1) (by rw [bs_size]; simp)
   have e : ((1 : Nat) : Int) = 1 := rfl
   rw [e] at this
   simp only [pqSlice, shape9, this]
   simp [bs_drop, pvOf, plain]
  have q3 : pqIndex Tryd.prog 9 (sv (bs (c :: r))) (.int .i64 0) = some (uv c.toNat) := by
   have := str_index (P := Tryd.prog) (t := 9) Tryd.underlying9 (s := bs (c :: r)) (k := .i64) (i := 0) (by rw [bs_size]; simp)
   have e : ((0 : Nat) : Int) = 0 := rfl
   rw [e] at this
   simp only [pqIndex, shape9, this]
   simp [bs_get, pvOf, plain]
  have hC : pileC (c :: r) = .any := rfl
  have hL : pileL (c :: r) = (pileL r).flatMap (pairOf c (pileL r).length) := rfl
  rw [hC, hL]
  generalize pileL r = R at ih hlen h64 hr
  generalize pileC r = ck at ih
  have h0 : ¬ ((r.length : Int) + 1 = 0) := by omega
  obtain ⟨N, hN⟩ : ∃ N, N = 2 * R.length := ⟨_, rfl⟩
  have w1 : mulI .i64 2 R.length = (N : Int) := by unfold mulI; rw [wrap64 (by omega) (by omega)]; omega
  have w2 : IntKind.i64.wrap ((N : Int) - 1) = N - 1 := wrap64 (by omega) (by omega)
  obtain ⟨Out, hOut⟩ : ∃ Out, Out = R.flatMap (pairOf c R.length) := ⟨_, rfl⟩
  rw [← hOut]
  have hON : Out.length = N := by rw [hOut, flat_len (fun a => pairOf_len), hN]
  rw [hON]
  have k1 : (Nat.ble 0 N && Nat.ble (N * 10) limit) = true := by rw [show Nat.ble (N * 10) limit = true from ble_true (by unfold limit; omega)]; simp
  simp [keep55, shape9, bs_size, shape23, q2, q3, optPlain, ih, h0, w1, w2, zero3, by3, k1]
  refine loop_ind (fun m σ => ∃ (j : Nat) (pad : List PV) (G : List (Option (List PV))) (ts : Tr PV) (w : Option Nat), m + j = R.length ∧ pad.length + 2 * j = N ∧ (w = none ∨ ∃ k, w = some k ∧ hp.length ≤ k) ∧ σ = ⟨[], ts, hp ++ some (((R.take j).flatMap (pairOf c R.length)).map iv ++ pad) :: G, w⟩ ∧ ts.get 0 = some (sv (bs (c :: r))) ∧ ts.get 5 = some (.s hp.length 0 (2 * j) N) ∧ ts.get 6 = some (iv (N - 1)) ∧ ts.get 26 = some (.l .fz ck R.length (R.map iv)) ∧ ts.get 27 = some (iv R.length) ∧ ts.get 28 = some (iv j)) (n0 := R.length) ?_ ?_
  ·exact ⟨0, reps [iv 0] N, [], _, none, rfl, by simp [reps_len1], .inl rfl, by simp; rfl, by simp, by simp, by simp, by simp, by simp, by simp⟩
  ·rintro m σ ⟨j, pad, G, ts, w, hm, hpad, hw, rfl, g0, g5, g6, g26, g27, g28⟩ ih2
   rcases Nat.lt_or_ge j R.length with hj | hj
   ·have hjj : (j : Int) < R.length := by omega
    have r1 : Nat.ble (j + 1) R.length = true := ble_true hj
    have r2 : R[j]? = some R[j] := List.getElem?_eq_getElem hj
    have r3 : (R.take (j + 1)).flatMap (pairOf c R.length) = (R.take j).flatMap (pairOf c R.length) ++ pairOf c R.length R[j] := by rw [List.take_add_one, r2, List.flatMap_append]; simp
    have hs := hr _ (List.getElem_mem hj)
    have h2R : (2 : Int) ^ r.length = R.length := by rw [hlen]; simp
    rw [h2R] at hs
    generalize R[j] = x at r2 r3 hs
    have w3 := wrap_nat (show j < 1000000000000 by omega)
    have w4 : IntKind.i64.wrap ((N : Int) - 1 - x) = N - 1 - x := wrap64 (by omega) (by omega)
    have w5 : IntKind.i64.wrap (2 * (R.length : Int) - 1 - x) = 2 * R.length - 1 - x := wrap64 (by omega) (by omega)
    have t1 : x.tmod 2 = x % 2 := Int.tmod_eq_emod_of_nonneg hs.1
    have n1 : ((c.toNat : Int) = 111) ↔ c = 111 := by
     rw [show (111 : Int) = (((111 : UInt8).toNat : Nat) : Int) from rfl, Int.ofNat_inj]; exact UInt8.toNat_inj
    have k5 : Nat.ble ((2 * j + 2) * 10) limit = true := ble_true (by unfold limit; omega)
    have k6 : Nat.ble (N + 1) unkCap = true := ble_true (by unfold unkCap; omega)
    have k7 : Nat.ble (2 * j + 2) N = true := ble_true (by omega)
    have sp := fun vs h => @splice_app (2 * j) (((R.take j).flatMap (pairOf c R.length)).map iv) vs pad (by rw [List.length_map, flat_len (fun a => pairOf_len), List.length_take]; omega) h
    have hpad2 : 2 ≤ pad.length := by omega
    have fin := fun (a b : Int) (ts' : Tr PV) (G' : List (Option (List PV))) (w' : Option Nat) (hab : pairOf c R.length x = [a, b]) (hw' : w' = none ∨ ∃ k, w' = some k ∧ hp.length ≤ k) (a0 : ts'.get 0 = some (sv (bs (c :: r)))) (a5 : ts'.get 5 = some (.s hp.length 0 (2 * j + 2) N)) (a6 : ts'.get 6 = some (iv (N - 1))) (a26 : ts'.get 26 = some (.l .fz ck R.length (R.map iv))) (a27 : ts'.get 27 = some (iv R.length)) (a28 : ts'.get 28 = some (iv ((j : Int) + 1))) =>
     ih2 (m - 1) ⟨[], ts', hp ++ some (((R.take j).flatMap (pairOf c R.length)).map iv ++ iv a :: iv b :: pad.drop 2) :: G', w'⟩ (by omega) ⟨j + 1, pad.drop 2, G', ts', w', by omega, by rw [List.length_drop]; omega, hw', by rw [r3, hab]; simp, a0, by rw [a5]; rfl, a6, a26, a27, by rw [a28]; simp⟩
    clear ih2
    by_cases e1 : c = 111
    ·have e1' := n1.2 e1
     by_cases e2 : x % 2 = 0
     ·have e3 : pairOf c R.length x = [(N : Int) - 1 - x, x] := by unfold pairOf; rw [if_neg (by simp [e1, e2])]; congr 1; omega
      simp [-spliceP, keep55, shape9, shape23, shape47, g0, g5, g6, g26, g27, g28, hjj, r1, r2, intIn_nat hj, row3, w3, w4, q3, optPlain, zero47, parts47, sz47, row47, abin_rem, t1, e1', e2, bool_neq, gAt, gAt0, sAt, sAt0, Go.Pur.partAt, sl47, zero3, by3, k5, k6, k7, sp, hpad2, splice_all]
      exact fin _ _ _ _ _ e3 (by rcases hw with rfl | ⟨k, rfl, hk⟩ <;> simp <;> omega) (by simp [g0]) (by simp) (by simp [g6]) (by simp [g26]) (by simp [g27]) (by simp)
     ·have e3 : pairOf c R.length x = [x, (N : Int) - 1 - x] := by unfold pairOf; rw [if_pos (by simp [e1]; omega)]; congr 2; omega
      simp [-spliceP, keep55, shape9, shape23, shape47, g0, g5, g6, g26, g27, g28, hjj, r1, r2, intIn_nat hj, row3, w3, w4, q3, optPlain, zero47, parts47, sz47, row47, abin_rem, t1, e1', e2, bool_neq, gAt, gAt0, sAt, sAt0, Go.Pur.partAt, sl47, zero3, by3, k5, k6, k7, sp, hpad2, splice_all]
      exact fin _ _ _ _ _ e3 (by rcases hw with rfl | ⟨k, rfl, hk⟩ <;> simp <;> omega) (by simp [g0]) (by simp) (by simp [g6]) (by simp [g26]) (by simp [g27]) (by simp)
    ·have e1' : ¬ (c.toNat : Int) = 111 := fun h => e1 (n1.1 h)
     by_cases e2 : x % 2 = 0
     ·have e3 : pairOf c R.length x = [x, (N : Int) - 1 - x] := by unfold pairOf; rw [if_pos (by simp [e1, e2])]; congr 2; omega
      simp [-spliceP, keep55, shape9, shape23, shape47, g0, g5, g6, g26, g27, g28, hjj, r1, r2, intIn_nat hj, row3, w3, w4, q3, optPlain, zero47, parts47, sz47, row47, abin_rem, t1, e1', e2, bool_neq, gAt, gAt0, sAt, sAt0, Go.Pur.partAt, sl47, zero3, by3, k5, k6, k7, sp, hpad2, splice_all]
      exact fin _ _ _ _ _ e3 (by rcases hw with rfl | ⟨k, rfl, hk⟩ <;> simp <;> omega) (by simp [g0]) (by simp) (by simp [g6]) (by simp [g26]) (by simp [g27]) (by simp)
     ·have e3 : pairOf c R.length x = [(N : Int) - 1 - x, x] := by unfold pairOf; rw [if_neg (by rw [show (c == 111) = false by simp [e1], show (x % 2 == 0) = false by simp; omega]; decide)]; congr 1; omega
      simp [-spliceP, keep55, shape9, shape23, shape47, g0, g5, g6, g26, g27, g28, hjj, r1, r2, intIn_nat hj, row3, w3, w4, q3, optPlain, zero47, parts47, sz47, row47, abin_rem, t1, e1', e2, bool_neq, gAt, gAt0, sAt, sAt0, Go.Pur.partAt, sl47, zero3, by3, k5, k6, k7, sp, hpad2, splice_all]
      exact fin _ _ _ _ _ e3 (by rcases hw with rfl | ⟨k, rfl, hk⟩ <;> simp <;> omega) (by simp [g0]) (by simp) (by simp [g6]) (by simp [g26]) (by simp [g27]) (by simp)
   ·have hpad0 : pad = [] := List.eq_nil_of_length_eq_zero (by omega)
    have hj2 : 2 * j = N := by omega
    subst hpad0
    rw [List.take_of_length_le hj, ← hOut]
    rw [hj2] at g5
    simp [keep55, shape9, shape23, g0, g5, g6, g26, g27, g28, show ¬ (j : Int) < R.length by omega]
    have k3 : Nat.ble (hp.length + 1) hp.length = false := by rw [nble]; simp
    have k8 : ∀ k, hp.length ≤ k → Nat.ble (k + 1) hp.length = false := fun k hk => by rw [nble]; simp; omega
    have k9 : List.take N (Out.map iv) = Out.map iv := List.take_of_length_le (by simp [hON])
    have k10 : (Out.map iv).all cellOK = true := by rw [List.all_eq_true]; intro v hv; obtain ⟨i, _, rfl⟩ := List.mem_map.1 hv; rfl
    have k11 : Nat.ble N Out.length = true := ble_true (by omega)
    have k12 : Nat.ble hp.length hp.length = true := ble_true (Nat.le_refl _)
    simp [Go.Pur.settle, el23, gAt0, k9, k10, k11, k12]
    rcases hw with rfl | ⟨k, rfl, hk⟩
    ·simp
    ·simp [k8 k hk]
theorem check_len {l : List UInt8} (h : checkE l = 0) : l.length ≤ 6 := by
 unfold checkE lettersE at h
 split at h
 ·cases h
 ·omega
end Go.Proofs.YtcjephdjemapbaaDoor
