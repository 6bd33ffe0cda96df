/-
  ShortBack: opposite words, and first places.
  Conditions: none; lemmas.
-/
import Derived.Test.YtmnmfmghmenkkaaBridgeLaw
import Derived.Test.YtmnmfmghmenkkaaLaw3e
import Derived.Test.YtmnmfmghmenkkaaBack15
set_option linter.unusedSimpArgs false
set_option linter.unusedVariables false
namespace Go.Proofs.Ytmnmfmghmenkkaa
open Go.Abs Go.Pur
set_option maxRecDepth 100000
theorem cnt_masks {w : List UInt8} : ∀ {k : Nat}, k ≤ w.length → ∀ {p : List UInt8}, ((List.range (2 ^ k)).filter fun M => decide (tk M.testBit w k = p)).length = cnt (w.take k) p
 | 0, _, p => by
  cases p with
  | nil => simp [tk, cnt]
  | cons d p => simp [tk, cnt]
 | k + 1, hk, p => by
  have hwk : w[k]? = some w[k] := List.getElem?_eq_getElem (by omega)
  have h1 : (List.range (2 ^ k)).filter (fun M => decide (tk M.testBit w (k + 1) = p)) = (List.range (2 ^ k)).filter (fun M => decide (tk M.testBit w k = p)) := by
   refine List.filter_congr fun M hM => ?_
   rw [tk, Nat.testBit_lt_two_pow (List.mem_range.1 hM)]
   simp
  have h2 : ∀ M, M < 2 ^ k → tk (2 ^ k + M).testBit w (k + 1) = tk M.testBit w k ++ [w[k]] := fun M hM => by
   rw [tk, Nat.testBit_two_pow_add_eq, Nat.testBit_lt_two_pow hM, tk_congr (g := M.testBit) (fun j hj => Nat.testBit_two_pow_add_gt hj M), hwk]
   rfl
  have h3 : ((List.range (2 ^ k)).map (2 ^ k + ·)).filter (fun M => decide (tk M.testBit w (k + 1) = p)) = ((List.range (2 ^ k)).filter (fun M => decide (tk M.testBit w k ++ [w[k]] = p))).map (2 ^ k + ·) := by
   rw [List.filter_map]
   congr 1
   refine List.filter_congr fun M hM => ?_
   simp only [Function.comp_def]
   rw [h2 M (List.mem_range.1 hM)]
  rw [Nat.pow_succ, Nat.mul_two, List.range_add, List.filter_append, List.length_append, h1, h3, List.length_map, cnt_masks (by omega), List.take_add_one, hwk, Option.toList_some]
  rcases List.eq_nil_or_concat p with rfl | ⟨q, d, rfl⟩
  ·rw [cnt_nil, cnt_nil]
   have : (List.range (2 ^ k)).filter (fun M => decide (tk M.testBit w k ++ [w[k]] = [])) = [] := by
    rw [List.filter_eq_nil_iff]
    intro M _
    simp
   rw [this]; rfl
  ·rw [List.concat_eq_append, cnt_snoc]
   congr 1
   by_cases hc : w[k] = d
   ·rw [if_pos hc, ← cnt_masks (w := w) (k := k) (by omega)]
    congr 1
    refine List.filter_congr fun M _ => ?_
    subst hc
    rw [decide_eq_decide]
    exact ⟨fun e => List.append_cancel_right e, fun e => by rw [e]⟩
   ·rw [if_neg hc]
    have : (List.range (2 ^ k)).filter (fun M => decide (tk M.testBit w k ++ [w[k]] = q ++ [d])) = [] := by
     rw [List.filter_eq_nil_iff]
     intro M _
     simp only [decide_eq_true_eq]
     intro e
     have := List.append_inj_right' e rfl
     exact hc (by simpa using this)
    rw [this]; rfl
theorem prtM_cnt {w p : List UInt8} : mGetD 0 p (prtM w (2 ^ w.length)).1 = (cnt w p : Int) := by
 rw [prtM_get]
 have := cnt_masks (w := w) (k := w.length) (Nat.le_refl _) (p := p)
 rw [List.take_length] at this
 rw [← this]
 rfl
theorem cnt_rev : ∀ (w p : List UInt8), cnt w.reverse p.reverse = cnt w p
 | w, [] => by rw [List.reverse_nil, cnt_nil, cnt_nil]
 | [], d :: p => by
  rw [List.reverse_nil, List.reverse_cons]
  cases h : p.reverse ++ [d] with
  | nil => simp at h
  | cons e q => rfl
 | c :: w, d :: p => by
  rw [List.reverse_cons, List.reverse_cons, cnt_snoc, ← List.reverse_cons, cnt_rev w (d :: p), cnt_rev w p, cnt]
  omega
theorem f57_any {w p : List UInt8} {F : Nat} (hF : 3 ≤ F) : f57S F [w, p] = some (bothW w p) := by
 obtain ⟨n, rfl⟩ : ∃ n, F = n + 1 + 1 + 1 := ⟨F - 3, by omega⟩
 exact f57_run
theorem f57_ok {w p : List UInt8} {F : Nat} (hF : 3 ≤ F) (hw : checkW w = 0) (hp : checkW p = 0) : f57S F [w, p] = some 0 := by
 rw [f57_any hF]
 unfold bothW
 rw [if_pos hw, hp]
theorem f18_ok {w p : List UInt8} {F : Nat} (hF : 3 ≤ F) (hw : checkW w = 0) (hp : checkW p = 0) : f18S F w p = some (leftW w p, 0) := by
 unfold f18S
 rw [f57_ok hF hw hp]
 simp only [Option.bind_some, decide_true]
 rw [leftO_at (by have := (checkW_all hw).1; omega)]
 rfl
theorem checkW_rev {w : List UInt8} (h : checkW w = 0) : checkW w.reverse = 0 := by
 obtain ⟨h1, h2⟩ := checkW_all h
 refine checkW_ok (by simpa using h1) fun c hc => ?_
 rw [lets_mem (Nat.le_refl 6)]
 have := h2 c (by simpa using hc)
 omega
theorem leftW_rev {w p : List UInt8} : leftW w.reverse p.reverse = leftW w p := leftW_eq List.reverse_sublist
theorem f55_at {w : List UInt8} (h : w.length ≤ 10) : f55O w = some w.reverse := by
 unfold f55O
 simp only [e55]
 rw [show Nat.ble (bs w).size 1000 = true from Nat.ble_eq_true_of_le (show w.length ≤ 1000 by omega)]
 rfl
theorem greW_step : ∀ {v : List UInt8} {d : UInt8} {p : List UInt8} {f : Nat} {L : List Int}, greW v (d :: p) f = some L → ∃ (j : Nat) (hj : j < v.length) (L' : List Int), L = ((f + j : Nat) : Int) :: L' ∧ v[j] = d ∧ d ∉ v.take j ∧ greW (v.drop (j + 1)) p (f + j + 1) = some L'
 | [], d, p, f, L, h => by cases h
 | c :: v, d, p, f, L, h => by
  rw [greW] at h
  by_cases hc : c = d
  ·rw [if_pos hc] at h
   obtain ⟨L', h1, h2⟩ := Option.map_eq_some_iff.1 h
   exact ⟨0, by simp, L', h2.symm, hc, by simp, h1⟩
  ·rw [if_neg hc] at h
   obtain ⟨j, hj, L', h1, h2, h3, h4⟩ := greW_step h
   refine ⟨j + 1, by simpa using hj, L', by rw [h1, show f + 1 + j = f + (j + 1) by omega], by simpa using h2, ?_, ?_⟩
   ·rw [List.take_succ_cons, List.mem_cons]
    rintro (e | e)
    ·exact hc e.symm
    ·exact h3 e
   ·rw [List.drop_succ_cons, show f + (j + 1) + 1 = f + 1 + j + 1 by omega]
    exact h4
theorem f56_nat {l : List UInt8} {c : UInt8} : f56O l (c.toNat : Int) = some (ixB l c) := by
 show some (ixB l (c.toNat.toUInt8)) = _
 congr 2
 simp [Nat.toUInt8]
theorem f15_first {w p : List UInt8} (hw : w.length ≤ 10) {L : List Int} {F : Nat} {K : Int × Int × Int × Int × Int × Int × Int × Int × Int × Int × Int × Int × Int × Int × Int × Int × Int × Int × Int × Int × Int × Int → Option Bool} {R : Int × Int × Int × Int × Int × Int × Int × Int × Int × Int × Int × Int × Int × Int × Int × Int × Int × Int × Int × Int × Int × Int}
  (hp : p.length ≤ 10) (hL : L.length = p.length) : ∀ (n i a : Nat), p.length + 1 ≤ n + i → i ≤ p.length → a ≤ w.length → greW (w.drop a) (p.drop i) a = some (L.drop i) →
  f15_L1 F w p L (L.length : Int) K n ((a : Int), (i : Int), R) = K R
 | 0, i, a, h, hi, ha, hg => absurd h (by omega)
 | n + 1, i, a, h, hi, ha, hg => by
  obtain ⟨r1, r2, r3, r4, r5, r6, r7, r8, r9, r10, r11, r12, r13, r14, r15, r16, r17, r18, r19, r20, r21, r22⟩ := R
  rw [f15_L1]
  simp only [Option.bind_some]
  by_cases hi' : i < p.length
  ·rw [decide_eq_true (show (i : Int) < (L.length : Int) by omega)]
   simp only []
   rw [List.drop_eq_getElem_cons hi'] at hg
   obtain ⟨j, hj, L', h1, h2, h3, h4⟩ := greW_step hg
   have hjl : a + j < w.length := by simp at hj; omega
   have hLi : i < L.length := by omega
   rw [List.drop_eq_getElem_cons hLi] at h1
   obtain ⟨h5, h6⟩ := List.cons.inj h1
   rw [gI_at hLi, h5]
   simp only [Option.bind_some]
   rw [decide_eq_false (by omega)]
   simp only []
   rw [decide_eq_false (by omega)]
   simp only []
   have h7 : w[a + j] = p[i] := by simpa using h2
   rw [gS_at hjl, gS_at hi', h7]
   simp only [Option.bind_some, decide_true]
   rw [sub2_at (by omega) (by omega)]
   simp only [Option.bind_some]
   rw [f56_nat]
   simp only [Option.bind_some]
   have h8 : (w.take (a + j)).drop a = (w.drop a).take j := by rw [List.drop_take, show a + j - a = j by omega]
   have h9 : ¬ (0 ≤ ixB ((w.take (a + j)).drop a) p[i]) := fun e => by
    have := ixB_ge.1.1 e
    rw [h8] at this
    exact h3 this
   rw [decide_eq_false h9]
   simp only []
   rw [wrap_nat (by omega), wrap_nat (by omega)]
   refine f15_first hw hp hL n (i + 1) (a + j + 1) (by omega) (by omega) (by omega) ?_
   rw [← h6, List.drop_drop, show a + (j + 1) = a + j + 1 by omega] at h4
   exact h4
  ·rw [decide_eq_false (by omega)]
theorem greW_len : ∀ {v p : List UInt8} {f : Nat} {L : List Int}, greW v p f = some L → L.length = p.length
 | v, [], f, L, h => by rw [greW_nil] at h; cases h; rfl
 | [], d :: p, f, L, h => by cases h
 | c :: v, d :: p, f, L, h => by
  rw [greW] at h
  split at h
  ·obtain ⟨L', h1, rfl⟩ := Option.map_eq_some_iff.1 h
   simp [greW_len h1]
  ·exact greW_len h
theorem cnt_pos {w p : List UInt8} : 0 < cnt w p ↔ leftW w p = true := by
 have h1 := prtM_cnt (w := w) (p := p)
 have h2 := prtM_has (w := w) (p := p)
 rw [h1] at h2
 rw [← h2]
 omega
theorem first_at {w p : List UInt8} : (leftW w p = true ∧ ∃ L, greW w p 0 = some L ∧ firstW w p = ((.nz, L), 0)) ∨ (leftW w p = false ∧ firstW w p = ((.nz, []), 12)) := by
 have h1 := plW_cntW (w := w) w.length p 0 (by omega)
 have h2 := plW_head (w := w) w.length p 0 (by omega)
 rw [List.drop_zero] at h1 h2
 unfold firstW
 cases hq : plW w p 0 with
 | nil =>
  rw [hq] at h1
  refine .inr ⟨?_, rfl⟩
  cases hl : leftW w p with
  | false => rfl
  | true =>
   have := cnt_pos.2 hl
   simp at h1
   omega
 | cons q l =>
  rw [hq] at h1 h2
  refine .inl ⟨cnt_pos.1 (by simp at h1; omega), q.2, h2.symm, rfl⟩
theorem f15_round {w p : List UInt8} (hw : checkW w = 0) (hp : checkW p = 0) {F : Nat} (hF : 1100 ≤ F) {l : List (List UInt8)} {z : Int} {K : Int × Int × Int × Int × Int × Int × Int × Int × Int × Int × Int × Int × Int × Int × Int × Int × Int × Int × Int × Int × Int × Int → Option Bool} {R : Int × Int × Int × Int × Int × Int × Int × Int × Int × Int × Int × Int × Int × Int × Int × Int × Int × Int × Int × Int × Int × Int}
  {n i : Nat} (hi : (i : Int) < z) (hi10 : i ≤ 10) (hg : gI l (i : Int) = some p) : f15_L0 F w l z K (n + 1) ((i : Int), R) = f15_L0 F w l z K n (((i + 1 : Nat) : Int), R) := by
 obtain ⟨r1, r2, r3, r4, r5, r6, r7, r8, r9, r10, r11, r12, r13, r14, r15, r16, r17, r18, r19, r20, r21, r22⟩ := R
 have hwl := (checkW_all hw).1
 have hpl := (checkW_all hp).1
 rw [f15_L0]
 simp only [Option.bind_some]
 rw [decide_eq_true hi]
 simp only []
 rw [hg]
 simp only [Option.bind_some]
 rw [f50_law hwl hF]
 simp only [Option.bind_some]
 rw [prtM_cnt, f18_ok (by omega) hw hp, f55_at hwl, f55_at hpl]
 simp only [Option.bind_some]
 rw [f18_ok (by omega) (checkW_rev hw) (checkW_rev hp), f20_law (by omega) hwl hpl (f57_ok (by omega) hw hp), f20_law (by omega) (by simpa using hwl) (by simpa using hpl) (f57_ok (by omega) (checkW_rev hw) (checkW_rev hp))]
 simp only [Option.bind_some, decide_true]
 rw [leftW_rev, cnt_rev]
 have hx : decide (0 < (cnt w p : Int)) = leftW w p := by
  rw [Bool.eq_iff_iff, ← cnt_pos]
  simp
 rw [hx]
 simp only [bne_self_eq_false, Option.bind_some, decide_true]
 rw [f22_law (by omega) hwl (f57_ok (by omega) hw hp)]
 simp only [Option.bind_some]
 rcases first_at (w := w) (p := p) with ⟨h1, L, h2, h3⟩ | ⟨h1, h3⟩
 ·rw [h3, h1]
  simp only [decide_true, Option.bind_some]
  have hlen := greW_len h2
  rw [decide_eq_true (show (L.length : Int) = (p.length : Int) by omega)]
  simp only []
  have := f15_first (F := F) (K := fun (v108, v109, v110, v111, v112, v113, v114, v115, v116, v117, v118, v119, v120, v121, v122, v123, v124, v125, v126, v127, v128, v129) => f15_L0 F w l z K n (IntKind.i64.wrap ((i : Int) + 1), v108, v109, v110, v111, v112, v113, v114, v115, v116, v117, v118, v119, v120, v121, v122, v123, v124, v125, v126, v127, v128, v129)) (R := (r1, r2, r3, r4, r5, r6, r7, r8, r9, r10, r11, r12, r13, r14, r15, r16, r17, r18, r19, r20, r21, r22)) hwl hpl hlen F 0 0 (by omega) (by omega) (by omega) (by simpa using h2)
  refine this.trans ?_
  simp only []
  rw [wrap_nat (by omega)]
 ·rw [h3, h1]
  simp only [decide_true, Option.bind_some]
  rw [show decide ((0 : Int) < ((([] : List Int).length : Nat) : Int)) = false from rfl]
  simp only []
  rw [wrap_nat (by omega)]
theorem f15_law {l m : List Int} (hl : l.length = 11) (hm : m.length = 11) {a b c d e f g h i j k : Int} (he : l = [a, b, c, d, e, f, g, h, i, j, k]) {a' b' c' d' e' f' g' h' i' j' k' : Int} (he' : m = [a', b', c', d', e', f', g', h', i', j', k']) (hb : ∀ z ∈ l, byteI z) (hb' : ∀ z ∈ m, byteI z) {s : Int} {F : Nat} (hF : 1100 ≤ F) : f15S F a b c d e f g h i j k s a' b' c' d' e' f' g' h' i' j' k' = some true := by
 obtain ⟨w, hw, hwl, hwm⟩ := made_law hl hb (n := 10) (k := 3) (by omega) (by omega) (by omega)
 obtain ⟨v, hv, hvl, hvm⟩ := made_law hm hb' (n := 4) (k := 3) (by omega) (by omega) (by omega)
 obtain ⟨p, hp, hps⟩ := taken_law (w := w) (by omega) (IntKind.i64.wrap s)
 unfold f15S
 rw [← he, ← he', show (10 : Int) = ((10 : Nat) : Int) from rfl, show (4 : Int) = ((4 : Nat) : Int) from rfl, show (3 : Int) = ((3 : Nat) : Int) from rfl, hw, hv]
 simp only [Option.bind_some]
 rw [hp]
 have cw : checkW w = 0 := checkW_ok hwl fun x hx => lets_up (by omega) (hwm x hx)
 have cv : checkW v = 0 := checkW_ok (by omega) fun x hx => lets_up (by omega) (hvm x hx)
 have cp : checkW p = 0 := checkW_ok (Nat.le_trans hps.length_le hwl) fun x hx => lets_up (by omega) (hwm x (hps.subset hx))
 simp only [Option.bind_some, f46S]
 obtain ⟨n, rfl⟩ : ∃ n, F = n + 1 + 1 + 1 := ⟨F - 3, by omega⟩
 rw [show ((0 : Int), a, b, c, d, e, f, g, h, i, j, k, a', b', c', d', e', f', g', h', i', j', k') = (((0 : Nat) : Int), (a, b, c, d, e, f, g, h, i, j, k, a', b', c', d', e', f', g', h', i', j', k')) from rfl]
 rw [f15_round cw cp hF (by simp) (by omega) rfl, f15_round cw cv hF (by simp) (by omega) rfl]
 rw [f15_L0]
 simp only [Option.bind_some]
 rw [decide_eq_false (by simp)]
end Go.Proofs.Ytmnmfmghmenkkaa
