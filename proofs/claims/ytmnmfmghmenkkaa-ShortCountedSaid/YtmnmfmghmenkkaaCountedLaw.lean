/-
  ShortCounted: parts and ways: all sets of letters are tried.
  Conditions: none; lemmas.
-/
import Derived.Test.YtmnmfmghmenkkaaCounted10
import Derived.Test.YtmnmfmghmenkkaaPartsLaw
import Derived.Test.YtmnmfmghmenkkaaBackLaw
set_option linter.unusedSimpArgs false
set_option linter.unusedVariables false
namespace Go.Proofs.Ytmnmfmghmenkkaa
open Go.Abs Go.Pur
set_option maxRecDepth 100000
theorem mSet_st {K V : Type} [DecidableEq K] {c : Nat} {k : K} {v : V} : ∀ {l : Mp K V}, ((mSet c k v l).map (·.2.2) = l.map (·.2.2) ∧ mClk c k l = c) ∨ ((mSet c k v l).map (·.2.2) = l.map (·.2.2) ++ [c] ∧ mClk c k l = c + 1)
 | [] => .inr ⟨rfl, rfl⟩
 | e :: l => by
  by_cases h : e.1 = k
  ·refine .inl ?_
   rw [mSet, mClk, decide_eq_true h]
   exact ⟨rfl, rfl⟩
  ·rw [mSet, mClk, decide_eq_false h]
   rcases mSet_st (c := c) (k := k) (v := v) (l := l) with ⟨h1, h2⟩ | ⟨h1, h2⟩
   ·refine .inl ⟨?_, h2⟩
    dsimp only
    rw [List.map_cons, List.map_cons, h1]
   ·refine .inr ⟨?_, h2⟩
    dsimp only
    rw [List.map_cons, List.map_cons, h1]
    rfl
theorem prtM_st {w : List UInt8} : ∀ {v : Nat}, (∀ s ∈ (prtM w v).1.map (·.2.2), s < (prtM w v).2) ∧ ((prtM w v).1.map (·.2.2)).Nodup
 | 0 => by simp [prtM]
 | v + 1 => by
  obtain ⟨h1, h2⟩ := prtM_st (w := w) (v := v)
  rw [prtM]
  dsimp only
  rcases mSet_st (c := (prtM w v).2) (k := tkN v w) (v := mGetD 0 (tkN v w) (prtM w v).1 + 1) (l := (prtM w v).1) with ⟨h3, h4⟩ | ⟨h3, h4⟩
  ·rw [h3, h4]; exact ⟨h1, h2⟩
  ·rw [h3, h4]
   refine ⟨fun s hs => ?_, ?_⟩
   ·rcases List.mem_append.1 hs with h | h
    ·have := h1 s h; omega
    ·rw [List.mem_singleton.1 h]; omega
   ·rw [List.nodup_append]
    refine ⟨h2, by simp, fun a ha b hb e => ?_⟩
    rw [List.mem_singleton] at hb
    subst hb; subst e
    exact absurd (h1 _ ha) (Nat.lt_irrefl _)
theorem srt_sz {n : Nat} {w : List UInt8} {m : List (List UInt8)} (hw : ∀ c ∈ w, c ∈ lets 6) (hm : m.Nodup) (h : ∀ x, x ∈ m ↔ leftW w x = true ∧ x.length = n) : srt m = sz n w := by
 have hp : (srt m).Perm m := List.mergeSort_perm _ _
 refine (eq_of_sorted sz_sorted ?_ (hp.nodup_iff.2 hm) fun x => ?_).symm
 ·have := List.pairwise_mergeSort (le := fun (x y : List UInt8) => decide (x ≤ y)) (fun a b c h1 h2 => by
   simp only [decide_eq_true_eq] at *
   exact List.le_trans h1 h2) (fun a b => by
   simp only [Bool.or_eq_true, decide_eq_true_eq]
   exact List.le_total a b) m
  exact this.imp fun h => by simpa using h
 ·rw [hp.mem_iff, h]
  exact ⟨fun hx => sz_mem hx, fun ⟨h1, h2⟩ => sz_all hw h1 h2⟩
theorem keysS_mE {m : Mp (List UInt8) Int} : keysS (mE sV (Value.int .i64) m) = some (m.map (·.1)) := by
 induction m with
 | nil => rfl
 | cons e l ih =>
  show (match keyS (sV e.1), keysS (mE sV (Value.int .i64) l) with
   | some k, some r => some (k :: r)
   | _, _ => none) = _
  rw [ih]
  have : keyS (sV e.1) = some e.1 := by
   show some (ByteArray.mk e.1.toArray).data.toList = _
   simp
  rw [this]
  rfl
theorem txs_str : ∀ {l : List (List UInt8)}, lstO.txs (l.map strV) = some l
 | [] => rfl
 | k :: l => by
  show (match keyS (strV k), lstO.txs (l.map strV) with
   | some k, some r => some (k :: r)
   | _, _ => none) = _
  rw [txs_str]
  have : keyS (strV k) = some k := by
   show some (ByteArray.mk k.toArray).data.toList = _
   simp
  rw [this]
theorem f52_law {w : List UInt8} {n : Nat} (hw : w.length ≤ 10) (hl : ∀ c ∈ w, c ∈ lets 6) (hn : n ≤ w.length) : f52O (prtM w (2 ^ w.length)).1 (prtM w (2 ^ w.length)).2 (n : Int) = some (sz n w) := by
 obtain ⟨s1, s2⟩ := prtM_st (w := w) (v := 2 ^ w.length)
 have hlen := prtM_len (w := w)
 have hkeys := @prtM_keys w
 have hnod := prtM_nodup (w := w) (v := 2 ^ w.length)
 have hdl := dl_pow (w := w)
 have h10 : 2 ^ w.length ≤ 2 ^ 10 := Nat.pow_le_pow_right (by omega) hw
 have hmem : ∀ x, x ∈ ((prtM w (2 ^ w.length)).1.map (·.1)).filter (fun k => decide (k.length = n)) ↔ leftW w x = true ∧ x.length = n := fun x => by
  rw [List.mem_filter, hkeys, decide_eq_true_iff, leftW_sub]
  constructor
  ·rintro ⟨⟨M, _, e⟩, h⟩
   exact ⟨e ▸ tkN_sub, h⟩
  ·rintro ⟨h, h2⟩
   obtain ⟨M, h3, h4⟩ := tkN_all h
   exact ⟨⟨M, h3, h4⟩, h2⟩
 have hsz : ofs n ((prtM w (2 ^ w.length)).1.map (·.1)) = sz n w := srt_sz hl (hnod.filter _) hmem
 have hok : ok52B n (prtM w (2 ^ w.length)).2 (mE sV (Value.int .i64) (prtM w (2 ^ w.length)).1) ((prtM w (2 ^ w.length)).1.map (·.1)) = true := by
  unfold ok52B
  simp only [Bool.and_eq_true, decide_eq_true_eq]
  refine ⟨⟨⟨⟨by rw [mE_len, hlen]; omega, fun e he => ?_⟩, ?_⟩, hnod⟩, fun e => ?_⟩
  ·obtain ⟨x, hx, rfl⟩ := List.mem_map.1 he
   exact s1 _ (List.mem_map_of_mem hx)
  ·have : (mE sV (Value.int .i64) (prtM w (2 ^ w.length)).1).map (·.born) = (prtM w (2 ^ w.length)).1.map (·.2.2) := by
    unfold mE
    rw [List.map_map]
    rfl
   rw [this]; exact s2
  ·have := (hmem (w.take n)).2 ⟨leftW_sub.2 (List.take_sublist _ _), by rw [List.length_take]; omega⟩
   rw [e] at this
   cases this
 have he : e52 [.m (mE sV (Value.int .i64) (prtM w (2 ^ w.length)).1) (prtM w (2 ^ w.length)).2, .p (.int .i64 (n : Int))] = some [.l ((sz n w).map strV)] := by
  show (match keysS (mE sV (Value.int .i64) (prtM w (2 ^ w.length)).1) with
   | some ks => match ok52B n (prtM w (2 ^ w.length)).2 (mE sV (Value.int .i64) (prtM w (2 ^ w.length)).1) ks with
    | true => some [KR.l ((ofs n ks).map strV)]
    | false => none
   | none => none) = _
  rw [keysS_mE]
  dsimp only
  rw [hok, hsz]
 unfold f52O
 rw [he]
 show (match lstO.txs ((sz n w).map strV) with
  | some r => match Nat.blt r.length 1000000 with
   | true => some r
   | false => none
  | none => none) = _
 rw [txs_str]
 have := sz_len (n := n) hw
 dsimp only
 rw [show Nat.blt (sz n w).length 1000000 = true from Nat.ble_eq_true_of_le (by omega)]
theorem sum_masks {α : Type} [DecidableEq α] {N : List Nat} {f : Nat → α} : ∀ {L : List α}, L.Nodup → (L.map fun p => (N.filter fun M => decide (f M = p)).length).sum = (N.filter fun M => decide (f M ∈ L)).length
 | [], _ => by
  symm
  rw [List.map_nil, List.sum_nil, List.length_eq_zero_iff, List.filter_eq_nil_iff]
  intro M _
  simp
 | p :: L, h => by
  rw [List.nodup_cons] at h
  rw [List.map_cons, List.sum_cons, sum_masks h.2, len_parts (fun M => decide (f M = p)) (N.filter fun M => decide (f M ∈ p :: L)), List.filter_filter, List.filter_filter]
  congr 1
  ·congr 1
   refine List.filter_congr fun M _ => ?_
   by_cases e : f M = p
   ·rw [decide_eq_true e, decide_eq_true (by rw [e]; exact List.mem_cons_self)]; rfl
   ·rw [decide_eq_false e]; rfl
  ·congr 1
   refine List.filter_congr fun M _ => ?_
   by_cases e : f M = p
   ·rw [decide_eq_true e, e, decide_eq_false h.1]; rfl
   ·rw [decide_eq_false e]
    show decide (f M ∈ L) = (true && decide (f M ∈ p :: L))
    rw [Bool.true_and]
    exact decide_eq_decide.2 ⟨List.mem_cons_of_mem _, fun h => (List.mem_cons.1 h).resolve_left e⟩
def bc (M : Nat) : Nat → Nat
 | 0 => 0
 | k + 1 => bc M k + (match M.testBit k with | true => 1 | false => 0)
theorem tk_bc {w : List UInt8} {M : Nat} : ∀ {k : Nat}, k ≤ w.length → (tk M.testBit w k).length = bc M k
 | 0, _ => rfl
 | k + 1, h => by
  rw [tk, bc, List.length_append, tk_bc (by omega), List.getElem?_eq_getElem (show k < w.length by omega)]
  cases M.testBit k <;> rfl
def ch (n : Nat) : Nat → Nat
 | 0 => 1
 | s + 1 => ch n s * (n - s) / (s + 1)
def okCh (n s : Nat) : Bool := Nat.beq ((List.range (2 ^ n)).filter fun M => Nat.beq (bc M n) s).length (ch n s) && Nat.ble (ch n s) 1000
theorem tabCh : (List.range 10).all (fun n => (List.range (n + 1)).all (okCh n)) = true := by kernel_rfl
theorem ch_at {n s : Nat} (hn : n ≤ 9) (hs : s ≤ n) : ((List.range (2 ^ n)).filter fun M => decide (bc M n = s)).length = ch n s ∧ ch n s ≤ 1000 := by
 have t := List.all_eq_true.1 (List.all_eq_true.1 tabCh n (List.mem_range.2 (by omega))) s (List.mem_range.2 (by omega))
 unfold okCh at t
 rw [Bool.and_eq_true] at t
 refine ⟨?_, Nat.le_of_ble_eq_true t.2⟩
 rw [← Nat.eq_of_beq_eq_true t.1]
 congr 1
 refine List.filter_congr fun M _ => ?_
 cases h : Nat.beq (bc M n) s with
 | true => exact decide_eq_true (Nat.eq_of_beq_eq_true h)
 | false => exact decide_eq_false (Nat.ne_of_beq_eq_false h)
theorem ways_sum {w : List UInt8} {n : Nat} (hw : w.length ≤ 9) (hl : ∀ c ∈ w, c ∈ lets 6) (hn : n ≤ w.length) : ((sz n w).map (cnt w)).sum = ch w.length n := by
 have h1 : (sz n w).map (cnt w) = (sz n w).map fun p => ((List.range (2 ^ w.length)).filter fun M => decide (tkN M w = p)).length := by
  refine List.map_congr_left fun p _ => ?_
  have := cnt_masks (w := w) (k := w.length) (Nat.le_refl _) (p := p)
  rw [List.take_length] at this
  exact this.symm
 rw [h1, sum_masks sz_nodup, ← (ch_at hw hn).1]
 congr 1
 refine List.filter_congr fun M _ => decide_eq_decide.2 ?_
 have hb : (tkN M w).length = bc M w.length := tk_bc (Nat.le_refl _)
 rw [← hb]
 exact ⟨fun h => (sz_mem h).2, fun h => sz_all hl (leftW_sub.2 tkN_sub) h⟩
theorem f10_in {w : List UInt8} {F : Nat} (hw : w.length ≤ 9) (hc : checkW w = 0) (hF : 1100 ≤ F) {l : List (List UInt8)} (hll : l.length ≤ 1024) (hls : ∀ p ∈ l, checkW p = 0) {K : Int × Int × Int × Int × Int × Int × Int × Int × Int × Int × Int × Int → Option Bool} {a b c d e f g h i j k : Int} :
  ∀ (n t : Nat) (s : Nat), l.length + 1 ≤ n + t → t ≤ l.length → s ≤ 1024 * t → f10_L1 F w (prtM w (2 ^ w.length)).1 l (l.length : Int) K n ((s : Int), (t : Int), a, b, c, d, e, f, g, h, i, j, k) = K (((s + ((l.drop t).map (cnt w)).sum : Nat) : Int), a, b, c, d, e, f, g, h, i, j, k)
 | 0, t, s, hn, ht, _ => absurd hn (by omega)
 | n + 1, t, s, hn, ht, hs => by
  rw [f10_L1, Option.bind_some]
  by_cases ht' : t < l.length
  ·rw [decide_eq_true (show (t : Int) < (l.length : Int) by omega)]
   dsimp only
   have hg : gI l (t : Int) = some l[t] := List.getElem?_eq_getElem ht'
   have hp := hls _ (List.getElem_mem ht')
   have hp10 := (checkW_lets hp).1
   have hcl := cnt_le w l[t]
   have h9 : 2 ^ w.length ≤ 2 ^ 9 := Nat.pow_le_pow_right (by omega) hw
   rw [hg, Option.bind_some, f20_law (by omega) (by omega) hp10 (f57_ok (by omega) hc hp), Option.bind_some]
   dsimp only
   rw [Option.bind_some, decide_eq_true rfl]
   dsimp only
   rw [Option.bind_some, prtM_cnt, Option.bind_some, decide_eq_true rfl]
   dsimp only
   have hsum : IntKind.i64.wrap ((s : Int) + (cnt w l[t] : Int)) = ((s + cnt w l[t] : Nat) : Int) := by rw [wrap64 (by omega) (by omega)]; omega
   rw [hsum, Option.bind_some, wrap_nat (by omega), Option.bind_some, f10_in hw hc hF hll hls n (t + 1) (s + cnt w l[t]) (by omega) (by omega) (by omega), List.drop_eq_getElem_cons ht', List.map_cons, List.sum_cons, Nat.add_assoc]
  ·rw [decide_eq_false (show ¬ (t : Int) < (l.length : Int) by omega), List.drop_eq_nil_of_le (by omega)]
   rfl
theorem f31_law {w : List UInt8} {n F : Nat} (hc : checkW w = 0) (hn : n ≤ w.length) : f31S F w (n : Int) = some ((.any, sz n w), 0) := by
 unfold f31S f31O
 rw [if_pos hc, if_neg (by omega), if_neg (by omega), Int.toNat_natCast, srt_eq (checkW_lets hc).2 hn]
theorem f10_out {w : List UInt8} {F : Nat} (hw : w.length ≤ 9) (hc : checkW w = 0) (hF : 1100 ≤ F) {K : Int × Int × Int × Int × Int × Int × Int × Int × Int × Int × Int → Option Bool} {a b c d e f g h i j k : Int} :
  ∀ (n t : Nat), w.length + 2 ≤ n + t → t ≤ w.length + 1 → f10_L0 F w (prtM w (2 ^ w.length)).1 (prtM w (2 ^ w.length)).2 ((w.length + 1 : Nat) : Int) K n ((ch w.length t : Nat), (t : Int), a, b, c, d, e, f, g, h, i, j, k) = K (a, b, c, d, e, f, g, h, i, j, k)
 | 0, t, hn, ht => absurd hn (by omega)
 | n + 1, t, hn, ht => by
  obtain ⟨_, hl⟩ := checkW_lets hc
  rw [f10_L0, Option.bind_some]
  by_cases ht' : t < w.length + 1
  ·rw [decide_eq_true (show (t : Int) < ((w.length + 1 : Nat) : Int) by omega)]
   dsimp only
   have hlz := sz_len (n := t) (w := w) (by omega)
   have hchk : ∀ p ∈ sz t w, checkW p = 0 := fun p hp => by
    obtain ⟨h1, h2⟩ := sz_mem hp
    have hs := leftW_sub.1 h1
    have := hs.length_le
    exact checkW_ok (by omega) fun c hc => hl c (hs.mem hc)
   rw [f31_law hc (by omega), Option.bind_some]
   dsimp only
   rw [Option.bind_some, decide_eq_true rfl]
   dsimp only
   rw [f52_law (by omega) hl (by omega), Option.bind_some, f35_self hlz hF, Option.bind_some]
   dsimp only
   rw [Option.bind_some]
   obtain ⟨_, hch⟩ := ch_at hw (show t ≤ w.length by omega)
   have q := f10_in (F := F) hw hc hF hlz hchk (a := a) (b := b) (c := c) (d := d) (e := e) (f := f) (g := g) (h := h) (i := i) (j := j) (k := k) (K := fun (v63, v64, v65, v66, v67, v68, v69, v70, v71, v72, v73, v74) =>
    (some (decide (v63 = ((ch w.length t : Nat) : Int)))).bind fun x75 =>
    (match x75 with
    | true => ((some ((w.length : Int))).bind fun x76 =>
    (some (IntKind.i64.wrap (x76 - (t : Int)))).bind fun x77 =>
    (some (mulI .i64 ((ch w.length t : Nat) : Int) x77)).bind fun x78 =>
    (some (IntKind.i64.wrap ((t : Int) + 1))).bind fun x79 =>
    (quoO .i64 x78 x79).bind fun x80 =>
    f10_L0 F w (prtM w (2 ^ w.length)).1 (prtM w (2 ^ w.length)).2 ((w.length + 1 : Nat) : Int) K n (x80, x79, v64, v65, v66, v67, v68, v69, v70, v71, v72, v73, v74))
    | false => (some false))) F 0 0 (by omega) (by omega) (by omega)
   refine Eq.trans q ?_
   dsimp only
   rw [List.drop_zero, ways_sum hw hl (by omega), Nat.zero_add, Option.bind_some, decide_eq_true rfl]
   dsimp only
   have e1 : IntKind.i64.wrap ((w.length : Int) - (t : Int)) = ((w.length - t : Nat) : Int) := by rw [wrap64 (by omega) (by omega)]; omega
   have hb : ch w.length t * (w.length - t) ≤ 1000 * 9 := Nat.mul_le_mul hch (by omega)
   have e2 : mulI .i64 ((ch w.length t : Nat) : Int) ((w.length - t : Nat) : Int) = ((ch w.length t * (w.length - t) : Nat) : Int) := by
    show IntKind.i64.wrap (((ch w.length t : Nat) : Int) * ((w.length - t : Nat) : Int)) = _
    rw [← Int.natCast_mul]
    generalize ch w.length t * (w.length - t) = X at hb
    rw [wrap64 (by omega) (by omega)]
   have e3 : quoO .i64 ((ch w.length t * (w.length - t) : Nat) : Int) ((t + 1 : Nat) : Int) = some ((ch w.length (t + 1) : Nat) : Int) := by
    unfold quoO
    rw [decide_eq_false (show ¬ ((t + 1 : Nat) : Int) = 0 by omega)]
    have e4 : Int.tdiv ((ch w.length t * (w.length - t) : Nat) : Int) ((t + 1 : Nat) : Int) = ((ch w.length t * (w.length - t) / (t + 1) : Nat) : Int) := rfl
    rw [e4]
    dsimp only
    have e5 : ch w.length t * (w.length - t) / (t + 1) ≤ 1000 * 9 := Nat.le_trans (Nat.div_le_self _ _) hb
    have e6 : ch w.length (t + 1) = ch w.length t * (w.length - t) / (t + 1) := rfl
    rw [e6]
    generalize ch w.length t * (w.length - t) / (t + 1) = X at e5
    rw [wrap64 (by omega) (by omega)]
   rw [Option.bind_some, e1, Option.bind_some, e2, Option.bind_some, wrap_nat (by omega), Option.bind_some, e3, Option.bind_some]
   exact f10_out hw hc hF n (t + 1) (by omega) (by omega)
  ·rw [decide_eq_false (show ¬ (t : Int) < ((w.length + 1 : Nat) : Int) by omega)]
theorem f10_law {l : List Int} (hl : l.length = 11) {a b c d e f g h i j k : Int} (he : l = [a, b, c, d, e, f, g, h, i, j, k]) (hb : ∀ z ∈ l, byteI z) {p : Int} (hp : byteI p) {F : Nat} (hF : 1100 ≤ F) : f10S F a b c d e f g h i j k p = some true := by
 obtain ⟨R, rfl⟩ : ∃ R : Nat, p = R := ⟨p.toNat, (Int.toNat_of_nonneg hp.1).symm⟩
 obtain ⟨q, hq, hq1, hq6⟩ : ∃ q : Nat, R % 6 + 1 = q ∧ 0 < q ∧ q ≤ 6 := ⟨_, rfl, by omega, by have := Nat.mod_lt R (show 0 < 6 by omega); omega⟩
 unfold f10S
 rw [← he, Option.bind_some, wrap64 (z := (R : Int)) (by omega) (by have := hp.2; omega), Option.bind_some, show (6 : Int) = ((6 : Nat) : Int) from rfl, tmod_nat, Option.bind_some, show IntKind.i64.wrap (1 + ((R % 6 : Nat) : Int)) = (q : Int) by rw [wrap64 (by omega) (by omega)]; omega]
 obtain ⟨w, hw, hwl, hwm⟩ := made_law hl hb (n := 9) (k := q) (by omega) (by omega) (by omega)
 have hlets := fun c hc => lets_up hq6 (hwm c hc)
 have hchk : checkW w = 0 := checkW_ok (by omega) hlets
 rw [show (9 : Int) = ((9 : Nat) : Int) from rfl, hw, Option.bind_some, f50_law (by omega) hF, Option.bind_some]
 dsimp only
 rw [f29_law hchk (by omega), Option.bind_some]
 dsimp only
 rw [Option.bind_some, decide_eq_true rfl]
 dsimp only
 rw [Option.bind_some, Option.bind_some, prtM_len, decide_eq_true rfl]
 dsimp only
 rw [Option.bind_some, wrap_nat (by omega), Option.bind_some]
 have q0 := f10_out (F := F) hwl hchk hF (a := a) (b := b) (c := c) (d := d) (e := e) (f := f) (g := g) (h := h) (i := i) (j := j) (k := k) (K := fun (v81, v82, v83, v84, v85, v86, v87, v88, v89, v90, v91) =>
  (some ((w.length : Int))).bind fun x92 =>
  (some (IntKind.i64.wrap (x92 + 1))).bind fun x93 =>
  (f31S F w x93).bind fun ((c94, l95), x96) =>
  (some (decide (x96 = 1))).bind fun x98 =>
  (match x98 with
  | true => (some true)
  | false => (some false))) F 0 (by omega) (by omega)
 refine Eq.trans q0 ?_
 dsimp only
 have q31 : f31S F w ((w.length + 1 : Nat) : Int) = some ((.nz, []), 1) := by
  unfold f31S f31O
  rw [if_pos hchk, if_neg (by omega), if_pos (by omega)]
 rw [Option.bind_some, wrap_nat (by omega), Option.bind_some, q31, Option.bind_some]
 dsimp only
 rw [Option.bind_some, decide_eq_true rfl]
end Go.Proofs.Ytmnmfmghmenkkaa
