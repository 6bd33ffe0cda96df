/-
  The search with a table (least), by the pure evaluator.
  Conditions: none; definitions and lemmas.
-/
import Derived.Test.YtcdhajbhpnbdkaaDoorRulesLaw
import Derived.Test.YtcdhajbhpnbdkaaDoorWays
import Derived.Test.YtcdhajbhpnbdkaaDoorStr2
set_option linter.unusedSimpArgs false
set_option linter.unusedVariables false
namespace Go.Proofs.YtcdhajbhpnbdkaaDoor
open Go.Abs Go.Pur
set_option maxRecDepth 100000
set_option maxHeartbeats 2000000
attribute [local simp] EK_region EK_seq EK_cond EK_block EK_blk EK_loop EK_exit EK.ex EK_ret EK_skip EK_nil EO_cons EO_nil EO1_true EO1_false EO2_some EO3_some EB_true EB_false pwanted poper pq pev Go.Pur.look pputT isAssign drOf pinit Tr.get_set lget pvOf_int pvOf_bool pvOf_str pvOf_nil rdv_ak notOwn_ak prt_ak loose_ak rdv_own rdv_fz rdv_bor rdv_rf rdv_pt rdv_v rdv_a rdv_t rdv_r rdv_p rdv_s rdv_f pbin plen pload ppart idxAddr pcond Nat.blt goInt_eq prun_not prun_neg mayLoad ER_ret ER_normal presL presOne moved stor okDrop settle_v settle_l settle_a settle_p settle_f noref_v noref_fz noref_a norefs_nil norefs_cons pclose given dropB Y0_keep pevParts stors pvCells pvCells.go vcells pfill reps zipParts ownFz pcells cellOK one psrcLen srcFits psrc takeP pgrow take getPl setPl mapL plEq elder isList lowP pevs frzs addP partAt ble_lim24 killV_v killV_a killV_t killV_f killV_i killV_p killV_s killV_un killV_dead killV_lfz killV_lbor killV_lown killV_rfz killV_rbor killV_lak killV_rak frzV_v frzV_a frzV_t frzV_f frzV_i frzV_p frzV_s frzV_un frzV_dead frzV_lfz frzV_lbor frzV_lown frzV_rfz frzV_rbor frzV_lak frzV_rak killCell_v killCell_a killCell_t killCell_f killCell_i killCell_p killCell_s killCell_un killCell_dead killCell_lfz killCell_lbor killCell_lown killCell_rfz killCell_rbor killCell_lak killCell_rak killV_lrf killV_lpt killV_rpt frzV_lrf frzV_lpt frzV_rpt killCell_lrft killCell_lptt killCell_rptt killCell_lrfc killCell_lptc killCell_rptc argv_lak argv_rak argv_v argv_a argv_p argv_f argv_fz argv_bor argv_rf argv_pt argv_rc argv_own mayTurn_none argvs pcallOp firm refsTo_v refsTo_l refsTo_p refsTo_s refsTo_a refsTo_dead refsTo_nil refsTo_cons isOwn_lak ownFz_lak evSafe pskip plain pnewBlk fldAddr isOwn pput notOwn_fz notOwn_bor notOwn_own notOwn_rf notOwn_pt prt_fz prt_bor prt_own prt_rf prt_pt Go.Pur.freeze presM settles abin_and abin_or abin_andNot abin_mul abin_shr abin_shl abin_add abin_sub abin_eql abin_neq abin_lss abin_leq abin_gtr abin_geq hows pcallIn Y0_how Y0_part howOf partOf rdv_mown rdv_mfz rdv_mbor rdv_mrf killV_mown killV_mfz killV_mbor killV_mrf frzV_mown frzV_mfz frzV_mbor frzV_mrf killCell_mown killCell_mfz killCell_mbor killCell_mrf argv_mfz argv_mbor argv_mrf settle_m kls_v kls_l kls_a kls_t kls_r kls_p kls_s kls_f kls_i kls_it kls_un kls_dead kls_mown kls_mrf kls_mbor kls_mfz fzOf takable mapHere mapOwn mapTo flat toPlain toPlain.go ofFlat ofPair mapEs plook lookRes Y0_mv mvOf mvBlk premv keep79 sz3 by3 row3 zero3 sz4 by4 row4 zero4 sz5 by5 row5 zero5 sz9 by9 row9 shape9 zero9 sz22 by22 row22 shape22 zero22 sz24 by24 row24 zero24 parts24 field24_0 field24_1 sz27 by27 row27 zero27 parts27 field27_0 field27_1 sz28 by28 row28 zero28 sz32 by32 row32 shape32 zero32 sz46 by46 row46 shape46 zero46 sz54 by54 row54 shape54 zero54 parts54 sz56 by56 row56 zero56 parts56 field56_0 field56_1 field56_2 sz63 by63 row63 shape63 zero63 parts63 sz70 by70 row70 shape70 zero70 parts70 sz75 by75 row75 shape75 zero75 parts75 sz79 by79 row79 zero79 sz84 by84 row84 zero84 sz86 by86 row86 shape86 zero86 sz91 by91 row91 zero91 sz93 by93 row93 zero93 parts93 field93_0 sz97 by97 row97 zero97 sz100 by100 row100 zero100 sz102 by102 row102 zero102 sz105 by105 row105 zero105 parts105 field105_0 field105_1 field105_2 sz106 by106 row106 zero106 sz108 by108 row108 zero108 parts108 field108_0 field108_1 sz109 by109 row109 shape109 zero109 parts109 sz110 by110 row110 shape110 parts110 sz112 by112 row112 parts112 field112_0 field112_1 sz126 by126 row126 shape126 zero126 sz127 by127 row127 zero127 sz134 by134 row134 zero134 sz136 by136 row136 zero136 sz140 by140 row140 zero140 sz147 by147 row147 shape147 zero147 parts147 sz148 by148 row148 shape148 zero148 parts148 sz149 by149 row149 zero149 sz153 by153 row153 zero153 bs_size gAt gAt0 sAt sAt0 optPlain rows_len noMaker_eq kindOf vlOf abin_rem abin_quo mayTurn_none lowOf_none Go.Pur.partAt rows_nil rows_cons ble_add ble_add0 ble_same toPlain toPlain.go intIn2_0 intIn2_1 ble12 ble22 tv lv max_int min_int pplains ak_true ak_false apartP beq_add beq_add0 beq_add1 argv_s wok_none wok_low_iff lowOf_wok
abbrev tblC (room : Int) (c : Ck) (pages : List Int) (T : List Int) : List PV := iv room :: .l .fz c pages.length (pages.map iv) :: T.map iv
def rem6 (pages : List Int) (t : Nat) : List Nat := (pages.map Int.toNat).drop t
structure Good (room : Int) (pages T : List Int) : Prop where
 len : T.length = 1536
 ok : ∀ t s, t < 12 → s < 64 → (T.getD (t * 128 + s * 2) 0 = 0 ∧ T.getD (t * 128 + s * 2 + 1) 0 = 0) ∨ (T.getD (t * 128 + s * 2) 0 = (bst room (rem6 pages t) s).1 ∧ T.getD (t * 128 + s * 2 + 1) 0 = (bst room (rem6 pages t) s).2)
def tset (T : List Int) (i : Nat) (a b : Int) : List Int := (T.set i a).set (i + 1) b
theorem tset_len {T : List Int} {i : Nat} {a b : Int} : (tset T i a b).length = T.length := by simp [tset]
theorem Good.set {room : Int} {pages T : List Int} (h : Good room pages T) {t s : Nat} (ht : t < 12) (hs : s < 64) : Good room pages (tset T (t * 128 + s * 2) (bst room (rem6 pages t) s).1 (bst room (rem6 pages t) s).2) := by
 refine ⟨by rw [tset_len]; exact h.len, fun t' s' ht' hs' => ?_⟩
 have hl := h.len
 by_cases e : t' = t ∧ s' = s
 ·obtain ⟨rfl, rfl⟩ := e
  right
  unfold tset
  simp only [List.getD_eq_getElem?_getD]
  rw [List.getElem?_set_ne (by omega), List.getElem?_set_self (by omega), List.getElem?_set_self (by simp; omega)]
  exact ⟨rfl, rfl⟩
 ·have h1 : t' * 128 + s' * 2 ≠ t * 128 + s * 2 := fun x => e ⟨by omega, by omega⟩
  have := h.ok t' s' ht' hs'
  unfold tset
  simp only [List.getD_eq_getElem?_getD] at this ⊢
  rw [List.getElem?_set_ne (by omega), List.getElem?_set_ne (by omega), List.getElem?_set_ne (by omega), List.getElem?_set_ne (by omega)]
  exact this
theorem tbl_splice {x y : PV} {T : List Int} {i : Nat} {a b : Int} (h : i + 1 < T.length) : spliceP (2 + i) [iv a, iv b] (x :: y :: T.map iv) = some (x :: y :: (tset T i a b).map iv) := by
 unfold spliceP
 have h1 : Nat.ble (2 + i + [iv a, iv b].length) (x :: y :: T.map iv).length = true := ble_true (by simp; omega)
 rw [h1]
 simp only [Option.some.injEq]
 rw [show 2 + i + [iv a, iv b].length = (i + 2) + 1 + 1 by simp; omega, show 2 + i = i + 1 + 1 by omega]
 simp only [List.take_succ_cons, List.drop_succ_cons, List.cons_append, List.cons.injEq, true_and]
 unfold tset
 refine List.ext_getElem? fun j => ?_
 simp only [List.getElem?_map, List.append_assoc, List.cons_append, List.nil_append]
 rw [List.getElem?_append]
 simp only [List.length_take, List.length_map, List.getElem?_take, List.getElem?_map]
 have e : min i T.length = i := by omega
 rw [e]
 by_cases c1 : j < i
 ·rw [if_pos c1, List.getElem?_set_ne (by omega), List.getElem?_set_ne (by omega)]; simp [c1]
 ·rw [if_neg c1]
  obtain ⟨k, rfl⟩ : ∃ k, j = i + k := ⟨j - i, by omega⟩
  rw [show i + k - i = k by omega]
  match k with
  | 0 => simp [List.getElem?_set_ne, List.getElem?_set_self (show i < T.length by omega)]
  | 1 => rw [List.getElem?_set_self (by simp; omega)]; rfl
  | k + 2 => rw [List.getElem?_set_ne (by omega), List.getElem?_set_ne (by omega)]; simp [List.getElem?_drop]; congr 2; omega
theorem tbl_at {x y : PV} {T : List Int} {i : Nat} (h : i + 1 < T.length) : takeP 2 ((x :: y :: T.map iv).drop (2 + i)) = some [iv (T.getD i 0), iv (T.getD (i + 1) 0)] := by
 rw [show 2 + i = i + 1 + 1 by omega]
 simp only [List.drop_succ_cons]
 rw [List.drop_eq_getElem_cons (by simp; omega), List.drop_eq_getElem_cons (by simp; omega)]
 simp [takeP, List.getD_eq_getElem?_getD, List.getElem?_eq_getElem (show i < T.length by omega), List.getElem?_eq_getElem h]
theorem good_at {room : Int} {pages T : List Int} {t s : Nat} (h : Good room pages T) (ht : t < 12) (hs : s < 64) : t * 128 + s * 2 + 1 < T.length := by rw [h.len]; omega
theorem rem6_cons {pages : List Int} {t p : Nat} (ht : t < pages.length) (hp : pages[t] = (p : Int)) : rem6 pages t = p :: rem6 pages (t + 1) := by
 unfold rem6
 rw [List.drop_eq_getElem_cons (by simpa using ht)]
 simp [hp]
def LeastIs (room : Int) (pages : List Int) (c : Ck) (t : Nat) : Prop := ∀ (s : Nat) (T : List Int) (b : Nat) (H : List (Option (List PV))), s < 64 → (cnt s : Int) ≤ room → H[b]? = some (some (tblC room c pages T)) → Good room pages T →
 ∃ T' w, Good room pages T' ∧ (w = none ∨ w = some b) ∧ E Tryd.prog Y0 79 [.p b 0, iv t, .a [uv s]] H = some (.a [iv (bst room (rem6 pages t) s).1, iv (bst room (rem6 pages t) s).2], H.set b (some (tblC room c pages T')), w)
theorem set_self {α : Type} {H : List α} {b : Nat} {x : α} (h : H[b]? = some x) : H.set b x = H := by
 refine List.ext_getElem? fun i => ?_
 rw [List.getElem?_set]
 split
 ·rename_i e; subst e
  obtain ⟨h1, h2⟩ := List.getElem?_eq_some_iff.1 h
  rw [if_pos h1, h]
 ·rfl
theorem get_app {α : Type} {H G : List α} {b : Nat} {x : α} (h : H[b]? = some x) : (H ++ G)[b]? = some x := by
 obtain ⟨h1, h2⟩ := List.getElem?_eq_some_iff.1 h
 rw [List.getElem?_append_left h1, h]
theorem set_app {α : Type} {H G : List α} {b : Nat} {x y : α} (h : H[b]? = some x) : (H ++ G).set b y = H.set b y ++ G := by
 obtain ⟨h1, h2⟩ := List.getElem?_eq_some_iff.1 h
 rw [List.set_append_left _ _ h1]
theorem low_no {n k : Nat} : Nat.ble (n + k + 1) n = false := bleF (by omega)
theorem low_no0 {n : Nat} : Nat.ble (n + 1) n = false := bleF (by omega)
theorem sp2 {a b c d : PV} : spliceP 0 [a, b] [c, d] = some [a, b] := rfl
theorem sp2a {a c d : PV} : spliceP 0 [a] [c, d] = some [a, d] := rfl
theorem sp2b {b c d : PV} : spliceP 1 [b] [c, d] = some [c, b] := rfl
theorem least_end {room : Int} {pages : List Int} {c : Ck} (hn : pages.length ≤ 12) : LeastIs room pages c pages.length := by
 intro s T b H hs hc hb hg
 refine ⟨T, none, hg, Or.inl rfl, ?_⟩
 have e : rem6 pages pages.length = [] := by simp [rem6]
 have hG : ∀ G, (H ++ G)[b]? = some (some (tblC room c pages T)) := fun G => get_app hb
 rw [e, set_self hb, E_bodyN 3 body79 rfl (by decide) rfl]
 simp only [Tryd.f79, Option.get_some]
 simp [keep79, hG, bst, sp2, lowB, lowOf, low_no]
theorem least_known {room : Int} {pages : List Int} {c : Ck} {t s b : Nat} {T : List Int} {H : List (Option (List PV))} {k0 k1 : Int} (hn : pages.length ≤ 12) (ht : t < pages.length) (hs : s < 64) (hb : H[b]? = some (some (tblC room c pages T))) (hg : Good room pages T)
  (h0 : T.getD (t * 128 + s * 2) 0 = k0) (h1 : T.getD (t * 128 + s * 2 + 1) 0 = k1) (hk : ¬ (k0 = 0 ∧ k1 = 0)) : E Tryd.prog Y0 79 [.p b 0, iv t, .a [uv s]] H = some (.a [iv k0, iv k1], H, none) := by
 have hG : ∀ G, (H ++ G)[b]? = some (some (tblC room c pages T)) := fun G => get_app hb
 have ta := @tbl_at (iv room) (.l .fz c pages.length (pages.map iv)) T (t * 128 + s * 2) (good_at hg (by omega) hs)
 rw [h0, h1, ← Nat.add_assoc] at ta
 have hbl : b < H.length := (List.getElem?_eq_some_iff.1 hb).1
 have hml : ∀ k, Nat.ble (b + 1) (H.length + k) = true := fun k => ble_true (by omega)
 rw [E_bodyN 3 body79 rfl (by decide) rfl]
 simp only [Tryd.f79, Option.get_some]
 simp [keep79, hG, sp2, hml, show ¬ (t : Int) = pages.length by omega, intIn_nat (show t < 12 by omega), intIn_nat (show s < 64 by omega), ta]
 generalize hmt : mayTurn _ = mb; obtain rfl : mb = true := hmt.symm.trans (by kernel_rfl); clear hmt
 have nq : ∀ x y, abin Tryd.prog .neq 108 x y (.agg #[.int .i64 k0, .int .i64 k1]) (.agg #[.int .i64 0, .int .i64 0]) = some (.bool true) := fun x y => by
  rw [neq108]
  by_cases e : k0 = 0
  ·have : k1 ≠ 0 := fun e2 => hk ⟨e, e2⟩
   simp [e, this]
  ·simp [e]
 simp [keep79, hG, sp2, hml, nq, toPlain2, lowB, lowOf, low_no, show ¬ (t : Int) = pages.length by omega, intIn_nat (show t < 12 by omega), intIn_nat (show s < 64 by omega), ta]
theorem tbl_splice' {x y : PV} {T : List Int} {t s : Nat} {a b : Int} (h : t * 128 + s * 2 + 1 < T.length) : spliceP (2 + t * 128 + s * 2) [iv a, iv b] (x :: y :: T.map iv) = some (x :: y :: (tset T (t * 128 + s * 2) a b).map iv) := by
 rw [Nat.add_assoc]; exact tbl_splice h
theorem least_hit {room : Int} {pages : List Int} {c : Ck} {t s b p : Nat} {T : List Int} {H : List (Option (List PV))} (hn : pages.length ≤ 12) (ht : t < pages.length) (hp6 : p < 6) (hp : pages[t] = (p : Int)) (ih : LeastIs room pages c (t + 1)) (hs : s < 64) (hc : (cnt s : Int) ≤ room) (hb : H[b]? = some (some (tblC room c pages T))) (hg : Good room pages T)
  (h0 : T.getD (t * 128 + s * 2) 0 = 0) (h1 : T.getD (t * 128 + s * 2 + 1) 0 = 0) (hbit : s.testBit p = true) :
  ∃ T' w, Good room pages T' ∧ (w = none ∨ w = some b) ∧ E Tryd.prog Y0 79 [.p b 0, iv t, .a [uv s]] H = some (.a [iv (bst room (rem6 pages t) s).1, iv (bst room (rem6 pages t) s).2], H.set b (some (tblC room c pages T')), w) := by
 have hG : ∀ G, (H ++ G)[b]? = some (some (tblC room c pages T)) := fun G => get_app hb
 have ta := @tbl_at (iv room) (.l .fz c pages.length (pages.map iv)) T (t * 128 + s * 2) (good_at hg (by omega) hs)
 rw [h0, h1, ← Nat.add_assoc] at ta
 have hbl : b < H.length := (List.getElem?_eq_some_iff.1 hb).1
 have hml : ∀ k, Nat.ble (b + 1) (H.length + k) = true := fun k => ble_true (by omega)
 have nq : ∀ x y, abin Tryd.prog .neq 108 x y (.agg #[.int .i64 0, .int .i64 0]) (.agg #[.int .i64 0, .int .i64 0]) = some (.bool false) := fun x y => by rw [neq108]; rfl
 obtain ⟨a1, _⟩ := bit_at hs hp6
 rw [hbit, if_pos rfl] at a1
 have hpt : pages[t]? = some (p : Int) := by rw [List.getElem?_eq_getElem ht, hp]
 have hbt : Nat.ble (t + 1) pages.length = true := ble_true ht
 have w1 := wrap_nat (show t < 1000000000000 by omega)
 obtain ⟨T', w, hg', hw, q⟩ := ih s T b (H ++ [some [uv s], some [iv 0, iv 0], some [iv 0, iv 0], some [iv 0, iv 0]]) hs hc (hG _) hg
 have hX : bst room (rem6 pages t) s = bst room (rem6 pages (t + 1)) s := by rw [rem6_cons ht hp]; simp only [bst, if_pos hbit]
 rw [set_app hb, ← hX, Int.natCast_add] at q
 have hgs := hg'.set (t := t) (s := s) (by omega) hs
 generalize bst room (rem6 pages t) s = X at q hgs
 refine ⟨_, some b, hgs, Or.inr rfl, ?_⟩
 have hts := @tbl_splice' (iv room) (.l .fz c pages.length (pages.map iv)) T' t s X.1 X.2 (good_at hg' (by omega) hs)
 have hss : H.set b (some (tblC room c pages (tset T' (t * 128 + s * 2) X.1 X.2))) = (H.set b (some (tblC room c pages T'))).set b (some (tblC room c pages (tset T' (t * 128 + s * 2) X.1 X.2))) := by rw [List.set_set]
 rw [hss]
 have hlen : (H.set b (some (tblC room c pages T'))).length = H.length := by simp
 have hb' : (H.set b (some (tblC room c pages T')))[b]? = some (some (tblC room c pages T')) := List.getElem?_set_self hbl
 generalize H.set b (some (tblC room c pages T')) = H' at q hlen hb'
 have hG' : ∀ G, (H' ++ G)[b]? = some (some (tblC room c pages T')) := fun G => get_app hb'
 have hS' : ∀ G X, (H' ++ G).set b X = H'.set b X ++ G := fun G X => set_app hb'
 rw [E_bodyN 3 body79 rfl (by decide) rfl]
 simp only [Tryd.f79, Option.get_some]
 simp [keep79, hG, sp2, hml, show ¬ (t : Int) = pages.length by omega, intIn_nat (show t < 12 by omega), intIn_nat (show s < 64 by omega), ta]
 generalize hmt : mayTurn _ = mb; obtain rfl : mb = true := hmt.symm.trans (by kernel_rfl); clear hmt
 simp [keep79, hG, sp2, hml, nq, toPlain2, intIn_nat ht, hpt, hbt, a1, w1]
 simp at q
 rw [q]
 rw [← hlen] at hml hbl ⊢
 have hmin : ∀ k, Nat.min (H'.length + k) b = b := fun k => Nat.min_eq_right (by omega)
 have hble : Nat.ble (b + 1) H'.length = true := ble_true (by omega)
 have hmin2 : Nat.min b b = b := Nat.min_self b
 have hmin3 : ∀ k, Nat.min b (H'.length + k) = b := fun k => Nat.min_eq_left (by omega)
 rcases hw with rfl | rfl
 ·simp [keep79, hG', hS', sp2, hml, intIn_nat (show t < 12 by omega), intIn_nat (show s < 64 by omega), hts, lowB, lowOf, low_no, low_no0, hmin, hmin2, hmin3, hble]
  generalize hmt : mayTurn _ = mb; obtain rfl : mb = true := hmt.symm.trans (by kernel_rfl); clear hmt
  simp [keep79, sp2, lowB, lowOf, low_no, low_no0, hmin, hmin2, hmin3, hble]
 ·simp [keep79, hG', hS', sp2, hml, intIn_nat (show t < 12 by omega), intIn_nat (show s < 64 by omega), hts, lowB, lowOf, low_no, low_no0, hmin, hmin2, hmin3, hble]
  generalize hmt : mayTurn _ = mb; obtain rfl : mb = true := hmt.symm.trans (by kernel_rfl); clear hmt
  simp [keep79, sp2, lowB, lowOf, low_no, low_no0, hmin, hmin2, hmin3, hble]
theorem least_room {room : Int} {pages : List Int} {c : Ck} {t s b p : Nat} {T : List Int} {H : List (Option (List PV))} (hn : pages.length ≤ 12) (ht : t < pages.length) (hp6 : p < 6) (hp : pages[t] = (p : Int)) (ih : LeastIs room pages c (t + 1)) (hs : s < 64) (hc : (cnt s : Int) ≤ room) (hb : H[b]? = some (some (tblC room c pages T))) (hg : Good room pages T)
  (h0 : T.getD (t * 128 + s * 2) 0 = 0) (h1 : T.getD (t * 128 + s * 2 + 1) 0 = 0) (hbit : s.testBit p = false) (hcr : (cnt s : Int) < room) :
  ∃ T' w, Good room pages T' ∧ (w = none ∨ w = some b) ∧ E Tryd.prog Y0 79 [.p b 0, iv t, .a [uv s]] H = some (.a [iv (bst room (rem6 pages t) s).1, iv (bst room (rem6 pages t) s).2], H.set b (some (tblC room c pages T')), w) := by
 have hG : ∀ G, (H ++ G)[b]? = some (some (tblC room c pages T)) := fun G => get_app hb
 have ta := @tbl_at (iv room) (.l .fz c pages.length (pages.map iv)) T (t * 128 + s * 2) (good_at hg (by omega) hs)
 rw [h0, h1, ← Nat.add_assoc] at ta
 have hbl : b < H.length := (List.getElem?_eq_some_iff.1 hb).1
 have hml : ∀ k, Nat.ble (b + 1) (H.length + k) = true := fun k => ble_true (by omega)
 have nq : ∀ x y, abin Tryd.prog .neq 108 x y (.agg #[.int .i64 0, .int .i64 0]) (.agg #[.int .i64 0, .int .i64 0]) = some (.bool false) := fun x y => by rw [neq108]; rfl
 obtain ⟨a1, _⟩ := bit_at hs hp6
 rw [hbit, if_neg (by decide)] at a1
 have hfu : fullB s p room = false := by unfold fullB; rw [hbit]; simp; omega
 have hfl := fun hp => @full_is s p room hp hs hp6
 rw [hfu] at hfl
 have hwi := fun hp => @with_is s p (-1) hp hs hp6 (Or.inl rfl)
 have hwb : withB s p (-1) = setB s p := by unfold withB; rw [if_neg (by decide)]
 rw [hwb] at hwi
 have hpt : pages[t]? = some (p : Int) := by rw [List.getElem?_eq_getElem ht, hp]
 have hbt : Nat.ble (t + 1) pages.length = true := ble_true ht
 have w1 := wrap_nat (show t < 1000000000000 by omega)
 obtain ⟨T', w, hg', hw, q⟩ := ih (setB s p) T b (H ++ [some [uv s], some [iv 0, iv 0], some [iv 0, iv 0], some [iv 0, iv 0]]) (set_lt hs hp6) (by rw [cnt_set hs hp6, hbit]; simp [nb]; omega) (hG _) hg
 have hX : bst room (rem6 pages t) s = ((bst room (rem6 pages (t + 1)) (setB s p)).1 + 1, (bst room (rem6 pages (t + 1)) (setB s p)).2) := by rw [rem6_cons ht hp]; simp only [bst]; rw [if_neg (by simp [hbit]), if_pos hcr]
 rw [set_app hb, Int.natCast_add] at q
 have hgs := hg'.set (t := t) (s := s) (by omega) hs
 rw [hX] at hgs ⊢
 have hle := (bst_le (room := room) (rem6 pages (t + 1)) (setB s p)).1
 have hle2 : (rem6 pages (t + 1)).length ≤ 12 := by unfold rem6; simp; omega
 generalize bst room (rem6 pages (t + 1)) (setB s p) = X at q hgs hle
 have wx := wrap_nat (show X.1 < 1000000000000 by omega)
 simp only [Int.natCast_add, Int.cast_ofNat_Int] at hgs ⊢
 refine ⟨_, some b, hgs, Or.inr rfl, ?_⟩
 have hts := @tbl_splice' (iv room) (.l .fz c pages.length (pages.map iv)) T' t s ((X.1 : Int) + 1) X.2 (good_at hg' (by omega) hs)
 have hss : H.set b (some (tblC room c pages (tset T' (t * 128 + s * 2) ((X.1 : Int) + 1) X.2))) = (H.set b (some (tblC room c pages T'))).set b (some (tblC room c pages (tset T' (t * 128 + s * 2) ((X.1 : Int) + 1) X.2))) := by rw [List.set_set]
 rw [hss]
 have hlen : (H.set b (some (tblC room c pages T'))).length = H.length := by simp
 have hb' : (H.set b (some (tblC room c pages T')))[b]? = some (some (tblC room c pages T')) := List.getElem?_set_self hbl
 generalize H.set b (some (tblC room c pages T')) = H' at q hlen hb'
 have hG' : ∀ G, (H' ++ G)[b]? = some (some (tblC room c pages T')) := fun G => get_app hb'
 have hS' : ∀ G X, (H' ++ G).set b X = H'.set b X ++ G := fun G X => set_app hb'
 rw [E_bodyN 3 body79 rfl (by decide) rfl]
 simp only [Tryd.f79, Option.get_some]
 simp [keep79, hG, sp2, hml, show ¬ (t : Int) = pages.length by omega, intIn_nat (show t < 12 by omega), intIn_nat (show s < 64 by omega), ta]
 generalize hmt : mayTurn _ = mb; obtain rfl : mb = true := hmt.symm.trans (by kernel_rfl); clear hmt
 simp [keep79, hG, sp2, hml, nq, toPlain2, intIn_nat ht, hpt, hbt, a1, w1, hfl, hwi]
 simp at q
 rw [q]
 rw [← hlen] at hml hbl ⊢
 have hmin : ∀ k, Nat.min (H'.length + k) b = b := fun k => Nat.min_eq_right (by omega)
 have hble : Nat.ble (b + 1) H'.length = true := ble_true (by omega)
 have hmin2 : Nat.min b b = b := Nat.min_self b
 have hmin3 : ∀ k, Nat.min b (H'.length + k) = b := fun k => Nat.min_eq_left (by omega)
 rcases hw with rfl | rfl
 ·simp [keep79, hG', hS', sp2, sp2a, wx, hml, intIn_nat (show t < 12 by omega), intIn_nat (show s < 64 by omega), hts, lowB, lowOf, low_no, low_no0, hmin, hmin2, hmin3, hble]
  generalize hmt : mayTurn _ = mb; obtain rfl : mb = true := hmt.symm.trans (by kernel_rfl); clear hmt
  simp [keep79, sp2, lowB, lowOf, low_no, low_no0, hmin, hmin2, hmin3, hble]
 ·simp [keep79, hG', hS', sp2, sp2a, wx, hml, intIn_nat (show t < 12 by omega), intIn_nat (show s < 64 by omega), hts, lowB, lowOf, low_no, low_no0, hmin, hmin2, hmin3, hble]
  generalize hmt : mayTurn _ = mb; obtain rfl : mb = true := hmt.symm.trans (by kernel_rfl); clear hmt
  simp [keep79, sp2, lowB, lowOf, low_no, low_no0, hmin, hmin2, hmin3, hble]
def lowOk (b : Nat) (w : Option Nat) : Prop := w = none ∨ ∃ k, w = some k ∧ b ≤ k
theorem lowOk_low {b k : Nat} {w : Option Nat} (h : lowOk b w) (hk : b ≤ k) : lowOk b (lowB w k) := by
 rcases h with rfl | ⟨j, rfl, hj⟩
 ·exact Or.inr ⟨k, rfl, hk⟩
 ·exact Or.inr ⟨Nat.min j k, rfl, Nat.le_min.2 ⟨hj, hk⟩⟩
theorem lowOk_b {b : Nat} {w : Option Nat} (h : lowOk b w) : lowB w b = some b := by
 rcases h with rfl | ⟨j, rfl, hj⟩
 ·rfl
 ·exact congrArg some (Nat.min_eq_right hj)
theorem loop_phi {nt : Nat} {k : List Fm} {f g : FuncId} {rs : List ResultVar} {tys : List TypeId} {base : Nat} {b : Code} {σ0 : St} (Φ : Option (PV × List (Option (List PV)) × Option Nat) → Prop) (Inv : Nat → St → Prop) {n0 : Nat} (h0 : Inv n0 σ0)
  (hs : ∀ n σ, Inv n σ → (∀ m σ', m < n → Inv m σ' → Φ (ER Tryd.prog Y0 g rs tys base (EK Tryd.prog Y0 f nt (.lp b :: k) σ'))) → Φ (ER Tryd.prog Y0 g rs tys base (EK Tryd.prog Y0 f nt (.c b :: .lp b :: k) σ))) :
  Φ (ER Tryd.prog Y0 g rs tys base (EK Tryd.prog Y0 f nt (.lp b :: k) σ0)) := by
 induction n0 using Nat.strongRecOn generalizing σ0 with
 | ind n ih =>
  rw [EK_lp]
  exact hs n σ0 h0 fun m σ' hm hi => ih m hm hi
def LRes (room : Int) (pages : List Int) (c : Ck) (X : Nat × Nat) (b : Nat) (H : List (Option (List PV))) (R : Option (PV × List (Option (List PV)) × Option Nat)) : Prop :=
 ∃ T' w, Good room pages T' ∧ (w = none ∨ w = some b) ∧ R = some (.a [iv X.1, iv X.2], H.set b (some (tblC room c pages T')), w)
def bstep (room : Int) (r : List Nat) (s p : Nat) (out : Nat × Nat) (g : Nat) : Nat × Nat := bjoin out ((bst room r (setB (clrB s g) p)).1 + 1, (bst room r (setB (clrB s g) p)).2)
theorem take_fold {r : List Nat} {room : Int} {s p j : Nat} (hj : j < (bitsN s).length) : ((bitsN s).take (j + 1)).foldl (bstep room r s p) (0, 0) = bstep room r s p (((bitsN s).take j).foldl (bstep room r s p) (0, 0)) (bitsN s)[j] := by
 rw [List.take_add_one, List.getElem?_eq_getElem hj, List.foldl_append]
 rfl
theorem fold_le {r : List Nat} {room : Int} {s p j : Nat} (hr : r.length ≤ 11) : (((bitsN s).take j).foldl (bstep room r s p) (0, 0)).1 ≤ 12 ∧ (((bitsN s).take j).foldl (bstep room r s p) (0, 0)).2 ≤ 12 * 12 ^ 11 := by
 have e : ((bitsN s).take j).foldl (bstep room r s p) (0, 0) = (((bitsN s).take j).map fun g => ((bst room r (setB (clrB s g) p)).1 + 1, (bst room r (setB (clrB s g) p)).2)).foldl bjoin (0, 0) := by rw [List.foldl_map]; rfl
 rw [e]
 have := bjoin_le (M := 12 ^ 11) (N := 12) (((bitsN s).take j).map fun g => ((bst room r (setB (clrB s g) p)).1 + 1, (bst room r (setB (clrB s g) p)).2)) (0, 0) 0 (by simp) (by simp) (fun x hx => by
  obtain ⟨g, _, rfl⟩ := List.mem_map.1 hx
  have := bst_le (room := room) r (setB (clrB s g) p)
  exact ⟨by simp only; omega, Nat.le_trans this.2 (Nat.pow_le_pow_right (by decide) hr)⟩)
 refine ⟨this.1, Nat.le_trans this.2 ?_⟩
 rw [Nat.zero_add, List.length_map]
 refine Nat.mul_le_mul_right _ (Nat.le_trans ?_ (bitsN_le (s := s)))
 rw [List.length_take]; exact Nat.min_le_right _ _
theorem least_full {room : Int} {pages : List Int} {c : Ck} {t s b p : Nat} {T : List Int} {H : List (Option (List PV))} (h1r : 1 ≤ room) (hn : pages.length ≤ 12) (ht : t < pages.length) (hp6 : p < 6) (hp : pages[t] = (p : Int)) (ih : LeastIs room pages c (t + 1)) (hs : s < 64) (hc : (cnt s : Int) ≤ room) (hb : H[b]? = some (some (tblC room c pages T))) (hg : Good room pages T)
  (h0 : T.getD (t * 128 + s * 2) 0 = 0) (h1 : T.getD (t * 128 + s * 2 + 1) 0 = 0) (hbit : s.testBit p = false) (hcr : ¬ (cnt s : Int) < room) :
  LRes room pages c (bst room (rem6 pages t) s) b H (E Tryd.prog Y0 79 [.p b 0, iv t, .a [uv s]] H) := by
 have hG : ∀ G, (H ++ G)[b]? = some (some (tblC room c pages T)) := fun G => get_app hb
 have ta := @tbl_at (iv room) (.l .fz c pages.length (pages.map iv)) T (t * 128 + s * 2) (good_at hg (by omega) hs)
 rw [h0, h1, ← Nat.add_assoc] at ta
 have hbl : b < H.length := (List.getElem?_eq_some_iff.1 hb).1
 have hml : ∀ k, Nat.ble (b + 1) (H.length + k) = true := fun k => ble_true (by omega)
 have nq : ∀ x y, abin Tryd.prog .neq 108 x y (.agg #[.int .i64 0, .int .i64 0]) (.agg #[.int .i64 0, .int .i64 0]) = some (.bool false) := fun x y => by rw [neq108]; rfl
 obtain ⟨a1, _⟩ := bit_at hs hp6
 rw [hbit, if_neg (by decide)] at a1
 have hfu : fullB s p room = true := by unfold fullB; rw [hbit]; simp; omega
 have hfl := fun hp => @full_is s p room hp hs hp6
 rw [hfu] at hfl
 have hls := fun hp => @list_is s hp (by omega)
 have hpt : pages[t]? = some (p : Int) := by rw [List.getElem?_eq_getElem ht, hp]
 have hbt : Nat.ble (t + 1) pages.length = true := ble_true ht
 have w1 := wrap_nat (show t < 1000000000000 by omega)
 have hX : bst room (rem6 pages t) s = (bitsN s).foldl (bstep room (rem6 pages (t + 1)) s p) (0, 0) := by
  rw [rem6_cons ht hp]; simp only [bst]; rw [if_neg (by simp [hbit]), if_neg hcr]; rfl
 rw [E_bodyN 3 body79 rfl (by decide) rfl]
 simp only [Tryd.f79, Option.get_some]
 simp [keep79, hG, sp2, hml, show ¬ (t : Int) = pages.length by omega, intIn_nat (show t < 12 by omega), intIn_nat (show s < 64 by omega), ta]
 generalize hmt : mayTurn _ = mb; obtain rfl : mb = true := hmt.symm.trans (by kernel_rfl); clear hmt
 simp [keep79, hG, sp2, hml, nq, toPlain2, intIn_nat ht, hpt, hbt, a1, w1, hfl, hls]
 have hbn : (bitsL s).length = (bitsN s).length := by simp [bitsL]
 refine loop_phi (LRes room pages c (bst room (rem6 pages t) s) b H) (fun m σ => ∃ (j : Nat) (T' : List Int) (ts : Tr PV) (G : List (Option (List PV))) (w : Option Nat), m + j = (bitsN s).length ∧ Good room pages T' ∧ lowOk b w ∧
  σ = ⟨[], ts, H.set b (some (tblC room c pages T')) ++ (some [uv s] :: some [iv 0, iv 0] :: some [iv 0, iv 0] :: some [iv (((bitsN s).take j).foldl (bstep room (rem6 pages (t + 1)) s p) (0, 0)).1, iv (((bitsN s).take j).foldl (bstep room (rem6 pages (t + 1)) s p) (0, 0)).2] :: G), w⟩ ∧
  ts.get 0 = some (.p b 0) ∧ ts.get 1 = some (iv t) ∧ ts.get 5 = some (.p H.length 0) ∧ ts.get 6 = some (.p (H.length + 1) 0) ∧ ts.get 8 = some (iv p) ∧ ts.get 9 = some (.p (H.length + 3) 0) ∧
  ts.get 45 = some (.l .own .nz (bitsL s).length ((bitsL s).map iv)) ∧ ts.get 46 = some (iv (bitsN s).length) ∧ ts.get 47 = some (iv j)) (n0 := (bitsN s).length) ?_ ?_
 ·refine ⟨0, T, _, [], _, rfl, hg, ?_, by rw [set_self hb]; rfl, by simp, by simp, by simp, by simp, by simp, by simp, by simp, by simp [hbn], by simp⟩
  exact lowOk_low (Or.inl rfl) (by omega)
 ·rintro m σ ⟨j, T', ts, G, w, hm, hg', hw, rfl, g0, g1, g5, g6, g8, g9, g45, g46, g47⟩ ihl
  generalize hout : ((bitsN s).take j).foldl (bstep room (rem6 pages (t + 1)) s p) (0, 0) = out
  have hlen : (H.set b (some (tblC room c pages T'))).length = H.length := by simp
  have hb' : (H.set b (some (tblC room c pages T')))[b]? = some (some (tblC room c pages T')) := List.getElem?_set_self hbl
  have hss : ∀ X, H.set b X = (H.set b (some (tblC room c pages T'))).set b X := fun X => by rw [List.set_set]
  rcases Nat.lt_or_ge j (bitsN s).length with hj | hj
  ·have hjj : (j : Int) < (bitsN s).length := by omega
   obtain ⟨g, hgj⟩ : ∃ g, (bitsN s)[j] = g := ⟨_, rfl⟩
   have hgm : g ∈ bitsN s := by rw [← hgj]; exact List.getElem_mem hj
   obtain ⟨gx, gb⟩ := (bitsN_mem hs).1 hgm
   have hcs := cnt_swap hs hp6 gx gb hbit
   have hwi := fun hp => @with_is s p (g : Int) hp hs hp6 (Or.inr ⟨by omega, by omega⟩)
   have hwb : withB s p (g : Int) = setB (clrB s g) p := by unfold withB; rw [if_pos (by omega), Int.toNat_natCast]
   rw [hwb] at hwi
   have hq2 : (bitsL s)[j]? = some (g : Int) := by simp [bitsL, List.getElem?_eq_getElem hj, hgj]
   have hq1 : Nat.ble (j + 1) (bitsL s).length = true := ble_true (by rw [hbn]; exact hj)
   have hqi : intIn (bitsL s).length (.int .i64 (j : Int)) = some j := intIn_nat (by rw [hbn]; exact hj)
   have hstep := take_fold (r := rem6 pages (t + 1)) (room := room) (p := p) hj
   rw [hout, hgj] at hstep
   have hfb := fold_le (r := rem6 pages (t + 1)) (room := room) (s := s) (p := p) (j := j) (by unfold rem6; simp; omega)
   rw [hout] at hfb
   obtain ⟨T2, w2, hg2, hw2, q⟩ := ih (setB (clrB s g) p) T' b (H.set b (some (tblC room c pages T')) ++ (some [uv s] :: some [iv 0, iv 0] :: some [iv 0, iv 0] :: some [iv out.1, iv out.2] :: G)) (set_lt (clr_lt hs gx) hp6) (by rw [hcs]; exact hc) (get_app hb') hg'
   rw [set_app hb', List.set_set, Int.natCast_add] at q
   have hle := bst_le (room := room) (rem6 pages (t + 1)) (setB (clrB s g) p)
   have hrl : (rem6 pages (t + 1)).length ≤ 11 := by unfold rem6; simp; omega
   have hle2 := Nat.pow_le_pow_right (show 0 < 12 by decide) hrl
   generalize hXX : bst room (rem6 pages (t + 1)) (setB (clrB s g) p) = X at q hle
   replace hstep : ((bitsN s).take (j + 1)).foldl (bstep room (rem6 pages (t + 1)) s p) (0, 0) = bjoin out (X.1 + 1, X.2) := by rw [hstep, bstep, hXX]
   simp at q
   have wj := wrap_nat (show j < 1000000000000 by have := bitsN_le (s := s); omega)
   have wx := wrap_nat (show X.1 < 1000000000000 by omega)
   have hlen2 : (H.set b (some (tblC room c pages T2))).length = H.length := by simp
   generalize H.set b (some (tblC room c pages T')) = H1 at hlen hb' q ⊢
   generalize hH2 : H.set b (some (tblC room c pages T2)) = H2 at hlen2 q
   rw [← hlen] at hml hbl g5 g6 g9 hlen2 ihl ⊢
   simp [keep79, g0, g1, g5, g6, g8, g9, g45, g46, g47, hjj, hqi, hq1, hq2, w1, hwi]
   rw [q]
   rw [← hlen2] at hml hbl g5 g6 g9 ihl ⊢
   have eqz : ∀ x y, abin Tryd.prog .eql 108 x y (.agg #[.int .i64 out.1, .int .i64 out.2]) (.agg #[.int .i64 0, .int .i64 0]) = some (.bool (decide (out = (0, 0)))) := fun x y => by
    rw [eql108]
    congr 2
    rw [Bool.eq_iff_iff]
    obtain ⟨o1, o2⟩ := out
    simp
   have fin : ∀ (ts' : Tr PV) (G' : List (Option (List PV))) (w' : Option Nat) (o' : Nat × Nat), o' = bjoin out (X.1 + 1, X.2) → lowOk b w' → ts'.get 0 = some (.p b 0) → ts'.get 1 = some (iv t) → ts'.get 5 = some (.p H2.length 0) → ts'.get 6 = some (.p (H2.length + 1) 0) → ts'.get 8 = some (iv p) → ts'.get 9 = some (.p (H2.length + 3) 0) →
     ts'.get 45 = some (.l .own .nz (bitsL s).length ((bitsL s).map iv)) → ts'.get 46 = some (iv (bitsN s).length) → ts'.get 47 = some (iv ((j : Int) + 1)) → LRes room pages c (bst room (rem6 pages t) s) b H _ := fun ts' G' w' o' e1 e2 e3 e4 e5 e6 e7 e8 e9 e10 e11 =>
    ihl (m - 1) ⟨[], ts', H2 ++ (some [uv s] :: some [iv 0, iv 0] :: some [iv 0, iv 0] :: some [iv o'.1, iv o'.2] :: G'), w'⟩ (by omega) ⟨j + 1, T2, ts', G', w', by omega, hg2, e2, by rw [hstep, e1, hH2], e3, e4, e5, e6, e7, e8, e9, e10, e11⟩
   clear ihl
   have lw : lowOk b w2 → lowOk b (lowB (lowB w (H2.length + (G.length + 1 + 1 + 1 + 1))) (H2.length + (G.length + 1 + 1 + 1 + 1))) := fun _ => lowOk_low (lowOk_low hw (by omega)) (by omega)
   have lv : ∀ {u : Option Nat} {k : Nat}, lowOk b u → lowOk b (lowB u (H2.length + k)) := fun h => lowOk_low h (by omega)
   have lb : lowOk b (lowB w b) := lowOk_low hw (Nat.le_refl _)
   have h12 : (12 : Nat) ^ 11 = 743008370688 := by decide
   rw [h12] at hle2 hfb
   have wsum : IntKind.i64.wrap ((out.2 : Int) + X.2) = (out.2 : Int) + X.2 := wrap64 (by omega) (by omega)
   by_cases c1 : out = (0, 0)
   ·have d1 : decide (out = (0, 0)) = true := decide_eq_true c1
    have e1 : (X.1 + 1, X.2) = bjoin out (X.1 + 1, X.2) := by unfold bjoin; rw [if_pos (Or.inl c1)]
    rcases hw2 with rfl | rfl
    ·simp [keep79, g0, g1, g5, g6, g8, g9, g45, g46, g47, wx, wj, sp2, sp2a, sp2b, eqz, d1]
     exact fin _ _ _ _ e1 (lv (lv (lv hw))) (by simp [g0]) (by simp [g1]) (by simp [g5]) (by simp [g6]) (by simp [g8]) (by simp [g9]) (by simp [g45]) (by simp [g46]) (by simp [wj])
    ·simp [keep79, g0, g1, g5, g6, g8, g9, g45, g46, g47, wx, wj, sp2, sp2a, sp2b, eqz, d1]
     exact fin _ _ _ _ e1 (lv (lv (lv lb))) (by simp [g0]) (by simp [g1]) (by simp [g5]) (by simp [g6]) (by simp [g8]) (by simp [g9]) (by simp [g45]) (by simp [g46]) (by simp [wj])
   ·have d1 : decide (out = (0, 0)) = false := decide_eq_false c1
    by_cases c2 : X.1 + 1 < out.1
    ·have d2 : (X.1 : Int) + 1 < out.1 := by omega
     have e1 : (X.1 + 1, X.2) = bjoin out (X.1 + 1, X.2) := by unfold bjoin; rw [if_pos (Or.inr c2)]
     rcases hw2 with rfl | rfl
     ·simp [keep79, g0, g1, g5, g6, g8, g9, g45, g46, g47, wx, wj, sp2, sp2a, sp2b, eqz, d1, d2]
      exact fin _ _ _ _ e1 (lv (lv (lv hw))) (by simp [g0]) (by simp [g1]) (by simp [g5]) (by simp [g6]) (by simp [g8]) (by simp [g9]) (by simp [g45]) (by simp [g46]) (by simp [wj])
     ·simp [keep79, g0, g1, g5, g6, g8, g9, g45, g46, g47, wx, wj, sp2, sp2a, sp2b, eqz, d1, d2]
      exact fin _ _ _ _ e1 (lv (lv (lv lb))) (by simp [g0]) (by simp [g1]) (by simp [g5]) (by simp [g6]) (by simp [g8]) (by simp [g9]) (by simp [g45]) (by simp [g46]) (by simp [wj])
    ·have d2 : ¬ (X.1 : Int) + 1 < out.1 := by omega
     by_cases c3 : X.1 + 1 = out.1
     ·have d3 : decide ((X.1 : Int) + 1 = out.1) = true := decide_eq_true (by omega)
      have e1 : (out.1, out.2 + X.2) = bjoin out (X.1 + 1, X.2) := by unfold bjoin; rw [if_neg (by simp [c1]; omega), if_pos c3]
      rcases hw2 with rfl | rfl
      ·simp [keep79, g0, g1, g5, g6, g8, g9, g45, g46, g47, wx, wj, sp2, sp2a, sp2b, eqz, d1, d2, d3, wsum]
       rw [← Int.natCast_add out.2 X.2]
       exact fin _ _ _ _ e1 (lv (lv (lv hw))) (by simp [g0]) (by simp [g1]) (by simp [g5]) (by simp [g6]) (by simp [g8]) (by simp [g9]) (by simp [g45]) (by simp [g46]) (by simp [wj])
      ·simp [keep79, g0, g1, g5, g6, g8, g9, g45, g46, g47, wx, wj, sp2, sp2a, sp2b, eqz, d1, d2, d3, wsum]
       rw [← Int.natCast_add out.2 X.2]
       exact fin _ _ _ _ e1 (lv (lv (lv lb))) (by simp [g0]) (by simp [g1]) (by simp [g5]) (by simp [g6]) (by simp [g8]) (by simp [g9]) (by simp [g45]) (by simp [g46]) (by simp [wj])
     ·have d3 : ¬ (X.1 : Int) + 1 = out.1 := by omega
      have e1 : out = bjoin out (X.1 + 1, X.2) := by unfold bjoin; rw [if_neg (by simp [c1]; omega), if_neg c3]
      rcases hw2 with rfl | rfl
      ·simp [keep79, g0, g1, g5, g6, g8, g9, g45, g46, g47, wx, wj, sp2, sp2a, sp2b, eqz, d1, d2, d3]
       exact fin _ _ _ _ e1 (lv (lv hw)) (by simp [g0]) (by simp [g1]) (by simp [g5]) (by simp [g6]) (by simp [g8]) (by simp [g9]) (by simp [g45]) (by simp [g46]) (by simp [wj])
      ·simp [keep79, g0, g1, g5, g6, g8, g9, g45, g46, g47, wx, wj, sp2, sp2a, sp2b, eqz, d1, d2, d3]
       exact fin _ _ _ _ e1 (lv (lv lb)) (by simp [g0]) (by simp [g1]) (by simp [g5]) (by simp [g6]) (by simp [g8]) (by simp [g9]) (by simp [g45]) (by simp [g46]) (by simp [wj])
  ·have hjj : ¬ (j : Int) < (bitsN s).length := by omega
   have hXo : bst room (rem6 pages t) s = out := by rw [hX, ← hout, List.take_of_length_le hj]
   have hgs := hg'.set (t := t) (s := s) (by omega) hs
   rw [hXo] at hgs ⊢
   have hts := @tbl_splice' (iv room) (.l .fz c pages.length (pages.map iv)) T' t s out.1 out.2 (good_at hg' (by omega) hs)
   refine ⟨_, some b, hgs, Or.inr rfl, ?_⟩
   rw [hss (some (tblC room c pages (tset T' (t * 128 + s * 2) out.1 out.2)))]
   generalize H.set b (some (tblC room c pages T')) = H' at hlen hb'
   have hG' : ∀ G, (H' ++ G)[b]? = some (some (tblC room c pages T')) := fun G => get_app hb'
   have hS' : ∀ G X, (H' ++ G).set b X = H'.set b X ++ G := fun G X => set_app hb'
   rw [← hlen] at hml hbl g5 g6 g9 ⊢
   have hmin : ∀ k, Nat.min (H'.length + k) b = b := fun k => Nat.min_eq_right (by omega)
   have hble : Nat.ble (b + 1) H'.length = true := ble_true (by omega)
   have hmin2 : Nat.min b b = b := Nat.min_self b
   have hmin3 : ∀ k, Nat.min b (H'.length + k) = b := fun k => Nat.min_eq_left (by omega)
   have hwb := lowOk_b hw
   have hm3 : Nat.ble (H'.length + 3 + 1) (H'.length + (G.length + 1 + 1 + 1 + 1)) = true := ble_true (by omega)
   have hm0 : Nat.ble (H'.length + 1) (H'.length + (G.length + 1 + 1 + 1 + 1)) = true := ble_true (by omega)
   simp [keep79, g0, g1, g5, g6, g8, g9, g46, g47, hjj, hG', hS', sp2, hml, intIn_nat (show t < 12 by omega), intIn_nat (show s < 64 by omega), hts, hwb, lowOf, low_no, low_no0, hmin, hmin2, hmin3, hble, hm0, hm3]
   generalize hmt : mayTurn _ = mb; obtain rfl : mb = true := hmt.symm.trans (by kernel_rfl); clear hmt
   simp [keep79, g6, g9, sp2, hwb, lowB, lowOf, low_no, low_no0, hmin, hmin2, hmin3, hble]
theorem least_is {room : Int} {pages : List Int} {c : Ck} (h1r : 1 ≤ room) (hn : pages.length ≤ 12) (hpg : ∀ p ∈ pages, 0 ≤ p ∧ p ≤ 5) : ∀ (m t : Nat), m + t = pages.length → LeastIs room pages c t
 | 0, t, h => by
  obtain rfl : t = pages.length := by omega
  exact least_end hn
 | m + 1, t, h => by
  have ih := least_is (c := c) h1r hn hpg m (t + 1) (by omega)
  have ht : t < pages.length := by omega
  intro s T b H hs hc hb hg
  obtain ⟨hp0, hp5⟩ := hpg _ (List.getElem_mem ht)
  obtain ⟨p, hp⟩ := Int.eq_ofNat_of_zero_le hp0
  have hp6 : p < 6 := by omega
  by_cases hk : T.getD (t * 128 + s * 2) 0 = 0 ∧ T.getD (t * 128 + s * 2 + 1) 0 = 0
  ·cases hbit : s.testBit p with
   | true => exact least_hit hn ht hp6 hp ih hs hc hb hg hk.1 hk.2 hbit
   | false =>
    by_cases hcr : (cnt s : Int) < room
    ·exact least_room hn ht hp6 hp ih hs hc hb hg hk.1 hk.2 hbit hcr
    ·exact least_full h1r hn ht hp6 hp ih hs hc hb hg hk.1 hk.2 hbit hcr
  ·refine ⟨T, none, hg, Or.inl rfl, ?_⟩
   rw [set_self hb]
   rcases hg.ok t s (by omega) hs with h | h
   ·exact absurd h hk
   ·rw [← h.1, ← h.2]
    exact least_known hn ht hs hb hg rfl rfl hk
theorem good_zero {room : Int} {pages : List Int} : Good room pages (List.replicate 1536 0) := by
 refine ⟨by simp, fun t s ht hs => Or.inl ?_⟩
 simp only [List.getD_eq_getElem?_getD]
 constructor <;> (rw [List.getElem?_replicate]; split <;> rfl)
end Go.Proofs.YtcdhajbhpnbdkaaDoor
