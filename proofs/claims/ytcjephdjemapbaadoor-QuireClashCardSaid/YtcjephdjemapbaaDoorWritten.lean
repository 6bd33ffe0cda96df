/-
  quire's check of letters, by the pure evaluator.
  Conditions: none; lemmas.
-/
import Derived.Test.YtcjephdjemapbaaDoorTrim
set_option linter.unusedSimpArgs false
set_option linter.unusedVariables false
namespace Go.Proofs.YtcjephdjemapbaaDoor
open Go.Abs Go.Pur
set_option maxRecDepth 100000
attribute [local simp] EK_region EK_seq EK_cond EK_block EK_blk EK_loop EK_exit EK.ex EK_ret EK_skip EK_nil EO_cons EO_nil EO1_true EO1_false EO2_some EO3_some EB_true EB_false pwanted poper pq pev Go.Pur.look pputT isAssign drOf pinit Tr.get_set lget pvOf_int pvOf_bool pvOf_str pvOf_nil rdv_ak notOwn_ak prt_ak loose_ak rdv_own rdv_fz rdv_bor rdv_rf rdv_pt rdv_v rdv_a rdv_t rdv_r rdv_p rdv_s rdv_f pbin plen pload ppart idxAddr pcond Nat.blt goInt_eq prun_not prun_neg mayLoad ER_ret ER_normal presL presOne moved stor okDrop settle_v settle_l settle_a settle_p settle_f noref_v noref_fz noref_a norefs_nil norefs_cons pclose given lowOf dropB Y0_keep pevParts stors pvCells pvCells.go vcells pfill reps zipParts ownFz pcells cellOK one psrcLen srcFits psrc takeP pgrow take getPl setPl mapL plEq elder isList lowP pevs frzs addP partAt ble_lim24 killV_v killV_a killV_t killV_f killV_i killV_p killV_s killV_un killV_dead killV_lfz killV_lbor killV_lown killV_rfz killV_rbor killV_lak killV_rak frzV_v frzV_a frzV_t frzV_f frzV_i frzV_p frzV_s frzV_un frzV_dead frzV_lfz frzV_lbor frzV_lown frzV_rfz frzV_rbor frzV_lak frzV_rak killCell_v killCell_a killCell_t killCell_f killCell_i killCell_p killCell_s killCell_un killCell_dead killCell_lfz killCell_lbor killCell_lown killCell_rfz killCell_rbor killCell_lak killCell_rak killV_lrf killV_lpt killV_rpt frzV_lrf frzV_lpt frzV_rpt killCell_lrft killCell_lptt killCell_rptt killCell_lrfc killCell_lptc killCell_rptc argv_lak argv_rak argv_v argv_a argv_p argv_f argv_fz argv_bor argv_rf argv_pt argv_rc argv_own mayTurn_none argvs pcallOp firm lowB refsTo_v refsTo_l refsTo_p refsTo_s refsTo_a refsTo_dead refsTo_nil refsTo_cons isOwn_lak ownFz_lak evSafe pskip plain pnewBlk fldAddr isOwn pput spliceP notOwn_fz notOwn_bor notOwn_own notOwn_rf notOwn_pt prt_fz prt_bor prt_own prt_rf prt_pt Go.Pur.freeze presM settles abin_and abin_or abin_andNot abin_mul abin_shr abin_shl abin_add abin_sub abin_eql abin_neq abin_lss abin_leq abin_gtr abin_geq hows pcallIn Y0_how Y0_part howOf partOf rdv_mown rdv_mfz rdv_mbor rdv_mrf killV_mown killV_mfz killV_mbor killV_mrf frzV_mown frzV_mfz frzV_mbor frzV_mrf killCell_mown killCell_mfz killCell_mbor killCell_mrf argv_mfz argv_mbor argv_mrf settle_m kls_v kls_l kls_a kls_t kls_r kls_p kls_s kls_f kls_i kls_it kls_un kls_dead kls_mown kls_mrf kls_mbor kls_mfz fzOf takable mapHere mapOwn mapTo flat toPlain toPlain.go ofFlat ofPair mapEs plook lookRes Y0_mv mvOf mvBlk premv Y0_fzm fzmOf poperX pconv
theorem contains_is {m : List UInt8} {c : UInt8} {b : Nat} {hp : List (Option (List PV))} (hb : hp[b]? = some (some (setCells m))) : E Tryd.prog Y0 88 [.p b 0, uv c.toNat] hp = some (bv (decide (c ∈ m)), hp, none) := by
 rw [E_bodyN 2 body88 rfl (by decide) rfl]
 simp only [Tryd.f88, Option.get_some]
 have h1 := @setCells_get m c.toNat c.toNat_lt
 have h2 : (m.any fun d => d.toNat == c.toNat) = decide (c ∈ m) := by
  rw [Bool.eq_iff_iff]
  simp [UInt8.toNat_inj]
 rw [h2] at h1
 simp [keep88, shape86, row4, hb, intIn_nat c.toNat_lt, h1]
theorem bs_take {l : List UInt8} {k : Nat} : (bs l).extract 0 k = bs (l.take k) := by
 apply ByteArray.ext
 simp [ByteArray.data_extract]
theorem bs_drop {l : List UInt8} {k : Nat} : (bs l).extract k (bs l).size = bs (l.drop k) := by
 apply ByteArray.ext
 rw [ByteArray.data_extract, bs_size]
 simp
 exact List.take_of_length_le (by simp)
def trimR (m l : List UInt8) : List UInt8 := (l.reverse.dropWhile (· ∈ m)).reverse
def trimL (m l : List UInt8) : List UInt8 := l.dropWhile (· ∈ m)
theorem trimRight_is {m l : List UInt8} {b : Nat} {hp : List (Option (List PV))} (hl : l.length < 1000) (hb : hp[b]? = some (some (setCells m))) : E Tryd.prog Y0 77 [sv (bs l), .p b 0] hp = some (sv (bs (trimR m l)), hp, none) := by
 rw [E_bodyN 2 body77 rfl (by decide) rfl]
 simp only [Tryd.f77, Option.get_some]
 simp [keep77]
 generalize hR : trimR m l = R
 refine loop_ind (fun n σ => ∃ (cur : List UInt8) (ts : Tr PV), n = cur.length ∧ cur.length < 1000 ∧ trimR m cur = R ∧ σ = ⟨[], ts, hp, none⟩ ∧ ts.get 0 = some (sv (bs cur)) ∧ ts.get 1 = some (.p b 0)) (n0 := l.length) ?_ ?_
 ·exact ⟨l, _, rfl, hl, hR, rfl, by simp, by simp⟩
 ·rintro n σ ⟨cur, ts, rfl, hc, hR, rfl, g0, g1⟩ ih
  rcases List.eq_nil_or_concat cur with rfl | ⟨c0, c, e⟩
  ·have : R = [] := hR.symm
   subst this
   simp [keep77, shape9, bs_size, g0, g1]
  ·rw [List.concat_eq_append] at e
   subst e
   have hlen : (c0 ++ [c]).length = c0.length + 1 := by simp
   have w3 : IntKind.i64.wrap (c0.length : Int) = c0.length := wrap64 (by omega) (by omega)
   have q1 : pqIndex Tryd.prog 9 (sv (bs (c0 ++ [c]))) (.int .i64 c0.length) = some (uv c.toNat) := by
    have := str_index (P := Tryd.prog) (t := 9) Tryd.underlying9 (s := bs (c0 ++ [c])) (k := .i64) (i := c0.length) (by rw [bs_size]; simp)
    simp only [pqIndex, shape9, this]
    simp [bs_get, pvOf, plain]
   have q2 : pqSlice Tryd.prog 9 (sv (bs (c0 ++ [c]))) none (some (.int .i64 c0.length)) none = some (sv (bs c0)) := by
    have := str_to (P := Tryd.prog) (t := 9) Tryd.underlying9 (s := bs (c0 ++ [c])) (k := .i64) (b := c0.length) (by rw [bs_size]; simp)
    simp only [pqSlice, shape9, this]
    simp [bs_take, pvOf, plain]
   by_cases hcm : c ∈ m
   ·have hR' : trimR m c0 = R := by rw [← hR]; simp [trimR, hcm]
    simp [keep77, shape9, bs_size, g0, g1, w3, q1, q2, contains_is hb, hcm, optPlain]
    exact ih _ _ (by simp) ⟨c0, _, rfl, by omega, hR', rfl, by simp, by simp [g1]⟩
   ·have hR' : R = c0 ++ [c] := by rw [← hR]; simp [trimR, hcm]
    subst hR'
    simp [keep77, shape9, bs_size, g0, g1, w3, q1, q2, contains_is hb, hcm, optPlain]
theorem trimLeft_is {m l : List UInt8} {b : Nat} {hp : List (Option (List PV))} (hl : l.length < 1000) (hb : hp[b]? = some (some (setCells m))) : E Tryd.prog Y0 76 [sv (bs l), .p b 0] hp = some (sv (bs (trimL m l)), hp, none) := by
 rw [E_bodyN 2 body76 rfl (by decide) rfl]
 simp only [Tryd.f76, Option.get_some]
 simp [keep76]
 generalize hR : trimL m l = R
 refine loop_ind (fun n σ => ∃ (cur : List UInt8) (ts : Tr PV), n = cur.length ∧ cur.length < 1000 ∧ trimL m cur = R ∧ σ = ⟨[], ts, hp, none⟩ ∧ ts.get 0 = some (sv (bs cur)) ∧ ts.get 1 = some (.p b 0)) (n0 := l.length) ?_ ?_
 ·exact ⟨l, _, rfl, hl, hR, rfl, by simp, by simp⟩
 ·rintro n σ ⟨cur, ts, rfl, hc, hR, rfl, g0, g1⟩ ih
  cases cur with
  | nil =>
   have : R = [] := hR.symm
   subst this
   simp [keep76, shape9, bs_size, g0, g1]
  | cons c cur =>
   have q1 : pqIndex Tryd.prog 9 (sv (bs (c :: cur))) (.int .i64 0) = some (uv c.toNat) := by
    have := str_index (P := Tryd.prog) (t := 9) Tryd.underlying9 (s := bs (c :: cur)) (k := .i64) (i := 0) (by rw [bs_size]; simp)
    have e : ((0 : Nat) : Int) = 0 := rfl
    rw [e] at this
    simp only [pqIndex, shape9, this]
    simp [bs_get, pvOf, plain]
   have q2 : pqSlice Tryd.prog 9 (sv (bs (c :: cur))) (some (.int .i64 1)) none none = some (sv (bs cur)) := by
    have := str_from (P := Tryd.prog) (t := 9) Tryd.underlying9 (s := bs (c :: cur)) (k := .i64) (a := 1) (by rw [bs_size]; simp)
    have e : ((1 : Nat) : Int) = 1 := rfl
    rw [e] at this
    simp only [pqSlice, shape9, this]
    simp [bs_drop, pvOf, plain]
   by_cases hcm : c ∈ m
   ·have hR' : trimL m cur = R := by rw [← hR]; simp [trimL, hcm]
    simp [keep76, shape9, bs_size, g0, g1, q1, q2, contains_is hb, hcm, optPlain, show (0 : Int) < cur.length + 1 by omega]
    exact ih _ _ (by simp) ⟨cur, _, rfl, by simp at hc; omega, hR', rfl, by simp, by simp [g1]⟩
   ·have hR' : R = c :: cur := by rw [← hR]; simp [trimL, hcm]
    subst hR'
    simp [keep76, shape9, bs_size, g0, g1, q1, q2, contains_is hb, hcm, optPlain, show (0 : Int) < cur.length + 1 by omega]
theorem trimR_len {m l : List UInt8} : (trimR m l).length ≤ l.length := by
 unfold trimR
 rw [List.length_reverse]
 have := (List.dropWhile_sublist (· ∈ m) (l := l.reverse)).length_le
 simpa using this
theorem bs_eq {l m : List UInt8} : (bs l = bs m) ↔ l = m := ⟨fun h => by simpa using congrArg (fun b : ByteArray => b.data.toList) h, fun h => by rw [h]⟩
def trimB (m l : List UInt8) : List UInt8 := trimL m (trimR m l)
theorem trim_is {m l : List UInt8} {hp : List (Option (List PV))} (hl : l.length < 1000) (hm : ∀ c ∈ m, c.toNat < 128) (h2 : m.length = 2) : E Tryd.prog Y0 43 [sv (bs l), sv (bs m)] hp = some (sv (bs (trimB m l)), hp, none) := by
 rw [E_bodyN 2 body43 rfl (by decide) rfl]
 simp only [Tryd.f43, Option.get_some]
 have em : ByteArray.mk #[] = bs [] := rfl
 have hm0 : ¬ m = [] := fun e => by subst e; cases h2
 by_cases h0 : l = []
 ·subst h0
  simp [keep43, shape9, abin_seql, bs_size, h2, trimB, trimL, trimR]
 ·have f1 := @trimR_len m l
  have k3 : Nat.ble (hp.length + 1) hp.length = false := by rw [nble]; simp
  simp [k3, -pvCells, -spliceP, keep43, shape9, abin_seql, bs_size, h2, em, bs_eq, h0, hm0, ascii_is hm (by omega), zero86, pv86, sz86, setCells_len, setCells_one, setCells_refs, splice_all, setCells_isOwn, gAt0, sAt0, trimRight_is hl (show (hp ++ [some (setCells m)])[hp.length]? = some (some (setCells m)) by simp), trimLeft_is (show (trimR m l).length < 1000 by omega) (show (hp ++ [some (setCells m)])[hp.length]? = some (some (setCells m)) by simp), trimB]
theorem dropWhile_nil {α : Type} {p : α → Bool} : ∀ {l : List α}, l.dropWhile p = [] ↔ ∀ x ∈ l, p x = true
 | [] => by simp
 | x :: l => by
  rw [List.dropWhile_cons]
  cases h : p x with
  | true => simp [h, dropWhile_nil (p := p) (l := l)]
  | false => simp [h]
theorem trimB_nil {m l : List UInt8} : trimB m l = [] ↔ ∀ c ∈ l, c ∈ m := by
 unfold trimB trimL trimR
 rw [dropWhile_nil]
 constructor
 ·intro h c hc
  by_cases hcm : c ∈ m
  ·exact hcm
  ·have h2 : c ∈ (List.dropWhile (fun x => decide (x ∈ m)) l.reverse).reverse := by
    rw [List.mem_reverse]
    have h3 := List.takeWhile_append_dropWhile (p := fun x => decide (x ∈ m)) (l := l.reverse)
    have h4 : c ∈ l.reverse := List.mem_reverse.2 hc
    rw [← h3, List.mem_append] at h4
    rcases h4 with h4 | h4
    ·have := List.all_eq_true.1 (List.all_takeWhile (p := fun x => decide (x ∈ m)) (l := l.reverse)) c h4
     simp at this; exact absurd this hcm
    ·exact h4
   simpa using h c h2
 ·intro h c hc
  rw [List.mem_reverse] at hc
  have := (List.dropWhile_sublist (fun x => decide (x ∈ m)) (l := l.reverse)).subset hc
  simpa using h c (List.mem_reverse.1 this)
theorem written_is {l : List UInt8} {most : Nat} {a b : UInt8} {hp : List (Option (List PV))} (hm : most < 1000) (ha : a.toNat < 128) (hb : b.toNat < 128) : E Tryd.prog Y0 60 [sv (bs l), .v (.int .i64 most), sv (bs [a, b])] hp = some (.v (.int .i64 (lettersE l most a b)), hp, none) := by
 rw [E_bodyN 3 body60 rfl (by decide) rfl]
 simp only [Tryd.f60, Option.get_some]
 have em : ByteArray.mk #[] = bs [] := rfl
 by_cases h : (most : Int) < l.length
 ·have : lettersE l most a b = 19 := by unfold lettersE; rw [if_pos h]
  rw [this]
  simp [keep60, shape9, bs_size, h]
 ·have ht := fun hp => @trim_is [a, b] l hp (by omega) (by intro c hc; simp at hc; rcases hc with rfl | rfl <;> assumption) rfl
  have hle : lettersE l most a b = if l.all (fun c => c == a || c == b) then 0 else 10 := by unfold lettersE; rw [if_neg h]
  have hall : l.all (fun c => c == a || c == b) = decide (trimB [a, b] l = []) := by
   rw [Bool.eq_iff_iff, decide_eq_true_eq, trimB_nil, List.all_eq_true]
   simp
  rw [hall] at hle
  rw [hle]
  by_cases h2 : trimB [a, b] l = []
  ·simp [keep60, shape9, bs_size, h, ht, abin_sneq, em, bs_eq, h2]
  ·simp [keep60, shape9, bs_size, h, ht, abin_sneq, em, bs_eq, h2]
def checkE (l : List UInt8) : Int := lettersE l 6 111 117
theorem check_is {l : List UInt8} {hp : List (Option (List PV))} : E Tryd.prog Y0 27 [sv (bs l)] hp = some (.v (.int .i64 (checkE l)), hp, none) := by
 rw [E_bodyN 1 body27 rfl (by decide) rfl]
 simp only [Tryd.f27, Option.get_some]
 have := fun hp => @written_is l 6 111 117 hp (by decide) (by decide) (by decide)
 have e : ((6 : Nat) : Int) = 6 := rfl
 simp only [e] at this
 simp [keep27, show ByteArray.mk #[111, 117] = bs [111, 117] from rfl, this, checkE]
end Go.Proofs.YtcjephdjemapbaaDoor
