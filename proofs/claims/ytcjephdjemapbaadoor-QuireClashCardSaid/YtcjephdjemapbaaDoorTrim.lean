/-
  strings.Trim by a set of ASCII letters, by the pure evaluator.
  Conditions: none; lemmas.
-/
import Derived.Test.YtcjephdjemapbaaDoorLetters
set_option linter.unusedSimpArgs false
set_option linter.unusedVariables false
namespace Go.Proofs.YtcjephdjemapbaaDoor
open Go.Abs Go.Pur
set_option maxRecDepth 100000
attribute [local simp] EK_region EK_seq EK_cond EK_block EK_blk EK_loop EK_exit EK.ex EK_ret EK_skip EK_nil EO_cons EO_nil EO1_true EO1_false EO2_some EO3_some EB_true EB_false pwanted poper pq pev Go.Pur.look pputT isAssign drOf pinit Tr.get_set lget pvOf_int pvOf_bool pvOf_str pvOf_nil rdv_ak notOwn_ak prt_ak loose_ak rdv_own rdv_fz rdv_bor rdv_rf rdv_pt rdv_v rdv_a rdv_t rdv_r rdv_p rdv_s rdv_f pbin plen pload ppart idxAddr pcond Nat.blt goInt_eq prun_not prun_neg mayLoad ER_ret ER_normal presL presOne moved stor okDrop settle_v settle_l settle_a settle_p settle_f noref_v noref_fz noref_a norefs_nil norefs_cons pclose given lowOf dropB Y0_keep pevParts stors pvCells pvCells.go vcells pfill reps zipParts ownFz pcells cellOK one psrcLen srcFits psrc takeP pgrow take getPl setPl mapL plEq elder isList lowP pevs frzs addP partAt ble_lim24 killV_v killV_a killV_t killV_f killV_i killV_p killV_s killV_un killV_dead killV_lfz killV_lbor killV_lown killV_rfz killV_rbor killV_lak killV_rak frzV_v frzV_a frzV_t frzV_f frzV_i frzV_p frzV_s frzV_un frzV_dead frzV_lfz frzV_lbor frzV_lown frzV_rfz frzV_rbor frzV_lak frzV_rak killCell_v killCell_a killCell_t killCell_f killCell_i killCell_p killCell_s killCell_un killCell_dead killCell_lfz killCell_lbor killCell_lown killCell_rfz killCell_rbor killCell_lak killCell_rak killV_lrf killV_lpt killV_rpt frzV_lrf frzV_lpt frzV_rpt killCell_lrft killCell_lptt killCell_rptt killCell_lrfc killCell_lptc killCell_rptc argv_lak argv_rak argv_v argv_a argv_p argv_f argv_fz argv_bor argv_rf argv_pt argv_rc argv_own mayTurn_none argvs pcallOp firm lowB refsTo_v refsTo_l refsTo_p refsTo_s refsTo_a refsTo_dead refsTo_nil refsTo_cons isOwn_lak ownFz_lak evSafe pskip plain pnewBlk fldAddr isOwn pput spliceP notOwn_fz notOwn_bor notOwn_own notOwn_rf notOwn_pt prt_fz prt_bor prt_own prt_rf prt_pt Go.Pur.freeze presM settles abin_and abin_or abin_andNot abin_mul abin_shr abin_shl abin_add abin_sub abin_eql abin_neq abin_lss abin_leq abin_gtr abin_geq hows pcallIn Y0_how Y0_part howOf partOf rdv_mown rdv_mfz rdv_mbor rdv_mrf killV_mown killV_mfz killV_mbor killV_mrf frzV_mown frzV_mfz frzV_mbor frzV_mrf killCell_mown killCell_mfz killCell_mbor killCell_mrf argv_mfz argv_mbor argv_mrf settle_m kls_v kls_l kls_a kls_t kls_r kls_p kls_s kls_f kls_i kls_it kls_un kls_dead kls_mown kls_mrf kls_mbor kls_mfz fzOf takable mapHere mapOwn mapTo flat toPlain toPlain.go ofFlat ofPair mapEs plook lookRes Y0_mv mvOf mvBlk premv Y0_fzm fzmOf poperX pconv
abbrev bv (b : Bool) : PV := .v (.bool b)
def setCells (m : List UInt8) : List PV := (List.range 256).map fun i => bv (m.any fun c => c.toNat == i)
theorem setCells_len {m : List UInt8} : (setCells m).length = 256 := by simp [setCells]
theorem setCells_get {m : List UInt8} {i : Nat} (h : i < 256) : (setCells m)[i]? = some (bv (m.any fun c => c.toNat == i)) := by simp [setCells, h]
theorem setCells_set {m : List UInt8} {c : UInt8} : (setCells m).set c.toNat (bv true) = setCells (m ++ [c]) := by
 refine List.ext_getElem (by simp [setCells]) fun i h1 h2 => ?_
 have hi : i < 256 := by simpa [setCells] using h2
 rw [List.getElem_set]
 by_cases e : c.toNat = i
 ·simp [setCells, e]
 ·simp [setCells, e]
theorem splice_set {off : Nat} {v : PV} {cs : List PV} (h : off < cs.length) : spliceP off [v] cs = some (cs.set off v) := by
 unfold spliceP
 rw [show Nat.ble (off + [v].length) cs.length = true from ble_true h]
 simp only []
 rw [List.set_eq_take_append_cons_drop, if_pos h]
 simp
theorem splice_all {vs cs : List PV} (h : cs.length = vs.length) : spliceP 0 vs cs = some vs := by
 unfold spliceP
 rw [show Nat.ble (0 + vs.length) cs.length = true from ble_true (by omega)]
 simp [h]
theorem takeP_len : ∀ {cs : List PV}, takeP cs.length cs = some cs
 | [] => rfl
 | c :: cs => by show takeP (cs.length + 1) _ = _; simp only [takeP, takeP_len]
theorem takeP_full {n : Nat} {cs : List PV} (h : cs.length = n) : takeP n cs = some cs := by subst h; exact takeP_len
theorem setCells_isOwn {m : List UInt8} : (setCells m).any isOwn = false := by
 rw [List.any_eq_false]
 intro v hv
 obtain ⟨i, _, rfl⟩ := List.mem_map.1 hv
 simp [isOwn]
theorem setCells_one {m : List UInt8} : (setCells m).all one = true := by
 rw [List.all_eq_true]
 intro v hv
 obtain ⟨i, _, rfl⟩ := List.mem_map.1 hv
 rfl
theorem go_plain {b : Nat} : ∀ {cs : List PV}, (∀ v ∈ cs, ∃ x, v = .v x) → refsTo.go b cs = true
 | [], _ => rfl
 | c :: cs, h => by
  obtain ⟨x, rfl⟩ := h c (by simp)
  simp [refsTo.go, refsTo, go_plain fun v hv => h v (List.mem_cons_of_mem _ hv)]
theorem norefs_plain : ∀ {cs : List PV}, (∀ v ∈ cs, ∃ x, v = .v x) → noref.norefs cs = true
 | [], _ => rfl
 | c :: cs, h => by
  obtain ⟨x, rfl⟩ := h c (by simp)
  simp [noref.norefs, noref, norefs_plain fun v hv => h v (List.mem_cons_of_mem _ hv)]
theorem setCells_plain {m : List UInt8} : ∀ v ∈ setCells m, ∃ x, v = .v x := fun v hv => by
 obtain ⟨i, _, rfl⟩ := List.mem_map.1 hv
 exact ⟨_, rfl⟩
theorem setCells_refs {b : Nat} {m : List UInt8} : refsTo.go b (setCells m) = true := go_plain setCells_plain
noncomputable def Z86 : Value := (zeroOf Tryd.prog 86).get (by kernel_rfl)
theorem zero86 : zeroOf Tryd.prog 86 = some Z86 := (Option.some_get _).symm
theorem pv86 : pvCells Z86 = some (setCells []) := by kernel_rfl
theorem ascii_is {l : List UInt8} {hp : List (Option (List PV))} (hl : ∀ c ∈ l, c.toNat < 128) (h1 : l.length < 1000) : E Tryd.prog Y0 75 [sv (bs l)] hp = some (.t [.a (setCells l), bv true], hp, none) := by
 rw [E_bodyN 1 body75 rfl (by decide) rfl]
 simp only [Tryd.f75, Option.get_some]
 simp [keep75, -pvCells, zero86, pv86]
 refine loop_ind (fun m σ => ∃ (j : Nat) (ts : Tr PV) (w : Option Nat), m + j = l.length ∧ (w = none ∨ w = some hp.length) ∧ σ = ⟨[], ts, hp ++ [some (setCells (l.take j))], w⟩ ∧ ts.get 0 = some (sv (bs l)) ∧ ts.get 2 = some (.p hp.length 0) ∧ ts.get 4 = some (.v (.int .i64 j))) (n0 := l.length) ?_ ?_
 ·exact ⟨0, _, none, rfl, .inl rfl, rfl, by simp, by simp, by simp⟩
 ·rintro m σ ⟨j, ts, w, hm, hw, rfl, g0, g2, g4⟩ ih
  rcases Nat.lt_or_ge j l.length with hj | hj
  ·have hjj : (j : Int) < l.length := by omega
   have w3 := wrap_nat (show j < 1000000000000 by omega)
   have q1 : pqIndex Tryd.prog 9 (sv (bs l)) (.int .i64 j) = some (uv (l[j]).toNat) := by
    have := str_index (P := Tryd.prog) (t := 9) Tryd.underlying9 (s := bs l) (k := .i64) (i := j) (by rw [bs_size]; exact hj)
    simp only [pqIndex, shape9, this]
    rfl
   have q2 : l.take (j + 1) = l.take j ++ [l[j]] := by rw [List.take_add_one, List.getElem?_eq_getElem hj]; rfl
   have hc := hl _ (List.getElem_mem hj)
   generalize l[j] = c at q1 q2 hc
   have q3 := @setCells_set (l.take j) c
   rw [← q2] at q3
   have q4 : spliceP c.toNat [bv true] (setCells (l.take j)) = some (setCells (l.take (j + 1))) := by rw [splice_set (by rw [setCells_len]; omega), q3]
   simp [-spliceP, keep75, shape9, shape86, bs_size, g0, g2, g4, hjj, q1, w3, q4, show ¬ (128 : Int) ≤ c.toNat by omega, intIn_nat (show c.toNat < 256 by omega), gAt0, sAt0, sz4]
   exact ih (m - 1) _ (by omega) ⟨j + 1, _, _, by omega, by rcases hw with rfl | rfl <;> simp, rfl, by simp [g0], by simp [g2], by simp⟩
  ·rw [List.take_of_length_le hj]
   simp [-spliceP, keep75, shape9, shape86, bs_size, g0, g2, g4, show ¬ (j : Int) < l.length by omega, gAt0, sAt0, row86, sz86, takeP_full setCells_len, setCells_isOwn, setCells_one, splice_all, setCells_len, setCells_refs]
   have k3 : Nat.ble (hp.length + 1) hp.length = false := by rw [nble]; simp
   rcases hw with rfl | rfl <;> simp [norefs_plain setCells_plain, k3]
end Go.Proofs.YtcjephdjemapbaaDoor
