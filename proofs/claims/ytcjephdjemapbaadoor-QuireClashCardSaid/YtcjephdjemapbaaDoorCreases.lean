/-
  kind, creases and Creases, by the pure evaluator.
  Conditions: none; lemmas.
-/
import Derived.Test.YtcjephdjemapbaaDoorPile
set_option linter.unusedSimpArgs false
set_option linter.unusedVariables false
namespace Go.Proofs.YtcjephdjemapbaaDoor
open Go.Abs Go.Pur
set_option maxRecDepth 100000
attribute [local simp] EK_region EK_seq EK_cond EK_block EK_blk EK_loop EK_exit EK.ex EK_ret EK_skip EK_nil EO_cons EO_nil EO1_true EO1_false EO2_some EO3_some EB_true EB_false pwanted poper pq pev Go.Pur.look pputT isAssign drOf pinit Tr.get_set lget pvOf_int pvOf_bool pvOf_str pvOf_nil rdv_ak notOwn_ak prt_ak loose_ak rdv_own rdv_fz rdv_bor rdv_rf rdv_pt rdv_v rdv_a rdv_t rdv_r rdv_p rdv_s rdv_f pbin plen pload ppart idxAddr pcond Nat.blt goInt_eq prun_not prun_neg mayLoad ER_ret ER_normal presL presOne moved stor okDrop settle_v settle_l settle_a settle_p settle_f noref_v noref_fz noref_a norefs_nil norefs_cons pclose given lowOf dropB Y0_keep pevParts stors pvCells pvCells.go vcells pfill reps zipParts ownFz pcells cellOK one psrcLen srcFits psrc takeP pgrow take getPl setPl mapL plEq elder isList lowP pevs frzs addP partAt ble_lim24 killV_v killV_a killV_t killV_f killV_i killV_p killV_s killV_un killV_dead killV_lfz killV_lbor killV_lown killV_rfz killV_rbor killV_lak killV_rak frzV_v frzV_a frzV_t frzV_f frzV_i frzV_p frzV_s frzV_un frzV_dead frzV_lfz frzV_lbor frzV_lown frzV_rfz frzV_rbor frzV_lak frzV_rak killCell_v killCell_a killCell_t killCell_f killCell_i killCell_p killCell_s killCell_un killCell_dead killCell_lfz killCell_lbor killCell_lown killCell_rfz killCell_rbor killCell_lak killCell_rak killV_lrf killV_lpt killV_rpt frzV_lrf frzV_lpt frzV_rpt killCell_lrft killCell_lptt killCell_rptt killCell_lrfc killCell_lptc killCell_rptc argv_lak argv_rak argv_v argv_a argv_p argv_f argv_fz argv_bor argv_rf argv_pt argv_rc argv_own mayTurn_none argvs pcallOp firm lowB refsTo_v refsTo_l refsTo_p refsTo_s refsTo_a refsTo_dead refsTo_nil refsTo_cons isOwn_lak ownFz_lak evSafe pskip plain pnewBlk fldAddr isOwn pput spliceP notOwn_fz notOwn_bor notOwn_own notOwn_rf notOwn_pt prt_fz prt_bor prt_own prt_rf prt_pt Go.Pur.freeze presM settles abin_and abin_or abin_andNot abin_mul abin_shr abin_shl abin_add abin_sub abin_eql abin_neq abin_lss abin_leq abin_gtr abin_geq hows pcallIn Y0_how Y0_part howOf partOf rdv_mown rdv_mfz rdv_mbor rdv_mrf killV_mown killV_mfz killV_mbor killV_mrf frzV_mown frzV_mfz frzV_mbor frzV_mrf killCell_mown killCell_mfz killCell_mbor killCell_mrf argv_mfz argv_mbor argv_mrf settle_m kls_v kls_l kls_a kls_t kls_r kls_p kls_s kls_f kls_i kls_it kls_un kls_dead kls_mown kls_mrf kls_mbor kls_mfz fzOf takable mapHere mapOwn mapTo flat toPlain toPlain.go ofFlat ofPair mapEs plook lookRes Y0_mv mvOf mvBlk premv Y0_fzm fzmOf poperX pconv
def tzN (s : Nat) : Nat := ((List.range 7).find? fun i => s.testBit i).getD 64
def tzI (s : Int) : Int := shrI .u64 (mulI .u64 (andI .u64 s (IntKind.u64.wrap (0 - s))) 285870213051353865) 58
theorem tz_tab {s : Nat} (h : s < 65) (h0 : s ≠ 0) : ∃ i, tzI s = (i : Nat) ∧ i < 64 ∧ tab64[i]? = some (tzN s : Int) ∧ tzN s < 7 ∧ 2 ^ tzN s ≤ s ∧ shrI .i64 s (tzN s) = ((s / 2 ^ tzN s : Nat) : Int) := by
 have : (List.range 65).all (fun s => decide (s = 0) || (decide (tzI s = ((tzI s).toNat : Nat)) && decide ((tzI s).toNat < 64) && decide (tab64[(tzI s).toNat]? = some (tzN s : Int)) && decide (tzN s < 7) && decide (2 ^ tzN s ≤ s) && decide (shrI .i64 s (tzN s) = ((s / 2 ^ tzN s : Nat) : Int)))) = true := by kernel_rfl
 rw [List.all_eq_true] at this
 have := this s (List.mem_range.2 h)
 simp only [Bool.or_eq_true, Bool.and_eq_true, decide_eq_true_eq] at this
 rcases this with h | h
 ·exact absurd h h0
 ·obtain ⟨⟨⟨⟨⟨a, b⟩, c⟩, d⟩, e⟩, f⟩ := h
  exact ⟨_, a, b, c, d, e, f⟩
theorem glob1 : Y0.glob[1]? = some (tab64.map fun n => PV.v (.int .u8 n)) := rfl
abbrev wv (n : Nat) : PV := .v (.int .u64 n)
theorem tz64_is {s : Nat} {hp : List (Option (List PV))} (h : s < 65) (h0 : s ≠ 0) : E Tryd.prog Y0 102 [wv s] hp = some (iv (tzN s), hp, none) := by
 obtain ⟨i, a, b, c, g, _⟩ := tz_tab h h0
 rw [E_bodyN 1 body102 rfl (by decide) rfl]
 simp only [Tryd.f102, Option.get_some]
 simp [tzI] at a
 have h1 : IntKind.i64.wrap (tzN s : Int) = tzN s := wrap64 (by omega) (by omega)
 have h2 : Nat.ble (i + 1) tab64.length = true := ble_true (show i + 1 ≤ 64 by omega)
 simp [keep102, h0, a, intIn_nat b, glob1, c, shape125, row5, conv53, h1, h2]
theorem tz_is {s : Nat} {hp : List (Option (List PV))} (h : s < 65) (h0 : s ≠ 0) : E Tryd.prog Y0 87 [wv s] hp = some (iv (tzN s), hp, none) := by
 rw [E_bodyN 1 body87 rfl (by decide) rfl]
 simp only [Tryd.f87, Option.get_some]
 simp [keep87, tz64_is h h0]
def kindL (l : List UInt8) (i : Nat) : UInt8 := if ((l.getD (l.length - 1 - tzN (i + 1)) 0 == 111) == ((i + 1) / 2 ^ tzN (i + 1) % 4 == 1)) = true then 118 else 104
theorem conv399 {z : Int} : prunP Tryd.prog (convert 3 99 (.int .i64 z)) = some (.int .u64 (IntKind.u64.wrap z)) := by kernel_rfl
theorem wrapu64 {n : Nat} (h : n < 18446744073709551616) : IntKind.u64.wrap (n : Int) = n := by
 simp [IntKind.wrap, IntKind.signed, IntKind.bits]
 omega
theorem kind_is {l : List UInt8} {i : Nat} {hp : List (Option (List PV))} (hl : l.length ≤ 6) (hi : i + 1 < 2 ^ l.length) : E Tryd.prog Y0 84 [sv (bs l), iv i] hp = some (uv (kindL l i).toNat, hp, none) := by
 have h64 : 2 ^ l.length ≤ 64 := Nat.pow_le_pow_right (n := 2) (by decide) hl
 have hk : kindL l i = if ((l.getD (l.length - 1 - tzN (i + 1)) 0 == 111) == ((i + 1) / 2 ^ tzN (i + 1) % 4 == 1)) = true then 118 else 104 := rfl
 have w1 := wrap_nat (show i < 1000000000000 by omega)
 generalize kindL l i = K at hk ⊢
 obtain ⟨S, hS⟩ : ∃ S, i + 1 = S := ⟨_, rfl⟩
 rw [hS] at hi hk w1
 obtain ⟨_, _, _, _, t1, t2, t3⟩ := tz_tab (s := S) (by omega) (by omega)
 have htz := fun hp => @tz_is S hp (by omega) (by omega)
 generalize tzN S = m at t1 t2 t3 htz hk
 have hml : m < l.length := (Nat.pow_lt_pow_iff_right (a := 2) (by decide)).1 (Nat.lt_of_le_of_lt t2 hi)
 have w2 := @wrapu64 S (by omega)
 have w3 : IntKind.i64.wrap ((l.length : Int) - 1) = l.length - 1 := wrap64 (by omega) (by omega)
 obtain ⟨q, hq⟩ : ∃ q, l.length - 1 - m = q := ⟨_, rfl⟩
 rw [hq] at hk
 have w4 : IntKind.i64.wrap ((l.length : Int) - 1 - m) = (q : Int) := by rw [wrap64 (by omega) (by omega)]; omega
 have hidx : q < l.length := by omega
 have q1 : pqIndex Tryd.prog 9 (sv (bs l)) (.int .i64 (q : Int)) = some (uv (l[q]).toNat) := by
  have := str_index (P := Tryd.prog) (t := 9) Tryd.underlying9 (s := bs l) (k := .i64) (i := q) (by rw [bs_size]; exact hidx)
  simp only [pqIndex, shape9, this]
  rfl
 have hg : l.getD q 0 = l[q] := by simp [List.getD_eq_getElem?_getD, hidx]
 rw [hg] at hk
 generalize l[q] = c at q1 hk
 have n1 : ((c.toNat : Int) = 111) ↔ c = 111 := by
  rw [show (111 : Int) = (((111 : UInt8).toNat : Nat) : Int) from rfl, Int.ofNat_inj]; exact UInt8.toNat_inj
 generalize S / 2 ^ m = d at t3 hk
 obtain ⟨e, he⟩ : ∃ e, d % 4 = e := ⟨_, rfl⟩
 rw [he] at hk
 have t4 : ((d : Nat) : Int).tmod 4 = (e : Int) := by rw [← he]; rfl
 rw [E_bodyN 2 body84 rfl (by decide) rfl]
 simp only [Tryd.f84, Option.get_some]
 simp only [wv] at htz
 by_cases e1 : c = 111
 ·have e1' := n1.2 e1
  by_cases e2 : e = 1
  ·have e2' : (e : Int) = 1 := by omega
   have : K = 118 := by rw [hk, e1, e2]; rfl
   subst this
   simp [keep84, shape9, bs_size, w1, w2, w3, w4, conv399, htz, q1, t3, t4, abin_rem, e1', e2', bool_eql]
  ·have e2' : ¬ (e : Int) = 1 := by omega
   have : K = 104 := by rw [hk, e1, show (e == 1) = false by simp [e2]]; rfl
   subst this
   simp [keep84, shape9, bs_size, w1, w2, w3, w4, conv399, htz, q1, t3, t4, abin_rem, e1', e2', bool_eql]
 ·have e1' : ¬ (c.toNat : Int) = 111 := fun h => e1 (n1.1 h)
  by_cases e2 : e = 1
  ·have e2' : (e : Int) = 1 := by omega
   have : K = 104 := by rw [hk, e2, show (c == 111) = false by simp [e1]]; rfl
   subst this
   simp [keep84, shape9, bs_size, w1, w2, w3, w4, conv399, htz, q1, t3, t4, abin_rem, e1', e2', bool_eql]
  ·have e2' : ¬ (e : Int) = 1 := by omega
   have : K = 118 := by rw [hk, show (c == 111) = false by simp [e1], show (e == 1) = false by simp [e2]]; rfl
   subst this
   simp [keep84, shape9, bs_size, w1, w2, w3, w4, conv399, htz, q1, t3, t4, abin_rem, e1', e2', bool_eql]
theorem pbytes_s {P : Program} {Y : Pol} {f : FuncId} {src dst e : TypeId} {x : Operand} {σ : St} {b off n cap : Nat} {cs r : List PV} {ns : List Int} (hs : P.underlying src = some (.slice e)) (he : P.underlying e = some (.int .u8)) (hd : P.underlying dst = some .string)
  (hx : pev Y f σ x = some (.s b off n cap)) (hb : σ.hp[b]? = some (some cs)) (ht : takeP n (cs.drop off) = some r) (hok : r.all cellOK = true) (hy : bytesP r = some ns) (hnil : prunP P (convert src dst (.slice none 0 0)) = some (.string ByteArray.empty)) :
  pbytes P Y f none src dst x σ = some (.v (.string (strOfNums ns))) := by
 unfold pbytes
 rw [hs, hd]
 simp only [mayConv, Bool.true_or]
 rw [he, hx]
 simp only [isList, psrcLen]
 cases n with
 | zero =>
  have : r = [] := by
   have h1 := (takeP_some ht).1
   simpa using h1
  subst this
  have : ns = [] := by simpa [bytesP] using hy.symm
  subst this
  simp only [hnil]
  rfl
 | succ n =>
  simp only [psrc, hb, Nat.mul_one, ht, hok, hy]
theorem bytesP_map : ∀ {m : List UInt8}, bytesP (m.map fun c => uv c.toNat) = some (m.map fun c => (c.toNat : Int))
 | [] => rfl
 | c :: m => by simp [bytesP, bytesP_map (m := m)]
theorem strOfNums_map {m : List UInt8} : strOfNums (m.map fun c => (c.toNat : Int)) = bs m := by
 unfold strOfNums
 congr 1
 rw [List.map_map]
 refine congrArg List.toArray ((List.map_congr_left fun c _ => ?_).trans (List.map_id _))
 simp
theorem conv799_nil : prunP Tryd.prog (convert 79 9 (.slice none 0 0)) = some (.string ByteArray.empty) := by kernel_rfl
def creasesL (l : List UInt8) : List UInt8 := (List.range (2 ^ l.length - 1)).map (kindL l)
theorem creases_is {l : List UInt8} {hp : List (Option (List PV))} (hl : l.length ≤ 6) : E Tryd.prog Y0 57 [sv (bs l)] hp = some (sv (bs (creasesL l)), hp, none) := by
 have h64 : 2 ^ l.length ≤ 64 := Nat.pow_le_pow_right (n := 2) (by decide) hl
 have h1 : 1 ≤ 2 ^ l.length := Nat.one_le_two_pow
 obtain ⟨N, hN⟩ : ∃ N, 2 ^ l.length - 1 = N := ⟨_, rfl⟩
 have w1 : IntKind.i64.wrap (shlI .i64 1 l.length - 1) = N := by
  have : ∀ k, k ≤ 6 → shlI .i64 1 (k : Nat) = ((2 ^ k : Nat) : Int) := by decide
  rw [this _ hl, wrap64 (by omega) (by omega)]
  omega
 rw [E_bodyN 1 body57 rfl (by decide) rfl]
 simp only [Tryd.f57, Option.get_some]
 have k1 : (Nat.ble N N && Nat.ble (N * 3) limit) = true := by rw [show Nat.ble (N * 3) limit = true from ble_true (by unfold limit; omega), show Nat.ble N N = true from ble_true (Nat.le_refl _)]; rfl
 simp [keep57, shape9, shape79, bs_size, w1, zero5, by5, k1]
 refine loop_ind (fun m σ => ∃ (j : Nat) (pad : List PV) (ts : Tr PV) (w : Option Nat), m + j = N ∧ pad.length + j = N ∧ (w = none ∨ ∃ k, w = some k ∧ hp.length ≤ k) ∧ σ = ⟨[], ts, hp ++ [some (((List.range j).map (kindL l)).map (fun c => uv c.toNat) ++ pad)], w⟩ ∧ ts.get 0 = some (sv (bs l)) ∧ ts.get 3 = some (.s hp.length 0 N N) ∧ ts.get 11 = some (iv N) ∧ ts.get 12 = some (iv j)) (n0 := N) ?_ ?_
 ·exact ⟨0, reps [.v (.int .u8 0)] N, _, none, rfl, by simp [reps_len1], .inl rfl, by simp; rfl, by simp, by simp, by simp, by simp⟩
 ·rintro m σ ⟨j, pad, ts, w, hm, hpad, hw, rfl, g0, g3, g11, g12⟩ ih
  rcases Nat.lt_or_ge j N with hj | hj
  ·have hjj : (j : Int) < N := by omega
   have w3 := wrap_nat (show j < 1000000000000 by omega)
   have kd := fun hp => @kind_is l j hp hl (by omega)
   have sp := fun vs h => @splice_app j (((List.range j).map (kindL l)).map (fun c => uv c.toNat)) vs pad (by simp) h
   have hpad2 : 1 ≤ pad.length := by omega
   have r1 : Nat.ble (j + 1) N = true := ble_true hj
   have fin := fun (ts' : Tr PV) (w' : Option Nat) (hw' : w' = none ∨ ∃ k, w' = some k ∧ hp.length ≤ k) (a0 : ts'.get 0 = some (sv (bs l))) (a3 : ts'.get 3 = some (.s hp.length 0 N N)) (a11 : ts'.get 11 = some (iv N)) (a12 : ts'.get 12 = some (iv ((j : Int) + 1))) =>
    ih (m - 1) ⟨[], ts', hp ++ [some (((List.range j).map (kindL l)).map (fun c => uv c.toNat) ++ uv (kindL l j).toNat :: pad.tail)], w'⟩ (by omega) ⟨j + 1, pad.tail, ts', w', by omega, by rw [List.length_tail]; omega, hw', by simp [List.range_succ], a0, a3, a11, by rw [a12]; simp⟩
   clear ih
   simp [-spliceP, -List.map_map, keep57, shape9, shape79, g0, g3, g11, g12, hjj, w3, kd, intIn_nat hj, r1, sz5, sp, hpad2, gAt0, sAt0]
   exact fin _ _ (by rcases hw with rfl | ⟨k, rfl, hk⟩ <;> simp <;> exact Nat.le_min.2 ⟨hk, Nat.le_refl _⟩) (by simp [g0]) (by simp [g3]) (by simp [g11]) (by simp)
  ·obtain rfl : j = N := by omega
   have : pad = [] := List.eq_nil_of_length_eq_zero (by omega)
   subst this
   have hcl : ((List.range j).map (kindL l)).map (fun c => uv c.toNat) = (creasesL l).map fun c => uv c.toNat := by rw [creasesL, hN]
   have pb := fun x (σ : St) hx (hb : σ.hp[hp.length]? = some (some ((creasesL l).map fun c => uv c.toNat))) => pbytes_s (P := Tryd.prog) (Y := Y0) (f := 57) (src := 79) (dst := 9) (e := 5) (x := x) (σ := σ) (b := hp.length) (off := 0) (n := j) (cap := j) (r := (creasesL l).map fun c => uv c.toNat) Tryd.underlying79 Tryd.underlying5 Tryd.underlying9 hx hb (takeP_full (by simp [creasesL, hN])) (by rw [List.all_eq_true]; intro v hv; obtain ⟨i, _, rfl⟩ := List.mem_map.1 hv; rfl) bytesP_map conv799_nil
   rw [strOfNums_map] at pb
   rw [List.append_nil, hcl]
   simp [-List.map_map, keep57, shape9, shape79, g0, g3, g11, g12]
   rw [pb _ _ (by simp [keep57]) (by simp)]
   have k3 : Nat.ble (hp.length + 1) hp.length = false := by rw [nble]; simp
   have k8 : ∀ k, hp.length ≤ k → Nat.ble (k + 1) hp.length = false := fun k hk => by rw [nble]; simp; omega
   simp [keep57]
   rcases hw with rfl | ⟨k, rfl, hk⟩
   ·simp
   ·simp [k8 k hk]
end Go.Proofs.YtcjephdjemapbaaDoor
