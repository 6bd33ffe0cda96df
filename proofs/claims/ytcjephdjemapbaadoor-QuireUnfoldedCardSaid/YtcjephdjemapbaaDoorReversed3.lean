/-
  Lists are reversed in place: the walks.
  Conditions: none; definitions and lemmas.
-/
import Derived.Test.YtcjephdjemapbaaDoorRef1
import Derived.Test.YtcjephdjemapbaaDoorTrim
set_option linter.unusedSimpArgs false
set_option linter.unusedVariables false
namespace Go.Proofs.YtcjephdjemapbaaDoor
open Go.Abs Go.Pur
set_option maxRecDepth 100000
set_option maxHeartbeats 2000000
attribute [local simp] EK_region EK_seq EK_cond EK_block EK_blk EK_loop EK_exit EK.ex EK_ret EK_skip EK_nil EO_cons EO_nil EO1_true EO1_false EO2_some EO3_some EB_true EB_false pwanted poper pq pev Go.Pur.look pputT isAssign drOf pinit Tr.get_set lget pvOf_int pvOf_bool pvOf_str pvOf_nil rdv_ak notOwn_ak prt_ak loose_ak rdv_own rdv_fz rdv_bor rdv_rf rdv_pt rdv_v rdv_a rdv_t rdv_r rdv_p rdv_s rdv_f pbin plen pload ppart idxAddr pcond Nat.blt goInt_eq prun_not prun_neg mayLoad ER_ret ER_normal presL presOne moved stor okDrop settle_v settle_l settle_a settle_p settle_f noref_v noref_fz noref_a norefs_nil norefs_cons pclose given dropB Y0_keep pevParts stors pvCells pvCells.go vcells pfill reps zipParts ownFz pcells cellOK one psrcLen srcFits psrc takeP pgrow take getPl setPl mapL plEq elder isList lowP pevs frzs addP partAt ble_lim24 killV_v killV_a killV_t killV_f killV_i killV_p killV_s killV_un killV_dead killV_lfz killV_lbor killV_lown killV_rfz killV_rbor killV_lak killV_rak frzV_v frzV_a frzV_t frzV_f frzV_i frzV_p frzV_s frzV_un frzV_dead frzV_lfz frzV_lbor frzV_lown frzV_rfz frzV_rbor frzV_lak frzV_rak killCell_v killCell_a killCell_t killCell_f killCell_i killCell_p killCell_s killCell_un killCell_dead killCell_lfz killCell_lbor killCell_lown killCell_rfz killCell_rbor killCell_lak killCell_rak killV_lrf killV_lpt killV_rpt frzV_lrf frzV_lpt frzV_rpt killCell_lrft killCell_lptt killCell_rptt killCell_lrfc killCell_lptc killCell_rptc argv_lak argv_rak argv_v argv_a argv_p argv_f argv_fz argv_bor argv_rf argv_pt argv_rc argv_own mayTurn_none argvs pcallOp firm refsTo_v refsTo_l refsTo_p refsTo_s refsTo_a refsTo_dead refsTo_nil refsTo_cons isOwn_lak ownFz_lak evSafe pskip plain pnewBlk fldAddr isOwn pput notOwn_fz notOwn_bor notOwn_own notOwn_rf notOwn_pt prt_fz prt_bor prt_own prt_rf prt_pt Go.Pur.freeze presM settles abin_and abin_or abin_andNot abin_mul abin_shr abin_shl abin_add abin_sub abin_eql abin_neq abin_lss abin_leq abin_gtr abin_geq hows pcallIn Y0_how Y0_part howOf partOf rdv_mown rdv_mfz rdv_mbor rdv_mrf killV_mown killV_mfz killV_mbor killV_mrf frzV_mown frzV_mfz frzV_mbor frzV_mrf killCell_mown killCell_mfz killCell_mbor killCell_mrf argv_mfz argv_mbor argv_mrf settle_m kls_v kls_l kls_a kls_t kls_r kls_p kls_s kls_f kls_i kls_it kls_un kls_dead kls_mown kls_mrf kls_mbor kls_mfz fzOf takable mapHere mapOwn mapTo flat toPlain toPlain.go ofFlat ofPair mapEs plook lookRes Y0_mv mvOf mvBlk premv Y0_fzm fzmOf keep52 keep53 sz3 by3 row3 zero3 sz4 by4 row4 zero4 sz5 by5 row5 zero5 sz9 by9 row9 shape9 zero9 sz21 by21 row21 zero21 sz23 by23 row23 shape23 zero23 sz24 by24 row24 zero24 sz38 by38 row38 shape38 zero38 sz47 by47 row47 shape47 zero47 parts47 sz51 by51 row51 zero51 sz54 by54 row54 shape54 zero54 sz55 by55 row55 shape55 zero55 sz58 by58 row58 shape58 zero58 sz60 by60 row60 zero60 sz63 by63 row63 shape63 zero63 sz73 by73 row73 shape73 zero73 parts73 sz79 by79 row79 shape79 zero79 sz81 by81 row81 shape81 zero81 parts81 sz86 by86 row86 shape86 parts86 sz90 by90 row90 zero90 sz92 by92 row92 zero92 sz96 by96 row96 zero96 parts96 field96_0 field96_1 sz99 by99 row99 zero99 sz104 by104 row104 zero104 sz106 by106 row106 zero106 parts106 field106_0 field106_1 sz119 by119 row119 zero119 sz123 by123 row123 zero123 sz124 by124 row124 shape124 zero124 parts124 sz125 by125 row125 shape125 zero125 parts125 sz126 by126 row126 shape126 parts126 sz128 by128 row128 zero128 parts128 field128_0 field128_1 sz129 by129 row129 shape129 zero129 parts129 sz133 by133 row133 zero133 bs_size gAt gAt0 sAt sAt0 optPlain rows_len noMaker_eq kindOf vlOf abin_rem abin_quo mayTurn_none lowOf_none Go.Pur.partAt rows_nil rows_cons ble_add ble_add0 ble_same toPlain toPlain.go intIn2_0 intIn2_1 ble12 ble22 tv lv max_int min_int pplains ak_true ak_false apartP beq_add beq_add0 beq_add1 argv_s wok_none wok_low_iff lowOf_wok
theorem ble_addR {a b c : Nat} : Nat.ble (a + c) (b + c) = Nat.ble a b := by
 rw [Bool.eq_iff_iff, Nat.ble_eq, Nat.ble_eq]; omega
attribute [local simp] ble_addR
section
variable {α : Type}
def revI (d : α) (l : List α) (i : Nat) : List α := (List.range l.length).map fun j => if j < i ∨ l.length - 1 - i < j then l.getD (l.length - 1 - j) d else l.getD j d
theorem revI_len {d : α} {l : List α} {i : Nat} : (revI d l i).length = l.length := by unfold revI; simp
theorem revI_at {d : α} {l : List α} {i j : Nat} (h : j < l.length) : (revI d l i)[j]? = some (if j < i ∨ l.length - 1 - i < j then l.getD (l.length - 1 - j) d else l.getD j d) := by
 unfold revI
 rw [List.getElem?_map, List.getElem?_range h]; rfl
theorem revI_zero {d : α} {l : List α} : revI d l 0 = l := by
 refine List.ext_getElem? fun j => ?_
 by_cases h : j < l.length
 ·rw [revI_at h, if_neg (by omega), List.getD_eq_getElem?_getD, List.getElem?_eq_getElem h]; rfl
 ·rw [List.getElem?_eq_none (by rw [revI_len]; omega), List.getElem?_eq_none (by omega)]
theorem revI_end {d : α} {l : List α} {i : Nat} (hi : l.length - 1 - i ≤ i) : revI d l i = l.reverse := by
 refine List.ext_getElem? fun j => ?_
 by_cases h : j < l.length
 ·rw [revI_at h, List.getElem?_reverse h]
  have e : l[l.length - 1 - j]? = some (l.getD (l.length - 1 - j) d) := by
   rw [List.getD_eq_getElem?_getD, List.getElem?_eq_getElem (by omega)]; rfl
  rw [e]
  congr 1
  split
  ·rfl
  ·have : j = l.length - 1 - j := by omega
   rw [← this]
 ·rw [List.getElem?_eq_none (by rw [revI_len]; omega), List.getElem?_eq_none (by simp; omega)]
theorem revI_step {d : α} {l : List α} {i : Nat} (hi : i < l.length - 1 - i) : ((revI d l i).set i (l.getD (l.length - 1 - i) d)).set (l.length - 1 - i) (l.getD i d) = revI d l (i + 1) := by
 refine List.ext_getElem? fun j => ?_
 by_cases h : j < l.length
 ·by_cases e1 : j = l.length - 1 - i
  ·subst e1
   rw [List.getElem?_set_self (by simp [revI_len]; omega), revI_at h, if_pos (by omega)]
   congr 2; omega
  ·rw [List.getElem?_set_ne (Ne.symm e1)]
   by_cases e2 : j = i
   ·subst e2
    rw [List.getElem?_set_self (by simp [revI_len]; omega), revI_at h, if_pos (by omega)]
   ·rw [List.getElem?_set_ne (Ne.symm e2), revI_at h, revI_at h]
    congr 1
    by_cases c : j < i ∨ l.length - 1 - i < j
    ·rw [if_pos c, if_pos (by omega)]
    ·rw [if_neg c, if_neg (by omega)]
 ·rw [List.getElem?_eq_none (by simp [revI_len]; omega), List.getElem?_eq_none (by rw [revI_len]; omega)]
end
theorem set_same {α : Type} {l : List α} {i : Nat} {x : α} (h : l[i]? = some x) : l.set i x = l := by
 obtain ⟨h1, h2⟩ := List.getElem?_eq_some_iff.1 h
 rw [← h2, List.set_getElem_self]
theorem rlo1 {a b : Nat} (h : a < b) : lowOf b (some a) = some a := by
 show (match Nat.blt a b with | true => some a | false => none) = some a
 rw [blt_true h]
theorem loop_phi {nt : Nat} {k : List Fm} {f g : FuncId} {rs : List ResultVar} {tys : List TypeId} {base : Nat} {b : Code} {σ0 : St} (Φ : Option (PV × List (Option (List PV)) × Option Nat) → Prop) (Inv : Nat → St → Prop) {n0 : Nat} (h0 : Inv n0 σ0)
  (hs : ∀ n σ, Inv n σ → (∀ m σ', m < n → Inv m σ' → Φ (ER Tryd.prog Y0 g rs tys base (EK Tryd.prog Y0 f nt (.lp b :: k) σ'))) → Φ (ER Tryd.prog Y0 g rs tys base (EK Tryd.prog Y0 f nt (.c b :: .lp b :: k) σ))) :
  Φ (ER Tryd.prog Y0 g rs tys base (EK Tryd.prog Y0 f nt (.lp b :: k) σ0)) := by
 induction n0 using Nat.strongRecOn generalizing σ0 with
 | ind n ih =>
  rw [EK_lp]
  exact hs n σ0 h0 fun m σ' hm hi => ih m hm hi
section
variable {hp : List (Option (List PV))} {b c : Nat} {l : List Int}
def RRes (hp : List (Option (List PV))) (b : Nat) (l : List Int) (R : Option (PV × List (Option (List PV)) × Option Nat)) : Prop :=
 ∃ w, (w = none ∨ w = some b) ∧ R = some (.t [], hp.set b (some (l.reverse.map iv)), w)
theorem f52_is (hb : hp[b]? = some (some (l.map iv))) (hn : l.length < 1000000) : RRes hp b l (E Tryd.prog Y0 52 [.s b 0 l.length c] hp) := by
 have hlt : b < hp.length := (List.getElem?_eq_some_iff.1 hb).1
 rw [E_bodyN 1 body52 rfl (by decide) rfl]
 simp only [Tryd.f52, Option.get_some]
 have w0 : IntKind.i64.wrap ((l.length : Int) - 1) = (l.length : Int) - 1 := wrap64 (by omega) (by omega)
 simp [w0]
 refine loop_phi (RRes hp b l)
  (fun m σ => ∃ (i : Nat) (ts : Tr PV) (w : Option Nat), m + i = l.length ∧ (w = none ∨ w = some b) ∧ (∃ hq, hq = hp.set b (some ((revI 0 l i).map iv)) ∧ σ = ⟨[], ts, hq, w⟩) ∧ ts.get 0 = some (.s b 0 l.length c) ∧ ts.get 2 = some (iv i) ∧ ts.get 3 = some (iv ((l.length : Int) - 1 - i))) (n0 := l.length) ?_ ?_
 ·exact ⟨0, _, none, by omega, Or.inl rfl, ⟨hp, by rw [revI_zero, set_same hb], rfl⟩, by simp, by simp, by simp⟩
 ·rintro m σ ⟨i, ts, w, hmi, hw, ⟨_, rfl, rfl⟩, g0, g2, g3⟩ ih
  have hbb : ∀ X, (hp.set b (some X))[b]? = some (some X) := fun X => List.getElem?_set_self hlt
  have hbl : Nat.ble (b + 1) hp.length = true := ble_true hlt
  by_cases hi : i < l.length - 1 - i
  ·have e3 : (l.length : Int) - 1 - i = ((l.length - 1 - i : Nat) : Int) := by omega
   rw [e3] at g3
   have h1 : (i : Int) < ((l.length - 1 - i : Nat) : Int) := by omega
   have x1 : intIn l.length (.int .i64 (i : Int)) = some i := intIn_nat (by omega)
   have x2 : intIn l.length (.int .i64 ((l.length - 1 - i : Nat) : Int)) = some (l.length - 1 - i) := intIn_nat (by omega)
   have hL : ((revI 0 l i).map iv)[i]? = some (iv (l.getD i 0)) := by rw [List.getElem?_map, revI_at (by omega), if_neg (by omega)]; rfl
   have hR : ((revI 0 l i).map iv)[l.length - 1 - i]? = some (iv (l.getD (l.length - 1 - i) 0)) := by rw [List.getElem?_map, revI_at (by omega), if_neg (by omega)]; rfl
   have s1 : spliceP i [iv (l.getD (l.length - 1 - i) 0)] ((revI 0 l i).map iv) = some (((revI 0 l i).map iv).set i (iv (l.getD (l.length - 1 - i) 0))) := splice_set (by simp [revI_len]; omega)
   have s2 : spliceP (l.length - 1 - i) [iv (l.getD i 0)] (((revI 0 l i).map iv).set i (iv (l.getD (l.length - 1 - i) 0))) = some ((revI 0 l (i + 1)).map iv) := by
    rw [splice_set (by simp [revI_len]; omega), ← revI_step hi, List.map_set, List.map_set]
   have l1 : (revI 0 l i).length = l.length := revI_len
   have l2 : (revI 0 l (i + 1)).length = l.length := revI_len
   have w1 : IntKind.i64.wrap ((i : Int) + 1) = ((i + 1 : Nat) : Int) := wrap_nat (by omega)
   have w2 : IntKind.i64.wrap (((l.length - 1 - i : Nat) : Int) - 1) = (l.length : Int) - 1 - ((i + 1 : Nat) : Int) := by rw [wrap64 (by omega) (by omega)]; omega
   generalize hA : l.getD i 0 = A at *
   generalize hB : l.getD (l.length - 1 - i) 0 = B at *
   generalize hM : l.length - 1 - i = M at *
   have b1 : Nat.ble (i + 1) l.length = true := ble_true (by omega)
   have b2 : Nat.ble (M + 1) l.length = true := ble_true (by omega)
   simp [g0, g2, g3, h1, x1, x2, hbb, hL, hR, s1, s2, l1, l2, b1, b2, w1, w2, hbl]
   generalize hmt : mayTurn _ = mb; obtain rfl : mb = true := hmt.symm.trans (by kernel_rfl); clear hmt
   simp [g0, g2, g3, h1, x1, x2, hbb, hL, hR, s1, s2, l1, l2, b1, b2, w1, w2, hbl]
   generalize hmt : mayTurn _ = mb; obtain rfl : mb = true := hmt.symm.trans (by kernel_rfl); clear hmt
   simp [g0, g2, g3, h1, x1, x2, hbb, hL, hR, s1, s2, l1, l2, b1, b2, w1, w2, hbl]
   have lb : ∀ w, (w = none ∨ w = some b) → lowB w b = some b := fun w hw => by
    rcases hw with rfl | rfl
    ·rfl
    ·exact congrArg some (Nat.min_self b)
   exact ih (m - 1) _ (by omega) ⟨i + 1, _, lowB (lowB w b) b, by omega, Or.inr (by rw [lb w hw, lb _ (Or.inr rfl)]), ⟨_, rfl, rfl⟩, by simp [g0], by simp, by simp⟩
  ·have h1 : ¬ (i : Int) < (l.length : Int) - 1 - i := by omega
   clear ih
   simp [g0, g2, g3, h1]
   rw [revI_end (by omega), List.take_of_length_le (by simp)]
   refine ⟨lowOf hp.length w, ?_, ?_⟩
   ·rcases hw with rfl | rfl
    ·exact Or.inl rfl
    ·exact Or.inr (rlo1 hlt)
   ·cases lowOf hp.length w <;> rfl
end
section
def cellL (p : Ck × List Int) : PV := .l .fz p.1 p.2.length (p.2.map iv)
def d0 : Ck × List Int := (.nz, [])
variable {hp : List (Option (List PV))} {b c : Nat} {l : List (Ck × List Int)}
def RRes3 (hp : List (Option (List PV))) (b : Nat) (l : List (Ck × List Int)) (R : Option (PV × List (Option (List PV)) × Option Nat)) : Prop :=
 ∃ w, (w = none ∨ w = some b) ∧ R = some (.t [], hp.set b (some (l.reverse.map cellL)), w)
theorem f53_is (hb : hp[b]? = some (some (l.map cellL))) (hn : l.length < 1000000) : RRes3 hp b l (E Tryd.prog Y0 53 [.s b 0 l.length c] hp) := by
 have hlt : b < hp.length := (List.getElem?_eq_some_iff.1 hb).1
 rw [E_bodyN 1 body53 rfl (by decide) rfl]
 simp only [Tryd.f53, Option.get_some]
 have w0 : IntKind.i64.wrap ((l.length : Int) - 1) = (l.length : Int) - 1 := wrap64 (by omega) (by omega)
 simp [w0]
 refine loop_phi (RRes3 hp b l)
  (fun m σ => ∃ (i : Nat) (ts : Tr PV) (w : Option Nat), m + i = l.length ∧ (w = none ∨ w = some b) ∧ (∃ hq, hq = hp.set b (some ((revI d0 l i).map cellL)) ∧ σ = ⟨[], ts, hq, w⟩) ∧ ts.get 0 = some (.s b 0 l.length c) ∧ ts.get 2 = some (iv i) ∧ ts.get 3 = some (iv ((l.length : Int) - 1 - i))) (n0 := l.length) ?_ ?_
 ·exact ⟨0, _, none, by omega, Or.inl rfl, ⟨hp, by rw [revI_zero, set_same hb], rfl⟩, by simp, by simp, by simp⟩
 ·rintro m σ ⟨i, ts, w, hmi, hw, ⟨_, rfl, rfl⟩, g0, g2, g3⟩ ih
  have hbb : ∀ X, (hp.set b (some X))[b]? = some (some X) := fun X => List.getElem?_set_self hlt
  have hbl : Nat.ble (b + 1) hp.length = true := ble_true hlt
  by_cases hi : i < l.length - 1 - i
  ·have e3 : (l.length : Int) - 1 - i = ((l.length - 1 - i : Nat) : Int) := by omega
   rw [e3] at g3
   have h1 : (i : Int) < ((l.length - 1 - i : Nat) : Int) := by omega
   have x1 : intIn l.length (.int .i64 (i : Int)) = some i := intIn_nat (by omega)
   have x2 : intIn l.length (.int .i64 ((l.length - 1 - i : Nat) : Int)) = some (l.length - 1 - i) := intIn_nat (by omega)
   have hL : ((revI d0 l i).map cellL)[i]? = some (cellL (l.getD i d0)) := by rw [List.getElem?_map, revI_at (by omega), if_neg (by omega)]; rfl
   have hR : ((revI d0 l i).map cellL)[l.length - 1 - i]? = some (cellL (l.getD (l.length - 1 - i) d0)) := by rw [List.getElem?_map, revI_at (by omega), if_neg (by omega)]; rfl
   have s1 : spliceP i [cellL (l.getD (l.length - 1 - i) d0)] ((revI d0 l i).map cellL) = some (((revI d0 l i).map cellL).set i (cellL (l.getD (l.length - 1 - i) d0))) := splice_set (by simp [revI_len]; omega)
   have s2 : spliceP (l.length - 1 - i) [cellL (l.getD i d0)] (((revI d0 l i).map cellL).set i (cellL (l.getD (l.length - 1 - i) d0))) = some ((revI d0 l (i + 1)).map cellL) := by
    rw [splice_set (by simp [revI_len]; omega), ← revI_step hi, List.map_set, List.map_set]
   have l1 : (revI d0 l i).length = l.length := revI_len
   have l2 : (revI d0 l (i + 1)).length = l.length := revI_len
   have w1 : IntKind.i64.wrap ((i : Int) + 1) = ((i + 1 : Nat) : Int) := wrap_nat (by omega)
   have w2 : IntKind.i64.wrap (((l.length - 1 - i : Nat) : Int) - 1) = (l.length : Int) - 1 - ((i + 1 : Nat) : Int) := by rw [wrap64 (by omega) (by omega)]; omega
   generalize hA : l.getD i d0 = A at *
   generalize hB : l.getD (l.length - 1 - i) d0 = B at *
   generalize hM : l.length - 1 - i = M at *
   have b1 : Nat.ble (i + 1) l.length = true := ble_true (by omega)
   have b2 : Nat.ble (M + 1) l.length = true := ble_true (by omega)
   have cl : ∀ p : Ck × List Int, cellL p = .l .fz p.1 p.2.length (p.2.map iv) := fun _ => rfl
   rw [cl] at hL hR s1 s2
   rw [cl] at s2
   simp [g0, g2, g3, h1, x1, x2, hbb, hL, hR, s1, s2, l1, l2, b1, b2, w1, w2, hbl]
   generalize hmt : mayTurn _ = mb; obtain rfl : mb = true := hmt.symm.trans (by kernel_rfl); clear hmt
   simp [g0, g2, g3, h1, x1, x2, hbb, hL, hR, s1, s2, l1, l2, b1, b2, w1, w2, hbl]
   generalize hmt : mayTurn _ = mb; obtain rfl : mb = true := hmt.symm.trans (by kernel_rfl); clear hmt
   simp [g0, g2, g3, h1, x1, x2, hbb, hL, hR, s1, s2, l1, l2, b1, b2, w1, w2, hbl]
   have lb : ∀ w, (w = none ∨ w = some b) → lowB w b = some b := fun w hw => by
    rcases hw with rfl | rfl
    ·rfl
    ·exact congrArg some (Nat.min_self b)
   exact ih (m - 1) _ (by omega) ⟨i + 1, _, lowB (lowB w b) b, by omega, Or.inr (by rw [lb w hw, lb _ (Or.inr rfl)]), ⟨_, rfl, rfl⟩, by simp [g0], by simp, by simp⟩
  ·have h1 : ¬ (i : Int) < (l.length : Int) - 1 - i := by omega
   clear ih
   simp [g0, g2, g3, h1]
   rw [revI_end (by omega), List.take_of_length_le (by simp)]
   refine ⟨lowOf hp.length w, ?_, ?_⟩
   ·rcases hw with rfl | rfl
    ·exact Or.inl rfl
    ·exact Or.inr (rlo1 hlt)
   ·cases lowOf hp.length w <;> rfl
end
end Go.Proofs.YtcjephdjemapbaaDoor
