/-
  QuireUnfolded: the walk.
  Conditions: none; definitions and lemmas.
-/
import Derived.Test.YtcjephdjemapbaaDoorReversed3
import Derived.Test.YtcjephdjemapbaaDoorPurI
set_option linter.unusedSimpArgs false
set_option linter.unusedVariables false
namespace Go.Proofs.YtcjephdjemapbaaDoor
open Go.Abs Go.Pur
set_option maxRecDepth 100000
set_option maxHeartbeats 2000000
theorem lowOf0 {w : Option Nat} : lowOf 0 w = none := by
 cases w with
 | none => rfl
 | some a => rfl
def lowC (ch : UInt8) (p : Ck × List Int) : Ck × List Int := if ch = 117 then (.any, p.2.take (p.2.length / 2)) else (.nz, p.2.drop (p.2.length / 2))
def upC (ch : UInt8) (p : Ck × List Int) : Ck × List Int := if ch = 117 then (.any, (p.2.drop (p.2.length / 2)).reverse) else (.any, (p.2.take (p.2.length / 2)).reverse)
def stepC (ch : UInt8) (cols : List (Ck × List Int)) : List (Ck × List Int) := cols.map (lowC ch) ++ (cols.map (upC ch)).reverse
def unf (s : List UInt8) : Nat → List (Ck × List Int) → List (Ck × List Int)
 | 0, cols => cols
 | r + 1, cols => unf s r (stepC (s.getD r 0) cols)
theorem stl_iv3 {b n : Nat} {cs : List PV} : (stlV b n cs ∘ iv) = iv := rfl
theorem all_iv3 {l : List Int} : l.all (cellOK ∘ iv) = true := by
 rw [List.all_eq_true]
 intro x _
 rfl
theorem stl1 {hs : List (Option (List PV))} {n : Nat} {cs : List PV} {X : Option (List PV)} : stlB hs.length n cs (hs ++ [X]) = hs ++ [none] := by
 unfold stlB
 rw [List.take_left, List.drop_of_length_le (by simp)]; rfl
theorem stl2 {hs : List (Option (List PV))} {n : Nat} {cs : List PV} {X : Option (List PV)} {l : List Int} : stlB hs.length n cs (hs ++ [X, some (l.map iv)]) = hs ++ [none, some (l.map iv)] := by
 unfold stlB
 rw [List.take_left, List.drop_append, List.drop_of_length_le (by simp)]
 simp [stl_iv3]
theorem stl3 {hs : List (Option (List PV))} {n : Nat} {cs : List PV} {X Y : Option (List PV)} : stlB (hs.length + 1) n cs (hs ++ [X, Y]) = hs ++ [X, none] := by
 unfold stlB
 rw [List.take_append, List.take_of_length_le (by simp), List.drop_of_length_le (by simp)]
 simp
attribute [local simp] EK_region EK_seq EK_cond EK_block EK_blk EK_loop EK_exit EK.ex EK_ret EK_skip EK_nil EO_cons EO_nil EO1_true EO1_false EO2_some EO3_some EB_true EB_false pwanted poper pq pev Go.Pur.look pputT isAssign drOf pinit Tr.get_set lget pvOf_int pvOf_bool pvOf_str pvOf_nil rdv_ak notOwn_ak prt_ak loose_ak rdv_own rdv_fz rdv_bor rdv_rf rdv_pt rdv_v rdv_a rdv_t rdv_r rdv_p rdv_s rdv_f pbin plen pload ppart idxAddr pcond Nat.blt goInt_eq prun_not prun_neg mayLoad ER_ret ER_normal presL presOne moved stor okDrop settle_v settle_l settle_a settle_p settle_f noref_v noref_fz noref_a norefs_nil norefs_cons pclose given dropB Y0_keep pevParts stors pvCells pvCells.go vcells pfill reps zipParts ownFz pcells cellOK one psrcLen srcFits psrc takeP pgrow take getPl setPl mapL plEq elder isList lowP pevs frzs addP partAt ble_lim24 killV_v killV_a killV_t killV_f killV_i killV_p killV_s killV_un killV_dead killV_lfz killV_lbor killV_lown killV_rfz killV_rbor killV_lak killV_rak frzV_v frzV_a frzV_t frzV_f frzV_i frzV_p frzV_s frzV_un frzV_dead frzV_lfz frzV_lbor frzV_lown frzV_rfz frzV_rbor frzV_lak frzV_rak killCell_v killCell_a killCell_t killCell_f killCell_i killCell_p killCell_s killCell_un killCell_dead killCell_lfz killCell_lbor killCell_lown killCell_rfz killCell_rbor killCell_lak killCell_rak killV_lrf killV_lpt killV_rpt frzV_lrf frzV_lpt frzV_rpt killCell_lrft killCell_lptt killCell_rptt killCell_lrfc killCell_lptc killCell_rptc argv_lak argv_rak argv_v argv_a argv_p argv_f argv_fz argv_bor argv_rf argv_pt argv_rc argv_own mayTurn_none argvs pcallOp firm refsTo_v refsTo_l refsTo_p refsTo_s refsTo_a refsTo_dead refsTo_nil refsTo_cons isOwn_lak ownFz_lak evSafe pskip plain pnewBlk fldAddr isOwn pput notOwn_fz notOwn_bor notOwn_own notOwn_rf notOwn_pt prt_fz prt_bor prt_own prt_rf prt_pt Go.Pur.freeze presM settles abin_and abin_or abin_andNot abin_mul abin_shr abin_shl abin_add abin_sub abin_eql abin_neq abin_lss abin_leq abin_gtr abin_geq hows pcallIn Y0_how Y0_part howOf partOf rdv_mown rdv_mfz rdv_mbor rdv_mrf killV_mown killV_mfz killV_mbor killV_mrf frzV_mown frzV_mfz frzV_mbor frzV_mrf killCell_mown killCell_mfz killCell_mbor killCell_mrf argv_mfz argv_mbor argv_mrf settle_m kls_v kls_l kls_a kls_t kls_r kls_p kls_s kls_f kls_i kls_it kls_un kls_dead kls_mown kls_mrf kls_mbor kls_mfz fzOf takable mapHere mapOwn mapTo flat toPlain toPlain.go ofFlat ofPair mapEs plook lookRes Y0_mv mvOf mvBlk premv Y0_fzm fzmOf keep14 sz3 by3 row3 zero3 sz4 by4 row4 zero4 sz5 by5 row5 zero5 sz9 by9 row9 shape9 zero9 sz21 by21 row21 zero21 sz23 by23 row23 shape23 zero23 sz24 by24 row24 zero24 sz38 by38 row38 shape38 zero38 sz47 by47 row47 shape47 zero47 parts47 sz51 by51 row51 zero51 sz54 by54 row54 shape54 zero54 sz55 by55 row55 shape55 zero55 sz58 by58 row58 shape58 zero58 sz60 by60 row60 zero60 sz63 by63 row63 shape63 zero63 sz73 by73 row73 shape73 zero73 parts73 sz79 by79 row79 shape79 zero79 sz81 by81 row81 shape81 zero81 parts81 sz86 by86 row86 shape86 parts86 sz90 by90 row90 zero90 sz92 by92 row92 zero92 sz96 by96 row96 zero96 parts96 field96_0 field96_1 sz99 by99 row99 zero99 sz104 by104 row104 zero104 sz106 by106 row106 zero106 parts106 field106_0 field106_1 sz119 by119 row119 zero119 sz123 by123 row123 zero123 sz124 by124 row124 shape124 zero124 parts124 sz125 by125 row125 shape125 zero125 parts125 sz126 by126 row126 shape126 parts126 sz128 by128 row128 zero128 parts128 field128_0 field128_1 sz129 by129 row129 shape129 zero129 parts129 sz133 by133 row133 zero133 bs_size gAt gAt0 sAt sAt0 optPlain rows_len noMaker_eq kindOf vlOf abin_rem abin_quo mayTurn_none lowOf_none Go.Pur.partAt rows_nil rows_cons ble_add ble_add0 ble_same toPlain toPlain.go intIn2_0 intIn2_1 ble12 ble22 tv lv max_int min_int pplains ak_true ak_false apartP beq_add beq_add0 beq_add1 argv_s wok_none wok_low_iff lowOf_wok
theorem f14_walk {m y : Int} {s : List UInt8} {c0 : Ck} {P : List Int} {N : Nat}
  (e42 : ∀ hp, E Tryd.prog Y0 42 [kv .u8 m, kv .u8 y] hp = some (.v (.string (bs s)), hp, none))
  (e18 : ∀ hp, E Tryd.prog Y0 18 [.v (.string (bs s))] hp = some (.t [.l .fz c0 N (P.map iv), iv 0], hp, none))
  (hs : shlI .i64 1 (s.length : Int) = N) (hk : s.length ≤ 6) (hN : 2 ^ s.length = N) (hP : P.length = N)
  (e40 : ∀ hp, E Tryd.prog Y0 40 [.l .fz c0 N (P.map iv)] hp = some (.t [.v (.string (bs s)), iv 0], hp, none))
  (e17 : ∀ hp, E Tryd.prog Y0 17 [] hp = some (.v (.bool true), hp, none))
  (hfin : (unf s s.length [(c0, P)]).map (·.2) = (List.range N).map fun (i : Nat) => [(i : Int)]) :
  E Tryd.prog Y0 14 [kv .u8 m, kv .u8 y] [] = some (.v (.bool true), [], none) := by
 have hl : (bs s).size = s.length := bs_size
 have e51 : ∀ hp c (l : List Int), 0 < l.length → l.length ≤ 1000 → E Tryd.prog Y0 51 [.l .fz c l.length (l.map iv)] hp = some (.l .own .nz l.length (l.map iv), hp, none) := fun hp c l h0 h1 => f51_is (a0 := false) (F := 0) (r := (.nz, l)) (by
  unfold f51S neL
  rw [show isNil c l.length = some false from by cases l with | nil => simp at h0 | cons a l => cases c <;> rfl]
  rw [beqF (by omega), ble_true (by omega)]; rfl)
 have hN64 : N ≤ 64 := hN ▸ Nat.pow_le_pow_right (n := 2) (by decide) hk
 have w1 : IntKind.i64.wrap ((s.length : Int) - 1) = (s.length : Int) - 1 := wrap64 (by omega) (by omega)
 rw [E_bodyN 2 body14 rfl (by decide) rfl]
 simp only [Tryd.f14, Option.get_some]
 simp [e42, e18, hs, hl, hP, w1]
 refine loop_ind (fun q σ => ∃ (cols : List (Ck × List Int)) (kk : Vl) (ck : Ck) (ts : Tr PV) (hs : List (Option (List PV))) (w : Option Nat), q ≤ s.length ∧ ((kk = .fz ∧ ck = .full) ∨ (kk = .own ∧ ck = .nz)) ∧ cols.length = 2 ^ (s.length - q) ∧ (∀ p ∈ cols, p.2.length = 2 ^ q) ∧ unf s q cols = unf s s.length [(c0, P)] ∧ σ = ⟨[], ts, hs, w⟩ ∧ ts.get 5 = some (.v (.string (bs s))) ∧ ts.get 7 = some (.l .fz c0 N (P.map iv)) ∧ ts.get 9 = some (.l kk ck cols.length (cols.map cellL)) ∧ ts.get 10 = some (iv ((q : Int) - 1))) (n0 := s.length) ?_ ?_
 ·exact ⟨[(c0, P)], .fz, .full, _, _, _, Nat.le_refl _, Or.inl ⟨rfl, rfl⟩, by simp, by simp [hP, hN], rfl, rfl, by simp, by simp, by simp [cellL, hP], by simp⟩
 ·rintro q σ ⟨cols, kk, ck, ts, hs', w, hq, hkk, hcn, hcl, hun, rfl, g5, g7, g9, g10⟩ ih
  cases q with
  | zero =>
   have h1 : ¬ (0 : Int) ≤ -1 := by omega
   clear ih
   have hfin2 : cols.map (·.2) = (List.range N).map fun (i : Nat) => [(i : Int)] := by rw [← hfin, ← hun]; rfl
   have hcN : cols.length = N := by rw [hcn, Nat.sub_zero, hN]
   have hat : ∀ j, j < N → ∃ c, cols[j]? = some (c, [(j : Int)]) := fun j hj => by
    have h2 := congrArg (fun l => l[j]?) hfin2
    simp only [List.getElem?_map, List.getElem?_range hj] at h2
    rw [List.getElem?_eq_getElem (by omega)] at h2 ⊢
    simp only [Option.map_some, Option.some.injEq] at h2
    exact ⟨cols[j].1, by rw [← h2]⟩
   have qs : ∀ x y, abin Tryd.prog .eql 9 x y (.string (bs s)) (.string (bs s)) = some (.bool true) := fun x y => by rw [abin_seql]; simp
   rcases hkk with ⟨rfl, rfl⟩ | ⟨rfl, rfl⟩
   all_goals
    simp [g5, g7, g9, g10]
    refine loop_ind (fun q σ => ∃ (j : Nat) (ck : Ck) (ts : Tr PV), q + j = N ∧ σ = ⟨[], ts, hs', w⟩ ∧ ts.get 5 = some (.v (.string (bs s))) ∧ ts.get 7 = some (.l .fz c0 N (P.map iv)) ∧ ts.get 88 = some (.l .fz ck cols.length (cols.map cellL)) ∧ ts.get 89 = some (iv cols.length) ∧ ts.get 90 = some (iv j)) (n0 := N) ?_ ?_
    ·exact ⟨0, _, _, by omega, rfl, by simp [g5], by simp [g7], by simp; rfl, by simp, by simp⟩
    ·rintro q σ ⟨j, ck, ts, hqj, rfl, g5, g7, g88, g89, g90⟩ ih
     by_cases hj : j < N
     ·obtain ⟨c, hc⟩ := hat j hj
      have h1 : (j : Int) < (cols.length : Int) := by omega
      have x1 : intIn cols.length (.int .i64 (j : Int)) = some j := intIn_nat (by omega)
      have b1 : Nat.ble (j + 1) cols.length = true := ble_true (by omega)
      have hL : (cols.map cellL)[j]? = some (.l .fz c 1 [iv j]) := by rw [List.getElem?_map, hc]; rfl
      have w3 : IntKind.i64.wrap ((j : Int) + 1) = ((j + 1 : Nat) : Int) := wrap_nat (by omega)
      have x0 : intIn 1 (.int .i64 0) = some 0 := rfl
      simp [g5, g7, g88, g89, g90, h1, x1, b1, hL, w3, x0]
      refine ih (q - 1) _ (by omega) ⟨j + 1, ck, _, by omega, rfl, by simp [g5], by simp [g7], by simp [g88], by simp [g89], by simp⟩
     ·have h1 : ¬ (j : Int) < (cols.length : Int) := by omega
      clear ih
      simp [g5, g7, g88, g89, g90, h1, e40, e17, lowOf0, qs]
  | succ q =>
   have e10 : ((q + 1 : Nat) : Int) - 1 = (q : Int) := by omega
   rw [e10] at g10
   have h1 : (0 : Int) ≤ (q : Int) := by omega
   obtain ⟨ch, hch⟩ : ∃ ch, s.getD q 0 = ch := ⟨_, rfl⟩
   obtain ⟨H, hH⟩ : ∃ H, 2 ^ q = H := ⟨_, rfl⟩
   have hH1 : 1 ≤ H := hH ▸ Nat.one_le_two_pow
   have hH2 : H ≤ 32 := by rw [← hH]; exact Nat.pow_le_pow_right (n := 2) (j := 5) (by decide) (by omega)
   have hn64 : cols.length ≤ 64 := by rw [hcn]; exact Nat.pow_le_pow_right (n := 2) (j := 6) (by decide) (by omega)
   have hn1 : 1 ≤ cols.length := by rw [hcn]; exact Nat.one_le_two_pow
   have hcl' : ∀ p ∈ cols, p.2.length = 2 * H := fun p hp => by rw [hcl p hp, Nat.pow_succ, hH]; omega
   rcases hkk with ⟨rfl, rfl⟩ | ⟨rfl, rfl⟩
   all_goals
    simp [g5, g7, g9, g10, h1]
    refine loop_ind (fun t σ => ∃ (i : Nat) (X Y : List PV) (ck : Ck) (ts : Tr PV) (hs : List (Option (List PV))) (w : Option Nat), t + i = cols.length ∧ X = ((cols.take i).map (lowC ch)).map cellL ∧ Y = ((cols.take i).map (upC ch)).map cellL ∧ σ = ⟨[], ts, hs, w⟩ ∧ ts.get 5 = some (.v (.string (bs s))) ∧ ts.get 7 = some (.l .fz c0 N (P.map iv)) ∧ ts.get 10 = some (iv q) ∧ ts.get 49 = some (.l .fz ck cols.length (cols.map cellL)) ∧ ts.get 50 = some (iv cols.length) ∧ ts.get 51 = some (iv i) ∧ ts.get 11 = some (.l .own .nz i X) ∧ ts.get 12 = some (.l .own .nz i Y)) (n0 := cols.length) ?_ ?_
    ·exact ⟨0, [], [], _, _, _, _, by omega, rfl, rfl, rfl, by simp [g5], by simp [g7], by simp [g10], by simp; rfl, by simp, by simp, by simp, by simp⟩
    ·rintro t σ ⟨i, X, Y, ck, ts, hs', w, hti, hX, hY, rfl, g5, g7, g10, g49, g50, g51, g11, g12⟩ ih2
     by_cases hi : i < cols.length
     ·have h1 : (i : Int) < (cols.length : Int) := by omega
      obtain ⟨⟨c, l⟩, hc⟩ : ∃ p, cols[i]? = some p := ⟨_, List.getElem?_eq_getElem hi⟩
      have hll : l.length = 2 * H := hcl' (c, l) (List.mem_of_getElem? hc)
      have x1 : intIn cols.length (.int .i64 (i : Int)) = some i := intIn_nat (by omega)
      have b1 : Nat.ble (i + 1) cols.length = true := ble_true (by omega)
      have hL : (cols.map cellL)[i]? = some (.l .fz c l.length (l.map iv)) := by rw [List.getElem?_map, hc]; rfl
      have wq : IntKind.i64.wrap ((l.length : Int) / 2) = (H : Int) := by
       rw [hll, wrap64 (by omega) (by omega)]; omega
      have eD := pslice_drop (P := Tryd.prog) (t := 23) (k := .fz) (c := c) iv shape23 rfl (show dropO l (H : Int) = some (l.drop H) by
       show (match Nat.ble H l.length with | true => some (l.drop H) | false => none) = _
       rw [ble_true (by omega)])
      have eT := pslice_to (P := Tryd.prog) (t := 23) (k := .fz) (c := c) iv shape23 rfl (show takeO l (H : Int) = some (l.take H) by
       show (match Nat.ble H l.length with | true => some (l.take H) | false => none) = _
       rw [ble_true (by omega)])
      have eD51 := fun hp => e51 hp (dpC c) (l.drop H) (by rw [List.length_drop]; omega) (by rw [List.length_drop]; omega)
      have eT51 := fun hp => e51 hp (slC c (Nat.beq (H : Int).toNat l.length)) (l.take H) (by rw [List.length_take]; omega) (by rw [List.length_take]; omega)
      obtain ⟨A, hA⟩ : ∃ A, l.drop H = A := ⟨_, rfl⟩
      obtain ⟨B, hB⟩ : ∃ B, l.take H = B := ⟨_, rfl⟩
      rw [hA] at eD eD51
      rw [hB] at eT eT51
      have hAl : A.length = H := by rw [← hA, List.length_drop]; omega
      have hBl : B.length = H := by rw [← hB, List.length_take]; omega
      generalize dpC c = cD at *
      generalize slC c (Nat.beq (H : Int).toNat l.length) = cT at *
      simp [g5, g7, g10, g49, g50, g51, g11, g12, h1, x1, b1, hL, wq, optPlain, eD, eT, eD51, eT51]
      have hq2 : q < s.length := by omega
      have hgS : gS s (q : Int) = some (ch.toNat : Int) := by
       show (match s[q]? with | some c => some (c.toNat : Int) | none => none) = _
       rw [← hch, List.getD_eq_getElem?_getD, List.getElem?_eq_getElem hq2]; rfl
      have ex := (gS_ok (P := Tryd.prog) (t := 9) (k := .i64) Tryd.underlying9 shape9 hgS).1
      have hzA : Nat.beq A.length 0 = false := beqF (by omega)
      have hzB : Nat.beq B.length 0 = false := beqF (by omega)
      have hlim : Nat.ble ((i + 1) * 26) limit = true := ble_true (by unfold limit; omega)
      have hXl : X.length = i := by rw [hX]; simp; omega
      have hYl : Y.length = i := by rw [hY]; simp; omega
      have hXb : Nat.beq X.length i = true := by rw [hXl]; exact Nat.beq_refl i
      have hYb : Nat.beq Y.length i = true := by rw [hYl]; exact Nat.beq_refl i
      have w3 : IntKind.i64.wrap ((i : Int) + 1) = ((i + 1 : Nat) : Int) := wrap_nat (by omega)
      have hci : cols.take (i + 1) = cols.take i ++ [(c, l)] := by rw [List.take_add_one, hc]; rfl
      have hdiv : l.length / 2 = H := by omega
      have hch7 : (ch.toNat : Int) = 117 ↔ ch = 117 := by
       constructor
       ·intro h
        have : ch.toNat = 117 := by omega
        exact UInt8.toNat.inj this
       ·rintro rfl; rfl
      by_cases hc117 : (ch.toNat : Int) = 117
      ·obtain ⟨w1, hw1, q1⟩ := @f52_is (hs' ++ [some (B.map iv), some (A.map iv)]) (hs'.length + 1) unkCap A (by simp) (by omega)
       rw [show (hs' ++ [some (B.map iv), some (A.map iv)]).set (hs'.length + 1) (some (A.reverse.map iv)) = hs' ++ [some (B.map iv), some (A.reverse.map iv)] by simp] at q1
       obtain ⟨A', hA'⟩ : ∃ A', A.reverse = A' := ⟨_, rfl⟩
       have hA'l : A'.length = A.length := by rw [← hA', List.length_reverse]
       rw [hA'] at q1
       simp [ex, hc117, unset, hzA, hzB, klV, take]
       have hlo : cellL (lowC ch (c, l)) = .l .fz .any B.length (B.map iv) := by
        unfold lowC cellL; rw [if_pos (hch7.1 hc117)]; simp only [hdiv, hB]
       have hup : cellL (upC ch (c, l)) = .l .fz .any A.length (A'.map iv) := by
        unfold upC cellL; rw [if_pos (hch7.1 hc117)]; simp only [hdiv, hA, hA', hA'l]
       have hX2 : X ++ [PV.l .fz .any B.length (B.map iv)] = ((cols.take (i + 1)).map (lowC ch)).map cellL := by rw [hci, List.map_append, List.map_append, ← hX, ← hlo]; rfl
       have hY2 : Y ++ [PV.l .fz .any A.length (A'.map iv)] = ((cols.take (i + 1)).map (upC ch)).map cellL := by rw [hci, List.map_append, List.map_append, ← hY, ← hup]; rfl
       rcases hw1 with rfl | rfl
       all_goals simp [q1, g5, g7, g10, g49, g50, g51, g11, g12, mvFz, stl2, stl3, all_iv3, hlim, hXb, hYb, w3]
       all_goals exact ih2 (t - 1) _ (by omega) ⟨i + 1, _, _, ck, _, _, _, by omega, hX2, hY2, rfl, by simp [g5], by simp [g7], by simp [g10], by simp [g49], by simp [g50], by simp, by simp, by simp⟩
      ·obtain ⟨w1, hw1, q1⟩ := @f52_is (hs' ++ [some (B.map iv)]) hs'.length unkCap B (by simp) (by omega)
       rw [show (hs' ++ [some (B.map iv)]).set hs'.length (some (B.reverse.map iv)) = hs' ++ [some (B.reverse.map iv)] by simp] at q1
       obtain ⟨B', hB'⟩ : ∃ B', B.reverse = B' := ⟨_, rfl⟩
       have hB'l : B'.length = B.length := by rw [← hB', List.length_reverse]
       rw [hB'] at q1
       simp [ex, hc117, unset, hzA, hzB, klV, take]
       have hlo : cellL (lowC ch (c, l)) = .l .fz .nz A.length (A.map iv) := by
        unfold lowC cellL; rw [if_neg (fun e => hc117 (hch7.2 e))]; simp only [hdiv, hA]
       have hup : cellL (upC ch (c, l)) = .l .fz .any B.length (B'.map iv) := by
        unfold upC cellL; rw [if_neg (fun e => hc117 (hch7.2 e))]; simp only [hdiv, hB, hB', hB'l]
       have hX2 : X ++ [PV.l .fz .nz A.length (A.map iv)] = ((cols.take (i + 1)).map (lowC ch)).map cellL := by rw [hci, List.map_append, List.map_append, ← hX, ← hlo]; rfl
       have hY2 : Y ++ [PV.l .fz .any B.length (B'.map iv)] = ((cols.take (i + 1)).map (upC ch)).map cellL := by rw [hci, List.map_append, List.map_append, ← hY, ← hup]; rfl
       rcases hw1 with rfl | rfl
       all_goals simp [q1, g5, g7, g10, g49, g50, g51, g11, g12, mvFz, stl1, all_iv3, hlim, hXb, hYb, w3]
       all_goals exact ih2 (t - 1) _ (by omega) ⟨i + 1, _, _, ck, _, _, _, by omega, hX2, hY2, rfl, by simp [g5], by simp [g7], by simp [g10], by simp [g49], by simp [g50], by simp, by simp, by simp⟩
     ·have h1 : ¬ (i : Int) < (cols.length : Int) := by omega
      obtain rfl : i = cols.length := by omega
      clear ih2
      rw [List.take_length] at hX hY
      have hzn : Nat.beq cols.length 0 = false := beqF (by omega)
      have hln : (cols.map (upC ch)).length = cols.length := by simp
      obtain ⟨w1, hw1, q1⟩ := @f53_is (hs' ++ [some ((cols.map (upC ch)).map cellL)]) hs'.length unkCap (cols.map (upC ch)) (by simp) (by rw [hln]; omega)
      rw [show (hs' ++ [some ((cols.map (upC ch)).map cellL)]).set hs'.length (some ((cols.map (upC ch)).reverse.map cellL)) = hs' ++ [some ((cols.map (upC ch)).reverse.map cellL)] by simp, ← hY, hln] at q1
      obtain ⟨Y', hY'⟩ : ∃ Y', (cols.map (upC ch)).reverse.map cellL = Y' := ⟨_, rfl⟩
      rw [hY'] at q1
      simp [g5, g7, g10, g49, g50, g51, g11, g12, h1, unset, hzn, klV, take]
      have hYt : takeP cols.length Y' = some Y' := takeP_full (by rw [← hY']; simp)
      have hYc : Y'.all cellOK = true := by
       rw [← hY', List.all_eq_true]
       intro v hv
       obtain ⟨p, _, rfl⟩ := List.mem_map.1 hv
       rfl
      have hlim : Nat.ble ((cols.length + cols.length) * 26) limit = true := ble_true (by unfold limit; omega)
      have hXb : Nat.beq X.length cols.length = true := beqT (by rw [hX]; simp)
      have w3 : IntKind.i64.wrap ((q : Int) - 1) = (q : Int) - 1 := wrap64 (by omega) (by omega)
      have hsl : (stepC ch cols).length = cols.length + cols.length := by unfold stepC; simp
      have hXY : X ++ Y' = (stepC ch cols).map cellL := by unfold stepC; rw [List.map_append, ← hX, hY']
      rcases hw1 with rfl | rfl
      all_goals
       simp [q1, g5, g7, g10, g49, g50, g51, g11, g12, hzn, hYt, hYc, hlim, hXb, w3]
       refine ih q _ (by omega) ⟨stepC ch cols, .own, .nz, _, _, _, by omega, Or.inr ⟨rfl, rfl⟩, ?_, ?_, ?_, rfl, by simp [g5], by simp [g7], by rw [← hXY, hsl]; simp, by simp⟩
       ·rw [hsl, hcn, show s.length - q = s.length - (q + 1) + 1 by omega, Nat.pow_succ]; omega
       ·intro p hp
        rw [hH]
        unfold stepC at hp
        rcases List.mem_append.1 hp with hp | hp
        ·obtain ⟨r, hr, rfl⟩ := List.mem_map.1 hp
         have := hcl' r hr
         unfold lowC
         split <;> simp <;> omega
        ·obtain ⟨r, hr, rfl⟩ := List.mem_map.1 (List.mem_reverse.1 hp)
         have := hcl' r hr
         unfold upC
         split <;> simp <;> omega
       ·rw [← hun, unf, hch]
end Go.Proofs.YtcjephdjemapbaaDoor
