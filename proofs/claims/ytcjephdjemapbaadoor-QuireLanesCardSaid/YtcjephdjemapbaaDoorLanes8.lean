/-
  QuireLanes: the walk.
  Conditions: none; lemmas.
-/
import Derived.Test.YtcjephdjemapbaaDoorLanesLaw
set_option linter.unusedSimpArgs false
set_option linter.unusedVariables false
namespace Go.Proofs.YtcjephdjemapbaaDoor
open Go.Abs Go.Pur
set_option maxRecDepth 100000
set_option maxHeartbeats 2000000
attribute [local simp] EK_region EK_seq EK_cond EK_block EK_blk EK_loop EK_exit EK.ex EK_ret EK_skip EK_nil EO_cons EO_nil EO1_true EO1_false EO2_some EO3_some EB_true EB_false pwanted poper pq pev Go.Pur.look pputT isAssign drOf pinit Tr.get_set lget pvOf_int pvOf_bool pvOf_str pvOf_nil rdv_ak notOwn_ak prt_ak loose_ak rdv_own rdv_fz rdv_bor rdv_rf rdv_pt rdv_v rdv_a rdv_t rdv_r rdv_p rdv_s rdv_f pbin plen pload ppart idxAddr pcond Nat.blt goInt_eq prun_not prun_neg mayLoad ER_ret ER_normal presL presOne moved stor okDrop settle_v settle_l settle_a settle_p settle_f noref_v noref_fz noref_a norefs_nil norefs_cons pclose given dropB Y0_keep pevParts stors pvCells pvCells.go vcells pfill reps zipParts ownFz pcells cellOK one psrcLen srcFits psrc takeP pgrow take getPl setPl mapL plEq elder isList lowP pevs frzs addP partAt ble_lim24 killV_v killV_a killV_t killV_f killV_i killV_p killV_s killV_un killV_dead killV_lfz killV_lbor killV_lown killV_rfz killV_rbor killV_lak killV_rak frzV_v frzV_a frzV_t frzV_f frzV_i frzV_p frzV_s frzV_un frzV_dead frzV_lfz frzV_lbor frzV_lown frzV_rfz frzV_rbor frzV_lak frzV_rak killCell_v killCell_a killCell_t killCell_f killCell_i killCell_p killCell_s killCell_un killCell_dead killCell_lfz killCell_lbor killCell_lown killCell_rfz killCell_rbor killCell_lak killCell_rak killV_lrf killV_lpt killV_rpt frzV_lrf frzV_lpt frzV_rpt killCell_lrft killCell_lptt killCell_rptt killCell_lrfc killCell_lptc killCell_rptc argv_lak argv_rak argv_v argv_a argv_p argv_f argv_fz argv_bor argv_rf argv_pt argv_rc argv_own mayTurn_none argvs pcallOp firm refsTo_v refsTo_l refsTo_p refsTo_s refsTo_a refsTo_dead refsTo_nil refsTo_cons isOwn_lak ownFz_lak evSafe pskip plain pnewBlk fldAddr isOwn pput notOwn_fz notOwn_bor notOwn_own notOwn_rf notOwn_pt prt_fz prt_bor prt_own prt_rf prt_pt Go.Pur.freeze presM settles abin_and abin_or abin_andNot abin_mul abin_shr abin_shl abin_add abin_sub abin_eql abin_neq abin_lss abin_leq abin_gtr abin_geq hows pcallIn Y0_how Y0_part howOf partOf rdv_mown rdv_mfz rdv_mbor rdv_mrf killV_mown killV_mfz killV_mbor killV_mrf frzV_mown frzV_mfz frzV_mbor frzV_mrf killCell_mown killCell_mfz killCell_mbor killCell_mrf argv_mfz argv_mbor argv_mrf settle_m kls_v kls_l kls_a kls_t kls_r kls_p kls_s kls_f kls_i kls_it kls_un kls_dead kls_mown kls_mrf kls_mbor kls_mfz fzOf takable mapHere mapOwn mapTo flat toPlain toPlain.go ofFlat ofPair mapEs plook lookRes Y0_mv mvOf mvBlk premv keep8 keep45 sz3 by3 row3 zero3 sz4 by4 row4 zero4 sz5 by5 row5 zero5 sz9 by9 row9 shape9 zero9 sz21 by21 row21 zero21 sz23 by23 row23 shape23 zero23 sz24 by24 row24 zero24 sz38 by38 row38 shape38 zero38 sz47 by47 row47 shape47 zero47 parts47 sz51 by51 row51 zero51 sz54 by54 row54 shape54 zero54 sz55 by55 row55 shape55 zero55 sz58 by58 row58 shape58 zero58 sz60 by60 row60 zero60 sz63 by63 row63 shape63 zero63 sz73 by73 row73 shape73 zero73 parts73 sz79 by79 row79 shape79 zero79 sz81 by81 row81 shape81 zero81 parts81 sz86 by86 row86 shape86 parts86 sz90 by90 row90 zero90 sz92 by92 row92 zero92 sz96 by96 row96 zero96 parts96 field96_0 field96_1 sz99 by99 row99 zero99 sz104 by104 row104 zero104 sz106 by106 row106 zero106 parts106 field106_0 field106_1 sz119 by119 row119 zero119 sz123 by123 row123 zero123 sz124 by124 row124 shape124 zero124 parts124 sz125 by125 row125 shape125 zero125 parts125 sz126 by126 row126 shape126 parts126 sz128 by128 row128 zero128 parts128 field128_0 field128_1 sz129 by129 row129 shape129 zero129 parts129 sz133 by133 row133 zero133 bs_size gAt gAt0 sAt sAt0 optPlain rows_len noMaker_eq kindOf vlOf abin_rem abin_quo mayTurn_none lowOf_none Go.Pur.partAt rows_nil rows_cons ble_add ble_add0 ble_same toPlain toPlain.go intIn2_0 intIn2_1 ble12 ble22 tv lv max_int min_int pplains ak_true ak_false apartP beq_add beq_add0 beq_add1 argv_s wok_none wok_low_iff lowOf_wok
theorem f45_is {a b c d : Int} {hp : List (Option (List PV))} : E Tryd.prog Y0 45 [.a [iv a, iv b], .a [iv c, iv d]] hp = some (.a [iv (IntKind.i64.wrap (a + c)), iv (IntKind.i64.wrap (b + d))], hp, none) := by
 rw [E_bodyN 2 body45 rfl (by decide) rfl]
 simp only [Tryd.f45, Option.get_some]
 have q : spliceP 0 [iv (IntKind.i64.wrap (a + c)), iv (IntKind.i64.wrap (b + d))] [iv 0, iv 0] = some [iv (IntKind.i64.wrap (a + c)), iv (IntKind.i64.wrap (b + d))] := rfl
 simp [q]
theorem f8_walk {m y : Int} {cs : List UInt8} {c1 : Ck} {W : List (Int × Int)} {x0 x1 x2 : Int}
  (e46 : ∀ hp, E Tryd.prog Y0 46 [kv .u8 m, .v (.int .u64 y)] hp = some (.v (.string (bs cs)), hp, none))
  (e35 : ∀ hp, E Tryd.prog Y0 35 [.v (.string (bs cs))] hp = some (.t [.l .fz c1 W.length (rows W), iv 0], hp, none))
  (e44 : ∀ hp, E Tryd.prog Y0 44 [.v (.string (bs cs))] hp = some (.l .own .nz W.length (rows W), hp, none))
  (e37 : ∀ hp, E Tryd.prog Y0 37 [.v (.string (bs cs))] hp = some (.t [iv x0, iv x1, iv x2], hp, none))
  (e39 : ∀ hp, E Tryd.prog Y0 39 [.l .fz c1 W.length (rows W), .l .bor .nz W.length (rows W)] hp = some (.v (.bool true), hp, none))
  (e17 : ∀ hp, E Tryd.prog Y0 17 [] hp = some (.v (.bool true), hp, none)) (h2 : 2 ≤ W.length) (h65 : W.length ≤ 65)
  (hnear : ∀ i, -1000 ≤ (W.getD i (0, 0)).1 ∧ (W.getD i (0, 0)).1 ≤ 1000 ∧ -1000 ≤ (W.getD i (0, 0)).2 ∧ (W.getD i (0, 0)).2 ≤ 1000)
  (hcl : ∀ i j, i + 1 < W.length → j + 1 < W.length → clashB W i j = (decide ((W.getD i (0, 0)).1 + (W.getD (i + 1) (0, 0)).1 = (W.getD j (0, 0)).1 + (W.getD (j + 1) (0, 0)).1) && decide ((W.getD i (0, 0)).2 + (W.getD (i + 1) (0, 0)).2 = (W.getD j (0, 0)).2 + (W.getD (j + 1) (0, 0)).2)))
  (hr : (x0, x1, x2) = match scanI W (W.length - 1) 0 with
   | some (i, j) => ((i : Int), (j : Int), 0)
   | none => (0, 0, 13)) :
  E Tryd.prog Y0 8 [kv .u8 m, .v (.int .u64 y)] [] = some (.v (.bool true), [], none) := by
 have hz : Nat.beq W.length 0 = false := beqF (by omega)
 have w1 : IntKind.i64.wrap ((W.length : Int) - 1) = ((W.length - 1 : Nat) : Int) := by rw [wrap64 (by omega) (by omega)]; omega
 obtain ⟨N, hN⟩ : ∃ N, W.length = N + 1 := ⟨W.length - 1, by omega⟩
 rw [hN, Nat.add_sub_cancel] at w1 hr
 have w1' : IntKind.i64.wrap (N : Int) = (N : Int) := by rw [wrap64 (by omega) (by omega)]
 rw [E_bodyN 2 body8 rfl (by decide) rfl]
 simp only [Tryd.f8, Option.get_some]
 simp only [hN] at e35 e44 e39 hz hcl h65
 simp [e46, e35, e44, e39, e37, unset, hz, klV, take]
 have hlen : (rows W).length = (N + 1) * 2 := by rw [rows_len, hN]
 refine loop_ind (fun q σ => ∃ (i k : Nat) (ts : Tr PV), q = k ∧ k + i = N ∧ scanI W k i = scanI W N 0 ∧ σ = ⟨[], ts, [some (rows W)], none⟩ ∧ ts.get 8 = some (.s 0 0 (N + 1) unkCap) ∧ ts.get 7 = some (iv x2) ∧ ts.get 9 = some (iv x0) ∧ ts.get 10 = some (iv x1) ∧ ts.get 39 = some (iv N) ∧ ts.get 40 = some (iv i)) (n0 := N) ?_ ?_
 ·exact ⟨0, N, _, rfl, by omega, rfl, rfl, by simp, by simp, by simp, by simp, by simp [w1'], by simp⟩
 ·rintro q σ ⟨i, k, ts, rfl, hk, hsc, rfl, g8, g7, g9, g10, g39, g40⟩ ih
  cases q with
  | zero =>
   have h1 : ¬ (i : Int) < (N : Int) := by omega
   rw [← hsc] at hr
   simp only [scanI, Prod.mk.injEq] at hr
   obtain ⟨rfl, rfl, rfl⟩ := hr
   simp [g8, g7, g9, g10, g39, g40, h1, e17]
  | succ k =>
   have h1 : (i : Int) < (N : Int) := by omega
   have w2 : IntKind.i64.wrap ((i : Int) + 1) = ((i + 1 : Nat) : Int) := wrap_nat (by omega)
   simp [g8, g7, g9, g10, g39, g40, h1, w2]
   refine loop_ind (fun q σ => ∃ (j k' : Nat) (ts : Tr PV), q = k' ∧ k' + j = N ∧ (match scanJ W i k' j with | some j => some (i, j) | none => scanI W k (i + 1)) = scanI W N 0 ∧ σ = ⟨[], ts, [some (rows W)], none⟩ ∧ ts.get 8 = some (.s 0 0 (N + 1) unkCap) ∧ ts.get 7 = some (iv x2) ∧ ts.get 9 = some (iv x0) ∧ ts.get 10 = some (iv x1) ∧ ts.get 39 = some (iv N) ∧ ts.get 40 = some (iv i) ∧ ts.get 11 = some (iv i) ∧ ts.get 12 = some (iv j)) (n0 := k) ?_ ?_
   ·exact ⟨i + 1, k, _, rfl, by omega, by rw [← hsc]; rfl, rfl, by simp [g8], by simp [g7], by simp [g9], by simp [g10], by simp [g39], by simp [g40], by simp, by simp⟩
   ·rintro q σ ⟨j, k', ts, rfl, hk', hsc', rfl, g8, g7, g9, g10, g39, g40, g11, g12⟩ ih2
    cases q with
    | zero =>
     have h2 : ¬ (j : Int) < (N : Int) := by omega
     clear ih2
     simp [g8, g7, g9, g10, g39, g40, g11, g12, w1', h2, w2]
     refine ih k _ (by omega) ⟨i + 1, k, _, rfl, by omega, by rw [← hsc']; simp only [scanJ], rfl, by simp [g8], by simp [g7], by simp [g9], by simp [g10], by simp [g39], by simp⟩
    | succ k' =>
     have h2 : (j : Int) < (N : Int) := by omega
     have w3 : IntKind.i64.wrap ((j : Int) + 1) = ((j + 1 : Nat) : Int) := wrap_nat (by omega)
     have at_ : ∀ t, t < N + 1 → W[t]? = some (W.getD t (0, 0)) := fun t ht => by
      rw [List.getD_eq_getElem?_getD, List.getElem?_eq_getElem (by omega)]; rfl
     have d1 := rows_at (at_ i (by omega))
     have d2 := rows_at (at_ (i + 1) (by omega))
     have d3 := rows_at (at_ j (by omega))
     have d4 := rows_at (at_ (j + 1) (by omega))
     have n1 := hnear i
     have n2 := hnear (i + 1)
     have n3 := hnear j
     have n4 := hnear (j + 1)
     have hc := hcl i j (by omega) (by omega)
     unfold scanJ at hsc'
     rw [hc] at hsc'
     clear hc
     generalize W.getD i (0, 0) = a at *
     generalize W.getD (i + 1) (0, 0) = b at *
     generalize W.getD j (0, 0) = c at *
     generalize W.getD (j + 1) (0, 0) = d at *
     have e45 : ∀ hp, E Tryd.prog Y0 45 [.a [iv a.1, iv a.2], .a [iv b.1, iv b.2]] hp = some (.a [iv (a.1 + b.1), iv (a.2 + b.2)], hp, none) := fun hp => by
      rw [f45_is, wrap64 (by omega) (by omega), wrap64 (by omega) (by omega)]
     have e45b : ∀ hp, E Tryd.prog Y0 45 [.a [iv c.1, iv c.2], .a [iv d.1, iv d.2]] hp = some (.a [iv (c.1 + d.1), iv (c.2 + d.2)], hp, none) := fun hp => by
      rw [f45_is, wrap64 (by omega) (by omega), wrap64 (by omega) (by omega)]
     have i1 : intIn (N + 1) (.int .i64 (i : Int)) = some i := intIn_nat (by omega)
     have i2 : intIn (N + 1) (.int .i64 ((i : Int) + 1)) = some (i + 1) := by
      rw [show (i : Int) + 1 = ((i + 1 : Nat) : Int) from rfl]; exact intIn_nat (by omega)
     have i3 : intIn (N + 1) (.int .i64 (j : Int)) = some j := intIn_nat (by omega)
     have i4 : intIn (N + 1) (.int .i64 ((j : Int) + 1)) = some (j + 1) := by
      rw [show (j : Int) + 1 = ((j + 1 : Nat) : Int) from rfl]; exact intIn_nat (by omega)
     have f1 : Nat.ble ((i + 1) * 2) ((N + 1) * 2) = true := rows_ble (by omega)
     have f2 : Nat.ble ((i + 1 + 1) * 2) ((N + 1) * 2) = true := rows_ble (by omega)
     have f3 : Nat.ble ((j + 1) * 2) ((N + 1) * 2) = true := rows_ble (by omega)
     have f4 : Nat.ble ((j + 1 + 1) * 2) ((N + 1) * 2) = true := rows_ble (by omega)
     have hq : ∀ x y, abin Tryd.prog .eql 47 x y (.agg #[.int .i64 (a.1 + b.1), .int .i64 (a.2 + b.2)]) (.agg #[.int .i64 (c.1 + d.1), .int .i64 (c.2 + d.2)]) = some (.bool (decide (a.1 + b.1 = c.1 + d.1) && decide (a.2 + b.2 = c.2 + d.2))) := fun x y => eql47
     cases hb : (decide (a.1 + b.1 = c.1 + d.1) && decide (a.2 + b.2 = c.2 + d.2)) with
     | true =>
      rw [hb] at hsc' hq
      rw [← hsc'] at hr
      simp only [Prod.mk.injEq] at hr
      obtain ⟨rfl, rfl, rfl⟩ := hr
      simp [g8, g7, g9, g10, g39, g40, g11, g12, w1', h2, w2, w3, i1, i2, i3, i4, d1, d2, d3, d4, f1, f2, f3, f4, hlen, e45, e45b, hq, e17]
     | false =>
      rw [hb] at hsc' hq
      simp [g8, g7, g9, g10, g39, g40, g11, g12, w1', h2, w2, w3, i1, i2, i3, i4, d1, d2, d3, d4, f1, f2, f3, f4, hlen, e45, e45b, hq]
      refine ih2 k' _ (by omega) ⟨j + 1, k', _, rfl, by omega, hsc', rfl, by simp [g8], by simp [g7], by simp [g9], by simp [g10], by simp [g39], by simp [g40], by simp [g11], by simp⟩
end Go.Proofs.YtcjephdjemapbaaDoor
