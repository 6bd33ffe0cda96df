/-
  QuireDragon: the map of lanes; the walk.
  Conditions: none; lemmas.
-/
import Derived.Test.YtcjephdjemapbaaDoorLeafLaw
set_option linter.unusedSimpArgs false
set_option linter.unusedVariables false
namespace Go.Proofs.YtcjephdjemapbaaDoor
open Go.Abs Go.Pur
set_option maxRecDepth 100000
set_option maxHeartbeats 2000000
def K2 (p : Int × Int) : Value := .agg #[.int .i64 p.1, .int .i64 p.2]
theorem ask_no {p : Int × Int} : ∀ {es : List MapEntry} {l : List (Int × Int)} (i : Nat), es.map (·.key) = l.map K2 → p ∉ l → prun Tryd.prog (Instr.findAsking 47 (K2 p) es i) = some none
 | [], [], i, _, _ => rfl
 | [], _ :: _, i, h, _ => by simp at h
 | _ :: _, [], i, h, _ => by simp at h
 | e :: es, q :: l, i, h, hp => by
  simp only [List.map_cons, List.cons.injEq] at h
  simp only [List.mem_cons, not_or] at hp
  rw [Instr.findAsking]
  have he : prun Tryd.prog (Op.equal 47 (K2 p) e.key) = some false := by
   rw [h.1]
   unfold Op.equal K2
   rw [show Op.maxDepth = 9998 + 1 + 1 from rfl, equal47]
   congr 1
   have := hp.1
   obtain ⟨a, b⟩ := p
   obtain ⟨c, d⟩ := q
   simp only [Prod.mk.injEq] at this
   by_cases h1 : a = c
   ·have h2 : ¬ b = d := fun h2 => this ⟨h1, h2⟩
    simp [h2]
   ·simp [h1]
  rw [prun_bind _ _ he]
  simp only [Bool.false_eq_true, if_false]
  exact ask_no (i + 1) h.2 hp.2
theorem key_ok {emp : Bool} {p : Int × Int} : prun Tryd.prog (Instr.checkKey emp 10000 47 (K2 p)) = some () := by
 cases emp <;> kernel_rfl
theorem find_no {emp : Bool} {es : List MapEntry} {l : List (Int × Int)} {p : Int × Int} (h : es.map (·.key) = l.map K2) (hp : p ∉ l) : afind Tryd.prog 47 emp (K2 p) es = some none := by
 unfold afind
 rw [key_ok]
 simp only []
 unfold Instr.findKey
 rw [prun_bind _ _ (prun_und Tryd.underlying47)]
 cases es with
 | nil => rfl
 | cons e es =>
  have hn : Instr.findNow (.array 2 3) (K2 p) (e :: es) 0 = none := rfl
  rw [hn]
  exact ask_no 0 h hp
theorem look_no {es : List MapEntry} {l : List (Int × Int)} {p : Int × Int} (h : es.map (·.key) = l.map K2) (hp : p ∉ l) : alook Tryd.prog 48 es (.agg #[.int .i64 p.1, .int .i64 p.2]) false = some (.bool false) := by
 unfold alook
 rw [show mapTy Tryd.prog 48 = some (47, 4) by kernel_rfl]
 simp only []
 rw [show (Value.agg #[.int .i64 p.1, .int .i64 p.2]) = K2 p from rfl, find_no h hp]
 simp only []
 rw [show azero Tryd.prog 4 = some (.bool false) by kernel_rfl]
 rfl
theorem upd_no {es : List MapEntry} {c : Nat} {l : List (Int × Int)} {p : Int × Int} (h : es.map (·.key) = l.map K2) (hp : p ∉ l) : aupd Tryd.prog 48 es c (.agg #[.int .i64 p.1, .int .i64 p.2]) (.bool true) = some (es ++ [⟨K2 p, .bool true, c⟩], c + 1) := by
 unfold aupd
 rw [show mapTy Tryd.prog 48 = some (47, 4) by kernel_rfl]
 simp only []
 rw [show (Value.agg #[.int .i64 p.1, .int .i64 p.2]) = K2 p from rfl, find_no h hp]
attribute [local simp] EK_region EK_seq EK_cond EK_block EK_blk EK_loop EK_exit EK.ex EK_ret EK_skip EK_nil EO_cons EO_nil EO1_true EO1_false EO2_some EO3_some EB_true EB_false pwanted poper pq pev Go.Pur.look pputT isAssign drOf pinit Tr.get_set lget pvOf_int pvOf_bool pvOf_str pvOf_nil rdv_ak notOwn_ak prt_ak loose_ak rdv_own rdv_fz rdv_bor rdv_rf rdv_pt rdv_v rdv_a rdv_t rdv_r rdv_p rdv_s rdv_f pbin plen pload ppart idxAddr pcond Nat.blt goInt_eq prun_not prun_neg mayLoad ER_ret ER_normal presL presOne moved stor okDrop settle_v settle_l settle_a settle_p settle_f noref_v noref_fz noref_a norefs_nil norefs_cons pclose given dropB Y0_keep pevParts stors pvCells pvCells.go vcells pfill reps zipParts ownFz pcells cellOK one psrcLen srcFits psrc takeP pgrow take getPl setPl mapL plEq elder isList lowP pevs frzs addP partAt ble_lim24 killV_v killV_a killV_t killV_f killV_i killV_p killV_s killV_un killV_dead killV_lfz killV_lbor killV_lown killV_rfz killV_rbor killV_lak killV_rak frzV_v frzV_a frzV_t frzV_f frzV_i frzV_p frzV_s frzV_un frzV_dead frzV_lfz frzV_lbor frzV_lown frzV_rfz frzV_rbor frzV_lak frzV_rak killCell_v killCell_a killCell_t killCell_f killCell_i killCell_p killCell_s killCell_un killCell_dead killCell_lfz killCell_lbor killCell_lown killCell_rfz killCell_rbor killCell_lak killCell_rak killV_lrf killV_lpt killV_rpt frzV_lrf frzV_lpt frzV_rpt killCell_lrft killCell_lptt killCell_rptt killCell_lrfc killCell_lptc killCell_rptc argv_lak argv_rak argv_v argv_a argv_p argv_f argv_fz argv_bor argv_rf argv_pt argv_rc argv_own mayTurn_none argvs pcallOp firm refsTo_v refsTo_l refsTo_p refsTo_s refsTo_a refsTo_dead refsTo_nil refsTo_cons isOwn_lak ownFz_lak evSafe pskip plain pnewBlk fldAddr isOwn pput notOwn_fz notOwn_bor notOwn_own notOwn_rf notOwn_pt prt_fz prt_bor prt_own prt_rf prt_pt Go.Pur.freeze presM settles abin_and abin_or abin_andNot abin_mul abin_shr abin_shl abin_add abin_sub abin_eql abin_neq abin_lss abin_leq abin_gtr abin_geq hows pcallIn Y0_how Y0_part howOf partOf rdv_mown rdv_mfz rdv_mbor rdv_mrf killV_mown killV_mfz killV_mbor killV_mrf frzV_mown frzV_mfz frzV_mbor frzV_mrf killCell_mown killCell_mfz killCell_mbor killCell_mrf argv_mfz argv_mbor argv_mrf settle_m kls_v kls_l kls_a kls_t kls_r kls_p kls_s kls_f kls_i kls_it kls_un kls_dead kls_mown kls_mrf kls_mbor kls_mfz fzOf takable mapHere mapOwn mapTo flat toPlain toPlain.go ofFlat ofPair mapEs plook lookRes Y0_mv mvOf mvBlk premv keep7 sz3 by3 row3 zero3 sz4 by4 row4 zero4 sz5 by5 row5 zero5 sz9 by9 row9 shape9 zero9 sz21 by21 row21 zero21 sz23 by23 row23 shape23 zero23 sz24 by24 row24 zero24 sz38 by38 row38 shape38 zero38 sz47 by47 row47 shape47 zero47 parts47 sz51 by51 row51 zero51 sz54 by54 row54 shape54 zero54 sz55 by55 row55 shape55 zero55 sz58 by58 row58 shape58 zero58 sz60 by60 row60 zero60 sz63 by63 row63 shape63 zero63 sz73 by73 row73 shape73 zero73 parts73 sz79 by79 row79 shape79 zero79 sz81 by81 row81 shape81 zero81 parts81 sz86 by86 row86 shape86 parts86 sz90 by90 row90 zero90 sz92 by92 row92 zero92 sz96 by96 row96 zero96 parts96 field96_0 field96_1 sz99 by99 row99 zero99 sz104 by104 row104 zero104 sz106 by106 row106 zero106 parts106 field106_0 field106_1 sz119 by119 row119 zero119 sz123 by123 row123 zero123 sz124 by124 row124 shape124 zero124 parts124 sz125 by125 row125 shape125 zero125 parts125 sz126 by126 row126 shape126 parts126 sz128 by128 row128 zero128 parts128 field128_0 field128_1 sz129 by129 row129 shape129 zero129 parts129 sz133 by133 row133 zero133 bs_size gAt gAt0 sAt sAt0 optPlain rows_len noMaker_eq kindOf vlOf abin_rem abin_quo mayTurn_none lowOf_none Go.Pur.partAt rows_nil rows_cons ble_add ble_add0 ble_same toPlain toPlain.go intIn2_0 intIn2_1 ble12 ble22 tv lv max_int min_int pplains ak_true ak_false apartP beq_add beq_add0 beq_add1 argv_s wok_none wok_low_iff lowOf_wok
theorem lowOf0 {w : Option Nat} : lowOf 0 w = none := by
 cases w with
 | none => rfl
 | some a => rfl
def laneP (W : List (Int × Int)) (i : Nat) : Int × Int := ((W.getD i (0, 0)).1 + (W.getD (i + 1) (0, 0)).1, (W.getD i (0, 0)).2 + (W.getD (i + 1) (0, 0)).2)
theorem f7_walk {m y : Int} {fs cs : List UInt8} {c1 c2 : Ck} {W : List (Int × Int)} {x z : Int} {N : Nat}
  (e42 : ∀ hp, E Tryd.prog Y0 42 [kv .u8 m, kv .u8 y] hp = some (.v (.string (bs fs)), hp, none))
  (e23 : ∀ hp, E Tryd.prog Y0 23 [.v (.string (bs fs))] hp = some (.t [.v (.string (bs cs)), iv 0], hp, none))
  (e25 : ∀ hp, E Tryd.prog Y0 25 [.v (.string (bs fs))] hp = some (.t [iv x, iv z, iv 0], hp, none))
  (hs : shlI .i64 1 (fs.length : Int) = N) (hN : 1 ≤ N) (hN2 : N ≤ 64) (hc : cs.length = N - 1)
  (e43 : ∀ hp, E Tryd.prog Y0 43 [.v (.string (bs cs)), .v (.string ⟨#[118, 104]⟩)] hp = some (.v (.string ByteArray.empty), hp, none))
  (hx : -64 ≤ x ∧ x ≤ 64 ∧ -64 ≤ z ∧ z ≤ 64) (hxz : IntKind.i64.wrap (mulI .i64 x x + mulI .i64 z z) = N)
  (e35 : ∀ hp, E Tryd.prog Y0 35 [.v (.string (bs cs))] hp = some (.t [.l .fz c1 W.length (rows W), iv 0], hp, none))
  (e44 : ∀ hp, E Tryd.prog Y0 44 [.v (.string (bs cs))] hp = some (.l (vlOf c2) c2 W.length (rows W), hp, none))
  (e39 : ∀ hp, E Tryd.prog Y0 39 [.l .fz c1 W.length (rows W), .l .fz c2 W.length (rows W)] hp = some (.v (.bool true), hp, none))
  (e39b : ∀ hp, E Tryd.prog Y0 39 [.l .fz c1 W.length (rows W), .l .bor c2 W.length (rows W)] hp = some (.v (.bool true), hp, none))
  (e37 : ∀ hp, E Tryd.prog Y0 37 [.v (.string (bs cs))] hp = some (.t [iv 0, iv 0, iv 13], hp, none))
  (e17 : ∀ hp, E Tryd.prog Y0 17 [] hp = some (.v (.bool true), hp, none)) (hW : W.length = N + 1) (hend : W[N]? = some (x, z))
  (e45 : ∀ a b c d hp, E Tryd.prog Y0 45 [.a [iv a, iv b], .a [iv c, iv d]] hp = some (.a [iv (IntKind.i64.wrap (a + c)), iv (IntKind.i64.wrap (b + d))], hp, none))
  (hnear : ∀ i, -1000 ≤ (W.getD i (0, 0)).1 ∧ (W.getD i (0, 0)).1 ≤ 1000 ∧ -1000 ≤ (W.getD i (0, 0)).2 ∧ (W.getD i (0, 0)).2 ≤ 1000)
  (hnd : ∀ i j, i < j → j < N → ¬ ((W.getD i (0, 0)).1 + (W.getD (i + 1) (0, 0)).1 = (W.getD j (0, 0)).1 + (W.getD (j + 1) (0, 0)).1 ∧ (W.getD i (0, 0)).2 + (W.getD (i + 1) (0, 0)).2 = (W.getD j (0, 0)).2 + (W.getD (j + 1) (0, 0)).2)) :
  E Tryd.prog Y0 7 [kv .u8 m, kv .u8 y] [] = some (.v (.bool true), [], none) := by
 have hl : (bs cs).size = cs.length := bs_size
 have w1 : IntKind.i64.wrap ((N : Int) - 1) = ((N - 1 : Nat) : Int) := by rw [wrap64 (by omega) (by omega)]; omega
 rw [E_bodyN 2 body7 rfl (by decide) rfl]
 simp only [Tryd.f7, Option.get_some]
 have q43 : ∀ x y, abin Tryd.prog .neq 9 x y (.string ByteArray.empty) (.string ⟨#[]⟩) = some (.bool false) := fun x y => by kernel_rfl
 have x1 : ¬ x < -64 := by omega
 have x2 : ¬ 64 < x := by omega
 have x3 : ¬ z < -64 := by omega
 have x4 : ¬ 64 < z := by omega
 have i1 : intIn W.length (.int .i64 (N : Int)) = some N := intIn_nat (by omega)
 have d1 := rows_at hend
 have f1 : Nat.ble ((N + 1) * 2) (W.length * 2) = true := rows_ble (by omega)
 have q47 : ∀ u v, abin Tryd.prog .neq 47 u v (.agg #[.int .i64 x, .int .i64 z]) (.agg #[.int .i64 x, .int .i64 z]) = some (.bool false) := fun u v => by rw [neq47]; simp
 simp [e42, e23, e25, hs, hc, w1, e43, hl, q43, x1, x2, x3, x4, hxz, e35, e44]
 cases c2
 all_goals simp [vlOf, e39, e39b, i1, d1, f1, q47]
 all_goals
  refine loop_ind (fun q σ => ∃ (i : Nat) (es : List MapEntry) (cl : Nat) (ts : Tr PV) (hs : List (Option (List PV))) (w : Option Nat), q + i = N ∧ es.map (·.key) = ((List.range i).map (laneP W)).map K2 ∧ σ = ⟨[], ts, hs, w⟩ ∧ ts.get 12 = some (.l .fz c1 W.length (rows W)) ∧ ts.get 13 = some (.m .own es cl) ∧ ts.get 6 = some (.v (.string (bs cs))) ∧ ts.get 105 = some (iv N) ∧ ts.get 106 = some (iv i)) (n0 := N) ?_ ?_
  ·exact ⟨0, [], 0, _, _, _, by omega, rfl, rfl, by simp, by simp, by simp, by simp, by simp⟩
  ·rintro q σ ⟨i, es, cl, ts, hs, w, hq, hk, rfl, g12, g13, g6, g105, g106⟩ ih
   by_cases hi : i < N
   ·have h1 : (i : Int) < (N : Int) := by omega
    have at_ : ∀ t, t < N + 1 → W[t]? = some (W.getD t (0, 0)) := fun t ht => by
     rw [List.getD_eq_getElem?_getD, List.getElem?_eq_getElem (by omega)]; rfl
    have d1 := rows_at (at_ i (by omega))
    have d2 := rows_at (at_ (i + 1) (by omega))
    have n1 := hnear i
    have n2 := hnear (i + 1)
    have hno : laneP W i ∉ (List.range i).map (laneP W) := fun h => by
     obtain ⟨j, hj, e⟩ := List.mem_map.1 h
     rw [List.mem_range] at hj
     simp only [laneP, Prod.mk.injEq] at e
     exact hnd j i hj hi e
    have hlk := look_no hk hno
    have hup := upd_no (c := cl) hk hno
    have hk2 : (es ++ [(⟨K2 ((W.getD i (0, 0)).1 + (W.getD (i + 1) (0, 0)).1, (W.getD i (0, 0)).2 + (W.getD (i + 1) (0, 0)).2), .bool true, cl⟩ : MapEntry)]).map (·.key) = ((List.range (i + 1)).map (laneP W)).map K2 := by
     rw [List.map_append, hk, List.range_succ, List.map_append, List.map_append]; rfl
    simp only [laneP] at hlk hup
    have w2 : IntKind.i64.wrap ((i : Int) + 1) = ((i + 1 : Nat) : Int) := wrap_nat (by omega)
    have e45' : ∀ hp, E Tryd.prog Y0 45 [.a [iv (W.getD i (0, 0)).1, iv (W.getD i (0, 0)).2], .a [iv (W.getD (i + 1) (0, 0)).1, iv (W.getD (i + 1) (0, 0)).2]] hp = some (.a [iv ((W.getD i (0, 0)).1 + (W.getD (i + 1) (0, 0)).1), iv ((W.getD i (0, 0)).2 + (W.getD (i + 1) (0, 0)).2)], hp, none) := fun hp => by
     rw [e45, wrap64 (by omega) (by omega), wrap64 (by omega) (by omega)]
    have i1 : intIn W.length (.int .i64 (i : Int)) = some i := intIn_nat (by omega)
    have i2 : intIn W.length (.int .i64 ((i : Int) + 1)) = some (i + 1) := by
     rw [show (i : Int) + 1 = ((i + 1 : Nat) : Int) from rfl]; exact intIn_nat (by omega)
    have f1 : Nat.ble ((i + 1) * 2) (W.length * 2) = true := rows_ble (by omega)
    have f2 : Nat.ble ((i + 1 + 1) * 2) (W.length * 2) = true := rows_ble (by omega)
    generalize W.getD i (0, 0) = a at *
    generalize W.getD (i + 1) (0, 0) = b at *
    simp [g12, g13, g6, g105, g106, h1, w2, e45', i1, i2, d1, d2, f1, f2, hlk, hup]
    generalize hmt : mayTurn _ = mb; obtain rfl : mb = true := hmt.symm.trans (by kernel_rfl); clear hmt
    have q2 : spliceP 0 [iv (a.1 + b.1), iv (a.2 + b.2)] [iv 0, iv 0] = some [iv (a.1 + b.1), iv (a.2 + b.2)] := rfl
    simp [q2, g12, g13, g6, g105, g106, hlk, hup, w2]
    refine ih (q - 1) _ (by omega) ⟨i + 1, _, cl + 1, _, _, _, by omega, hk2, rfl, by simp [g12], by simp, by simp [g6], by simp [g105], by simp⟩
   ·have h1 : ¬ (i : Int) < (N : Int) := by omega
    clear ih
    simp [g12, g13, g6, g105, g106, h1, e37, e17, lowOf0]
end Go.Proofs.YtcjephdjemapbaaDoor
