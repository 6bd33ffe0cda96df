/-
  All places of a part: the reference.
  Conditions: none; definitions and lemmas.
-/
import Derived.Test.YtmnmfmghmenkkaaWays1
set_option linter.unusedSimpArgs false
set_option linter.unusedVariables false
namespace Go.Proofs.Ytmnmfmghmenkkaa
open Go.Abs Go.Pur
set_option maxRecDepth 100000
set_option maxHeartbeats 2000000
def cellL (p : Ck × List Int) : PV := .l .fz p.1 p.2.length (p.2.map iv)
def consC (i : Nat) (p : Ck × List Int) : Ck × List Int := (if p.2.length = 0 then .full else .nz, (i : Int) :: p.2)
def plW (w : List UInt8) : List UInt8 → Nat → List (Ck × List Int)
 | [], _ => [(.nz, [])]
 | d :: r, from_ => (List.range' from_ (w.length - from_)).flatMap fun i => if w.getD i 0 = d then (plW w r (i + 1)).map (consC i) else []
def vlP : List UInt8 → Vl
 | [] => .fz
 | _ => .own
def ckP : List UInt8 → Ck
 | [] => .full
 | _ => .nz
theorem plW_len {w : List UInt8} : ∀ {p : List UInt8} {f : Nat} {q : Ck × List Int}, q ∈ plW w p f → q.2.length = p.length
 | [], f, q, h => by simp [plW] at h; subst h; rfl
 | d :: r, f, q, h => by
  unfold plW at h
  obtain ⟨i, _, h⟩ := List.mem_flatMap.1 h
  split at h
  ·obtain ⟨q', hq, rfl⟩ := List.mem_map.1 h
   have := plW_len hq
   simp [consC, this]
  ·cases h
theorem flat_le {α β : Type} {G : α → List β} {M : Nat} (h : ∀ x, (G x).length ≤ M) : ∀ l : List α, (l.flatMap G).length ≤ l.length * M
 | [] => by simp
 | x :: l => by
  have h1 := h x
  have h2 := flat_le h l
  rw [List.flatMap_cons, List.length_append, List.length_cons, Nat.add_mul]; omega
theorem plW_cnt {w : List UInt8} (hw : w.length ≤ 10) : ∀ (p : List UInt8) (f : Nat), (plW w p f).length ≤ 10 ^ p.length
 | [], f => by simp [plW]
 | d :: r, f => by
  unfold plW
  refine Nat.le_trans (flat_le (M := 10 ^ r.length) (fun i => ?_) _) ?_
  ·split
   ·rw [List.length_map]; exact plW_cnt hw r (i + 1)
   ·simp
  ·rw [List.length_range', List.length_cons, Nat.pow_succ, Nat.mul_comm]
   exact Nat.mul_le_mul_left _ (by omega)
attribute [local simp] EK_region EK_seq EK_cond EK_block EK_blk EK_loop EK_exit EK.ex EK_ret EK_skip EK_nil EO_cons EO_nil EO1_true EO1_false EO2_some EO3_some EB_true EB_false pwanted poper pq pev Go.Pur.look pputT isAssign drOf pinit Tr.get_set lget pvOf_int pvOf_bool pvOf_str pvOf_nil rdv_ak notOwn_ak prt_ak loose_ak rdv_own rdv_fz rdv_bor rdv_rf rdv_pt rdv_v rdv_a rdv_t rdv_r rdv_p rdv_s rdv_f pbin plen pload ppart idxAddr pcond Nat.blt goInt_eq prun_not prun_neg mayLoad ER_ret ER_normal presL presOne moved stor okDrop settle_v settle_l settle_a settle_p settle_f noref_v noref_fz noref_a norefs_nil norefs_cons pclose given dropB Y0_keep pevParts stors pvCells pvCells.go vcells pfill reps zipParts ownFz pcells cellOK one psrcLen srcFits psrc takeP pgrow take getPl setPl mapL plEq elder isList lowP pevs frzs addP partAt ble_lim24 killV_v killV_a killV_t killV_f killV_i killV_p killV_s killV_un killV_dead killV_lfz killV_lbor killV_lown killV_rfz killV_rbor killV_lak killV_rak frzV_v frzV_a frzV_t frzV_f frzV_i frzV_p frzV_s frzV_un frzV_dead frzV_lfz frzV_lbor frzV_lown frzV_rfz frzV_rbor frzV_lak frzV_rak killCell_v killCell_a killCell_t killCell_f killCell_i killCell_p killCell_s killCell_un killCell_dead killCell_lfz killCell_lbor killCell_lown killCell_rfz killCell_rbor killCell_lak killCell_rak killV_lrf killV_lpt killV_rpt frzV_lrf frzV_lpt frzV_rpt killCell_lrft killCell_lptt killCell_rptt killCell_lrfc killCell_lptc killCell_rptc argv_lak argv_rak argv_v argv_a argv_p argv_f argv_fz argv_bor argv_rf argv_pt argv_rc argv_own mayTurn_none argvs pcallOp firm refsTo_v refsTo_l refsTo_p refsTo_s refsTo_a refsTo_dead refsTo_nil refsTo_cons isOwn_lak ownFz_lak evSafe pskip plain pnewBlk fldAddr isOwn pput notOwn_fz notOwn_bor notOwn_own notOwn_rf notOwn_pt prt_fz prt_bor prt_own prt_rf prt_pt Go.Pur.freeze presM settles abin_and abin_or abin_andNot abin_mul abin_shr abin_shl abin_add abin_sub abin_eql abin_neq abin_lss abin_leq abin_gtr abin_geq hows pcallIn Y0_how Y0_part howOf partOf rdv_mown rdv_mfz rdv_mbor rdv_mrf killV_mown killV_mfz killV_mbor killV_mrf frzV_mown frzV_mfz frzV_mbor frzV_mrf killCell_mown killCell_mfz killCell_mbor killCell_mrf argv_mfz argv_mbor argv_mrf settle_m kls_v kls_l kls_a kls_t kls_r kls_p kls_s kls_f kls_i kls_it kls_un kls_dead kls_mown kls_mrf kls_mbor kls_mfz fzOf takable mapHere mapOwn mapTo flat toPlain toPlain.go ofFlat ofPair mapEs plook lookRes Y0_mv mvOf mvBlk premv Y0_fzm fzmOf poperX pconv keep59 sz3 by3 row3 zero3 sz4 by4 row4 zero4 sz5 by5 row5 zero5 sz9 by9 row9 shape9 zero9 sz21 by21 row21 zero21 sz22 by22 row22 zero22 sz24 by24 row24 zero24 sz29 by29 row29 shape29 zero29 sz36 by36 row36 shape36 zero36 sz52 by52 row52 shape52 zero52 parts52 sz54 by54 row54 zero54 parts54 field54_0 field54_1 sz58 by58 row58 zero58 mt58 az3 sz63 by63 row63 zero63 sz66 by66 row66 shape66 zero66 parts66 sz67 by67 row67 shape67 zero67 sz75 by75 row75 shape75 zero75 sz76 by76 row76 shape76 zero76 sz78 by78 row78 zero78 mt78 sz79 by79 row79 shape79 zero79 sz92 by92 row92 zero92 sz94 by94 row94 zero94 parts94 field94_0 field94_1 sz99 by99 row99 shape99 zero99 sz102 by102 row102 zero102 mt102 az4 sz103 by103 row103 zero103 mt103 sz106 by106 row106 zero106 parts106 field106_0 field106_1 sz108 by108 row108 zero108 parts108 field108_0 field108_1 sz109 by109 row109 shape109 zero109 sz110 by110 row110 zero110 mt110 sz112 by112 row112 zero112 sz115 by115 row115 zero115 sz116 by116 row116 zero116 sz119 by119 row119 zero119 sz127 by127 row127 zero127 sz129 by129 row129 zero129 sz130 by130 row130 zero130 sz134 by134 row134 zero134 bs_size gAt gAt0 sAt sAt0 optPlain rows_len noMaker_eq kindOf vlOf abin_rem abin_quo mayTurn_none lowOf_none Go.Pur.partAt rows_nil rows_cons ble_add ble_add0 ble_same toPlain toPlain.go intIn2_0 intIn2_1 ble12 ble22 tv lv max_int min_int pplains ak_true ak_false apartP beq_add beq_add0 beq_add1 argv_s wok_none wok_low_iff lowOf_wok
theorem f59_walk {w : List UInt8} (hw : w.length ≤ 10) : ∀ (p : List UInt8), p.length ≤ 10 → ∀ (from_ : Nat) (hp : List (Option (List PV))), from_ ≤ 11 →
  E Try.prog Y0 59 [.v (.string (bs w)), .v (.string (bs p)), iv from_] hp = some (.l (vlP p) (ckP p) (plW w p from_).length ((plW w p from_).map cellL), hp, none)
 | [], _, from_, hp, _ => by
  have q2 : ∀ x y, abin Try.prog .eql 9 x y (.string (bs [])) (.string ⟨#[]⟩) = some (.bool true) := fun x y => by kernel_rfl
  rw [E_bodyN 3 body59 rfl (by decide) rfl]
  simp only [Try.f59, Option.get_some]
  simp [q2, plW, vlP, ckP, cellL]
 | d :: r, hp10, from_, hp, hf => by
  have q2 : ∀ x y, abin Try.prog .eql 9 x y (.string (bs (d :: r))) (.string ⟨#[]⟩) = some (.bool false) := fun x y => by
   rw [abin_seql]; simp
  have ih59 := fun fr hp h => f59_walk hw r (by simp at hp10; omega) fr hp h
  have hsz : (bs w).size = w.length := bs_size
  have e2 := (gS_ok (P := Try.prog) (t := 9) (k := .i64) Try.underlying9 shape9 (show gS (d :: r) ((0 : Nat) : Int) = some (d.toNat : Int) from rfl)).1
  rw [show ((0 : Nat) : Int) = 0 from rfl] at e2
  have hcnt := plW_cnt hw (d :: r) from_
  have hp11 : 10 ^ (d :: r).length ≤ 10 ^ 10 := Nat.pow_le_pow_right (by decide) hp10
  obtain ⟨T, hT⟩ : ∃ T, plW w (d :: r) from_ = T := ⟨_, rfl⟩
  rw [hT] at hcnt ⊢
  have hT0 : (List.range' from_ (w.length - from_)).flatMap (fun i => if w.getD i 0 = d then (plW w r (i + 1)).map (consC i) else []) = T := by rw [← hT, plW]
  clear hT
  have hTl : T.length ≤ 10000000000 := Nat.le_trans hcnt (Nat.le_trans hp11 (by decide))
  rw [E_bodyN 3 body59 rfl (by decide) rfl]
  simp only [Try.f59, Option.get_some]
  simp [q2, vlP, ckP]
  refine loop_ind (fun m σ => ∃ (i : Nat) (acc : List (Ck × List Int)) (ts : Tr PV), m = w.length - i ∧ i ≤ 11 ∧ acc ++ (List.range' i (w.length - i)).flatMap (fun i => if w.getD i 0 = d then (plW w r (i + 1)).map (consC i) else []) = T ∧ σ = ⟨[], ts, hp, none⟩ ∧ ts.get 0 = some (.v (.string (bs w))) ∧ ts.get 1 = some (.v (.string (bs (d :: r)))) ∧ ts.get 7 = some (.l .own .nz acc.length (acc.map cellL)) ∧ ts.get 8 = some (iv i)) (n0 := w.length - from_) ?_ ?_
  ·exact ⟨from_, [], _, rfl, hf, hT0, rfl, by simp, by simp, by simp, by simp⟩
  ·rintro m σ ⟨i, acc, ts, rfl, hi11, hacc, rfl, g0, g1, g7, g8⟩ ih
   by_cases hi : i < w.length
   ·have h1 : (i : Int) < (w.length : Int) := by omega
    have w1 : IntKind.i64.wrap ((i : Int) + 1) = ((i + 1 : Nat) : Int) := wrap_nat (by omega)
    have hg : gS w (i : Int) = some (w[i].toNat : Int) := by
     show (match w[i]? with | some c => some (c.toNat : Int) | none => none) = _
     rw [List.getElem?_eq_getElem hi]
    have e1 := (gS_ok (P := Try.prog) (t := 9) (k := .i64) Try.underlying9 shape9 hg).1
    have hgd : w.getD i 0 = w[i] := by rw [List.getD_eq_getElem?_getD, List.getElem?_eq_getElem hi]; rfl
    rw [show w.length - i = (w.length - (i + 1)) + 1 by omega, List.range'_succ, List.flatMap_cons, hgd] at hacc
    have e59 : ∀ hp, E Try.prog Y0 59 [.v (.string (bs w)), .v (.string (bs r)), iv ((i : Int) + 1)] hp = some (.l (vlP r) (ckP r) (plW w r (i + 1)).length ((plW w r (i + 1)).map cellL), hp, none) := fun hp => ih59 (i + 1) hp (by omega)
    generalize w[i] = c at *
    by_cases hc : c = d
    ·subst hc
     rw [if_pos rfl] at hacc
     have hlen := fun q (hq : q ∈ plW w r (i + 1)) => plW_len hq
     generalize plW w r (i + 1) = L at *
     generalize ckP r = cr at *
     have hvl : vlP r = .fz ∨ vlP r = .own := by cases r <;> simp [vlP]
     have hLT : acc.length + L.length ≤ T.length := by rw [← hacc]; simp [← Nat.add_assoc]
     generalize hrest : (List.range' (i + 1) (w.length - (i + 1))).flatMap (fun i => if w.getD i 0 = c then (plW w r (i + 1)).map (consC i) else []) = rest at *
     rcases hvl with hvl | hvl
     ·rw [hvl] at e59
      simp [g0, g1, g7, g8, hsz, h1, e1, e2, optPlain, slice_tail, w1, e59]
      refine loop_ind (fun m σ => ∃ (k n : Nat) (vl : Vl) (X : List PV) (ts : Tr PV), m + k = L.length ∧ n = acc.length + k ∧ (vl = .fz ∨ vl = .own) ∧ X = (acc ++ (L.take k).map (consC i)).map cellL ∧ σ = ⟨[], ts, hp, none⟩ ∧ ts.get 0 = some (.v (.string (bs w))) ∧ ts.get 1 = some (.v (.string (bs (c :: r)))) ∧ ts.get 7 = some (.l .own .nz n X) ∧ ts.get 8 = some (iv i) ∧ ts.get 9 = some (.l vl cr L.length (L.map cellL)) ∧ ts.get 10 = some (iv k)) (n0 := L.length) ?_ ?_
      ·exact ⟨0, acc.length, .fz, acc.map cellL, _, by omega, by omega, Or.inl rfl, by simp, rfl, by simp [g0], by simp [g1], by simp [g7], by simp [g8], by simp, by simp⟩
      ·rintro m σ ⟨k, n, vl, X, ts, hmk, hn, hvl2, hX, rfl, g0, g1, g7, g8, g9, g10⟩ ih2
       by_cases hk : k < L.length
       ·have h2 : (k : Int) < (L.length : Int) := by omega
        obtain ⟨⟨ck', l'⟩, hq⟩ : ∃ q, L[k]? = some q := ⟨_, List.getElem?_eq_getElem hk⟩
        have hl' : l'.length ≤ 10 := by
         have := hlen _ (List.mem_of_getElem? hq)
         simp at this hp10
         omega
        have x1 : intIn L.length (.int .i64 (k : Int)) = some k := intIn_nat hk
        have b1 : Nat.ble (k + 1) L.length = true := ble_true hk
        have hL2 : (L.map cellL)[k]? = some (.l .fz ck' l'.length (l'.map iv)) := by rw [List.getElem?_map, hq]; rfl
        have w2 : IntKind.i64.wrap ((k : Int) + 1) = ((k + 1 : Nat) : Int) := wrap_nat (by omega)
        have hXl : Nat.beq X.length n = true := beqT (by rw [hX, hn]; simp; omega)
        have hlim : Nat.ble ((n + 1) * 26) limit = true := ble_true (by unfold limit; omega)
        have hci : L.take (k + 1) = L.take k ++ [(ck', l')] := by rw [List.take_add_one, hq]; rfl
        have hX2 : X ++ [cellL (consC i (ck', l'))] = (acc ++ (L.take (k + 1)).map (consC i)).map cellL := by
         rw [hci, List.map_append, List.map_append, List.map_append, ← List.append_assoc, ← List.map_append, ← hX]; rfl
        cases l' with
        | nil =>
         rcases hvl2 with rfl | rfl
         ·simp [g0, g1, g7, g8, g9, g10, h2, x1, b1, hL2, w2, hXl, hlim]
          exact ih2 (m - 1) _ (by omega) ⟨k + 1, n + 1, .fz, _, _, by omega, by omega, Or.inl rfl, hX2, rfl, by simp [g0], by simp [g1], by simp [consC, cellL], by simp [g8], by simp [g9], by simp⟩
         ·simp [g0, g1, g7, g8, g9, g10, h2, x1, b1, hL2, w2, hXl, hlim]
          exact ih2 (m - 1) _ (by omega) ⟨k + 1, n + 1, .own, _, _, by omega, by omega, Or.inr rfl, hX2, rfl, by simp [g0], by simp [g1], by simp [consC, cellL], by simp [g8], by simp [g9], by simp⟩
        | cons x xs =>
         have hz : Nat.beq (xs.length + 1) 0 = false := beqF (by omega)
         have ht : takeP xs.length (xs.map iv) = some (xs.map iv) := takeP_map
         have hlim2 : Nat.ble ((1 + (xs.length + 1)) * 10) limit = true := ble_true (by simp at hl'; unfold limit; omega)
         have hall : xs.all (cellOK ∘ iv) = true := by rw [List.all_eq_true]; intro x _; rfl
         rcases hvl2 with rfl | rfl
         ·simp [g0, g1, g7, g8, g9, g10, h2, x1, b1, hL2, w2, hXl, hlim, hz, ht, hlim2, hall]
          exact ih2 (m - 1) _ (by omega) ⟨k + 1, n + 1, .fz, _, _, by omega, by omega, Or.inl rfl, hX2, rfl, by simp [g0], by simp [g1], by simp [consC, cellL]; omega, by simp [g8], by simp [g9], by simp⟩
         ·simp [g0, g1, g7, g8, g9, g10, h2, x1, b1, hL2, w2, hXl, hlim, hz, ht, hlim2, hall]
          exact ih2 (m - 1) _ (by omega) ⟨k + 1, n + 1, .own, _, _, by omega, by omega, Or.inr rfl, hX2, rfl, by simp [g0], by simp [g1], by simp [consC, cellL]; omega, by simp [g8], by simp [g9], by simp⟩
       ·have h2 : ¬ (k : Int) < (L.length : Int) := by omega
        obtain rfl : k = L.length := by omega
        rw [List.take_length] at hX
        clear ih2
        have w3 : IntKind.i64.wrap ((i : Int) + 1) = ((i + 1 : Nat) : Int) := wrap_nat (by omega)
        rcases hvl2 with rfl | rfl
        all_goals
         simp [g0, g1, g7, g8, g9, g10, h2, w3]
         exact ih (w.length - (i + 1)) _ (by omega) ⟨i + 1, acc ++ L.map (consC i), _, rfl, by omega, by rw [List.append_assoc, hrest]; exact hacc, rfl, by simp [g0], by simp [g1], by simp [g7, hX, hn], by simp⟩
     ·rw [hvl] at e59
      simp [g0, g1, g7, g8, hsz, h1, e1, e2, optPlain, slice_tail, w1, e59]
      refine loop_ind (fun m σ => ∃ (k n : Nat) (vl : Vl) (X : List PV) (ts : Tr PV), m + k = L.length ∧ n = acc.length + k ∧ (vl = .fz ∨ vl = .own) ∧ X = (acc ++ (L.take k).map (consC i)).map cellL ∧ σ = ⟨[], ts, hp, none⟩ ∧ ts.get 0 = some (.v (.string (bs w))) ∧ ts.get 1 = some (.v (.string (bs (c :: r)))) ∧ ts.get 7 = some (.l .own .nz n X) ∧ ts.get 8 = some (iv i) ∧ ts.get 9 = some (.l vl cr L.length (L.map cellL)) ∧ ts.get 10 = some (iv k)) (n0 := L.length) ?_ ?_
      ·exact ⟨0, acc.length, .own, acc.map cellL, _, by omega, by omega, Or.inr rfl, by simp, rfl, by simp [g0], by simp [g1], by simp [g7], by simp [g8], by simp, by simp⟩
      ·rintro m σ ⟨k, n, vl, X, ts, hmk, hn, hvl2, hX, rfl, g0, g1, g7, g8, g9, g10⟩ ih2
       by_cases hk : k < L.length
       ·have h2 : (k : Int) < (L.length : Int) := by omega
        obtain ⟨⟨ck', l'⟩, hq⟩ : ∃ q, L[k]? = some q := ⟨_, List.getElem?_eq_getElem hk⟩
        have hl' : l'.length ≤ 10 := by
         have := hlen _ (List.mem_of_getElem? hq)
         simp at this hp10
         omega
        have x1 : intIn L.length (.int .i64 (k : Int)) = some k := intIn_nat hk
        have b1 : Nat.ble (k + 1) L.length = true := ble_true hk
        have hL2 : (L.map cellL)[k]? = some (.l .fz ck' l'.length (l'.map iv)) := by rw [List.getElem?_map, hq]; rfl
        have w2 : IntKind.i64.wrap ((k : Int) + 1) = ((k + 1 : Nat) : Int) := wrap_nat (by omega)
        have hXl : Nat.beq X.length n = true := beqT (by rw [hX, hn]; simp; omega)
        have hlim : Nat.ble ((n + 1) * 26) limit = true := ble_true (by unfold limit; omega)
        have hci : L.take (k + 1) = L.take k ++ [(ck', l')] := by rw [List.take_add_one, hq]; rfl
        have hX2 : X ++ [cellL (consC i (ck', l'))] = (acc ++ (L.take (k + 1)).map (consC i)).map cellL := by
         rw [hci, List.map_append, List.map_append, List.map_append, ← List.append_assoc, ← List.map_append, ← hX]; rfl
        cases l' with
        | nil =>
         rcases hvl2 with rfl | rfl
         ·simp [g0, g1, g7, g8, g9, g10, h2, x1, b1, hL2, w2, hXl, hlim]
          exact ih2 (m - 1) _ (by omega) ⟨k + 1, n + 1, .fz, _, _, by omega, by omega, Or.inl rfl, hX2, rfl, by simp [g0], by simp [g1], by simp [consC, cellL], by simp [g8], by simp [g9], by simp⟩
         ·simp [g0, g1, g7, g8, g9, g10, h2, x1, b1, hL2, w2, hXl, hlim]
          exact ih2 (m - 1) _ (by omega) ⟨k + 1, n + 1, .own, _, _, by omega, by omega, Or.inr rfl, hX2, rfl, by simp [g0], by simp [g1], by simp [consC, cellL], by simp [g8], by simp [g9], by simp⟩
        | cons x xs =>
         have hz : Nat.beq (xs.length + 1) 0 = false := beqF (by omega)
         have ht : takeP xs.length (xs.map iv) = some (xs.map iv) := takeP_map
         have hlim2 : Nat.ble ((1 + (xs.length + 1)) * 10) limit = true := ble_true (by simp at hl'; unfold limit; omega)
         have hall : xs.all (cellOK ∘ iv) = true := by rw [List.all_eq_true]; intro x _; rfl
         rcases hvl2 with rfl | rfl
         ·simp [g0, g1, g7, g8, g9, g10, h2, x1, b1, hL2, w2, hXl, hlim, hz, ht, hlim2, hall]
          exact ih2 (m - 1) _ (by omega) ⟨k + 1, n + 1, .fz, _, _, by omega, by omega, Or.inl rfl, hX2, rfl, by simp [g0], by simp [g1], by simp [consC, cellL]; omega, by simp [g8], by simp [g9], by simp⟩
         ·simp [g0, g1, g7, g8, g9, g10, h2, x1, b1, hL2, w2, hXl, hlim, hz, ht, hlim2, hall]
          exact ih2 (m - 1) _ (by omega) ⟨k + 1, n + 1, .own, _, _, by omega, by omega, Or.inr rfl, hX2, rfl, by simp [g0], by simp [g1], by simp [consC, cellL]; omega, by simp [g8], by simp [g9], by simp⟩
       ·have h2 : ¬ (k : Int) < (L.length : Int) := by omega
        obtain rfl : k = L.length := by omega
        rw [List.take_length] at hX
        clear ih2
        have w3 : IntKind.i64.wrap ((i : Int) + 1) = ((i + 1 : Nat) : Int) := wrap_nat (by omega)
        rcases hvl2 with rfl | rfl
        all_goals
         simp [g0, g1, g7, g8, g9, g10, h2, w3]
         exact ih (w.length - (i + 1)) _ (by omega) ⟨i + 1, acc ++ L.map (consC i), _, rfl, by omega, by rw [List.append_assoc, hrest]; exact hacc, rfl, by simp [g0], by simp [g1], by simp [g7, hX, hn], by simp⟩
    ·rw [if_neg hc, List.nil_append] at hacc
     have hc2 : ¬ (c.toNat : Int) = (d.toNat : Int) := fun e => hc (UInt8.toNat.inj (by omega))
     simp [g0, g1, g7, g8, hsz, h1, e1, e2, hc2, w1]
     exact ih (w.length - (i + 1)) _ (by omega) ⟨i + 1, acc, _, rfl, by omega, hacc, rfl, by simp [g0], by simp [g1], by simp [g7], by simp⟩
   ·have h1 : ¬ (i : Int) < (w.length : Int) := by omega
    rw [show w.length - i = 0 by omega] at hacc
    simp at hacc
    subst hacc
    clear ih
    simp [g0, g1, g7, g8, hsz, h1]
end Go.Proofs.Ytmnmfmghmenkkaa
