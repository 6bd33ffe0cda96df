/-
  The rules of the given program, by the pure evaluator.
  The rules of the reference, by the pure evaluator.
  The plans of the three rules: the floor's bits with their times, and the reference's list, lead to the same plans.
  Conditions: none; definitions and lemmas.
-/
import Derived.Test.YtcdhajbhpnbdkaaDoorRunsLaw
set_option linter.unusedSimpArgs false
set_option linter.unusedVariables false
namespace Go.Proofs.YtcdhajbhpnbdkaaDoor
open Go.Abs Go.Pur
set_option maxRecDepth 100000
attribute [local simp] EK_region EK_seq EK_cond EK_block EK_blk EK_loop EK_exit EK.ex EK_ret EK_skip EK_nil EO_cons EO_nil EO1_true EO1_false EO2_some EO3_some EB_true EB_false pwanted poper pq pev Go.Pur.look pputT isAssign drOf pinit Tr.get_set lget pvOf_int pvOf_bool pvOf_str pvOf_nil rdv_ak notOwn_ak prt_ak loose_ak rdv_own rdv_fz rdv_bor rdv_rf rdv_pt rdv_v rdv_a rdv_t rdv_r rdv_p rdv_s rdv_f pbin plen pload ppart idxAddr pcond Nat.blt goInt_eq prun_not prun_neg mayLoad ER_ret ER_normal presL presOne moved stor okDrop settle_v settle_l settle_a settle_p settle_f noref_v noref_fz noref_a norefs_nil norefs_cons pclose given lowOf dropB Y0_keep pevParts stors pvCells pvCells.go vcells pfill reps zipParts ownFz pcells cellOK one psrcLen srcFits psrc takeP pgrow take getPl setPl mapL plEq elder isList lowP pevs frzs addP partAt ble_lim24 killV_v killV_a killV_t killV_f killV_i killV_p killV_s killV_un killV_dead killV_lfz killV_lbor killV_lown killV_rfz killV_rbor killV_lak killV_rak frzV_v frzV_a frzV_t frzV_f frzV_i frzV_p frzV_s frzV_un frzV_dead frzV_lfz frzV_lbor frzV_lown frzV_rfz frzV_rbor frzV_lak frzV_rak killCell_v killCell_a killCell_t killCell_f killCell_i killCell_p killCell_s killCell_un killCell_dead killCell_lfz killCell_lbor killCell_lown killCell_rfz killCell_rbor killCell_lak killCell_rak killV_lrf killV_lpt killV_rpt frzV_lrf frzV_lpt frzV_rpt killCell_lrft killCell_lptt killCell_rptt killCell_lrfc killCell_lptc killCell_rptc argv_lak argv_rak argv_v argv_a argv_p argv_f argv_fz argv_bor argv_rf argv_pt argv_rc argv_own mayTurn_none argvs pcallOp firm lowB refsTo_v refsTo_l refsTo_p refsTo_s refsTo_a refsTo_dead refsTo_nil refsTo_cons isOwn_lak ownFz_lak evSafe pskip plain pnewBlk fldAddr isOwn pput spliceP notOwn_fz notOwn_bor notOwn_own notOwn_rf notOwn_pt prt_fz prt_bor prt_own prt_rf prt_pt Go.Pur.freeze presM settles abin_and abin_or abin_andNot abin_mul abin_shr abin_shl abin_add abin_sub abin_eql abin_neq abin_lss abin_leq abin_gtr abin_geq hows pcallIn Y0_how Y0_part howOf partOf rdv_mown rdv_mfz rdv_mbor rdv_mrf killV_mown killV_mfz killV_mbor killV_mrf frzV_mown frzV_mfz frzV_mbor frzV_mrf killCell_mown killCell_mfz killCell_mbor killCell_mrf argv_mfz argv_mbor argv_mrf settle_m kls_v kls_l kls_a kls_t kls_r kls_p kls_s kls_f kls_i kls_it kls_un kls_dead kls_mown kls_mrf kls_mbor kls_mfz fzOf takable mapHere mapOwn mapTo flat toPlain toPlain.go ofFlat ofPair mapEs plook lookRes Y0_mv mvOf mvBlk premv
theorem index_is {l : List Int} {x : Int} {b : Bool} {c : Ck} {hp : List (Option (List PV))} (hl : l.length < 1000000000) :
  E Tryd.prog Y0 52 [.l (ak b) c l.length (l.map iv), iv x] hp = some (iv (ixOf (fun y => decide (x = y)) l), hp, none) := by
 rw [E_bodyN 2 body52 rfl (by decide) rfl]
 simp only [Tryd.f52, Option.get_some]
 simp [keep52, shape22]
 refine loop_ind (fun m σ => ∃ j ts, m + j = l.length ∧ σ = ⟨[], ts, hp, none⟩ ∧ ts.get 0 = some (.l (ak b) c l.length (l.map iv)) ∧ ts.get 1 = some (iv x) ∧ ts.get 7 = some (iv l.length) ∧ ts.get 8 = some (iv j) ∧ ∀ y ∈ l.take j, (fun y => decide (x = y)) y = false) (n0 := l.length) ?_ ?_
 ·exact ⟨0, _, rfl, rfl, by simp, by simp, by simp, by simp, by simp⟩
 ·rintro m σ ⟨j, ts, hm, rfl, g0, g1, g7, g8, hx⟩ ih
  rcases Nat.lt_or_ge j l.length with hj | hj
  ·have h2 : Nat.ble (j + 1) l.length = true := ble_true hj
   have h3 : l[j]? = some l[j] := List.getElem?_eq_getElem hj
   have hjj : (j : Int) < l.length := by omega
   by_cases hx2 : x = l[j]
   ·have := findIdx_at hx hj (by simpa using hx2)
    simp [keep52, g0, g1, g7, g8, shape22, row3, hjj, intIn_nat hj, h2, h3, ← hx2, this]
   ·simp [keep52, g0, g1, g7, g8, shape22, row3, hjj, intIn_nat hj, h2, h3, hx2, wrap_nat (show j < 1000000000000 by omega)]
    refine ih (m - 1) _ (by omega) ⟨j + 1, _, by omega, rfl, by simp [g0], by simp [g1], by simp [g7], by simp, ?_⟩
    intro y e
    rw [List.take_add_one, h3, List.mem_append] at e
    exact e.elim (hx y) fun e => by simp at e; subst e; simpa using hx2
  ·rw [List.take_of_length_le hj] at hx
   simp [keep52, g0, g1, g7, g8, shape22, show ¬ (j : Int) < l.length by omega, findIdx_none hx]
def ckF : Ck → Ck
 | .full => .full
 | _ => .any
theorem pslice_from {k : Vl} {c : Ck} {n j : Nat} {cs : List PV} {kk : IntKind} (hk : notOwn k = true) (hj : j ≤ n) (hl : cs.length = n) :
  pslice 1 k c n cs (some (.int kk (j : Int))) none none = some (.l (prt k) (ckF c) (n - j) (cs.drop j)) := by
 have e1 : natOfO 0 n 0 (some (.int kk (j : Int))) = some j := by
  show (match Nat.ble 0 j && Nat.ble j n with | true => some j | false => none) = some j
  simp only [nble, Nat.zero_le, decide_true, hj, Bool.and_self]
 have e2 : natOfO 0 n n none = some n := rfl
 unfold pslice
 simp only [e2, e1, nble, Nat.le_refl, decide_true, hiOk, hk, Nat.mul_one, hl, Bool.and_self]
 have e3 : (cs.drop j).take (n - j) = cs.drop j := by rw [List.take_of_length_le]; simp [hl]
 cases c <;> simp [slCk, ckF, capK, nbeq, e3]
def aft (pages : List Int) (p : Int) (t : Nat) : Int :=
 if 0 ≤ ixOf (fun y => decide (p = y)) (pages.drop t) then t + ixOf (fun y => decide (p = y)) (pages.drop t) else 12
theorem ixOf_lt {p : Int → Bool} {l : List Int} : ixOf p l < l.length ∧ -1 ≤ ixOf p l ∨ ixOf p l = -1 := by
 unfold ixOf
 split
 ·rename_i i h
  rw [List.findIdx?_eq_some_iff_getElem] at h
  obtain ⟨h, _⟩ := h
  left; omega
 ·right; rfl
theorem after_is {room p : Int} {pages : List Int} {t : Nat} {c : Ck} {hp : List (Option (List PV))} (hl : pages.length < 1000000000) (ht : t ≤ pages.length) :
  E Tryd.prog Y0 75 [.a [iv room, .l .fz c pages.length (pages.map iv)], iv p, iv t] hp = some (iv (aft pages p t), hp, none) := by
 rw [E_bodyN 3 body75 rfl (by decide) rfl]
 simp only [Tryd.f75, Option.get_some]
 have h1 := @pslice_from .fz c pages.length t (pages.map iv) .i64 rfl ht (by simp)
 have h2 := @index_is (pages.drop t) p false (ckF c) (hp ++ [some [iv room, .l .fz c pages.length (pages.map iv)]]) (by simp; omega)
 simp [ak] at h2
 have h3 := @ixOf_lt (fun y => decide (p = y)) (pages.drop t)
 unfold aft
 generalize ixOf (fun y => decide (p = y)) (pages.drop t) = x at *
 simp at h3
 by_cases h0 : 0 ≤ x
 ·have w : IntKind.i64.wrap ((t : Int) + x) = t + x := wrap64 (by omega) (by omega)
  simp [keep75, field24_1, row22, shape22, optPlain, pqSlice, h1, h2, h0, w]
 ·simp [keep75, field24_1, row22, shape22, optPlain, pqSlice, h1, h2, h0]
theorem later1_is {room p : Int} {pages : List Int} {t b b' : Nat} {c : Ck} {hp : List (Option (List PV))} (hl : pages.length < 1000000000) (ht : t ≤ pages.length) (hb : hp[b]? = some (some [iv room, .l .fz c pages.length (pages.map iv)])) :
  E Tryd.prog Y0 74 [.p b' 0, iv p, iv t, .p b 0] hp = some (iv (aft pages p t), hp, none) := by
 rw [E_bodyN 4 body74 rfl (by decide) rfl]
 simp only [Tryd.f74, Option.get_some]
 simp [keep74, row24, sz24, hb, after_is hl ht]
section
variable {x v : PV} {A B : List PV} {p : Nat}
theorem sp1 (h : p < A.length) : spliceP (1 + p) [v] (x :: (A ++ B)) = some (x :: (A.set p v ++ B)) := by
 unfold spliceP
 have h1 : Nat.ble (1 + p + [v].length) (x :: (A ++ B)).length = true := ble_true (by simp; omega)
 rw [h1]
 simp only [Option.some.injEq]
 rw [show 1 + p + [v].length = (p + 1) + 1 by simp; omega, show 1 + p = p + 1 by omega]
 simp only [List.take_succ_cons, List.drop_succ_cons, List.cons_append, List.cons.injEq, true_and]
 rw [List.take_append_of_le_length (by omega), List.drop_append_of_le_length (by omega), List.set_eq_take_append_cons_drop, if_pos h]
 simp
theorem sp7 (hA : A.length = 6) (h : p < B.length) : spliceP (7 + p) [v] (x :: (A ++ B)) = some (x :: (A ++ B.set p v)) := by
 unfold spliceP
 have h1 : Nat.ble (7 + p + [v].length) (x :: (A ++ B)).length = true := ble_true (by simp; omega)
 rw [h1]
 simp only [Option.some.injEq]
 rw [show 7 + p + [v].length = (A.length + (p + 1)) + 1 by simp; omega, show 7 + p = (A.length + p) + 1 by omega]
 simp only [List.take_succ_cons, List.drop_succ_cons, List.cons_append, List.cons.injEq, true_and]
 rw [List.take_length_add_append, List.drop_length_add_append, List.set_eq_take_append_cons_drop, if_pos h]
 simp
theorem sp0 : spliceP 0 [v] (x :: A) = some (v :: A) := by
 unfold spliceP
 have h1 : Nat.ble (0 + [v].length) (x :: A).length = true := ble_true (by simp)
 rw [h1]
 simp
theorem ix1 (h : p < A.length) : (x :: (A ++ B))[1 + p]? = A[p]? := by
 rw [show 1 + p = p + 1 by omega, List.getElem?_cons_succ, List.getElem?_append_left h]
theorem ix7 (hA : A.length = 6) : (x :: (A ++ B))[7 + p]? = B[p]? := by
 rw [show 7 + p = (A.length + p) + 1 by omega, List.getElem?_cons_succ, List.getElem?_append_right (by omega)]
 congr 1; omega
end
abbrev agedC (s : Nat) (sn ag : List Int) : List PV := fv s :: (sn.map iv ++ ag.map iv)
theorem oldest1_is {s p b : Nat} {t : Int} {sn ag : List Int} {hp : List (Option (List PV))} (h1 : sn.length = 6) (hp6 : p < 6) (hs : ∀ x ∈ sn, 0 ≤ x ∧ x ≤ 12) (hb : hp[b]? = some (some (agedC s sn ag))) :
  E Tryd.prog Y0 77 [.p b 0, iv p, iv t] hp = some (iv (- sn.getD p 0), hp, none) := by
 rw [E_bodyN 3 body77 rfl (by decide) rfl]
 simp only [Tryd.f77, Option.get_some]
 have hlt : p < sn.length := by omega
 have e : sn[p]? = some sn[p] := List.getElem?_eq_getElem hlt
 have h := hs _ (List.getElem_mem hlt)
 have w : IntKind.i64.wrap (- sn[p]) = - sn[p] := wrap64 (by omega) (by omega)
 have i1 := @ix1 (fv s) (sn.map iv) (ag.map iv) p (by simp; omega)
 simp [keep77, field105_1, shape63, row3, intIn_nat hp6, hb, i1, e, w]
theorem recent1_is {s p b : Nat} {t : Int} {sn ag : List Int} {hp : List (Option (List PV))} (h1 : sn.length = 6) (h2 : ag.length = 6) (hp6 : p < 6) (hs : ∀ x ∈ ag, 0 ≤ x ∧ x ≤ 12) (hb : hp[b]? = some (some (agedC s sn ag))) :
  E Tryd.prog Y0 78 [.p b 0, iv p, iv t] hp = some (iv (- ag.getD p 0), hp, none) := by
 rw [E_bodyN 3 body78 rfl (by decide) rfl]
 simp only [Tryd.f78, Option.get_some]
 have hlt : p < ag.length := by omega
 have e : ag[p]? = some ag[p] := List.getElem?_eq_getElem hlt
 have h := hs _ (List.getElem_mem hlt)
 have w : IntKind.i64.wrap (- ag[p]) = - ag[p] := wrap64 (by omega) (by omega)
 have i1 := @ix7 (fv s) (sn.map iv) (ag.map iv) p (by simp; omega)
 simp [keep78, field105_2, shape63, row3, intIn_nat hp6, hb, i1, e, w]
def pickN (num : Int → Int) (l : List Int) : Int := l.foldl (fun g p => if g < 0 ∨ num g < num p then p else g) (-1)
abbrev NumF := List Int → List Int → Int → Nat → Int
def ruledG (num : NumF) (room : Int) : List Int → Nat → Nat → List Int → List Int → List Int → List Int
 | [], _, _, _, _, out => out
 | p :: r, t, s, sn, ag, out =>
  ruledG num room r (t + 1) (withB s p.toNat (if fullB s p.toNat room then pickN (fun q => num sn ag q t) (bitsL s) else -1)) (if s.testBit p.toNat then sn else sn.set p.toNat t) (ag.set p.toNat t)
   (out ++ [if fullB s p.toNat room then pickN (fun q => num sn ag q t) (bitsL s) else -1])
def ruledOf (num : NumF) (room : Int) (pages : List Int) : List Int := if chk room pages = 0 then ruledG num room pages 0 0 [0, 0, 0, 0, 0, 0] [0, 0, 0, 0, 0, 0] [] else []
theorem pickN_mem {num : Int → Int} {l : List Int} (h : ∀ p ∈ l, 0 ≤ p) : pickN num l = -1 ∧ l = [] ∨ pickN num l ∈ l := by
 unfold pickN
 have : ∀ (l : List Int) (g : Int), (l.foldl (fun g p => if g < 0 ∨ num g < num p then p else g) g = g) ∨ l.foldl (fun g p => if g < 0 ∨ num g < num p then p else g) g ∈ l := by
  intro l
  induction l with
  | nil => intro g; exact Or.inl rfl
  | cons x l ih =>
   intro g
   simp only [List.foldl_cons]
   rcases ih (if g < 0 ∨ num g < num x then x else g) with e | e
   ·rw [e]
    split
    ·right; simp
    ·left; rfl
   ·right; simp [e]
 cases l with
 | nil => left; exact ⟨rfl, rfl⟩
 | cons x l =>
  right
  simp only [List.foldl_cons]
  rw [if_pos (Or.inl (by decide))]
  rcases this l x with e | e
  ·rw [e]; simp
  ·simp [e]
abbrev jc (room : Int) (c : Ck) (pages : List Int) : List PV := [iv room, .l .fz c pages.length (pages.map iv)]
theorem ruled_is {num : NumF} {g : FuncId} {caps : List PV} {room : Int} {pages : List Int} {c : Ck} {hp : List (Option (List PV))} (hl : pages.length < 1000000000) (hcaps : caps.all firm = true)
  (hg : ∀ (s p t : Nat) (sn ag : List Int), sn.length = 6 → ag.length = 6 → p < 6 → t ≤ pages.length → pages.length ≤ 12 → (∀ x ∈ sn, 0 ≤ x ∧ x ≤ 12) → (∀ x ∈ ag, 0 ≤ x ∧ x ≤ 12) →
   E Tryd.prog Y0 g ([.p (hp.length + 1) 0, iv p, iv t] ++ caps) (hp ++ [some (jc room c pages), some (agedC s sn ag)]) = some (iv (num sn ag p t), hp ++ [some (jc room c pages), some (agedC s sn ag)], none)) :
  E Tryd.prog Y0 73 [.a (jc room c pages), .f g [] caps] hp = some (.t [.l .fz .nz (ruledOf num room pages).length ((ruledOf num room pages).map iv), iv (chk room pages)], hp, none) := by
 rw [E_bodyN 2 body73 rfl (by decide) rfl]
 simp only [Tryd.f73, Option.get_some]
 by_cases h1 : chk room pages = 0
 ·obtain ⟨hr1, hr2, hn, hpg⟩ := chk_ok h1
  have hR : ruledOf num room pages = ruledG num room pages 0 0 [0, 0, 0, 0, 0, 0] [0, 0, 0, 0, 0, 0] [] := by rw [ruledOf, if_pos h1]
  generalize ruledOf num room pages = Q at hR
  simp [keep73, field24_0, field24_1, row24, row22, sz24, zero105, shape22, check_is hl, h1]
  refine loop_ind (fun m σ => ∃ (j s : Nat) (sn ag out : List Int) (ts : Tr PV) (w : Option Nat), m + j = pages.length ∧ ruledG num room (pages.drop j) j s sn ag out = Q ∧ s < 64 ∧ out.length = j ∧ sn.length = 6 ∧ ag.length = 6 ∧ (∀ x ∈ sn, 0 ≤ x ∧ x ≤ 12) ∧ (∀ x ∈ ag, 0 ≤ x ∧ x ≤ 12) ∧ (w = none ∨ w = some (hp.length + 1)) ∧ σ = ⟨[], ts, hp ++ [some (jc room c pages), some (agedC s sn ag)], w⟩ ∧ ts.get 1 = some (.f g [] caps) ∧ ts.get 2 = some (.p hp.length 0) ∧ ts.get 7 = some (.p (hp.length + 1) 0) ∧ ts.get 8 = some (.l .own .nz out.length (out.map iv)) ∧ ts.get 20 = some (.l .fz c pages.length (pages.map iv)) ∧ ts.get 21 = some (iv pages.length) ∧ ts.get 22 = some (iv j)) (n0 := pages.length) ?_ ?_
  ·exact ⟨0, 0, [0, 0, 0, 0, 0, 0], [0, 0, 0, 0, 0, 0], [], _, none, rfl, hR.symm, by decide, rfl, rfl, rfl, by decide, by decide, Or.inl rfl, rfl, by simp, by simp, by simp, by simp, by simp, by simp, by simp⟩
  ·rintro m σ ⟨j, s, sn, ag, out, ts, w, hm, hpl, hs, hout, hsn, hag, bsn, bag, hw, rfl, g1, g2, g7, g8, g20, g21, g22⟩ ih
   rcases Nat.lt_or_ge j pages.length with hj | hj
   ·have q1 : Nat.ble (j + 1) pages.length = true := ble_true hj
    have q2 : pages[j]? = some pages[j] := List.getElem?_eq_getElem hj
    have q3 : pages.drop j = pages[j] :: pages.drop (j + 1) := List.drop_eq_getElem_cons hj
    have hp' := hpg _ (List.getElem_mem hj)
    obtain ⟨p', ep'⟩ : ∃ p, pages[j] = p := ⟨_, rfl⟩
    rw [ep'] at hp' q2 q3
    rw [q3] at hpl
    obtain ⟨p, rfl⟩ := Int.eq_ofNat_of_zero_le hp'.1
    have hp6 : p < 6 := by omega
    simp only [ruledG, Int.toNat_natCast] at hpl
    have w3 := wrap_nat (show j < 1000000000000 by omega)
    have w5 : Nat.ble ((out.length + 1) * 10) limit = true := ble_true (by unfold limit; omega)
    have hjj : (j : Int) < pages.length := by omega
    obtain ⟨a1, _⟩ := bit_at hs hp6
    have hbl : ∀ x ∈ bitsL s, 0 ≤ x ∧ x < 6 := fun x hx => bitsL_range hs hx
    obtain ⟨gone, eg⟩ : ∃ gone, (if fullB s p room = true then pickN (fun q => num sn ag q j) (bitsL s) else -1) = gone := ⟨_, rfl⟩
    have hgone : gone = -1 ∨ 0 ≤ gone ∧ gone < 6 := by
     rw [← eg]
     split
     ·rcases pickN_mem (num := fun q => num sn ag q j) (fun x hx => (hbl x hx).1) with ⟨e, _⟩ | e
      ·exact Or.inl e
      ·exact Or.inr (hbl _ e)
     ·exact Or.inl rfl
    simp only [eg] at hpl
    have wi := fun hp => @with_is s p gone hp hs hp6 hgone
    have wl := withB_lt hs hp6 hgone
    have st1 : ∀ (s' : Nat) (ag' : List Int), spliceP (1 + p) [iv j] (agedC s' sn ag') = some (agedC s' (sn.set p (j : Int)) ag') := fun s' ag' => by
     rw [show agedC s' (sn.set p (j : Int)) ag' = fv s' :: ((sn.map iv).set p (iv j) ++ ag'.map iv) by simp]
     exact sp1 (by simp; omega)
    have st7 : ∀ (s' : Nat) (sn' : List Int), sn'.length = 6 → spliceP (7 + p) [iv j] (agedC s' sn' ag) = some (agedC s' sn' (ag.set p (j : Int))) := fun s' sn' h => by
     rw [show agedC s' sn' (ag.set p (j : Int)) = fv s' :: (sn'.map iv ++ (ag.map iv).set p (iv j)) by simp]
     exact sp7 (by simpa using h) (by simp; omega)
    have st0 : ∀ (s1 s2 : Nat) (sn' ag' : List Int), spliceP 0 [fv s1] (agedC s2 sn' ag') = some (agedC s1 sn' ag') := fun _ _ _ _ => sp0
    have set_ok : ∀ l : List Int, (∀ x ∈ l, 0 ≤ x ∧ x ≤ 12) → ∀ x ∈ l.set p (j : Int), 0 ≤ x ∧ x ≤ 12 := fun l hl x hx => by
     rcases List.mem_or_eq_of_mem_set hx with h | rfl
     ·exact hl x h
     ·omega
    have fin := fun (ts' : Tr PV) (sn' : List Int) (w' : Option Nat) (a2 : ruledG num room (pages.drop (j + 1)) (j + 1) (withB s p gone) sn' (ag.set p (j : Int)) (out ++ [gone]) = Q) (l1 : sn'.length = 6) (c1 : ∀ x ∈ sn', 0 ≤ x ∧ x ≤ 12) (b2 : w' = none ∨ w' = some (hp.length + 1)) (b3 : ts'.get 1 = some (.f g [] caps)) (b4 : ts'.get 2 = some (.p hp.length 0)) (b5 : ts'.get 7 = some (.p (hp.length + 1) 0)) (b6 : ts'.get 8 = some (.l .own .nz (out.length + 1) (out.map iv ++ [iv gone]))) (b7 : ts'.get 20 = some (.l .fz c pages.length (pages.map iv))) (b8 : ts'.get 21 = some (iv pages.length)) (b9 : ts'.get 22 = some (iv ((j : Int) + 1))) => ih (m - 1) ⟨[], ts', hp ++ [some (jc room c pages), some (agedC (withB s p gone) sn' (ag.set p (j : Int)))], w'⟩ (by omega) ⟨j + 1, withB s p gone, sn', ag.set p (j : Int), out ++ [gone], ts', w', by omega, a2, wl, by simp [hout], l1, by simpa using hag, c1, set_ok ag bag, b2, rfl, b3, b4, b5, by simpa using b6, b7, b8, by simpa using b9⟩
    clear ih
    cases hf : fullB s p room with
    | false =>
     rw [hf, if_neg (by decide)] at eg
     subst eg
     cases hb : s.testBit p with
     | true =>
      rw [hb, if_pos rfl] at a1
      simp only [hb, if_true] at hpl
      simp [-spliceP, st0, hsn, hag, keep73, g1, g2, g7, g8, g20, g21, g22, field24_0, field24_1, field93_0, field105_0, field105_1, field105_2, row24, row22, row3, row93, row91, sz3, sz24, sz93, zero93, zero3, shape22, shape63, by3, hjj, q1, q2, intIn_nat hj, intIn_nat hp6, gAt, gAt0, sAt, sAt0, full_is hs hp6, hf, a1, wi, w3, w5, st1, st7, list_is (show s < 4096 by omega)]
      exact fin _ sn _ (by simpa using hpl) hsn bsn (by rcases hw with rfl | rfl <;> simp) (by simp [g1]) (by simp [g2]) (by simp [g7]) (by simp) (by simp [g20]) (by simp [g21]) (by simp)
     | false =>
      rw [hb, if_neg (by decide)] at a1
      simp [hb] at hpl
      simp [-spliceP, st0, hsn, hag, keep73, g1, g2, g7, g8, g20, g21, g22, field24_0, field24_1, field93_0, field105_0, field105_1, field105_2, row24, row22, row3, row93, row91, sz3, sz24, sz93, zero93, zero3, shape22, shape63, by3, hjj, q1, q2, intIn_nat hj, intIn_nat hp6, gAt, gAt0, sAt, sAt0, full_is hs hp6, hf, a1, wi, w3, w5, st1, st7, list_is (show s < 4096 by omega)]
      exact fin _ (sn.set p (j : Int)) _ (by simpa using hpl) (by simpa using hsn) (set_ok sn bsn) (by rcases hw with rfl | rfl <;> simp) (by simp [g1]) (by simp [g2]) (by simp [g7]) (by simp) (by simp [g20]) (by simp [g21]) (by simp)
    | true =>
     rw [hf, if_pos rfl] at eg
     have hb : s.testBit p = false := by unfold fullB at hf; simp at hf; exact hf.1
     rw [hb, if_neg (by decide)] at a1
     simp [hb] at hpl
     have hlen : (bitsL s).length ≤ 12 := by unfold bitsL bitsN; rw [List.length_map]; exact List.length_filter_le _ _
     simp [-spliceP, st0, hsn, hag, keep73, g1, g2, g7, g8, g20, g21, g22, field24_0, field24_1, field93_0, field105_0, field105_1, field105_2, row24, row22, row3, row93, row91, sz3, sz24, sz93, zero93, zero3, shape22, shape63, by3, hjj, q1, q2, intIn_nat hj, intIn_nat hp6, gAt, gAt0, sAt, sAt0, full_is hs hp6, hf, a1, wi, w3, w5, st1, st7, list_is (show s < 4096 by omega)]
     refine loop_ind (fun m' σ => ∃ (i : Nat) (ts' : Tr PV), m' + i = (bitsL s).length ∧ σ = ⟨[], ts', hp ++ [some (jc room c pages), some (agedC s sn ag)], w⟩ ∧ ts'.get 1 = some (.f g [] caps) ∧ ts'.get 2 = some (.p hp.length 0) ∧ ts'.get 7 = some (.p (hp.length + 1) 0) ∧ ts'.get 8 = some (.l .own .nz out.length (out.map iv)) ∧ ts'.get 9 = some (iv j) ∧ ts'.get 10 = some (iv p) ∧ ts'.get 11 = some (iv (pickN (fun q => num sn ag q j) ((bitsL s).take i))) ∧ ts'.get 20 = some (.l .fz c pages.length (pages.map iv)) ∧ ts'.get 21 = some (iv pages.length) ∧ ts'.get 22 = some (iv j) ∧ ts'.get 36 = some (.l .own .nz (bitsL s).length ((bitsL s).map iv)) ∧ ts'.get 37 = some (iv (bitsL s).length) ∧ ts'.get 38 = some (iv i)) (n0 := (bitsL s).length) ?_ ?_
     ·exact ⟨0, _, rfl, rfl, by simp [g1], by simp [g2], by simp [g7], by simp [g8], by simp, by simp, by simp [pickN], by simp [g20], by simp [g21], by simp [g22], by simp, by simp, by simp⟩
     ·rintro m' σ ⟨i, ts', hm', rfl, b1, b2, b7, b8, b9, b10, b11, b20, b21, b22, b36, b37, b38⟩ ih2
      rcases Nat.lt_or_ge i (bitsL s).length with hi | hi
      ·have r1 : Nat.ble (i + 1) (bitsL s).length = true := ble_true hi
       have r2 : (bitsL s)[i]? = some (bitsL s)[i] := List.getElem?_eq_getElem hi
       have hii : (i : Int) < (bitsL s).length := by omega
       have r4 := wrap_nat (show i < 1000000000000 by omega)
       have hqr := hbl _ (List.getElem_mem hi)
       have htake : (bitsL s).take (i + 1) = (bitsL s).take i ++ [(bitsL s)[i]] := by rw [List.take_add_one, r2]; rfl
       obtain ⟨q, eq⟩ : ∃ q, (bitsL s)[i] = q := ⟨_, rfl⟩
       rw [eq] at hqr r2 htake
       obtain ⟨q, rfl⟩ := Int.eq_ofNat_of_zero_le hqr.1
       have hcall := fun (q' : Nat) (h : q' < 6) => hg s q' j sn ag hsn hag h (by omega) hn bsn bag
       simp only [List.cons_append, List.nil_append] at hcall
       have hpm := pickN_mem (num := fun q => num sn ag q j) (l := (bitsL s).take i) (fun x hx => (hbl x (List.mem_of_mem_take hx)).1)
       have hstep : pickN (fun q => num sn ag q j) ((bitsL s).take (i + 1)) = if pickN (fun q => num sn ag q j) ((bitsL s).take i) < 0 ∨ num sn ag (pickN (fun q => num sn ag q j) ((bitsL s).take i)) j < num sn ag q j then (q : Int) else pickN (fun q => num sn ag q j) ((bitsL s).take i) := by
        rw [htake]
        unfold pickN
        rw [List.foldl_append]
        rfl
       generalize pickN (fun q => num sn ag q j) ((bitsL s).take i) = gi at hpm hstep b11
       have hgi : gi = -1 ∨ 0 ≤ gi ∧ gi < 6 := hpm.imp (fun h => h.1) (fun h => hbl _ (List.mem_of_mem_take h))
       rcases hgi with rfl | ⟨hg0, hg6⟩
       ·rw [if_pos (Or.inl (by decide))] at hstep
        simp [-spliceP, st0, hsn, hag, keep73, b1, b2, b7, b8, b9, b10, b11, b20, b21, b22, b36, b37, b38, field24_0, field24_1, field93_0, field105_0, field105_1, field105_2, row24, row22, row3, row93, row91, sz3, sz24, sz93, zero93, zero3, shape22, shape63, by3, hjj, intIn_nat hp6, gAt, gAt0, sAt, sAt0, a1, wi, w3, w5, st1, st7, hii, intIn_nat hi, r1, r2, r4]
        exact ih2 (m' - 1) _ (by omega) ⟨i + 1, _, by omega, rfl, by simp [b1], by simp [b2], by simp [b7], by simp [b8], by simp [b9], by simp [b10], by simp [hstep], by simp [b20], by simp [b21], by simp [b22], by simp [b36], by simp [b37], by simp⟩
       ·obtain ⟨gn, rfl⟩ := Int.eq_ofNat_of_zero_le hg0
        have c1 := hcall q (by omega)
        have c2 := hcall gn (by omega)
        by_cases hc : num sn ag gn j < num sn ag q j
        ·rw [if_pos (Or.inr hc)] at hstep
         simp [-spliceP, st0, hsn, hag, keep73, b1, b2, b7, b8, b9, b10, b11, b20, b21, b22, b36, b37, b38, field24_0, field24_1, field93_0, field105_0, field105_1, field105_2, row24, row22, row3, row93, row91, sz3, sz24, sz93, zero93, zero3, shape22, shape63, by3, hjj, intIn_nat hp6, gAt, gAt0, sAt, sAt0, a1, wi, w3, w5, st1, st7, hii, intIn_nat hi, r1, r2, r4, c1, c2, hc, hcaps, show ¬ (gn : Int) < 0 by omega]
         exact ih2 (m' - 1) _ (by omega) ⟨i + 1, _, by omega, rfl, by simp [b1], by simp [b2], by simp [b7], by simp [b8], by simp [b9], by simp [b10], by simp [hstep], by simp [b20], by simp [b21], by simp [b22], by simp [b36], by simp [b37], by simp⟩
        ·rw [if_neg (by omega)] at hstep
         simp [-spliceP, st0, hsn, hag, keep73, b1, b2, b7, b8, b9, b10, b11, b20, b21, b22, b36, b37, b38, field24_0, field24_1, field93_0, field105_0, field105_1, field105_2, row24, row22, row3, row93, row91, sz3, sz24, sz93, zero93, zero3, shape22, shape63, by3, hjj, intIn_nat hp6, gAt, gAt0, sAt, sAt0, a1, wi, w3, w5, st1, st7, hii, intIn_nat hi, r1, r2, r4, c1, c2, hc, hcaps, show ¬ (gn : Int) < 0 by omega]
         exact ih2 (m' - 1) _ (by omega) ⟨i + 1, _, by omega, rfl, by simp [b1], by simp [b2], by simp [b7], by simp [b8], by simp [b9], by simp [b10], by simp [hstep, b11], by simp [b20], by simp [b21], by simp [b22], by simp [b36], by simp [b37], by simp⟩
      ·rw [List.take_of_length_le hi, eg] at b11
       simp [-spliceP, st0, hsn, hag, keep73, b1, b2, b7, b8, b9, b10, b11, b20, b21, b22, b36, b37, b38, field24_0, field24_1, field93_0, field105_0, field105_1, field105_2, row24, row22, row3, row93, row91, sz3, sz24, sz93, zero93, zero3, shape22, shape63, by3, hjj, intIn_nat hp6, gAt, gAt0, sAt, sAt0, a1, wi, w3, w5, st1, st7, show ¬ (i : Int) < (bitsL s).length by omega]
       exact fin _ (sn.set p (j : Int)) _ (by simpa using hpl) (by simpa using hsn) (set_ok sn bsn) (by rcases hw with rfl | rfl <;> simp) (by simp [b1]) (by simp [b2]) (by simp [b7]) (by simp) (by simp [b20]) (by simp [b21]) (by simp)
   ·rw [List.drop_of_length_le hj] at hpl
    simp only [ruledG] at hpl
    subst hpl
    have k3 : Nat.ble (hp.length + 1 + 1) hp.length = false := by rw [nble]; simp; omega
    simp [keep73, g1, g2, g7, g8, g20, g21, g22, show ¬ (j : Int) < pages.length by omega, shape22, h1]
    rcases hw with rfl | rfl <;> simp [k3]
 ·simp only [ruledOf, if_neg h1]
  simp [keep73, field24_1, row24, row22, sz24, shape22, check_is hl, h1]
def numL (pages : List Int) : NumF := fun _ _ p t => aft pages p t
def numO : NumF := fun sn _ p _ => - sn.getD p.toNat 0
def numR : NumF := fun _ ag p _ => - ag.getD p.toNat 0
abbrev planV (l : List Int) (e : Int) : PV := .t [.l .fz .nz l.length (l.map iv), iv e]
theorem later_is {room : Int} {pages : List Int} {c : Ck} {hp : List (Option (List PV))} (hl : pages.length < 1000000000) :
  E Tryd.prog Y0 26 [.a (jc room c pages)] hp = some (planV (ruledOf (numL pages) room pages) (chk room pages), hp, none) := by
 rw [E_bodyN 1 body26 rfl (by decide) rfl]
 simp only [Tryd.f26, Option.get_some]
 have h := @ruled_is (numL pages) 74 [.p hp.length 0] room pages c (hp ++ [some (jc room c pages)]) hl rfl (fun s p t sn ag h1 h2 h3 h4 h5 h6 h7 => by
  have := @later1_is room p pages t hp.length ((hp ++ [some (jc room c pages)]).length + 1) c ((hp ++ [some (jc room c pages)]) ++ [some (jc room c pages), some (agedC s sn ag)]) hl h4 (by simp)
  exact this)
 simp [keep26, row24, sz24, h]
theorem oldest_is {room : Int} {pages : List Int} {c : Ck} {hp : List (Option (List PV))} (hl : pages.length < 1000000000) :
  E Tryd.prog Y0 28 [.a (jc room c pages)] hp = some (planV (ruledOf numO room pages) (chk room pages), hp, none) := by
 rw [E_bodyN 1 body28 rfl (by decide) rfl]
 simp only [Tryd.f28, Option.get_some]
 have h := @ruled_is numO 77 [] room pages c (hp ++ [some (jc room c pages)]) hl rfl (fun s p t sn ag h1 h2 h3 h4 h5 h6 h7 => by
  have := @oldest1_is s p ((hp ++ [some (jc room c pages)]).length + 1) t sn ag ((hp ++ [some (jc room c pages)]) ++ [some (jc room c pages), some (agedC s sn ag)]) h1 h3 h6 (by rw [List.getElem?_append_right (by omega)]; simp)
  exact this)
 simp [keep28, row24, sz24, h]
theorem recent_is {room : Int} {pages : List Int} {c : Ck} {hp : List (Option (List PV))} (hl : pages.length < 1000000000) :
  E Tryd.prog Y0 30 [.a (jc room c pages)] hp = some (planV (ruledOf numR room pages) (chk room pages), hp, none) := by
 rw [E_bodyN 1 body30 rfl (by decide) rfl]
 simp only [Tryd.f30, Option.get_some]
 have h := @ruled_is numR 78 [] room pages c (hp ++ [some (jc room c pages)]) hl rfl (fun s p t sn ag h1 h2 h3 h4 h5 h6 h7 => by
  have := @recent1_is s p ((hp ++ [some (jc room c pages)]).length + 1) t sn ag ((hp ++ [some (jc room c pages)]) ++ [some (jc room c pages), some (agedC s sn ag)]) h1 h2 h3 h7 (by rw [List.getElem?_append_right (by omega)]; simp)
  exact this)
 simp [keep30, row24, sz24, h]
end Go.Proofs.YtcdhajbhpnbdkaaDoor
set_option linter.unusedSimpArgs false
set_option linter.unusedVariables false
namespace Go.Proofs.YtcdhajbhpnbdkaaDoor
open Go.Abs Go.Pur
set_option maxRecDepth 100000
attribute [local simp] EK_region EK_seq EK_cond EK_block EK_blk EK_loop EK_exit EK.ex EK_ret EK_skip EK_nil EO_cons EO_nil EO1_true EO1_false EO2_some EO3_some EB_true EB_false pwanted poper pq pev Go.Pur.look pputT isAssign drOf pinit Tr.get_set lget pvOf_int pvOf_bool pvOf_str pvOf_nil rdv_ak notOwn_ak prt_ak loose_ak rdv_own rdv_fz rdv_bor rdv_rf rdv_pt rdv_v rdv_a rdv_t rdv_r rdv_p rdv_s rdv_f pbin plen pload ppart idxAddr pcond Nat.blt goInt_eq prun_not prun_neg mayLoad ER_ret ER_normal presL presOne moved stor okDrop settle_v settle_l settle_a settle_p settle_f noref_v noref_fz noref_a norefs_nil norefs_cons pclose given lowOf dropB Y0_keep pevParts stors pvCells pvCells.go vcells pfill reps zipParts ownFz pcells cellOK one psrcLen srcFits psrc takeP pgrow take getPl setPl mapL plEq elder isList lowP pevs frzs addP partAt ble_lim24 killV_v killV_a killV_t killV_f killV_i killV_p killV_s killV_un killV_dead killV_lfz killV_lbor killV_lown killV_rfz killV_rbor killV_lak killV_rak frzV_v frzV_a frzV_t frzV_f frzV_i frzV_p frzV_s frzV_un frzV_dead frzV_lfz frzV_lbor frzV_lown frzV_rfz frzV_rbor frzV_lak frzV_rak killCell_v killCell_a killCell_t killCell_f killCell_i killCell_p killCell_s killCell_un killCell_dead killCell_lfz killCell_lbor killCell_lown killCell_rfz killCell_rbor killCell_lak killCell_rak killV_lrf killV_lpt killV_rpt frzV_lrf frzV_lpt frzV_rpt killCell_lrft killCell_lptt killCell_rptt killCell_lrfc killCell_lptc killCell_rptc argv_lak argv_rak argv_v argv_a argv_p argv_f argv_fz argv_bor argv_rf argv_pt argv_rc argv_own mayTurn_none argvs pcallOp firm lowB refsTo_v refsTo_l refsTo_p refsTo_s refsTo_a refsTo_dead refsTo_nil refsTo_cons isOwn_lak ownFz_lak evSafe pskip plain pnewBlk fldAddr isOwn pput spliceP notOwn_fz notOwn_bor notOwn_own notOwn_rf notOwn_pt prt_fz prt_bor prt_own prt_rf prt_pt Go.Pur.freeze presM settles abin_and abin_or abin_andNot abin_mul abin_shr abin_shl abin_add abin_sub abin_eql abin_neq abin_lss abin_leq abin_gtr abin_geq hows pcallIn Y0_how Y0_part howOf partOf rdv_mown rdv_mfz rdv_mbor rdv_mrf killV_mown killV_mfz killV_mbor killV_mrf frzV_mown frzV_mfz frzV_mbor frzV_mrf killCell_mown killCell_mfz killCell_mbor killCell_mrf argv_mfz argv_mbor argv_mrf settle_m kls_v kls_l kls_a kls_t kls_r kls_p kls_s kls_f kls_i kls_it kls_un kls_dead kls_mown kls_mrf kls_mbor kls_mfz fzOf takable mapHere mapOwn mapTo flat toPlain toPlain.go ofFlat ofPair mapEs plook lookRes Y0_mv mvOf mvBlk premv
def nxt (pages : List Int) (p : Int) (t : Nat) : Nat := t + ((pages.drop t).findIdx fun y => decide (y = p))
theorem nxt_step {pages : List Int} {p : Int} {t : Nat} (h : t < pages.length) : nxt pages p t = if pages[t] = p then t else nxt pages p (t + 1) := by
 unfold nxt
 rw [List.drop_eq_getElem_cons h, List.findIdx_cons]
 by_cases e : pages[t] = p
 ·simp [e]
 ·simp [e]; omega
theorem nxt_end {pages : List Int} {p : Int} {t : Nat} (h : pages.length ≤ t) : nxt pages p t = t := by
 unfold nxt
 rw [List.drop_of_length_le h]; rfl
def latG (pages : List Int) (now : List Int) (t : Nat) (g p : Int) : Int := if p ∈ now ∧ (g < 0 ∨ nxt pages g t < nxt pages p t) then p else g
def latOf (pages : List Int) (now : List Int) (t : Nat) : Int := six.foldl (latG pages now t) (-1)
def gonR (last : Bool) (room : Int) (pages now : List Int) (p : Int) (t : Nat) : Int := if p ∉ now ∧ (now.length : Int) = room then (if last = true then latOf pages now t else now.headD 0) else -1
def nowR (recent : Bool) (now : List Int) (p g : Int) : List Int := if recent = true ∨ p ∉ wo now g then wo (wo now g) p ++ [p] else wo now g
def refG (last recent : Bool) (room : Int) (pages : List Int) : List Int → Nat → List Int → List Int → List Int
 | [], _, _, out => out
 | p :: r, t, now, out => refG last recent room pages r (t + 1) (nowR recent now p (gonR last room pages now p t)) (out ++ [gonR last room pages now p t])
def refPlan (last recent : Bool) (room : Int) (pages : List Int) : List Int := if chk room pages = 0 then refG last recent room pages pages 0 [] [] else []
end Go.Proofs.YtcdhajbhpnbdkaaDoor
set_option linter.unusedSimpArgs false
set_option linter.unusedVariables false
namespace Go.Proofs.YtcdhajbhpnbdkaaDoor
open Go.Abs Go.Pur
theorem pickN_max {num : Int → Int} {l : List Int} (h : ∀ p ∈ l, 0 ≤ p) : ∀ x ∈ l, num x ≤ num (pickN num l) := by
 have key : ∀ (l : List Int) (g : Int), (∀ p ∈ l, 0 ≤ p) → 0 ≤ g → num g ≤ num (l.foldl (fun g p => if g < 0 ∨ num g < num p then p else g) g) ∧ ∀ x ∈ l, num x ≤ num (l.foldl (fun g p => if g < 0 ∨ num g < num p then p else g) g) := by
  intro l
  induction l with
  | nil => intro g _ _; exact ⟨Int.le_refl _, by simp⟩
  | cons y l ih =>
   intro g hl hg
   simp only [List.foldl_cons]
   by_cases hc : num g < num y
   ·rw [if_pos (Or.inr hc)]
    obtain ⟨a, b⟩ := ih y (fun p hp => hl p (by simp [hp])) (hl y (by simp))
    refine ⟨by omega, fun x hx => ?_⟩
    rcases List.mem_cons.1 hx with rfl | hx
    ·exact a
    ·exact b x hx
   ·rw [if_neg (by omega)]
    obtain ⟨a, b⟩ := ih g (fun p hp => hl p (by simp [hp])) hg
    refine ⟨a, fun x hx => ?_⟩
    rcases List.mem_cons.1 hx with rfl | hx
    ·omega
    ·exact b x hx
 cases l with
 | nil => simp
 | cons y l =>
  unfold pickN
  simp only [List.foldl_cons]
  rw [if_pos (Or.inl (by decide))]
  obtain ⟨a, b⟩ := key l y (fun p hp => h p (by simp [hp])) (h y (by simp))
  intro x hx
  rcases List.mem_cons.1 hx with rfl | hx
  ·exact a
  ·exact b x hx
theorem bitsL_nonneg {s : Nat} (h : s < 64) : ∀ p ∈ bitsL s, 0 ≤ p := fun p hp => (bitsL_range h hp).1
theorem pick_head {num : Int → Int} {now : List Int} {s : Nat} {x : Int} {r : List Int} (h : Same now s) (he : now = x :: r) (hp : now.Pairwise fun a b => num b < num a) : pickN num (bitsL s) = x := by
 have hb := bitsL_nonneg h.lt
 have hx : x ∈ bitsL s := (h.memL x).1 (by rw [he]; simp)
 rcases pickN_mem (num := num) hb with ⟨_, e⟩ | hm
 ·rw [e] at hx; cases hx
 ·have hmax := pickN_max (num := num) hb x hx
  have hm2 := (h.memL _).2 hm
  rw [he] at hm2 hp
  rcases List.mem_cons.1 hm2 with e | hm3
  ·exact e
  ·have := (List.pairwise_cons.1 hp).1 _ hm3
   omega
theorem pick_congr {num num' : Int → Int} : ∀ {l : List Int}, (∀ a b : Int, num a < num b ↔ num' a < num' b) → pickN num l = pickN num' l := by
 intro l h
 unfold pickN
 congr 1
 funext g p
 simp [h g p]
theorem pick_filter {num : Int → Int} {f : Int → Bool} {l : List Int} : pickN num (l.filter f) = l.foldl (fun g p => if f p = true ∧ (g < 0 ∨ num g < num p) then p else g) (-1) := by
 unfold pickN
 generalize (-1 : Int) = g
 induction l generalizing g with
 | nil => rfl
 | cons x l ih =>
  simp only [List.foldl_cons]
  by_cases hx : f x = true
  ·rw [List.filter_cons_of_pos hx, List.foldl_cons, ih]
   simp [hx]
  ·rw [List.filter_cons_of_neg hx, ih]
   simp [hx]
theorem Same.congr {now now' : List Int} {s : Nat} (h : Same now s) (hn : now'.Nodup) (hm : ∀ p, p ∈ now' ↔ p ∈ now) : Same now' s := ⟨h.lt, hn, fun p => (hm p).trans (h.mem p)⟩
theorem wo_nodup {l : List Int} {x : Int} (h : l.Nodup) : (wo l x).Nodup := h.filter _
theorem put_nodup {l : List Int} {x : Int} (h : l.Nodup) : (wo l x ++ [x]).Nodup := by
 rw [List.nodup_append]
 refine ⟨wo_nodup h, by simp, fun a ha b hb => ?_⟩
 simp at hb
 subst hb
 exact (wo_mem.1 ha).2
theorem full_iff {room : Int} {now : List Int} {s p : Nat} (h : Same now s) (hp : p < 6) (hl : (now.length : Int) ≤ room) : ((p : Int) ∉ now ∧ (now.length : Int) = room) ↔ fullB s p room = true := by
 unfold fullB
 rw [h.mem, h.length] at *
 simp
 constructor
 ·rintro ⟨a, b⟩
  exact ⟨a (by omega), by omega⟩
 ·rintro ⟨a, b⟩
  exact ⟨fun _ => a, by omega⟩
theorem Same.withR {recent : Bool} {now : List Int} {s p : Nat} {g : Int} (h : Same now s) (hp : p < 6) (hg : g = -1 ∨ 0 ≤ g ∧ g < 6) : Same (nowR recent now p g) (withB s p g) := by
 have h1 := h.with hp hg
 refine h1.congr ?_ (fun q => ?_)
 ·unfold nowR
  split
  ·exact put_nodup (wo_nodup h.nd)
  ·exact wo_nodup h.nd
 ·unfold nowR nowOf
  by_cases hm : (p : Int) ∈ wo now g
  ·rw [if_pos hm]
   by_cases hr : recent = true
   ·rw [if_pos (Or.inl hr), List.mem_append, wo_mem]
    simp
    constructor
    ·rintro (h | rfl)
     ·exact h.1
     ·exact hm
    ·intro h
     by_cases e : q = p
     ·exact Or.inr e
     ·exact Or.inl ⟨h, e⟩
   ·rw [if_neg (by simp [hr, hm])]
  ·rw [if_neg hm, if_pos (Or.inr hm)]
theorem rules_ind {num : NumF} {last recent : Bool} {room : Int} {pages : List Int} (hr1 : 1 ≤ room) (hr2 : room ≤ 5) (Ord : List Int → List Int → List Int → Nat → Prop)
  (hpick : ∀ s now sn ag t, t < pages.length → Same now s → Ord sn ag now t → now ≠ [] → pickN (fun q => num sn ag q t) (bitsL s) = (if last = true then latOf pages now t else now.headD 0))
  (hstep : ∀ (sn ag now : List Int) (t p s : Nat) (g : Int), Same now s → Ord sn ag now t → p < 6 → (g = -1 ∨ 0 ≤ g ∧ g < 6) → ((p : Int) ∈ now → g = -1) → Ord (if s.testBit p = true then sn else sn.set p (t : Int)) (ag.set p (t : Int)) (nowR recent now p g) (t + 1)) :
  ∀ (rest : List Int) (t s : Nat) (sn ag now out : List Int), t + rest.length = pages.length → (∀ x ∈ rest, 0 ≤ x ∧ x ≤ 5) → Same now s → (now.length : Int) ≤ room → Ord sn ag now t → ruledG num room rest t s sn ag out = refG last recent room pages rest t now out
 | [], _, _, _, _, _, _, _, _, _, _, _ => rfl
 | x :: rest, t, s, sn, ag, now, out, ht, hx, h, hl, ho => by
  obtain ⟨hx0, hx5⟩ := hx x (by simp)
  obtain ⟨p, rfl⟩ := Int.eq_ofNat_of_zero_le hx0
  have hp : p < 6 := by omega
  simp only [ruledG, refG, Int.toNat_natCast]
  have hfi := full_iff h hp hl
  have hg : (if fullB s p room = true then pickN (fun q => num sn ag q t) (bitsL s) else -1) = gonR last room pages now p t := by
   unfold gonR
   by_cases hf : fullB s p room = true
   ·rw [if_pos hf, if_pos (hfi.2 hf)]
    refine hpick s now sn ag t (by simp at ht; omega) h ho (fun e => ?_)
    have := (hfi.2 hf).2
    rw [e] at this; simp at this; omega
   ·rw [if_neg hf, if_neg (fun x => hf (hfi.1 x))]
  have hb := bitsL_nonneg h.lt
  have he : errF room s p (gonR last room pages now p t) = 0 ∧ (gonR last room pages now p t = -1 ∨ 0 ≤ gonR last room pages now p t ∧ gonR last room pages now p t < 6) ∧ ((p : Int) ∈ now → gonR last room pages now p t = -1) := by
   rw [← hg]
   by_cases hf : fullB s p room = true
   ·rw [if_pos hf]
    have hne : bitsL s ≠ [] := fun e => by
     have h1 := (hfi.2 hf).2
     rw [h.length, ← (bits6 h.lt).2.1, e] at h1
     simp at h1; omega
    rcases pickN_mem (num := fun q => num sn ag q t) hb with ⟨_, e⟩ | hm
    ·exact absurd e hne
    ·generalize pickN (fun q => num sn ag q t) (bitsL s) = g at hm
     have hm2 := (h.mem g).1 ((h.memL g).2 hm)
     refine ⟨?_, Or.inr ⟨hm2.1, hm2.2.1⟩, fun hpn => absurd hpn (hfi.2 hf).1⟩
     unfold errF
     rw [if_pos hf, if_pos hm2]
   ·rw [if_neg hf]
    refine ⟨?_, Or.inl rfl, fun _ => rfl⟩
    unfold errF
    rw [if_neg hf, if_pos rfl]
  rw [hg]
  generalize gonR last room pages now p t = g at he
  obtain ⟨he1, he2, he3⟩ := he
  refine rules_ind hr1 hr2 Ord hpick hstep rest (t + 1) _ _ _ _ _ (by simp at ht; omega) (fun y hy => hx y (by simp [hy])) (h.withR hp he2) ?_ ?_
  ·rw [(h.withR (recent := recent) hp he2).length]
   exact cnt_with hr1 hr2 h.lt hp he1 (by rw [← h.length]; exact hl)
  ·exact hstep sn ag now t p s g h ho hp he2 he3
structure InOrd (v : List Int) (now : List Int) (t : Nat) : Prop where
 len : v.length = 6
 lt : ∀ a ∈ now, v.getD a.toNat 0 < t
 pw : now.Pairwise fun a b => v.getD a.toNat 0 < v.getD b.toNat 0
theorem InOrd.add {v now l : List Int} {t p : Nat} (h : InOrd v now t) (hs : l.Sublist now) (hp : p < 6) (hr : ∀ a ∈ now, 0 ≤ a) (hn : (p : Int) ∉ l) : InOrd (v.set p (t : Int)) (l ++ [(p : Int)]) (t + 1) := by
 have hv : ∀ a ∈ l, (v.set p (t : Int)).getD a.toNat 0 = v.getD a.toNat 0 := fun a ha => by
  have h0 := hr a (hs.subset ha)
  have : p ≠ a.toNat := fun e => hn (by rw [e, Int.toNat_of_nonneg h0]; exact ha)
  simp [List.getD_eq_getElem?_getD, List.getElem?_set_ne this]
 have hvp : (v.set p (t : Int)).getD ((p : Int)).toNat 0 = t := by
  have := h.len
  simp [List.getD_eq_getElem?_getD, List.getElem?_set_self (show p < v.length by omega)]
 refine ⟨by simpa using h.len, fun a ha => ?_, ?_⟩
 ·rw [List.mem_append] at ha
  rcases ha with ha | ha
  ·rw [hv a ha]; have := h.lt a (hs.subset ha); omega
  ·simp at ha; subst ha; rw [hvp]; omega
 ·rw [List.pairwise_append]
  refine ⟨?_, by simp, fun a ha b hb => ?_⟩
  ·refine (h.pw.sublist hs).imp_of_mem (fun {a b} ha hb hab => ?_)
   rw [hv a ha, hv b hb]; exact hab
  ·simp at hb; subst hb
   rw [hvp, hv a ha]
   exact h.lt a (hs.subset ha)
theorem InOrd.keep {v now : List Int} {t : Nat} (h : InOrd v now t) : InOrd v now (t + 1) := ⟨h.len, fun a ha => by have := h.lt a ha; omega, h.pw⟩
theorem wo_sub {l : List Int} {x : Int} : (wo l x).Sublist l := List.filter_sublist
theorem head_of {num : Int → Int} {v now : List Int} {s t : Nat} (h : Same now s) (ho : InOrd v now t) (hne : now ≠ []) (hn : ∀ a, num a = - v.getD a.toNat 0) : pickN num (bitsL s) = now.headD 0 := by
 obtain ⟨x, r, e⟩ := List.exists_cons_of_ne_nil hne
 rw [pick_head h e (ho.pw.imp (fun {a b} hab => by rw [hn, hn]; omega)), e]
 rfl
theorem oldest_eq {room : Int} {pages : List Int} : ruledOf numO room pages = refPlan false false room pages := by
 unfold ruledOf refPlan
 by_cases h1 : chk room pages = 0
 ·rw [if_pos h1, if_pos h1]
  obtain ⟨hr1, hr2, hn, hp⟩ := chk_ok h1
  refine rules_ind hr1 hr2 (fun sn ag now t => InOrd sn now t) (fun s now sn ag t _ h ho hne => head_of h ho hne (fun a => rfl)) (fun sn ag now t p s g h ho hp hg hm => ?_) pages 0 0 _ _ [] [] (by simp) hp Same.nil (by simp; omega) ⟨rfl, by simp, .nil⟩
  by_cases hb : s.testBit p = true
  ·have hmem : (p : Int) ∈ now := (h.mem p).2 ⟨by omega, by omega, by simpa using hb⟩
   have := hm hmem
   subst this
   rw [if_pos hb]
   unfold nowR
   have hw : wo now (-1) = now := wo_id (by rw [h.mem]; omega)
   rw [hw, if_neg (by simp [hmem])]
   exact ho.keep
  ·rw [if_neg hb]
   have hmem : (p : Int) ∉ now := fun x => hb (by simpa using ((h.mem _).1 x).2.2)
   have hw : (p : Int) ∉ wo now g := fun x => hmem (wo_mem.1 x).1
   unfold nowR
   rw [if_pos (Or.inr hw), wo_id hw]
   exact ho.add wo_sub hp (fun a ha => ((h.mem a).1 ha).1) hw
 ·rw [if_neg h1, if_neg h1]
theorem recent_eq {room : Int} {pages : List Int} : ruledOf numR room pages = refPlan false true room pages := by
 unfold ruledOf refPlan
 by_cases h1 : chk room pages = 0
 ·rw [if_pos h1, if_pos h1]
  obtain ⟨hr1, hr2, hn, hp⟩ := chk_ok h1
  refine rules_ind hr1 hr2 (fun sn ag now t => InOrd ag now t) (fun s now sn ag t _ h ho hne => head_of h ho hne (fun a => rfl)) (fun sn ag now t p s g h ho hp hg hm => ?_) pages 0 0 _ _ [] [] (by simp) hp Same.nil (by simp; omega) ⟨rfl, by simp, .nil⟩
  unfold nowR
  rw [if_pos (Or.inl rfl)]
  exact ho.add (wo_sub.trans wo_sub) hp (fun a ha => ((h.mem a).1 ha).1) (fun x => (wo_mem.1 x).2 rfl)
 ·rw [if_neg h1, if_neg h1]
theorem aft_nxt {pages : List Int} {t : Nat} (ht : t < pages.length) (hn : pages.length ≤ 12) (a b : Int) : aft pages a t < aft pages b t ↔ (nxt pages a t : Int) < nxt pages b t := by
 have key : ∀ p, (aft pages p t = nxt pages p t ∧ nxt pages p t < pages.length) ∨ (aft pages p t = 12 ∧ nxt pages p t = pages.length) := fun p => by
  unfold aft nxt
  have e : (fun y => decide (p = y)) = fun y => decide (y = p) := by funext y; simp [eq_comm]
  rw [e]
  generalize (fun y : Int => decide (y = p)) = q
  unfold ixOf
  cases hf : (pages.drop t).findIdx? q with
  | none =>
   right
   rw [List.findIdx?_eq_none_iff_findIdx_eq] at hf
   rw [hf]
   simp; omega
  | some i =>
   left
   rw [List.findIdx?_eq_some_iff_findIdx_eq] at hf
   obtain ⟨h1, h2⟩ := hf
   rw [h2]
   simp at h1
   simp; omega
 rcases key a with ⟨a1, a2⟩ | ⟨a1, a2⟩ <;> rcases key b with ⟨b1, b2⟩ | ⟨b1, b2⟩ <;> omega
theorem later_eq {room : Int} {pages : List Int} : ruledOf (numL pages) room pages = refPlan true false room pages := by
 unfold ruledOf refPlan
 by_cases h1 : chk room pages = 0
 ·rw [if_pos h1, if_pos h1]
  obtain ⟨hr1, hr2, hn, hp⟩ := chk_ok h1
  refine rules_ind hr1 hr2 (fun _ _ _ _ => True) (fun s now sn ag t ht h ho hne => ?_) (fun _ _ _ _ _ _ _ _ _ _ _ _ => trivial) pages 0 0 _ _ [] [] (by simp) hp Same.nil (by simp; omega) trivial
  rw [if_pos rfl]
  show pickN (fun q => aft pages q t) (bitsL s) = latOf pages now t
  rw [pick_congr (num' := fun q => (nxt pages q t : Int)) (fun a b => aft_nxt ht hn a b), ← h.order]
  unfold orderOf latOf
  rw [pick_filter]
  congr 1
  funext g p
  unfold latG
  by_cases hm : p ∈ now
  ·simp [hm]
  ·simp [hm]
 ·rw [if_neg h1, if_neg h1]
end Go.Proofs.YtcdhajbhpnbdkaaDoor
