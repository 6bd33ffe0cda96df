/-
  Run, Standing, and what the laws compare with, by the pure evaluator.
  A floor's bits, and the list of the reference, stand for the same set: both plays answer alike.
  Conditions: none; definitions and lemmas.
-/
import Derived.Test.YtcdhajbhpnbdkaaDoorFloors
set_option linter.unusedSimpArgs false
set_option linter.unusedVariables false
namespace Go.Proofs.YtcdhajbhpnbdkaaDoor
open Go.Abs Go.Pur
set_option maxRecDepth 100000
attribute [local simp] EK_region EK_seq EK_cond EK_block EK_blk EK_loop EK_exit EK.ex EK_ret EK_skip EK_nil EO_cons EO_nil EO1_true EO1_false EO2_some EO3_some EB_true EB_false pwanted poper pq pev Go.Pur.look pputT isAssign drOf pinit Tr.get_set lget pvOf_int pvOf_bool pvOf_str pvOf_nil rdv_ak notOwn_ak prt_ak loose_ak rdv_own rdv_fz rdv_bor rdv_rf rdv_pt rdv_v rdv_a rdv_t rdv_r rdv_p rdv_s rdv_f pbin plen pload ppart idxAddr pcond Nat.blt goInt_eq prun_not prun_neg mayLoad ER_ret ER_normal presL presOne moved stor okDrop settle_v settle_l settle_a settle_p settle_f noref_v noref_fz noref_a norefs_nil norefs_cons pclose given lowOf dropB Y0_keep pevParts stors pvCells pvCells.go vcells pfill reps zipParts ownFz pcells cellOK one psrcLen srcFits psrc takeP pgrow take getPl setPl mapL plEq elder isList lowP pevs frzs addP partAt ble_lim24 killV_v killV_a killV_t killV_f killV_i killV_p killV_s killV_un killV_dead killV_lfz killV_lbor killV_lown killV_rfz killV_rbor killV_lak killV_rak frzV_v frzV_a frzV_t frzV_f frzV_i frzV_p frzV_s frzV_un frzV_dead frzV_lfz frzV_lbor frzV_lown frzV_rfz frzV_rbor frzV_lak frzV_rak killCell_v killCell_a killCell_t killCell_f killCell_i killCell_p killCell_s killCell_un killCell_dead killCell_lfz killCell_lbor killCell_lown killCell_rfz killCell_rbor killCell_lak killCell_rak killV_lrf killV_lpt killV_rpt frzV_lrf frzV_lpt frzV_rpt killCell_lrft killCell_lptt killCell_rptt killCell_lrfc killCell_lptc killCell_rptc argv_lak argv_rak argv_v argv_a argv_p argv_f argv_fz argv_bor argv_rf argv_pt argv_rc argv_own mayTurn_none argvs pcallOp firm lowB refsTo_v refsTo_l refsTo_p refsTo_s refsTo_a refsTo_dead refsTo_nil refsTo_cons isOwn_lak ownFz_lak evSafe pskip plain pnewBlk fldAddr isOwn pput spliceP notOwn_fz notOwn_bor notOwn_own notOwn_rf notOwn_pt prt_fz prt_bor prt_own prt_rf prt_pt Go.Pur.freeze presM settles abin_and abin_or abin_andNot abin_mul abin_shr abin_shl abin_add abin_sub abin_eql abin_neq abin_lss abin_leq abin_gtr abin_geq hows pcallIn Y0_how Y0_part howOf partOf rdv_mown rdv_mfz rdv_mbor rdv_mrf killV_mown killV_mfz killV_mbor killV_mrf frzV_mown frzV_mfz frzV_mbor frzV_mrf killCell_mown killCell_mfz killCell_mbor killCell_mrf argv_mfz argv_mbor argv_mrf settle_m kls_v kls_l kls_a kls_t kls_r kls_p kls_s kls_f kls_i kls_it kls_un kls_dead kls_mown kls_mrf kls_mbor kls_mfz fzOf takable mapHere mapOwn mapTo flat toPlain toPlain.go ofFlat ofPair mapEs plook lookRes Y0_mv mvOf mvBlk premv
theorem run_is {room : Int} {pages plan : List Int} {b : Bool} {c d : Ck} {hp : List (Option (List PV))} (hl : pages.length < 1000000000) (hl2 : plan.length < 1000000000) :
  E Tryd.prog Y0 19 [.a [iv room, .l .fz c pages.length (pages.map iv)], .l (ak b) d plan.length (plan.map iv)] hp = some (.t [iv (floorsOf room pages plan).2.1, iv (floorsOf room pages plan).2.2], hp, none) := by
 rw [E_bodyN 2 body19 rfl (by decide) rfl]
 simp only [Tryd.f19, Option.get_some]
 simp [keep19, row24, sz24, floors_is (b := b) hl hl2, flV]
theorem same_is {x y : List Int} {a b : Bool} {c d : Ck} {hp : List (Option (List PV))} (hx : x.length < 1000000000) :
  E Tryd.prog Y0 32 [.l (ak a) c x.length (x.map iv), .l (ak b) d y.length (y.map iv)] hp = some (.v (.bool (decide (x = y))), hp, none) := by
 rw [E_bodyN 2 body32 rfl (by decide) rfl]
 simp only [Tryd.f32, Option.get_some]
 by_cases h : x.length = y.length
 ·simp [keep32, shape22, h]
  refine loop_ind (fun m σ => ∃ (j : Nat) (ts : Tr PV), m + j = x.length ∧ σ = ⟨[], ts, hp, none⟩ ∧ ts.get 0 = some (.l (ak a) c x.length (x.map iv)) ∧ ts.get 1 = some (.l (ak b) d y.length (y.map iv)) ∧ ts.get 5 = some (iv j) ∧ x.take j = y.take j) (n0 := x.length) ?_ ?_
  ·exact ⟨0, _, rfl, rfl, by simp [h], by simp, by simp, by simp⟩
  ·rintro m σ ⟨j, ts, hm, rfl, g0, g1, g5, hxy⟩ ih
   rcases Nat.lt_or_ge j x.length with hj | hj
   ·have hj2 : j < y.length := by omega
    have q1 : Nat.ble (j + 1) x.length = true := ble_true hj
    have q2 : Nat.ble (j + 1) y.length = true := ble_true hj2
    have q3 : x[j]? = some x[j] := List.getElem?_eq_getElem hj
    have q4 : y[j]? = some y[j] := List.getElem?_eq_getElem hj2
    have w3 := wrap_nat (show j < 1000000000000 by omega)
    have hjj : (j : Int) < x.length := by omega
    by_cases e : x[j] = y[j]
    ·simp [keep32, g0, g1, g5, shape22, row3, hjj, intIn_nat hj, intIn_nat hj2, q1, q2, q3, q4, e, w3, noMaker_eq, kindOf]
     refine ih (m - 1) _ (by omega) ⟨j + 1, _, by omega, rfl, by simp [g0], by simp [g1], by simp, ?_⟩
     rw [List.take_add_one, List.take_add_one, hxy, q3, q4, e]
    ·have ne : ¬ x = y := fun h => e (by subst h; rfl)
     simp [keep32, g0, g1, g5, shape22, row3, hjj, intIn_nat hj, intIn_nat hj2, q1, q2, q3, q4, e, w3, noMaker_eq, kindOf, ne]
   ·rw [List.take_of_length_le hj, List.take_of_length_le (by omega)] at hxy
    simp [keep32, g0, g1, g5, shape22, show ¬ (j : Int) < x.length by omega, show ¬ j < x.length by omega, show ¬ j < y.length by omega, hxy]
 ·have ne : ¬ x = y := fun e => h (by rw [e])
  simp [keep32, shape22, h, ne, show ¬ (x.length : Int) = y.length by omega]
theorem standing_is {room : Int} {pages plan : List Int} {b : Bool} {c d : Ck} {hp : List (Option (List PV))} (hl : pages.length < 1000000000) (hl2 : plan.length < 1000000000) (hs : (floorsOf room pages plan).1.length < 100000 ∧ ∀ s ∈ (floorsOf room pages plan).1, s < 64) :
  E Tryd.prog Y0 21 [.a [iv room, .l .fz c pages.length (pages.map iv)], .l (ak b) d plan.length (plan.map iv)] hp = some (.t [.l .fz .nz (floorsOf room pages plan).1.length (((floorsOf room pages plan).1.map bitsL).map lc), iv (floorsOf room pages plan).2.2], hp, none) := by
 rw [E_bodyN 2 body21 rfl (by decide) rfl]
 simp only [Tryd.f21, Option.get_some]
 have hpl := @floors_is room pages plan b c d (hp ++ [some [iv room, .l .fz c pages.length (pages.map iv)]]) hl hl2
 generalize floorsOf room pages plan = Q at *
 obtain ⟨L, set, e⟩ := Q
 simp only at hs ⊢
 obtain ⟨hs1, hs2⟩ := hs
 simp [keep21, row24, sz24, hpl, flV, shape86]
 refine loop_ind (fun m σ => ∃ (j : Nat) (ts : Tr PV) (G : List (Option (List PV))) (w : Option Nat), m + j = L.length ∧ (w = none ∨ ∃ a, w = some (hp.length + a)) ∧ σ = ⟨[], ts, hp ++ some [iv room, .l .fz c pages.length (pages.map iv)] :: G, w⟩ ∧ ts.get 8 = some (iv e) ∧ ts.get 9 = some (.l .own .nz j (((L.take j).map bitsL).map lc)) ∧ ts.get 19 = some (.l .fz .nz L.length (L.map fv)) ∧ ts.get 20 = some (iv L.length) ∧ ts.get 21 = some (iv j)) (n0 := L.length) ?_ ?_
 ·exact ⟨0, _, [], none, rfl, Or.inl rfl, rfl, by simp, by simp, by simp, by simp, by simp⟩
 ·rintro m σ ⟨j, ts, G, w, hm, hw, rfl, g8, g9, g19, g20, g21⟩ ih
  have k3 : ∀ a, Nat.ble (hp.length + a + 1) hp.length = false := fun a => by rw [nble]; simp; omega
  rcases Nat.lt_or_ge j L.length with hj | hj
  ·have q1 : Nat.ble (j + 1) L.length = true := ble_true hj
   have q3 : L[j]? = some L[j] := List.getElem?_eq_getElem hj
   have w3 := wrap_nat (show j < 1000000000000 by omega)
   have hjj : (j : Int) < L.length := by omega
   have h64 := hs2 _ (List.getElem_mem hj)
   have k4 : Nat.ble ((j + 1) * 26) limit = true := ble_true (by unfold limit; omega)
   have hli := fun hp => @list_is L[j] hp (by omega)
   have k5 : takeP 1 (List.drop j (List.map fv L)) = some [fv L[j]] := by rw [← List.map_drop, List.drop_eq_getElem_cons hj]; rfl
   simp [keep21, g8, g9, g19, g20, g21, shape86, shape32, shape22, row93, row91, row22, zero93, zero22, sz93, by22, hjj, intIn_nat hj, q1, q3, w3, gAt, gAt0, sAt, sAt0, hli, field93_0, k4, k5, show min j L.length = j by omega]
   refine ih (m - 1) _ (by omega) ⟨j + 1, _, _, _, by omega, ?_, rfl, by simp [g8], ?_, by simp [g19], by simp [g20], by simp⟩
   ·rcases hw with rfl | ⟨a, rfl⟩
    ·exact Or.inr ⟨_, rfl⟩
    ·exact Or.inr ⟨min a (G.length + 1), by simp⟩
   ·have : (((L.take (j + 1)).map bitsL).map lc) = ((L.take j).map bitsL).map lc ++ [lc (bitsL L[j])] := by rw [List.take_add_one, q3, List.map_append, List.map_append]; rfl
    rw [this]
    simp
  ·rw [List.take_of_length_le hj] at g9
   obtain rfl : j = L.length := by omega
   rcases hw with rfl | ⟨a, rfl⟩ <;> simp [keep21, g8, g9, g19, g20, g21, shape32, k3]
theorem flo_small {room : Int} : ∀ {l : List (Int × Int)} {s : Nat} {set : Int} {out : List Nat}, (∀ x ∈ l, 0 ≤ x.1 ∧ x.1 ≤ 5) → s < 64 → (∀ x ∈ out, x < 64) → (flo room l s set out).1.length ≤ out.length + l.length ∧ ∀ x ∈ (flo room l s set out).1, x < 64
 | [], s, set, out, _, _, h => by simpa [flo] using h
 | (p, g) :: r, s, set, out, hl, hs, h => by
  simp only [flo]
  split
  ·rename_i he
   have hp := hl (p, g) (by simp)
   have hg : g = -1 ∨ 0 ≤ g ∧ g < 6 := by
    unfold errF at he
    split at he
    ·split at he
     ·rename_i h2; exact Or.inr ⟨h2.1, h2.2.1⟩
     ·omega
    ·split at he
     ·exact Or.inl (by assumption)
     ·omega
   have hw := withB_lt hs (show p.toNat < 6 by omega) hg
   have := flo_small (room := room) (l := r) (s := withB s p.toNat g) (set := if withB s p.toNat g = s then set else set + 1) (out := out ++ [withB s p.toNat g]) (fun x hx => hl x (by simp [hx])) hw (fun x hx => by
    rw [List.mem_append] at hx
    rcases hx with hx | hx
    ·exact h x hx
    ·simp at hx; rw [hx]; exact hw)
   refine ⟨by have := this.1; simp at this ⊢; omega, this.2⟩
  ·simp
theorem floorsOf_small {room : Int} {pages plan : List Int} : (floorsOf room pages plan).1.length < 100000 ∧ ∀ s ∈ (floorsOf room pages plan).1, s < 64 := by
 unfold floorsOf
 split
 ·rename_i h1
  obtain ⟨_, _, h, hp⟩ := chk_ok h1
  split
  ·have := @flo_small room (pages.zip plan) 0 0 [] (fun x hx => hp _ (List.of_mem_zip hx).1) (by decide) (by simp)
   refine ⟨by have := this.1; simp at this; omega, this.2⟩
  ·simp
 ·simp
end Go.Proofs.YtcdhajbhpnbdkaaDoor
set_option linter.unusedSimpArgs false
set_option linter.unusedVariables false
namespace Go.Proofs.YtcdhajbhpnbdkaaDoor
open Go.Abs Go.Pur
theorem wo_mem {l : List Int} {x y : Int} : y ∈ wo l x ↔ y ∈ l ∧ y ≠ x := by
 unfold wo
 simp
structure Same (now : List Int) (s : Nat) : Prop where
 lt : s < 64
 nd : now.Nodup
 mem : ∀ p : Int, p ∈ now ↔ 0 ≤ p ∧ p < 6 ∧ s.testBit p.toNat = true
theorem six_cases {p : Nat} (h : p < 6) : p = 0 ∨ p = 1 ∨ p = 2 ∨ p = 3 ∨ p = 4 ∨ p = 5 := by omega
theorem bits6 {s : Nat} (h : s < 64) : bitsL s = orderOf (bitsL s) ∧ (bitsL s).length = cnt s ∧ (bitsL s).Nodup ∧ ∀ p : Nat, p < 6 → ((p : Int) ∈ bitsL s ↔ s.testBit p = true) := by
 have : (List.range 64).all (fun s => decide (bitsL s = orderOf (bitsL s) ∧ (bitsL s).length = cnt s ∧ (bitsL s).Nodup) && (List.range 6).all fun p => decide ((p : Int) ∈ bitsL s) == s.testBit p) = true := by kernel_rfl
 rw [List.all_eq_true] at this
 have := this s (List.mem_range.2 h)
 simp only [Bool.and_eq_true, decide_eq_true_eq] at this
 obtain ⟨⟨a, b, c⟩, d⟩ := this
 refine ⟨a, b, c, fun p hp => ?_⟩
 rw [List.all_eq_true] at d
 have := d p (List.mem_range.2 hp)
 simp only [beq_iff_eq] at this
 rw [← this]; simp
theorem bitsL_range {s : Nat} (h : s < 64) {p : Int} (hp : p ∈ bitsL s) : 0 ≤ p ∧ p < 6 := by
 rw [(bits6 h).1] at hp
 unfold orderOf six at hp
 simp at hp
 omega
theorem Same.memL {now : List Int} {s : Nat} (h : Same now s) (p : Int) : p ∈ now ↔ p ∈ bitsL s := by
 rw [h.mem]
 constructor
 ·rintro ⟨h1, h2, h3⟩
  obtain ⟨q, rfl⟩ := Int.eq_ofNat_of_zero_le h1
  exact ((bits6 h.lt).2.2.2 q (by omega)).2 (by simpa using h3)
 ·intro hp
  obtain ⟨h1, h2⟩ := bitsL_range h.lt hp
  obtain ⟨q, rfl⟩ := Int.eq_ofNat_of_zero_le h1
  exact ⟨h1, h2, by simpa using ((bits6 h.lt).2.2.2 q (by omega)).1 hp⟩
theorem Same.length {now : List Int} {s : Nat} (h : Same now s) : now.length = cnt s := by
 rw [← (bits6 h.lt).2.1]
 exact ((List.perm_ext_iff_of_nodup h.nd (bits6 h.lt).2.2.1).2 h.memL).length_eq
theorem Same.order {now : List Int} {s : Nat} (h : Same now s) : orderOf now = bitsL s := by
 rw [(bits6 h.lt).1]
 unfold orderOf
 refine List.filter_congr fun x _ => ?_
 simp [h.memL x]
theorem Same.nil : Same [] 0 := ⟨by decide, List.nodup_nil, fun p => by simp⟩
theorem wo_id {l : List Int} {x : Int} (h : x ∉ l) : wo l x = l := by
 unfold wo
 rw [List.filter_eq_self]
 intro a ha
 simp
 rintro rfl
 exact h ha
theorem Same.with {now : List Int} {s p : Nat} {g : Int} (h : Same now s) (hp : p < 6) (hg : g = -1 ∨ 0 ≤ g ∧ g < 6) : Same (nowOf now p g) (withB s p g) := by
 have h1 : Same (wo now g) (if 0 ≤ g then clrB s g.toNat else s) := by
  rcases hg with rfl | ⟨g0, g6⟩
  ·rw [if_neg (by omega), wo_id]
   ·exact h
   ·rw [h.mem]; omega
  ·rw [if_pos g0]
   obtain ⟨g, rfl⟩ := Int.eq_ofNat_of_zero_le g0
   obtain ⟨_, _, _, a, _, f⟩ := bit_at h.lt (show g < 6 by omega)
   refine ⟨by simpa using a, h.nd.filter _, fun q => ?_⟩
   rw [wo_mem, h.mem]
   constructor
   ·rintro ⟨⟨a1, a2, a3⟩, a4⟩
    refine ⟨a1, a2, ?_⟩
    have := (f q.toNat (by omega)).1
    simp only [Int.toNat_natCast]
    rw [this, a3]
    simp; omega
   ·rintro ⟨a1, a2, a3⟩
    have := (f q.toNat (by omega)).1
    simp only [Int.toNat_natCast] at a3
    rw [this] at a3
    simp at a3
    exact ⟨⟨a1, a2, a3.1⟩, by omega⟩
 unfold nowOf withB
 generalize (if 0 ≤ g then clrB s g.toNat else s) = s1 at h1
 generalize wo now g = n1 at h1
 obtain ⟨_, _, _, _, a, f⟩ := bit_at h1.lt hp
 by_cases hm : (p : Int) ∈ n1
 ·rw [if_pos hm]
  have hb := ((h1.mem p).1 hm).2.2
  simp at hb
  unfold setB
  rw [if_pos hb]
  exact h1
 ·rw [if_neg hm, wo_id hm]
  refine ⟨a, ?_, fun q => ?_⟩
  ·rw [List.nodup_append]
   refine ⟨h1.nd, by simp, fun x hx y hy => ?_⟩
   simp at hy
   subst hy
   rintro rfl
   exact hm hx
  ·rw [List.mem_append, h1.mem]
   constructor
   ·rintro (⟨a1, a2, a3⟩ | a4)
    ·refine ⟨a1, a2, ?_⟩
     rw [(f q.toNat (by omega)).2, a3]; rfl
    ·simp at a4
     subst a4
     refine ⟨by omega, by omega, ?_⟩
     rw [(f _ (by omega)).2]; simp
   ·rintro ⟨a1, a2, a3⟩
    rw [(f q.toNat (by omega)).2] at a3
    simp at a3
    rcases a3 with a3 | a3
    ·exact Or.inl ⟨a1, a2, a3⟩
    ·right; simp; omega
theorem cnt_with {room : Int} {s p : Nat} {g : Int} (hr1 : 1 ≤ room) (hr2 : room ≤ 5) (hs : s < 64) (hp : p < 6) (he : errF room s p g = 0) (hc : (cnt s : Int) ≤ room) : (cnt (withB s p g) : Int) ≤ room := by
 have hg : g = -1 ∨ 0 ≤ g ∧ g < 6 := by
  unfold errF at he
  split at he
  ·split at he
   ·rename_i h2; exact Or.inr ⟨h2.1, h2.2.1⟩
   ·omega
  ·split at he
   ·exact Or.inl (by assumption)
   ·omega
 have : (List.range 64).all (fun s => (List.range 6).all fun p => [(-1 : Int), 0, 1, 2, 3, 4, 5].all fun g => [(1 : Int), 2, 3, 4, 5].all fun room => !decide (errF room s p g = 0) || !decide ((cnt s : Int) ≤ room) || decide ((cnt (withB s p g) : Int) ≤ room)) = true := by kernel_rfl
 rw [List.all_eq_true] at this
 have := this s (List.mem_range.2 hs)
 rw [List.all_eq_true] at this
 have := this p (List.mem_range.2 hp)
 rw [List.all_eq_true] at this
 have := this g (by simp; omega)
 rw [List.all_eq_true] at this
 have := this room (by simp; omega)
 simpa [he, hc] using this
end Go.Proofs.YtcdhajbhpnbdkaaDoor
