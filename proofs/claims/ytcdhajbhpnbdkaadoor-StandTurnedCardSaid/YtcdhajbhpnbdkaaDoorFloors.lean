/-
  floors, Run and Standing, by the pure evaluator.
  Conditions: none; lemmas.
-/
import Derived.Test.YtcdhajbhpnbdkaaDoorFloor
import Derived.Test.YtcdhajbhpnbdkaaDoorRefRun
set_option linter.unusedSimpArgs false
set_option linter.unusedVariables false
namespace Go.Proofs.YtcdhajbhpnbdkaaDoor
open Go.Abs Go.Pur
set_option maxRecDepth 100000
attribute [local simp] EK_region EK_seq EK_cond EK_block EK_blk EK_loop EK_exit EK.ex EK_ret EK_skip EK_nil EO_cons EO_nil EO1_true EO1_false EO2_some EO3_some EB_true EB_false pwanted poper pq pev Go.Pur.look pputT isAssign drOf pinit Tr.get_set lget pvOf_int pvOf_bool pvOf_str pvOf_nil rdv_ak notOwn_ak prt_ak loose_ak rdv_own rdv_fz rdv_bor rdv_rf rdv_pt rdv_v rdv_a rdv_t rdv_r rdv_p rdv_s rdv_f pbin plen pload ppart idxAddr pcond Nat.blt goInt_eq prun_not prun_neg mayLoad ER_ret ER_normal presL presOne moved stor okDrop settle_v settle_l settle_a settle_p settle_f noref_v noref_fz noref_a norefs_nil norefs_cons pclose given lowOf dropB Y0_keep pevParts stors pvCells pvCells.go vcells pfill reps zipParts ownFz pcells cellOK one psrcLen srcFits psrc takeP pgrow take getPl setPl mapL plEq elder isList lowP pevs frzs addP partAt ble_lim24 killV_v killV_a killV_t killV_f killV_i killV_p killV_s killV_un killV_dead killV_lfz killV_lbor killV_lown killV_rfz killV_rbor killV_lak killV_rak frzV_v frzV_a frzV_t frzV_f frzV_i frzV_p frzV_s frzV_un frzV_dead frzV_lfz frzV_lbor frzV_lown frzV_rfz frzV_rbor frzV_lak frzV_rak killCell_v killCell_a killCell_t killCell_f killCell_i killCell_p killCell_s killCell_un killCell_dead killCell_lfz killCell_lbor killCell_lown killCell_rfz killCell_rbor killCell_lak killCell_rak killV_lrf killV_lpt killV_rpt frzV_lrf frzV_lpt frzV_rpt killCell_lrft killCell_lptt killCell_rptt killCell_lrfc killCell_lptc killCell_rptc argv_lak argv_rak argv_v argv_a argv_p argv_f argv_fz argv_bor argv_rf argv_pt argv_rc argv_own mayTurn_none argvs pcallOp firm lowB refsTo_v refsTo_l refsTo_p refsTo_s refsTo_a refsTo_dead refsTo_nil refsTo_cons isOwn_lak ownFz_lak evSafe pskip plain pnewBlk fldAddr isOwn pput spliceP notOwn_fz notOwn_bor notOwn_own notOwn_rf notOwn_pt prt_fz prt_bor prt_own prt_rf prt_pt Go.Pur.freeze presM settles abin_and abin_or abin_andNot abin_mul abin_shr abin_shl abin_add abin_sub abin_eql abin_neq abin_lss abin_leq abin_gtr abin_geq hows pcallIn Y0_how Y0_part howOf partOf rdv_mown rdv_mfz rdv_mbor rdv_mrf killV_mown killV_mfz killV_mbor killV_mrf frzV_mown frzV_mfz frzV_mbor frzV_mrf killCell_mown killCell_mfz killCell_mbor killCell_mrf argv_mfz argv_mbor argv_mrf settle_m kls_v kls_l kls_a kls_t kls_r kls_p kls_s kls_f kls_i kls_it kls_un kls_dead kls_mown kls_mrf kls_mbor kls_mfz fzOf takable mapHere mapOwn mapTo flat toPlain toPlain.go ofFlat ofPair mapEs plook lookRes Y0_mv mvOf mvBlk premv
def errF (room : Int) (s p : Nat) (g : Int) : Int :=
 if fullB s p room then (if 0 ≤ g ∧ g < 6 ∧ s.testBit g.toNat then 0 else 2) else if g = -1 then 0 else 15
def flo (room : Int) : List (Int × Int) → Nat → Int → List Nat → List Nat × Int × Int
 | [], s, set, out => (out, set, 0)
 | (p, g) :: r, s, set, out => if errF room s p.toNat g = 0 then flo room r (withB s p.toNat g) (if withB s p.toNat g = s then set else set + 1) (out ++ [withB s p.toNat g]) else ([], 0, errF room s p.toNat g)
def floorsOf (room : Int) (pages plan : List Int) : List Nat × Int × Int :=
 if chk room pages = 0 then (if plan.length = pages.length then flo room (pages.zip plan) 0 0 [] else ([], 0, 5)) else ([], 0, chk room pages)
abbrev fv (s : Nat) : PV := .v (.int .u64 s)
def flV (r : List Nat × Int × Int) : PV := .t [.l .fz .nz r.1.length (r.1.map fv), iv r.2.1, iv r.2.2]
theorem withB_lt {s p : Nat} {g : Int} (h : s < 64) (hp : p < 6) (hg : g = -1 ∨ 0 ≤ g ∧ g < 6) : withB s p g < 64 := by
 unfold withB
 rcases hg with rfl | ⟨h1, h2⟩
 ·exact (bit_at h hp).2.2.2.2.1
 ·obtain ⟨g, rfl⟩ := Int.eq_ofNat_of_zero_le h1
  have := (bit_at h (show g < 6 by omega)).2.2.2.1
  simpa using (bit_at this hp).2.2.2.2.1
theorem floors_is {room : Int} {pages plan : List Int} {b : Bool} {c d : Ck} {hp : List (Option (List PV))} (hl : pages.length < 1000000000) (hl2 : plan.length < 1000000000) :
  E Tryd.prog Y0 66 [.a [iv room, .l .fz c pages.length (pages.map iv)], .l (ak b) d plan.length (plan.map iv)] hp = some (flV (floorsOf room pages plan), hp, none) := by
 rw [E_bodyN 2 body66 rfl (by decide) rfl]
 simp only [Tryd.f66, Option.get_some]
 by_cases h1 : chk room pages = 0
 ·obtain ⟨hr1, hr2, hn, hpg⟩ := chk_ok h1
  by_cases h2 : (plan.length : Int) = pages.length
  ·have h2' : plan.length = pages.length := by omega
   simp [keep66, field24_0, field24_1, row24, row22, sz24, sz93, zero93, shape22, check_is hl, h1, h2, nble]
   have hz : (pages.zip plan).length = plan.length := by simp [h2']
   have hR : floorsOf room pages plan = flo room (pages.zip plan) 0 0 [] := by rw [floorsOf, if_pos h1, if_pos h2']
   generalize floorsOf room pages plan = Q at hR
   refine loop_ind (fun m σ => ∃ (j s : Nat) (set : Int) (out : List Nat) (ts : Tr PV) (G : List (Option (List PV))) (w : Option Nat), m + j = plan.length ∧ flo room ((pages.zip plan).drop j) s set out = Q ∧ s < 64 ∧ out.length = j ∧ set ≤ j ∧ 0 ≤ set ∧ (w = none ∨ w = some (hp.length + 1)) ∧ σ = ⟨[], ts, hp ++ some [iv room, .l .fz c pages.length (pages.map iv)] :: some [fv s] :: G, w⟩ ∧ ts.get 1 = some (.l (ak b) d plan.length (plan.map iv)) ∧ ts.get 2 = some (.p hp.length 0) ∧ ts.get 8 = some (.p (hp.length + 1) 0) ∧ ts.get 9 = some (.l .own .nz out.length (out.map fv)) ∧ ts.get 10 = some (iv set) ∧ ts.get 29 = some (.l .fz c pages.length (pages.map iv)) ∧ ts.get 30 = some (iv plan.length) ∧ ts.get 31 = some (iv j)) (n0 := plan.length) ?_ ?_
   ·refine ⟨0, 0, 0, [], _, [], none, rfl, hR.symm, by decide, rfl, by simp, by simp, Or.inl rfl, rfl, by simp, by simp, by simp, by simp, by simp, by simp, by simp [h2'], by simp⟩
   ·rintro m σ ⟨j, s, set, out, ts, G, w, hm, hpl, hs, hout, hset, hset0, hw, rfl, g1, g2, g8, g9, g10, g29, g30, g31⟩ ih
    rcases Nat.lt_or_ge j plan.length with hj | hj
    ·have hj2 : j < pages.length := by omega
     have q1 : Nat.ble (j + 1) plan.length = true := ble_true hj
     have q2 : plan[j]? = some plan[j] := List.getElem?_eq_getElem hj
     have q3 : Nat.ble (j + 1) pages.length = true := ble_true hj2
     have q4 : pages[j]? = some pages[j] := List.getElem?_eq_getElem hj2
     have q5 : (pages.zip plan).drop j = (pages[j], plan[j]) :: (pages.zip plan).drop (j + 1) := by rw [List.drop_eq_getElem_cons (by rw [hz]; exact hj)]; simp
     rw [q5] at hpl
     obtain ⟨p', ep'⟩ : ∃ p, pages[j] = p := ⟨_, rfl⟩
     obtain ⟨g, eg⟩ : ∃ g, plan[j] = g := ⟨_, rfl⟩
     have hp' := hpg _ (List.getElem_mem hj2)
     rw [ep'] at hp' q4 hpl
     rw [eg] at q2 hpl
     obtain ⟨p, rfl⟩ := Int.eq_ofNat_of_zero_le hp'.1
     have hp6 : p < 6 := by omega
     simp only [flo, Int.toNat_natCast] at hpl
     have w3 := wrap_nat (show j < 1000000000000 by omega)
     have w4 : IntKind.i64.wrap (set + 1) = set + 1 := wrap64 (by omega) (by omega)
     have hjj : (j : Int) < plan.length := by omega
     have w5 : Nat.ble ((out.length + 1) * 10) limit = true := ble_true (by unfold limit; omega)
     have k1 : Nat.ble (hp.length + 1 + 1) (hp.length + (G.length + 1 + 1)) = true := ble_true (by omega)
     have k3 : Nat.ble (hp.length + 1 + 1) hp.length = false := by rw [nble]; simp; omega
     have k2 : Nat.ble (hp.length + 1) (hp.length + (G.length + 1 + 1)) = true := ble_true (by omega)
     have fin := fun (ts' : Tr PV) (s' : Nat) (w' : Option Nat) (G' : List (Option (List PV))) (set' : Int) (a2 : flo room ((pages.zip plan).drop (j + 1)) s' set' (out ++ [s']) = Q) (b1 : s' < 64) (a4 : set' ≤ set + 1) (a5 : 0 ≤ set') (b2 : w' = none ∨ w' = some (hp.length + 1)) (a6 : ts'.get 1 = some (.l (ak b) d plan.length (plan.map iv))) (a7 : ts'.get 2 = some (.p hp.length 0)) (a8 : ts'.get 8 = some (.p (hp.length + 1) 0)) (a9 : ts'.get 9 = some (.l .own .nz (out.length + 1) (out.map fv ++ [fv s']))) (a10 : ts'.get 10 = some (iv set')) (a11 : ts'.get 29 = some (.l .fz c pages.length (pages.map iv))) (a12 : ts'.get 30 = some (iv plan.length)) (a13 : ts'.get 31 = some (iv ((j : Int) + 1))) => ih (m - 1) ⟨[], ts', hp ++ some [iv room, .l .fz c pages.length (pages.map iv)] :: some [fv s'] :: G', w'⟩ (by omega) ⟨j + 1, s', set', out ++ [s'], ts', G', w', by omega, a2, b1, by simp [hout], by omega, a5, b2, rfl, a6, a7, a8, by simpa using a9, a10, a11, a12, by simpa using a13⟩
     clear ih
     cases hf : fullB s p room with
     | true =>
      by_cases hg : 0 ≤ g ∧ g < 6 ∧ s.testBit g.toNat = true
      ·obtain ⟨hg0, hg6, hgb⟩ := hg
       have e1 : errF room s p g = 0 := by unfold errF; rw [hf, if_pos rfl, if_pos ⟨hg0, hg6, hgb⟩]
       rw [if_pos e1] at hpl
       obtain ⟨g, rfl⟩ := Int.eq_ofNat_of_zero_le hg0
       have a1 := (bit_at hs (show g < 6 by omega)).1
       rw [if_pos (by simpa using hgb)] at a1
       have wi := fun hp => @with_is s p g hp hs hp6 (Or.inr ⟨hg0, hg6⟩)
       have wl := withB_lt hs hp6 (Or.inr ⟨hg0, hg6⟩)
       obtain ⟨s', es⟩ : ∃ s', withB s p g = s' := ⟨_, rfl⟩
       simp only [es] at wi wl hpl
       have n93 := neq93 wl hs
       simp [keep66, g1, g2, g8, g9, g10, g29, g30, g31, field24_0, field24_1, field93_0, row24, row22, row3, row93, row91, sz24, sz93, zero93, shape22, shape86, by93, hjj, q1, q2, q3, q4, intIn_nat hj, intIn_nat hj2, gAt, gAt0, sAt, sAt0, full_is hs hp6, hf, hg6, show ¬ (6 : Int) ≤ g by omega, show ¬ (g : Int) < 0 by omega, a1, wi, w3, w4, w5, k1, k2, noMaker_eq, kindOf, n93, toPlain1]
       generalize hmt : mayTurn _ = mb
       obtain rfl : mb = true := by rw [← hmt]; kernel_rfl
       clear hmt
       simp [keep66, g1, g2, g8, g9, g10, g29, g30, g31, field24_0, field24_1, field93_0, row24, row22, row3, row93, row91, sz24, sz93, zero93, shape22, shape86, by93, hjj, q1, q2, q3, q4, intIn_nat hj, intIn_nat hj2, gAt, gAt0, sAt, sAt0, full_is hs hp6, hf, hg6, show ¬ (6 : Int) ≤ g by omega, show ¬ (g : Int) < 0 by omega, a1, wi, w3, w4, w5, k1, k2, noMaker_eq, kindOf, n93, toPlain1]
       by_cases hc : s' = s
       ·subst hc
        rw [if_pos rfl] at hpl
        simp [keep66, g1, g2, g8, g9, g10, g29, g30, g31, field24_0, field24_1, field93_0, row24, row22, row3, row93, row91, sz24, sz93, zero93, shape22, shape86, by93, hjj, q1, q2, q3, q4, intIn_nat hj, intIn_nat hj2, gAt, gAt0, sAt, sAt0, full_is hs hp6, hf, hg6, show ¬ (6 : Int) ≤ g by omega, show ¬ (g : Int) < 0 by omega, a1, wi, w3, w4, w5, k1, k2, noMaker_eq, kindOf, n93, toPlain1]
        exact fin _ s' _ _ set hpl wl (by omega) (by omega) (by rcases hw with rfl | rfl <;> simp <;> omega) (by simp [g1]) (by simp [g2]) (by simp [g8]) (by simp) (by simp [g10]) (by simp [g29]) (by simp [g30]) (by simp)
       ·rw [if_neg hc] at hpl
        simp [keep66, g1, g2, g8, g9, g10, g29, g30, g31, field24_0, field24_1, field93_0, row24, row22, row3, row93, row91, sz24, sz93, zero93, shape22, shape86, by93, hjj, q1, q2, q3, q4, intIn_nat hj, intIn_nat hj2, gAt, gAt0, sAt, sAt0, full_is hs hp6, hf, hg6, show ¬ (6 : Int) ≤ g by omega, show ¬ (g : Int) < 0 by omega, a1, wi, w3, w4, w5, k1, k2, noMaker_eq, kindOf, n93, toPlain1, hc]
        exact fin _ s' _ _ (set + 1) hpl wl (by omega) (by omega) (by rcases hw with rfl | rfl <;> simp <;> omega) (by simp [g1]) (by simp [g2]) (by simp [g8]) (by simp) (by simp) (by simp [g29]) (by simp [g30]) (by simp)
      ·have e1 : errF room s p g = 2 := by unfold errF; rw [hf, if_pos rfl, if_neg hg]
       simp [e1] at hpl
       subst hpl
       simp only [flV]
       by_cases hg0 : g < 0
       ·simp [keep66, g1, g2, g8, g9, g10, g29, g30, g31, field24_0, field24_1, field93_0, row24, row22, row3, row93, row91, sz24, sz93, zero93, shape22, shape86, by93, hjj, q1, q2, q3, q4, intIn_nat hj, intIn_nat hj2, gAt, gAt0, sAt, sAt0, full_is hs hp6, hf, hg0, w3, w4, w5, k1, k2, noMaker_eq, kindOf]
        rcases hw with rfl | rfl <;> simp [k3]
       ·by_cases hg6 : 6 ≤ g
        ·simp [keep66, g1, g2, g8, g9, g10, g29, g30, g31, field24_0, field24_1, field93_0, row24, row22, row3, row93, row91, sz24, sz93, zero93, shape22, shape86, by93, hjj, q1, q2, q3, q4, intIn_nat hj, intIn_nat hj2, gAt, gAt0, sAt, sAt0, full_is hs hp6, hf, hg0, hg6, w3, w4, w5, k1, k2, noMaker_eq, kindOf]
         rcases hw with rfl | rfl <;> simp [k3]
        ·obtain ⟨g, rfl⟩ := Int.eq_ofNat_of_zero_le (show 0 ≤ g by omega)
         have a1 := (bit_at hs (show g < 6 by omega)).1
         rw [if_neg (fun h => hg ⟨by omega, by omega, by simpa using h⟩)] at a1
         simp [keep66, g1, g2, g8, g9, g10, g29, g30, g31, field24_0, field24_1, field93_0, row24, row22, row3, row93, row91, sz24, sz93, zero93, shape22, shape86, by93, hjj, q1, q2, q3, q4, intIn_nat hj, intIn_nat hj2, gAt, gAt0, sAt, sAt0, full_is hs hp6, hf, hg6, hg0, a1, w3, w4, w5, k1, k2, noMaker_eq, kindOf]
         rcases hw with rfl | rfl <;> simp [k3]
     | false =>
      by_cases hg : g = -1
      ·subst hg
       have e1 : errF room s p (-1) = 0 := by unfold errF; rw [hf]; rfl
       rw [if_pos e1] at hpl
       have wi := fun hp => @with_is s p (-1) hp hs hp6 (Or.inl rfl)
       have wl := withB_lt (g := -1) hs hp6 (Or.inl rfl)
       obtain ⟨s', es⟩ : ∃ s', withB s p (-1) = s' := ⟨_, rfl⟩
       simp only [es] at wi wl hpl
       have n93 := neq93 wl hs
       simp [keep66, g1, g2, g8, g9, g10, g29, g30, g31, field24_0, field24_1, field93_0, row24, row22, row3, row93, row91, sz24, sz93, zero93, shape22, shape86, by93, hjj, q1, q2, q3, q4, intIn_nat hj, intIn_nat hj2, gAt, gAt0, sAt, sAt0, full_is hs hp6, hf,  wi, w3, w4, w5, k1, k2, noMaker_eq, kindOf, n93, toPlain1]
       generalize hmt : mayTurn _ = mb
       obtain rfl : mb = true := by rw [← hmt]; kernel_rfl
       clear hmt
       simp [keep66, g1, g2, g8, g9, g10, g29, g30, g31, field24_0, field24_1, field93_0, row24, row22, row3, row93, row91, sz24, sz93, zero93, shape22, shape86, by93, hjj, q1, q2, q3, q4, intIn_nat hj, intIn_nat hj2, gAt, gAt0, sAt, sAt0, full_is hs hp6, hf,  wi, w3, w4, w5, k1, k2, noMaker_eq, kindOf, n93, toPlain1]
       by_cases hc : s' = s
       ·subst hc
        rw [if_pos rfl] at hpl
        simp [keep66, g1, g2, g8, g9, g10, g29, g30, g31, field24_0, field24_1, field93_0, row24, row22, row3, row93, row91, sz24, sz93, zero93, shape22, shape86, by93, hjj, q1, q2, q3, q4, intIn_nat hj, intIn_nat hj2, gAt, gAt0, sAt, sAt0, full_is hs hp6, hf,  wi, w3, w4, w5, k1, k2, noMaker_eq, kindOf, n93, toPlain1]
        exact fin _ s' _ _ set hpl wl (by omega) (by omega) (by rcases hw with rfl | rfl <;> simp <;> omega) (by simp [g1]) (by simp [g2]) (by simp [g8]) (by simp) (by simp [g10]) (by simp [g29]) (by simp [g30]) (by simp)
       ·rw [if_neg hc] at hpl
        simp [keep66, g1, g2, g8, g9, g10, g29, g30, g31, field24_0, field24_1, field93_0, row24, row22, row3, row93, row91, sz24, sz93, zero93, shape22, shape86, by93, hjj, q1, q2, q3, q4, intIn_nat hj, intIn_nat hj2, gAt, gAt0, sAt, sAt0, full_is hs hp6, hf,  wi, w3, w4, w5, k1, k2, noMaker_eq, kindOf, n93, toPlain1, hc]
        exact fin _ s' _ _ (set + 1) hpl wl (by omega) (by omega) (by rcases hw with rfl | rfl <;> simp <;> omega) (by simp [g1]) (by simp [g2]) (by simp [g8]) (by simp) (by simp) (by simp [g29]) (by simp [g30]) (by simp)
      ·have e1 : errF room s p g = 15 := by unfold errF; rw [hf, if_neg (by decide), if_neg hg]
       simp [e1] at hpl
       subst hpl
       simp only [flV]
       simp [keep66, g1, g2, g8, g9, g10, g29, g30, g31, field24_0, field24_1, field93_0, row24, row22, row3, row93, row91, sz24, sz93, zero93, shape22, shape86, by93, hjj, q1, q2, q3, q4, intIn_nat hj, intIn_nat hj2, gAt, gAt0, sAt, sAt0, full_is hs hp6, hf, hg, w3, w4, w5, k1, k2, noMaker_eq, kindOf]
       rcases hw with rfl | rfl <;> simp [k3]
    ·have k3 : Nat.ble (hp.length + 1 + 1) hp.length = false := by rw [nble]; simp; omega
     rw [List.drop_of_length_le (by omega)] at hpl
     simp only [flo] at hpl
     subst hpl
     simp only [flV]
     simp [keep66, g1, g2, g8, g9, g10, g29, g30, g31, show ¬ (j : Int) < plan.length by omega, shape86]
     rcases hw with rfl | rfl <;> simp [k3]
  ·have h2' : ¬ plan.length = pages.length := by omega
   simp only [floorsOf, if_pos h1, if_neg h2', flV]
   simp [keep66, field24_1, row24, row22, sz24, shape22, shape86, check_is hl, h1, h2, h2']
 ·simp only [floorsOf, if_neg h1, flV]
  simp [keep66, field24_1, row24, row22, sz24, shape22, shape86, check_is hl, h1]
end Go.Proofs.YtcdhajbhpnbdkaaDoor
