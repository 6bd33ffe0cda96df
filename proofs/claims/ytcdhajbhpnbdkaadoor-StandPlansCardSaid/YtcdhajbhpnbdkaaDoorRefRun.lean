/-
  The reference's Run and Standing, by the pure evaluator.
  Conditions: none; lemmas.
-/
import Derived.Test.YtcdhajbhpnbdkaaDoorPlayed
set_option linter.unusedSimpArgs false
set_option linter.unusedVariables false
namespace Go.Proofs.YtcdhajbhpnbdkaaDoor
open Go.Abs Go.Pur
set_option maxRecDepth 100000
attribute [local simp] EK_region EK_seq EK_cond EK_block EK_blk EK_loop EK_exit EK.ex EK_ret EK_skip EK_nil EO_cons EO_nil EO1_true EO1_false EO2_some EO3_some EB_true EB_false pwanted poper pq pev Go.Pur.look pputT isAssign drOf pinit Tr.get_set lget pvOf_int pvOf_bool pvOf_str pvOf_nil rdv_ak notOwn_ak prt_ak loose_ak rdv_own rdv_fz rdv_bor rdv_rf rdv_pt rdv_v rdv_a rdv_t rdv_r rdv_p rdv_s rdv_f pbin plen pload ppart idxAddr pcond Nat.blt goInt_eq prun_not prun_neg mayLoad ER_ret ER_normal presL presOne moved stor okDrop settle_v settle_l settle_a settle_p settle_f noref_v noref_fz noref_a norefs_nil norefs_cons pclose given lowOf dropB Y0_keep pevParts stors pvCells pvCells.go vcells pfill reps zipParts ownFz pcells cellOK one psrcLen srcFits psrc takeP pgrow take getPl setPl mapL plEq elder isList lowP pevs frzs addP partAt ble_lim24 killV_v killV_a killV_t killV_f killV_i killV_p killV_s killV_un killV_dead killV_lfz killV_lbor killV_lown killV_rfz killV_rbor killV_lak killV_rak frzV_v frzV_a frzV_t frzV_f frzV_i frzV_p frzV_s frzV_un frzV_dead frzV_lfz frzV_lbor frzV_lown frzV_rfz frzV_rbor frzV_lak frzV_rak killCell_v killCell_a killCell_t killCell_f killCell_i killCell_p killCell_s killCell_un killCell_dead killCell_lfz killCell_lbor killCell_lown killCell_rfz killCell_rbor killCell_lak killCell_rak killV_lrf killV_lpt killV_rpt frzV_lrf frzV_lpt frzV_rpt killCell_lrft killCell_lptt killCell_rptt killCell_lrfc killCell_lptc killCell_rptc argv_lak argv_rak argv_v argv_a argv_p argv_f argv_fz argv_bor argv_rf argv_pt argv_rc argv_own mayTurn_none argvs pcallOp firm lowB refsTo_v refsTo_l refsTo_p refsTo_s refsTo_a refsTo_dead refsTo_nil refsTo_cons isOwn_lak ownFz_lak evSafe pskip plain pnewBlk fldAddr isOwn pput spliceP notOwn_fz notOwn_bor notOwn_own notOwn_rf notOwn_pt prt_fz prt_bor prt_own prt_rf prt_pt Go.Pur.freeze presM settles abin_and abin_or abin_andNot abin_mul abin_shr abin_shl abin_add abin_sub abin_eql abin_neq abin_lss abin_leq abin_gtr abin_geq
theorem refRun_is {room : Int} {pages plan : List Int} {b : Bool} {c d : Ck} {hp : List (Option (List PV))} (hl : pages.length < 1000000000) (hl2 : plan.length < 1000000000) :
    E Tryd.prog Y0 20 [.a [iv room, .l .fz c pages.length (pages.map iv)], .l (ak b) d plan.length (plan.map iv)] hp = some (.t [iv (playedOf room pages plan).2.1, iv (playedOf room pages plan).2.2], hp, none) := by
  rw [E_bodyN 2 body20 rfl (by decide) rfl]
  simp only [Tryd.f20, Option.get_some]
  simp [keep20, row27, sz27, played_is (b := b) hl hl2, playedV]
def six : List Int := [0, 1, 2, 3, 4, 5]
def orderOf (l : List Int) : List Int := six.filter (· ∈ l)
def ordI (x : List Int) (i : Nat) : List Int := (six.take i).filter (· ∈ x)
theorem ordI_six {x : List Int} : ordI x 6 = orderOf x := rfl
theorem ordI_succ {x : List Int} {i : Nat} (h : i < 6) : ordI x (i + 1) = if (i : Int) ∈ x then ordI x i ++ [(i : Int)] else ordI x i := by
  unfold ordI
  have : six[i]? = some (i : Int) := by
    have : i = 0 ∨ i = 1 ∨ i = 2 ∨ i = 3 ∨ i = 4 ∨ i = 5 := by omega
    rcases this with rfl | rfl | rfl | rfl | rfl | rfl <;> rfl
  rw [List.take_add_one, this, List.filter_append]
  by_cases hx : (i : Int) ∈ x
  · rw [if_pos hx]; simp [hx]
  · rw [if_neg hx]; simp [hx]
theorem ordI_length {x : List Int} {i : Nat} : (ordI x i).length ≤ i := Nat.le_trans (List.length_filter_le _ _) (List.length_take_le _ _)
theorem play_in {room : Int} : ∀ {l : List (Int × Int)} {e set : Int} {now : List Int} {out : List (List Int)}, now.length ≤ out.length → (∀ x ∈ out, x.length ≤ out.length) → ∀ x ∈ (play room l e now set out).1, x.length ≤ out.length + l.length
  | [], e, set, now, out, h1, h2 => fun x hx => h2 x hx
  | (p, g) :: r, e, set, now, out, h1, h2 => fun x hx => by
    simp only [play] at hx
    split at hx
    · have h3 := @nowOf_length now p g
      have := play_in (l := r) (now := nowOf now p g) (out := out ++ [nowOf now p g]) (by simp; omega) (fun y hy => by
        simp at hy
        rcases hy with hy | rfl
        · have := h2 y hy; simp; omega
        · simp; omega) x hx
      simp at this ⊢
      omega
    · have := h2 x hx
      omega
theorem play_len {room : Int} : ∀ {l : List (Int × Int)} {e set : Int} {now : List Int} {out : List (List Int)}, (play room l e now set out).1.length ≤ out.length + l.length
  | [], e, set, now, out => by simp [play]
  | (p, g) :: r, e, set, now, out => by
    simp only [play]
    split
    · have := play_len (room := room) (l := r) (e := errOf room now p g) (set := if p ∈ wo now g then set else set + 1) (now := nowOf now p g) (out := out ++ [nowOf now p g])
      simp at this ⊢
      omega
    · simp
theorem playedOf_small {room : Int} {pages plan : List Int} : (playedOf room pages plan).1.length ≤ 12 ∧ ∀ x ∈ (playedOf room pages plan).1, x.length ≤ 12 := by
  unfold playedOf
  split
  · unfold played0
    split
    · rename_i h1
      obtain ⟨_, _, h, _⟩ := chk_ok h1
      split
      · have h1 := @play_len room (pages.zip plan) 0 0 [] []
        have h2 := @play_in room (pages.zip plan) 0 0 [] [] (by simp) (by simp)
        simp at h1 h2
        exact ⟨by omega, fun x hx => by have := h2 x hx; omega⟩
      · simp
    · simp
  · simp
theorem refStanding_is {room : Int} {pages plan : List Int} {b : Bool} {c d : Ck} {hp : List (Option (List PV))} (hl : pages.length < 1000000000) (hl2 : plan.length < 1000000000) :
    E Tryd.prog Y0 22 [.a [iv room, .l .fz c pages.length (pages.map iv)], .l (ak b) d plan.length (plan.map iv)] hp = some (.t [.l .fz .nz (playedOf room pages plan).1.length (((playedOf room pages plan).1.map orderOf).map lc), iv (playedOf room pages plan).2.2], hp, none) := by
  rw [E_bodyN 2 body22 rfl (by decide) rfl]
  simp only [Tryd.f22, Option.get_some]
  obtain ⟨hs1, hs2⟩ := @playedOf_small room pages plan
  generalize hQ : playedOf room pages plan = Q at *
  have hpl := @played_is room pages plan b c d (hp ++ [some [iv room, .l .fz c pages.length (pages.map iv)]]) hl hl2
  rw [hQ] at hpl
  simp [keep22, row27, sz27, hpl, playedV]
  obtain ⟨L, set, e⟩ := Q
  simp only at hs1 hs2 ⊢
  refine loop_ind (fun m σ => ∃ j ts, m + j = L.length ∧ σ = ⟨[], ts, hp ++ [some [iv room, .l .fz c pages.length (pages.map iv)]], none⟩ ∧ ts.get 6 = some (.l .fz .nz L.length (L.map lc)) ∧ ts.get 8 = some (iv e) ∧ ts.get 9 = some (.l .own .nz j (((L.take j).map orderOf).map lc)) ∧ ts.get 10 = some (iv j)) (n0 := L.length) ?_ ?_
  · exact ⟨0, _, rfl, rfl, by simp, by simp, by simp, by simp⟩
  · rintro m σ ⟨j, ts, hm, rfl, g6, g8, g9, g10⟩ ih
    rcases Nat.lt_or_ge j L.length with hj | hj
    · have h2 : Nat.ble (j + 1) L.length = true := ble_true hj
      have h3 : L[j]? = some L[j] := List.getElem?_eq_getElem hj
      obtain ⟨x, ex⟩ : ∃ x, L[j] = x := ⟨_, rfl⟩
      have hx : x.length < 1000000000 := by have := hs2 x (ex ▸ List.getElem_mem hj); omega
      simp [keep22, g6, g8, g9, g10, shape32, row22, hj, intIn_nat hj, h2, h3, ex]
      refine loop_ind (fun m σ => ∃ i ts', m + i = 6 ∧ σ = ⟨[], ts', hp ++ [some [iv room, .l .fz c pages.length (pages.map iv)]], none⟩ ∧ ts'.get 6 = some (.l .fz .nz L.length (L.map lc)) ∧ ts'.get 8 = some (iv e) ∧ ts'.get 9 = some (.l .own .nz j (((L.take j).map orderOf).map lc)) ∧ ts'.get 10 = some (iv j) ∧ ts'.get 11 = some (.l .own .nz (ordI x i).length ((ordI x i).map iv)) ∧ ts'.get 12 = some (iv i)) (n0 := 6) ?_ ?_
      · exact ⟨0, _, rfl, rfl, by simp [g6], by simp [g8], by simp [g9], by simp [g10], by simp [ordI], by simp⟩
      · rintro m' σ ⟨i, ts', hm', rfl, a6, a8, a9, a10, a11, a12⟩ ih2
        have k1 := @ordI_length x i
        rcases Nat.lt_or_ge i 6 with hi | hi
        · have k2 := @ordI_succ x i hi
          have k3 := wrap_nat (show i < 1000000000000 by omega)
          have k4 : Nat.ble (((ordI x i).length + 1) * 10) limit = true := ble_true (by unfold limit; omega)
          have k5 : (i : Int) < 6 := by omega
          by_cases k6 : (i : Int) ∈ x
          · rw [if_pos k6] at k2
            simp [keep22, a6, a8, a9, a10, a11, a12, shape32, shape22, row22, hj, intIn_nat hj, h2, h3, ex, has_fz hx, k3, k4, k5, k6, zero3, by3]
            exact ih2 (m' - 1) _ (by omega) ⟨i + 1, _, by omega, rfl, by simp [a6], by simp [a8], by simp [a9], by simp [a10], by simp [k2], by simp⟩
          · rw [if_neg k6] at k2
            simp [keep22, a6, a8, a9, a10, a11, a12, shape32, shape22, row22, hj, intIn_nat hj, h2, h3, ex, has_fz hx, k3, k4, k5, k6, zero3, by3]
            exact ih2 (m' - 1) _ (by omega) ⟨i + 1, _, by omega, rfl, by simp [a6], by simp [a8], by simp [a9], by simp [a10], by simp [k2, a11], by simp⟩
        · obtain rfl : i = 6 := by omega
          have k3 := wrap_nat (show j < 1000000000000 by omega)
          have k4 : Nat.ble ((j + 1) * 26) limit = true := ble_true (by unfold limit; omega)
          rw [ordI_six] at a11
          simp [keep22, a6, a8, a9, a10, a11, a12, shape32, shape22, row22, zero22, by22, k3, k4, show min j L.length = j by omega]
          refine ih (m - 1) _ (by omega) ⟨j + 1, _, by omega, rfl, by simp [a6], by simp [a8], ?_, by simp⟩
          rw [List.take_add_one, h3, ex]
          simp
    · obtain rfl : j = L.length := by omega
      rw [List.take_of_length_le hj] at g9
      simp [keep22, g6, g8, g9, g10, shape32]
end Go.Proofs.YtcdhajbhpnbdkaaDoor
