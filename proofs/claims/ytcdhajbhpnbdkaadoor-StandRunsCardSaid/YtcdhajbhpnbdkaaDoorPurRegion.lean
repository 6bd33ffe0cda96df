/-
  Regions: in the order of the text, and in any order.
  Conditions: none; lemmas.
-/
import Derived.Test.YtcdhajbhpnbdkaaDoorPurCall
set_option linter.unusedSimpArgs false
set_option linter.unusedVariables false
set_option linter.unusedSectionVars false
namespace Go.Pur
open Go.Abs
section
variable {P : Program} {Y : Pol} {f : FuncId} {C C' : Ctx} {h h' : AHeap} {σ σ' : St} {tv : Tr Value}

/-- The heap's numbers may turn. -/
theorem ST.heap (st : ST P Y f C h σ tv) (hg : ∀ a, h'.get a = h.get a) (hn : h.next ≤ h'.next) : ST P Y f C h' σ tv := by
  have o : Old C C h h' := ⟨rfl, fun _ _ h => h, fun _ h => h, fun _ h => h, fun _ _ h => h, fun a _ => hg a⟩
  exact Old.st (hp' := σ.hp) (wl' := σ.wl) st o hn (fun _ h => .inl h) ⟨st.hi.fzx, fun id hid => ⟨Nat.lt_of_lt_of_le (st.hi.fxl id hid).1 hn, (st.hi.fxl id hid).2⟩, fun id p hid => Nat.lt_of_lt_of_le (st.hi.owl id p hid) hn,
    fun b id hb => let ⟨a1, a2, a3, a4⟩ := st.hi.βl b id hb; ⟨Nat.lt_of_lt_of_le a1 hn, a2, a3, a4⟩, st.hi.inj, fun b cs hb => st.hi.old_blk o (fun b id _ => hg id) hb, st.hi.rf⟩
theorem VR.heap (hg : ∀ a, h'.get a = h.get a) (hs : ∀ id, C.fz id → C.fx id) {π : Option Pl} {v : PV} {x : Value} (hv : VR C h π v x) : VR C h' π v x :=
  hv.old hs ⟨rfl, fun _ _ h => h, fun _ h => h, fun _ h => h, fun _ _ h => h, fun a _ => hg a⟩

/-! ### Temporaries -/
theorem tget0_set {t d : Nat} {x : Value} : tget0 (tv.set d x) t = if t = d then x else tget0 tv t := by
  unfold tget0
  rw [Tr.get_set]
  by_cases e : t = d
  · simp [e]
  · simp [e]

theorem ST.put_local {d : Nat} {v : PV} {x : Value} (st : ST P Y f C h σ tv) (hk : Y.keep f d = false) (hv : VR C h (some (.tmp d)) v x) : ST P Y f C h { σ with ls := (d, v) :: σ.ls } (tv.set d x) := by
  refine ⟨st.sz, st.hi, fun t u hu => ?_, st.nl, st.gr⟩
  rw [tget0_set]
  by_cases e : t = d
  · subst e
    rw [if_pos rfl]
    unfold look at hu
    simp only [hk, lget, Nat.beq_refl] at hu
    cases hu; exact hv
  · rw [if_neg e]
    refine st.tr t u ?_
    unfold look at hu ⊢
    have : Nat.beq d t = false := Bool.eq_false_iff.2 fun h => e (Nat.eq_of_beq_eq_true h).symm
    cases hkt : Y.keep f t with
    | true => simpa [hkt] using hu
    | false => simpa [hkt, lget, this] using hu

theorem ST.put_kept {d : Nat} {v : PV} {x : Value} (st : ST P Y f C h σ tv) (hk : Y.keep f d = true) (hl : loose v = false) (hv : VR C h (some (.tmp d)) v x) : ST P Y f C h { σ with ts := σ.ts.set d v } (tv.set d x) := by
  refine ⟨st.sz, st.hi, fun t u hu => ?_, fun t u ht hu => ?_, st.gr⟩
  · rw [tget0_set]
    by_cases e : t = d
    · subst e
      rw [if_pos rfl]
      unfold look at hu
      simp only [hk, Tr.get_set, if_true] at hu
      cases hu; exact hv
    · rw [if_neg e]
      refine st.tr t u ?_
      unfold look at hu ⊢
      cases hkt : Y.keep f t with
      | true => simpa [hkt, Tr.get_set, e] using hu
      | false => simpa [hkt] using hu
  · simp only [Tr.get_set] at hu
    by_cases e : t = d
    · rw [if_pos e] at hu; cases hu; exact hl
    · rw [if_neg e] at hu; exact st.nl t u ht hu

theorem Step.same {K : Nat → Bool} {N : Nat → Prop} {σ2 : St} (s : Step K N C h σ C' h' σ') (h1 : σ2.hp = σ'.hp) (h2 : σ2.wl = σ'.wl) : Step K N C h σ C' h' σ2 :=
  ⟨s.ext, s.ids, by rw [h1]; exact s.len, s.bnew, fun F hc => s.wlm F (by rw [h2] at hc; exact hc), s.loc, fun F hN l => by rw [h1, h2]; exact s.lp F hN l⟩

theorem VR.VAof {d : Nat} {v : PV} {x : Value} (hv : VR C h (some (.tmp d)) v x) (ho : isOwn v = false) : VA C h v x := fun e => hv.retag ho

theorem pputT_sim {nt : Nat} {asg : Bool} {dst : Option Tmp} {v : PV} {x : Value} {σ1 : St} (st : ST P Y f C h σ tv) (hv : ∀ d, dst = some d → VR C h (some (.tmp d)) v x) (hq : pputT Y f nt asg dst v σ = some σ') :
    ∃ tv' C', putA nt tv dst x = some tv' ∧ ST P Y f C' h σ' tv' ∧ Step (Y.keep f) (fun _ => False) C h σ C' h σ' := by
  unfold pputT at hq
  split at hq
  · cases hq; exact ⟨tv, C, rfl, st, .refl _ _ _ _ _⟩
  · rename_i d
    have hv := hv d rfl
    split at hq
    · rename_i hlt
      have hput : putA nt tv (some d) x = some (tv.set d x) := by simp only [putA, hlt]
      split at hq
      · rename_i hk
        split at hq
        · rename_i p0 c0 n0 cs0 _
          have hva := hv.VAof rfl
          split at hq
          · split at hq
            · rename_i σ2 ht
              cases hq
              obtain ⟨s1, t1, _, _⟩ := take_sim (some (.tmp d)) (fun e he => by cases he; exact hk) st ht
              exact ⟨_, _, hput, s1.put_kept hk rfl (VA.taken hva), t1.same rfl rfl⟩
            · cases hq
          · split at hq
            · rename_i σ2 hz
              cases hq
              obtain ⟨s1, t1⟩ := freeze_sim st hz
              have h3 := hva.frz (S := atP p0)
              rw [show frzS (atP p0) (.l (.rf p0) c0 n0 cs0) = .l .fz c0 n0 cs0 by simp [frzS, atP_iff.2]] at h3
              exact ⟨_, _, hput, s1.put_kept hk rfl (h3 d), t1.same rfl rfl⟩
            · cases hq
        · cases hq
        · cases hq
        · rename_i h1 h2 h3
          cases hq
          refine ⟨_, _, hput, st.put_kept hk ?_ hv, (Step.refl _ _ _ _ _).same rfl rfl⟩
          cases v with
          | l k c n cs =>
            cases k with
            | rf p => exact (h1 p c n cs rfl).elim
            | pt p => exact (h2 p c n cs rfl).elim
            | _ => rfl
          | r k cs =>
            cases k with
            | pt p => exact (h3 p cs rfl).elim
            | _ => rfl
          | _ => rfl
      · rename_i hk
        cases hq
        exact ⟨_, _, hput, st.put_local hk hv, (Step.refl _ _ _ _ _).same rfl rfl⟩
    · cases hq

theorem pskip_sim {nt : Nat} {dst : Option Tmp} (st : ST P Y f C h σ tv) (hq : pskip Y f nt dst σ = some σ') : ∃ tv', putA nt tv dst undef = some tv' ∧ ST P Y f C h σ' tv' ∧ Step (Y.keep f) (fun _ => False) C h σ C h σ' := by
  unfold pskip at hq
  split at hq
  · cases hq; exact ⟨tv, rfl, st, .refl _ _ _ _ _⟩
  · rename_i d
    split at hq
    · rename_i hlt
      have hput : putA nt tv (some d) undef = some (tv.set d undef) := by simp only [putA, hlt]
      split at hq
      · rename_i hk
        cases hq
        exact ⟨_, hput, st.put_kept hk rfl (.un _), (Step.refl _ _ _ _ _).same rfl rfl⟩
      · rename_i hk
        cases hq
        exact ⟨_, hput, st.put_local hk (.un _), (Step.refl _ _ _ _ _).same rfl rfl⟩
    · cases hq

theorem pwanted_sim {ops : Array Oper} {o : Oper} {b : Bool} (st : ST P Y f C h σ tv) (hq : pwanted Y f ops o σ = some b) : wantedA ops o tv = b := by
  unfold pwanted at hq
  unfold wantedA
  split at hq
  · rename_i hg; cases hq; rw [hg]
  · rename_i j w hg
    rw [hg]
    simp only []
    split at hq
    · rename_i t ht
      rw [ht]
      simp only []
      split at hq
      · rename_i c hc
        cases hq
        obtain ⟨h1, _⟩ := (st.tr t _ hc).inv_v
        unfold tget0 at h1
        split at h1
        · rename_i u hu; rw [hu, h1]
        · cases h1
      · rename_i hc
        cases hq
        have h1 := st.tr t _ hc
        have h2 : tget0 tv t = undef := by
          generalize tget0 tv t = y at h1
          cases h1; rfl
        unfold tget0 at h2
        split at h2
        · rename_i u hu; rw [hu, h2]; rfl
        · rename_i hu; rw [hu]
      · cases hq
    · cases hq

/-! ### Operations of each kind -/
theorem kind0_sim {call : PCallF} {dr : Dr} {op : Op} {v : PV} (st : ST P Y f C h σ tv) (hk : kindOf op = 0) (hq : poper P Y f call dr op σ = some (v, σ')) :
    ∃ C' x', aq P op tv h = some x' ∧ ST P Y f C' h σ' tv ∧ Step (Y.keep f) (fun _ => False) C h σ C' h σ' ∧ VA C' h v x' := by
  cases hq0 : quiet0 op with
  | true => exact (quiet0_sim st hq0 hq).2
  | false =>
    have fall : (match pq P Y f op σ with
      | some v => some (v, σ)
      | none => none) = some (v, σ') → ∃ C' x', aq P op tv h = some x' ∧ ST P Y f C' h σ' tv ∧ Step (Y.keep f) (fun _ => False) C h σ C' h σ' ∧ VA C' h v x' := fun hq => by
      split at hq
      · rename_i u hu
        cases hq
        obtain ⟨_, x', h1, h2⟩ := pq_sim st.tr st.gr hu
        exact ⟨C, x', h1, st, .refl _ _ _ _ _, h2⟩
      · cases hq
    cases op with
    | load => cases hq0
    | build => cases hq0
    | makeInterface => cases hq0
    | makeFunc => cases hq0
    | box => simp [kindOf] at hk
    | alloc => simp [kindOf] at hk
    | buildSlice => simp [kindOf] at hk
    | makeSlice => simp [kindOf] at hk
    | store => simp [kindOf] at hk
    | call c =>
      obtain ⟨callee, args, types⟩ := c
      cases callee with
      | builtin b => cases b <;> first | (simp [kindOf] at hk; done) | exact fall hq
      | _ => simp [kindOf] at hk
    | _ => exact fall hq

/-- An operation of kind 2 or 3. -/
theorem loud3_sim {call : PCallF} {ac : CallF} {dr : Dr} {o : Oper} {v : PV} (d : Nat) (hc : CallSim P Y call ac) (st : ST P Y f C h σ tv) (h0 : kindOf o.op ≠ 0) (h1 : kindOf o.op ≠ 1) (hq : poper P Y f call dr o.op σ = some (v, σ')) :
    ∃ C' h' x', aoper P ac o tv h = some (x', h') ∧ ST P Y f C' h' σ' tv ∧ Step (Y.keep f) (h.next ≤ ·) C h σ C' h' σ' ∧ VR C' h' (some (.tmp d)) v x' ∧
      (∀ a, dr = some a → ordAll a.ops a.q = true ∨ ∀ X, X ≤ h.low → X ≤ h.next → (∀ id t, C.ow id = some (.tmp t) → Y.keep f t = false → X ≤ id) → X ≤ h'.low) := by
  by_cases h2 : kindOf o.op = 2
  · obtain ⟨C', h', x', k1, k2, k3, k4, k5⟩ := loud_sim d st h2 hq
    exact ⟨C', h', x', by unfold aoper; rw [h2]; exact k1, k2, k3, k4, fun a e => k5.imp (fun h => by rw [e] at h; exact h) (fun h X h1 _ h3 => h X h1 h3)⟩
  · -- a call
    obtain ⟨dst, op, ty, pos, after, guard⟩ := o
    cases op with
    | call c =>
      obtain ⟨callee, args, types⟩ := c
      cases callee with
      | builtin b => cases b <;> simp [kindOf] at h0 h1 h2
      | invoke r m => simp only [poper, pq] at hq; cases hq
      | value fo =>
        obtain ⟨g, first, captured, as, C', h', x', f1, a1, k1, k2, k3, k4, k5⟩ := pcallOp_sim d hc st hq
        refine ⟨C', h', x', ?_, k2, k3, k4, fun a ha => (k5 a ha).elim (fun h => .inr (fun X h1 h2 _ => Nat.le_trans (Nat.le_min.2 ⟨h1, h2⟩) h)) .inl⟩
        simp only [aoper, kindOf, acallOp, f1, a1, k1]
    | _ => simp [kindOf] at h0 h1 h2

/-! ### In the order of the text -/
theorem pops_sim {call : PCallF} {ac : CallF} {nt : Nat} {ops : Array Oper} {n : Nat} (hc : CallSim P Y call ac) : ∀ {l : List Oper} {k : Nat} {C : Ctx} {h : AHeap} {σ σ' : St} {tv : Tr Value}, ST P Y f C h σ tv → pops P Y f call false nt ops n k l σ = some σ' →
    ∃ C' h' tv', aops P ac nt ops l tv h = some (tv', h') ∧ ST P Y f C' h' σ' tv' ∧ Step (Y.keep f) (h.next ≤ ·) C h σ C' h' σ'
  | [], k, C, h, σ, σ', tv, st, hq => by
    cases hq
    refine ⟨C, h, tv, rfl, ⟨st.sz, st.hi, fun t v hv => ?_, st.nl, st.gr⟩, (Step.refl _ _ _ _ _).same rfl rfl⟩
    refine st.tr t v ?_
    unfold look at hv ⊢
    cases hk : Y.keep f t with
    | true => simpa [hk] using hv
    | false => simp [hk, lget] at hv
  | o :: l, k, C, h, σ, σ', tv, st, hq => by
    simp only [pops] at hq
    split at hq
    · rename_i hw
      have hw' := pwanted_sim st hw
      split at hq
      · rename_i v σ1 hp
        split at hq
        · rename_i σ2 hput
          have hd : drOf false ops k n = none := rfl
          have one : ∃ C1 h1 x1, aoper P ac o tv h = some (x1, h1) ∧ ST P Y f C1 h1 σ1 tv ∧ Step (Y.keep f) (h.next ≤ ·) C h σ C1 h1 σ1 ∧ ∀ d, o.dst = some d → VR C1 h1 (some (.tmp d)) v x1 := by
            by_cases h0 : kindOf o.op = 0
            · obtain ⟨C1, x1, k1, k2, k3, k4⟩ := kind0_sim st h0 hp
              exact ⟨C1, h, x1, by unfold aoper; rw [h0]; simp only [k1], k2, k3.trans (.refl _ (fun _ => False) _ _ _) (fun _ h => h.elim) (fun _ h => h.elim), fun d _ => k4 d⟩
            · by_cases h1 : kindOf o.op = 1
              · obtain ⟨B, x1, k1, k2⟩ := new_sim st h1 (next_fresh st.hi) hp
                obtain ⟨C1, g1, g2, g3, _⟩ := k2 _ (alloc_new h B)
                exact ⟨C1, _, x1, by unfold aoper; rw [h1]; simp only [k1], g1, g2.trans (.refl _ (fun _ => False) _ _ _) (fun _ e => Nat.le_of_eq e.symm) (fun _ h => h.elim), fun d _ => g3 d⟩
              · obtain ⟨C1, h1', x1, k1, k2, k3, k4, _⟩ := loud3_sim (o.dst.getD 0) hc st h0 h1 hp
                exact ⟨C1, h1', x1, k1, k2, k3, fun d hd => by rw [hd] at k4; exact k4⟩
          obtain ⟨C1, h1, x1, k1, k2, k3, k4⟩ := one
          obtain ⟨tv2, C2, p1, p2, p3⟩ := pputT_sim (σ1 := σ1) k2 k4 hput
          obtain ⟨C3, h3, tv3, r1, r2, r3⟩ := pops_sim hc p2 hq
          refine ⟨C3, h3, tv3, ?_, r2, (k3.trans p3 (fun _ h => h) (fun _ h => h.elim)).trans r3 (fun _ h => h) (fun _ h => Nat.le_trans k3.ext.next h)⟩
          simp only [aops, hw', k1, p1, r1]
        · cases hq
      · cases hq
    · rename_i hw
      have hw' := pwanted_sim st hw
      split at hq
      · rename_i σ1 hsk
        obtain ⟨tv2, p1, p2, p3⟩ := pskip_sim st hsk
        obtain ⟨C3, h3, tv3, r1, r2, r3⟩ := pops_sim hc p2 hq
        refine ⟨C3, h3, tv3, ?_, r2, p3.trans r3 (fun _ h => h.elim) (fun _ h => h)⟩
        simp only [aops, hw', p1, r1]
      · cases hq
    · cases hq
end
end Go.Pur
