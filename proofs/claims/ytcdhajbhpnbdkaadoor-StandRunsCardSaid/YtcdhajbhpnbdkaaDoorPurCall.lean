/-
  Calls, from the caller's side.
  Conditions: none; lemmas.
-/
import Derived.Test.YtcdhajbhpnbdkaaDoorPurTurn
set_option linter.unusedSimpArgs false
set_option linter.unusedVariables false
set_option linter.unusedSectionVars false
namespace Go.Pur
open Go.Abs

/-- Arguments as a function gets them. -/
def LP1 (C : Ctx) (h : AHeap) : List PV → List Value → Prop
  | [], [] => True
  | u :: us, x :: xs => (VA C h u x ∧ loose u = false) ∧ LP1 C h us xs
  | _, _ => False

structure CallIn (P : Program) (Y : Pol) (C : Ctx) (h : AHeap) (hp : List (Option (List PV))) (args : List PV) (args' : List Value) : Prop where
  sz : C.sz = P.cellsOf
  hi : HI C h hp
  gr : GR P Y C h
  owc : ∀ id p, C.ow id = some p → ∃ b i, p = .cell b i ∧ b < hp.length
  args : LP1 C h args args'

/-- An answer. -/
def sound : PV → Bool
  | .l .own _ _ _ => true
  | .t cs => cs.all firm
  | v => firm v

structure CallOut (C : Ctx) (h : AHeap) (hp : List (Option (List PV))) (r : PV) (hp' : List (Option (List PV))) (w : Option Nat) (d : Nat) (C' : Ctx) (h' : AHeap) (x' : Value) : Prop where
  hi : HI C' h' hp'
  ext : Ext C h C' h'
  ids : ∀ id, Ids C' id → Ids C id ∨ h.next ≤ id
  len : hp.length ≤ hp'.length
  bnew : ∀ b id, C'.β b = some id → C.β b = some id ∨ hp.length ≤ b
  ow : ∀ id p, C'.ow id = some p → (∃ b i, p = .cell b i ∧ b < hp'.length) ∨ p = .tmp d
  res : VR C' h' (some (.tmp d)) r x'
  snd : sound r = true
  own : isOwn r = true → w = none
  lp : ∀ F, LP F C h hp none → LP F C' h' hp' w

def CallSim (P : Program) (Y : Pol) (call : PCallF) (ac : CallF) : Prop := ∀ g args hp r hp' w, call g args hp = some (r, hp', w) → ∀ C h args' d, CallIn P Y C h hp args args' →
  ∃ C' h' x', ac g args' h = some (x', h') ∧ CallOut C h hp r hp' w d C' h' x'

section
variable {P : Program} {Y : Pol} {f : FuncId} {C C' : Ctx} {h h' : AHeap} {σ σ' : St} {tv : Tr Value} {N : Nat}

theorem LP1.append : ∀ {us vs : List PV} {xs ys : List Value}, LP1 C h us xs → LP1 C h vs ys → LP1 C h (us ++ vs) (xs ++ ys)
  | [], _, [], _, _, h2 => h2
  | _ :: _, _, _ :: _, _, h1, h2 => ⟨h1.1, LP1.append h1.2 h2⟩
  | [], _, _ :: _, _, h1, _ => h1.elim
  | _ :: _, _, [], _, h1, _ => h1.elim
theorem firm_loose {v : PV} (hf : firm v = true) : loose v = false ∧ isOwn v = false := by
  cases v with
  | l k c n cs => cases k <;> first | exact ⟨rfl, rfl⟩ | cases hf
  | r k cs => cases k <;> first | exact ⟨rfl, rfl⟩ | cases hf
  | _ => exact ⟨rfl, rfl⟩
theorem LP1.of_firm : ∀ {us : List PV} {xs : List Value}, us.all firm = true → LR C h none us xs → LP1 C h us xs
  | [], xs, _, hl => by
    rcases hl.ind with ⟨_, rfl⟩ | ⟨_, _, _, _, e, _⟩
    · trivial
    · cases e
  | u :: us, xs, hf, hl => by
    simp only [List.all_cons, Bool.and_eq_true] at hf
    rcases hl.ind with ⟨e, _⟩ | ⟨v, v', r, r', e, rfl, hv, hr⟩
    · cases e
    · cases e
      exact ⟨⟨fun d => hv.out _, (firm_loose hf.1).1⟩, LP1.of_firm hf.2 hr⟩
theorem LP1.of_lar : ∀ {us : List PV} {xs : List Value}, LAR N C h us xs → LP1 (callC N C) h us xs
  | [], [], _ => trivial
  | _ :: _, _ :: _, hl => ⟨⟨hl.1, hl.2.1⟩, LP1.of_lar hl.2.2.2⟩
  | [], _ :: _, hl => hl.elim
  | _ :: _, [], hl => hl.elim

/-- What the callee starts from. -/
theorem callC_hi {hp : List (Option (List PV))} (hi : HI C h hp) : HI (callC hp.length C) h hp := by
  refine ⟨fun id hid => .inl (hi.fzx id hid), fun id hid => ?_, fun id p hid => hi.owl id p (cellOf_some hid).1, fun b id hb => ?_, hi.inj, fun b cs hb => ?_, hi.rf⟩
  · rcases hid with hid | ⟨t, hid⟩
    · refine ⟨(hi.fxl id hid).1, ?_⟩
      show cellOf _ (C.ow id) = none
      rw [(hi.fxl id hid).2]; rfl
    · refine ⟨hi.owl id _ hid, ?_⟩
      show cellOf _ (C.ow id) = none
      rw [hid]; rfl
  · obtain ⟨h1, h2, h3, h4⟩ := hi.βl b id hb
    refine ⟨h1, fun hx => hx.elim h2 (fun ⟨t, e⟩ => by rw [h3] at e; cases e), ?_, h4⟩
    show cellOf _ (C.ow id) = none
    rw [h3]; rfl
  · obtain ⟨id, B, h1, h2, h3, h4, h5, h6⟩ := hi.blk b cs hb
    have hlt : b < hp.length := (List.getElem?_eq_some_iff.1 hb).1
    refine ⟨id, B, h1, h2, h3, h4, h5, fun i hi' => ?_⟩
    have h7 := h6 i hi'
    cases ho : isOwn (cs.getD i .dead) with
    | false => exact (VR.nest (C := C) (C' := callC hp.length C) (fun _ _ h => h) (fun _ h => h) (fun _ _ => rfl) (h7.cell_in ho) rfl).out _
    | true =>
      generalize cs.getD i .dead = v at h7 ho
      cases v with
      | l k c n ds =>
        cases k with
        | own =>
          refine VR.step (C := C) (C' := callC hp.length C) rfl (fun _ _ h => h) (fun _ h => h) (fun _ h => .inl h) hi.fzx (fun _ _ => rfl) (π := some (.cell b i)) (π' := some (.cell b i)) (fun t e => by cases e) h7 (fun id p hp' hop => ?_)
          cases hp'
          refine ⟨_, rfl, ?_, rfl⟩
          show cellOf _ (C.ow id) = _
          rw [hop]
          simp only [cellOf, show Nat.blt b hp.length = true from Nat.ble_eq_true_of_le hlt]
        | _ => cases ho
      | _ => cases ho

theorem callC_gr {n : Nat} {hp : List (Option (List PV))} (hi : HI C h hp) (g : GR P Y C h) : GR P Y (callC n C) h := fun i cs hi' => by
  obtain ⟨h1, h2, B, h3, h4, h5⟩ := g i cs hi'
  exact ⟨h1, h2, B, h3, h4, fun k hk => VR.nest (C := C) (C' := callC n C) (fun _ _ h => h) (fun _ h => h) (fun _ _ => rfl) (h5 k hk) rfl⟩

def filt (b : Bool) : Option Pl → Option Pl
  | some (.tmp t) => match b with
    | true => some (.tmp t)
    | false => none
  | o => o
theorem filt_some {b : Bool} {o : Option Pl} {p : Pl} (h : filt b o = some p) : o = some p ∧ ∀ t, p = .tmp t → b = true := by
  unfold filt at h
  split at h
  · split at h
    · cases h; exact ⟨rfl, fun _ _ => rfl⟩
    · cases h
  · rename_i hne
    refine ⟨h, fun t e => ?_⟩
    subst e; exact (hne t h).elim

/-- The state of owners behind a call. -/
def backC (b : Bool) (C C2 : Ctx) : Ctx := ⟨C2.sz, C2.β, C2.fz, fun id => C.fx id ∨ C2.fz id, fun id => match C.ow id with
  | some (.tmp t) => some (.tmp t)
  | _ => filt b (C2.ow id)⟩

theorem backC_tmp {b : Bool} {C2 : Ctx} {id t : Nat} (h : C.ow id = some (.tmp t)) : (backC b C C2).ow id = some (.tmp t) := by
  simp only [backC, h]
theorem backC_else {b : Bool} {C2 : Ctx} {id : Nat} (h : ∀ t, C.ow id ≠ some (.tmp t)) : (backC b C C2).ow id = filt b (C2.ow id) := by
  show (match C.ow id with
    | some (.tmp t) => some (.tmp t)
    | _ => filt b (C2.ow id)) = filt b (C2.ow id)
  split
  · rename_i t e; exact absurd e (h t)
  · rfl

theorem killCell_loose {v : PV} (hl : loose v = false) : killCell v = v := by
  cases v with
  | l k c n cs => cases k <;> first | rfl | cases hl
  | r k cs => cases k <;> first | rfl | cases hl
  | _ => rfl

/-- The caller's values behind the call. -/
theorem VR.back {kb : Bool} {C2 : Ctx} {hp : List (Option (List PV))} (hi : HI C h hp) (e : Ext (callC hp.length C) h C2 h') {t : Nat} {v : PV} {x : Value} (hv : VR C h (some (.tmp t)) v x) : VR (backC kb C C2) h' (some (.tmp t)) (killCell v) x := by
  have hg : ∀ id, C.fx id → h'.get id = h.get id := fun id hid => e.get id (.inl hid)
  have hgt : ∀ id t, C.ow id = some (.tmp t) → h'.get id = h.get id := fun id t hid => e.get id (.inr ⟨t, hid⟩)
  have key : ∀ {v : PV}, VR C h (some (.tmp t)) v x → keepsP C (backC kb C C2) h h' (some (.tmp t)) (some (.tmp t)) v → VR (backC kb C C2) h' (some (.tmp t)) v x := fun hv hk =>
    VR.step (C := C) (C' := backC kb C C2) e.sz e.β e.fz (fun _ h => .inl h) hi.fzx hg (fun t e => ⟨t, e⟩) hv hk
  cases v with
  | l k c n cs =>
    cases k with
    | own => exact key hv (fun id p hp ho => by cases hp; exact ⟨_, rfl, backC_tmp ho, hgt id t ho⟩)
    | rf p =>
      cases p with
      | tmp t' => exact key hv (fun id ho => ⟨backC_tmp ho, hgt id t' ho⟩)
      | cell b i => exact .dead _ _
    | pt p =>
      cases p with
      | tmp t' => exact key hv (fun id ho => ⟨backC_tmp ho, hgt id t' ho⟩)
      | cell b i => exact .dead _ _
    | _ => exact key hv trivial
  | r k cs =>
    cases k with
    | pt p =>
      cases p with
      | tmp t' => exact key hv (fun id ho => ⟨backC_tmp ho, hgt id t' ho⟩)
      | cell b i => exact .dead _ _
    | _ => exact key hv trivial
  | _ => exact key hv trivial

theorem backC_hi {kb : Bool} {C2 : Ctx} {hp hp' : List (Option (List PV))} (hi : HI C h hp) (e : Ext (callC hp.length C) h C2 h') (h2 : HI C2 h' hp') : HI (backC kb C C2) h' hp' := by
  have tx : ∀ id t, C.ow id = some (.tmp t) → C2.fx id := fun id t ho => e.fx id (.inr ⟨t, ho⟩)
  refine ⟨fun id hid => .inr hid, fun id hid => ?_, fun id p hid => ?_, fun b id hb => ?_, h2.inj, fun b cs hb => ?_, h2.rf⟩
  · rcases hid with hid | hid
    · have h3 := h2.fxl id (e.fx id (.inl hid))
      refine ⟨h3.1, ?_⟩
      rw [backC_else (fun t e => by rw [(hi.fxl id hid).2] at e; cases e), h3.2]; rfl
    · have h3 := h2.fxl id (h2.fzx id hid)
      refine ⟨h3.1, ?_⟩
      rw [backC_else, h3.2]
      · rfl
      · intro t ho
        rcases e.new id hid with h4 | h4
        · rw [(hi.fxl id (hi.fzx id h4)).2] at ho; cases ho
        · exact h4 (.inr ⟨t, ho⟩)
  · by_cases ht : ∃ t, C.ow id = some (.tmp t)
    · obtain ⟨t, ht⟩ := ht
      exact (h2.fxl id (tx id t ht)).1
    · rw [backC_else (fun t e => ht ⟨t, e⟩)] at hid
      exact h2.owl id p (filt_some hid).1
  · obtain ⟨a1, a2, a3, a4⟩ := h2.βl b id hb
    have ht : ∀ t, C.ow id ≠ some (.tmp t) := fun t ho => a2 (tx id t ho)
    refine ⟨a1, fun hx => hx.elim (fun h => a2 (e.fx id (.inl h))) (fun h => a2 (h2.fzx id h)), ?_, a4⟩
    rw [backC_else ht, a3]; rfl
  · obtain ⟨id, B, b1, b2, b3, b4, b5, b6⟩ := h2.blk b cs hb
    refine ⟨id, B, b1, b2, b3, b4, b5, fun i hi' => ?_⟩
    have h7 := b6 i hi'
    cases ho : isOwn (cs.getD i .dead) with
    | false => exact (VR.nest (C := C2) (C' := backC kb C C2) (fun _ _ h => h) (fun _ h => h) (fun _ _ => rfl) (h7.cell_in ho) rfl).out _
    | true =>
      generalize cs.getD i .dead = v at h7 ho
      cases v with
      | l k c n ds =>
        cases k with
        | own =>
          rcases h7.inv_l with ⟨rfl, rfl, e1⟩ | ⟨a, cap, B', e1, g1, g2, ⟨p, g3, g4⟩, g5, g6, g7, g8⟩
          · rw [e1]; exact .nil _ _ _
          · rw [e1]; cases g3
            refine .lst_of g1 g2 ⟨_, rfl, ?_⟩ g5 g6 g7 ⟨g8.1, fun i hi => VR.nest (C := C2) (C' := backC kb C C2) (fun _ _ h => h) (fun _ h => h) (fun _ _ => rfl) (g8.2 i hi) rfl⟩
            rw [backC_else, g4]
            · rfl
            · intro t hot
              have := (h2.fxl _ (tx _ t hot)).2
              rw [g4] at this; cases this
        | _ => cases ho
      | _ => cases ho

theorem sound_back {C2 : Ctx} {hp hp' : List (Option (List PV))} {d : Nat} {r : PV} {x : Value} (hi : HI C h hp) (e : Ext (callC hp.length C) h C2 h') (h2 : HI C2 h' hp') (hs : sound r = true) (hr : VR C2 h' (some (.tmp d)) r x) : VR (backC (isOwn r) C C2) h' (some (.tmp d)) r x := by
  have nest : ∀ {b : Bool} {v x}, VR C2 h' none v x → VR (backC b C C2) h' none v x := fun {b} {_ _} h => VR.nest (C := C2) (C' := backC b C C2) (fun _ _ h => h) (fun _ h => h) (fun _ _ => rfl) h rfl
  have byfirm : ∀ {b : Bool} {r : PV}, firm r = true → VR C2 h' (some (.tmp d)) r x → VR (backC b C C2) h' (some (.tmp d)) r x := fun hf hr => (nest (hr.firm hf)).out _
  cases r with
  | l k c n cs =>
    cases k with
    | own =>
      rcases hr.inv_l with ⟨rfl, rfl, e1⟩ | ⟨a, cap, B', e1, g1, g2, ⟨p, g3, g4⟩, g5, g6, g7, g8⟩
      · rw [e1]; exact .nil _ _ _
      · rw [e1]; cases g3
        refine .lst_of g1 g2 ⟨_, rfl, ?_⟩ g5 g6 g7 ⟨g8.1, fun i hi => nest (g8.2 i hi)⟩
        rw [backC_else, g4]
        · rfl
        · intro t hot
          have := (h2.fxl _ (e.fx _ (.inr ⟨t, hot⟩))).2
          rw [g4] at this; cases this
    | _ => exact byfirm hs hr
  | t cs =>
    obtain ⟨l, rfl, g⟩ := hr.inv_t
    exact .t _ _ _ (by simpa using g.1) (fun i hi => nest (g.2 i hi))
  | _ => exact byfirm hs hr

theorem pcallOp_sim {call : PCallF} {ac : CallF} {dr : Dr} {fo : Operand} {args : List Operand} {v : PV} (d : Nat) (hc : CallSim P Y call ac) (st : ST P Y f C h σ tv) (hq : pcallOp Y f call dr fo args σ = some (v, σ')) :
    ∃ g first captured as C' h' x', ev P tv fo = some (.func (.func g) first captured) ∧ evs P tv args = some as ∧ ac g (first.toList ++ as ++ captured.toList) h = some (x', h') ∧ ST P Y f C' h' σ' tv ∧ Step (Y.keep f) (h.next ≤ ·) C h σ C' h' σ' ∧
      VR C' h' (some (.tmp d)) v x' ∧ (∀ a, dr = some a → Nat.min h.low h.next ≤ h'.low ∨ ordAll a.ops a.q = true) := by
  unfold pcallOp at hq
  split at hq
  · rename_i g first captured vs hfo hargs
    obtain ⟨fv, f1, f2⟩ := pev_sim st.tr st.gr hfo
    obtain ⟨as, a1, a2⟩ := pevs_sim st.tr st.gr hargs
    split at hq
    · rename_i vs' σ1 hav
      obtain ⟨C1, s1, t1, x1, r1⟩ := argvs_sim (N := σ.hp.length) st (LF.of a2) hav
      have hlen : σ1.hp.length = σ.hp.length := by
        have key : ∀ {vs vs' : List PV} {ps : List Pl} {σ σ1 : St}, argvs Y f ps vs σ = some (vs', σ1) → σ1.hp.length = σ.hp.length := by
          intro vs
          induction vs with
          | nil => intro vs' ps σ σ1 hq; cases hq; rfl
          | cons u us ih =>
            intro vs' ps σ σ1 hq
            simp only [argvs] at hq
            split at hq
            · rename_i v' σ2 o ha
              split at hq
              · rename_i vs2 σ3 hr
                cases hq
                rw [ih hr]
                have hst : ∀ {u : PV}, stor Y f u σ = some (v', σ2, o) → σ2.hp.length = σ.hp.length := fun hs => by
                  unfold stor at hs
                  split at hs
                  · split at hs
                    · rename_i hz; cases hs; exact freeze_hp hz
                    · cases hs
                  · split at hs <;> cases hs
                    rfl
                  all_goals first
                    | (cases hs; done)
                    | (cases hs; rfl)
                unfold argv at ha
                split at ha
                · split at ha
                  · cases ha; rfl
                  · exact hst ha
                · cases ha; rfl
                · cases ha; rfl
                · cases ha; rfl
                · cases ha; rfl
                · exact hst ha
              · cases hq
            · cases hq
        exact key hav
      split at hq
      rotate_left
      · cases hq
      rename_i r hp' w hfirm hcall
      have hnc : ∀ {u x}, VR C h none u x → VR (callC σ.hp.length C1) h none u x := fun hu => VR.nest (C := C) (C' := callC σ.hp.length C1) t1.ext.β t1.ext.fz (fun id hid => t1.ext.get id (st.hi.fzx id hid)) hu rfl
      have hfn : ∃ as' bs', fv = .func (.func g) as' bs' ∧ LP1 (callC σ.hp.length C1) h first as'.toList ∧ LP1 (callC σ.hp.length C1) h captured bs'.toList := by
        have h0 := f2 0
        rw [List.all_append, Bool.and_eq_true] at hfirm
        cases h0 with
        | f _ _ _ _ as' bs' ha hb hA hB => exact ⟨as', bs', rfl, LP1.of_firm hfirm.1 ⟨by simpa using ha, fun i hi => hnc (hA i hi)⟩, LP1.of_firm hfirm.2 ⟨by simpa using hb, fun i hi => hnc (hB i hi)⟩⟩
      obtain ⟨as', bs', rfl, hfirst, hcap⟩ := hfn
      have hin : CallIn P Y (callC σ.hp.length C1) h σ1.hp (first ++ vs' ++ captured) (as'.toList ++ as ++ bs'.toList) := by
        have hi1 := callC_hi s1.hi
        rw [hlen] at hi1
        exact ⟨s1.sz, hi1, callC_gr s1.hi s1.gr, fun id p hp => by
          obtain ⟨_, b, i, e1, e2⟩ := cellOf_some hp
          exact ⟨b, i, e1, by rw [hlen]; exact e2⟩, LP1.append (LP1.append hfirst (LP1.of_lar r1)) hcap⟩
      · obtain ⟨C2, h', x', k1, k2⟩ := hc g _ _ r hp' w hcall (callC σ.hp.length C1) h _ d hin
        have ke := k2.ext
        rw [← hlen] at ke
        -- the state behind the call
        have hst : ∀ wl, ST P Y f (backC (isOwn r) C1 C2) h' { σ1 with ls := mapL killCell σ1.ls, hp := hp', wl := wl } tv := fun wl => by
          refine ⟨ke.sz.trans s1.sz, backC_hi s1.hi ke k2.hi, fun t v hv => ?_, s1.nl, ?_⟩
          · have hv' : look Y f { σ1 with ls := mapL killCell σ1.ls, wl := wl } t = some v := hv
            rw [look_mapL] at hv'
            split at hv'
            · rename_i hk
              have h1 := VR.back (kb := isOwn r) s1.hi ke (s1.tr t v (by unfold look; rw [hk]; exact hv'))
              rwa [killCell_loose (s1.nl t v hk hv')] at h1
            · rename_i hk
              obtain ⟨u, hu, rfl⟩ := Option.map_eq_some_iff.1 hv'
              exact (s1.tr t u (by unfold look; rw [hk]; exact hu)).back s1.hi ke
          · refine s1.gr.ext s1.hi.fzx ⟨ke.sz, fun id hid => ke.get id (.inl hid), ke.next, ke.fz, fun _ h => .inl h, fun id hid => ?_, ke.β⟩
            exact (ke.new id hid).imp (fun h => h) (fun hn hx => hn (.inl hx))
        have hext : Ext C1 h (backC (isOwn r) C1 C2) h' := ⟨ke.sz, fun id hid => ke.get id (.inl hid), ke.next, ke.fz, fun _ h => .inl h, fun id hid => (ke.new id hid).imp (fun h => h) (fun hn hx => hn (.inl hx)), ke.β⟩
        have hids : ∀ id, Ids (backC (isOwn r) C1 C2) id → Ids C1 id ∨ h.next ≤ id := fun id hid => by
          have back : Ids (callC σ.hp.length C1) id → Ids C1 id := fun hx => by
            rcases hx with (hx | ⟨t, hx⟩) | ⟨p, hx⟩ | hx
            · exact .inl hx
            · exact .inr (.inl ⟨_, hx⟩)
            · exact .inr (.inl ⟨_, (cellOf_some hx).1⟩)
            · exact .inr (.inr hx)
          rcases hid with (hid | hid) | ⟨p, hid⟩ | hid
          · exact .inl (.inl hid)
          · exact (k2.ids id (.inl (k2.hi.fzx id hid))).imp back (fun h => h)
          · by_cases ht : ∃ t, C1.ow id = some (.tmp t)
            · obtain ⟨t, ht⟩ := ht
              exact .inl (.inr (.inl ⟨_, ht⟩))
            · rw [backC_else (fun t e => ht ⟨t, e⟩)] at hid
              exact (k2.ids id (.inr (.inl ⟨p, (filt_some hid).1⟩))).imp back (fun h => h)
          · exact (k2.ids id (.inr (.inr hid))).imp back (fun h => h)
        have hlp : ∀ F, LP F C1 h σ1.hp σ1.wl → ∀ wl', (cleanW F wl' → cleanW F σ1.wl ∧ cleanW F w) → LP F (backC (isOwn r) C1 C2) h' hp' wl' := fun F l wl' hcl => by
          refine ⟨Nat.le_trans l.n0 ke.next, Nat.le_trans l.base k2.len, fun hcw => ?_, fun hcw id p hid hpn => ?_, fun hcw b id hb hbb => ?_⟩ <;>
          · obtain ⟨c1, c2⟩ := hcl hcw
            have l0 : LP F (callC σ.hp.length C1) h σ1.hp none := ⟨l.n0, l.base, fun _ => l.low c1, fun _ id p hid hpn => l.mine c1 id p (cellOf_some hid).1 hpn, fun _ => l.βm c1⟩
            have l2 := k2.lp F l0
            first
              | exact l2.low c2
              | exact l2.βm c2 b id hb hbb
              | (by_cases ht : ∃ t, C1.ow id = some (.tmp t)
                 · obtain ⟨t, ht⟩ := ht
                   rw [backC_tmp ht] at hid
                   cases hid
                   exact l.mine c1 id _ ht hpn
                 · rw [backC_else (fun t e => ht ⟨t, e⟩)] at hid
                   exact l2.mine c2 id p (filt_some hid).1 hpn)
        have hres := sound_back s1.hi ke k2.hi k2.snd k2.res
        have hlow : w = none → Nat.min h.low h.next ≤ h'.low ∧ ∀ id t, C2.ow id = some (.tmp t) → h.next ≤ id := fun hw => by
          have hb : ∀ id p, (callC σ.hp.length C1).ow id = some p → ∃ b i, p = .cell b i ∧ b < σ1.hp.length := fun id p hid => by
            obtain ⟨_, b, i, e1, e2⟩ := cellOf_some hid
            exact ⟨b, i, e1, by rw [hlen]; exact e2⟩
          have l0 : LP ⟨σ1.hp.length, h.next, h.low⟩ (callC σ.hp.length C1) h σ1.hp none :=
            ⟨Nat.le_refl _, Nat.le_refl _, fun _ => Nat.min_le_left _ _, fun _ id p hid hpn => by
              obtain ⟨b, i, e1, e2⟩ := hb id p hid
              exact absurd (hpn b i e1) (Nat.not_le.2 e2), fun _ b id hid hbb => absurd (s1.hi.βl b id hid).2.2.2 (Nat.not_lt.2 hbb)⟩
          have l2 := k2.lp _ l0
          rw [hw] at l2
          exact ⟨l2.low trivial, fun id t ho => l2.mine trivial id _ ho (fun _ _ e => by cases e)⟩
        have hloc : ∀ id t, Y.keep f t = false → (backC (isOwn r) C1 C2).ow id = some (.tmp t) → C1.ow id = some (.tmp t) ∨ h.next ≤ id := fun id t _ hid => by
          by_cases ht : ∃ t, C1.ow id = some (.tmp t)
          · obtain ⟨t', ht⟩ := ht
            rw [backC_tmp ht] at hid
            cases hid; exact .inl ht
          · rw [backC_else (fun t e => ht ⟨t, e⟩)] at hid
            obtain ⟨h1, h2⟩ := filt_some hid
            exact .inr ((hlow (k2.own (h2 t rfl))).2 id t h1)
        split at hq
        · cases hq
          refine ⟨g, as', bs', as, _, h', x', f1, a1, k1, hst _, ?_, hres, fun a _ => .inl (hlow rfl).1⟩
          exact t1.trans ⟨hext, hids, k2.len, k2.bnew, fun _ h => h, hloc, fun F _ l => hlp F l _ (fun hc => ⟨hc, trivial⟩)⟩ (fun _ h => h.elim) (fun _ h => h)
        · rename_i b
          split at hq
          · rename_i hmt
            cases hq
            refine ⟨g, as', bs', as, _, h', x', f1, a1, k1, hst _, ?_, hres, fun a e => .inr (by rw [e] at hmt; exact hmt)⟩
            exact t1.trans ⟨hext, hids, k2.len, k2.bnew, fun F hc => (cleanW_low hc).1, hloc, fun F _ l => hlp F l _ (fun hc => by
              obtain ⟨c1, c2⟩ := cleanW_low hc
              exact ⟨c1, c2⟩)⟩ (fun _ h => h.elim) (fun _ h => h)
          · cases hq
    · cases hq
  · cases hq
end
end Go.Pur
