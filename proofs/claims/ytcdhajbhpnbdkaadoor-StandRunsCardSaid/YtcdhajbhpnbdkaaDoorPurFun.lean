/-
  Functions, from the callee's side.
  Conditions: none; lemmas.
-/
import Derived.Test.YtcdhajbhpnbdkaaDoorPurDraw
set_option linter.unusedSimpArgs false
set_option linter.unusedVariables false
set_option linter.unusedSectionVars false
namespace Go.Pur
open Go.Abs

def allK : Nat → Bool := fun _ => true
theorem Step.any {K : Nat → Bool} {N : Nat → Prop} {C C' : Ctx} {h h' : AHeap} {σ σ' : St} (s : Step K N C h σ C' h' σ') : Step allK N C h σ C' h' σ' :=
  ⟨s.ext, s.ids, s.len, s.bnew, s.wlm, (fun _ _ e => by cases e), s.lp⟩

/-- Owners behind the end of a call. -/
def endOw (n d : Nat) : Option Pl → Option Pl
  | some (.cell b i) => match Nat.blt b n with
    | true => some (.cell b i)
    | false => none
  | some (.tmp t) => match Nat.beq t d with
    | true => some (.tmp t)
    | false => none
  | none => none
theorem endOw_some {n d : Nat} {o : Option Pl} {p : Pl} (h : endOw n d o = some p) : o = some p ∧ ((∃ b i, p = .cell b i ∧ b < n) ∨ p = .tmp d) := by
  unfold endOw at h
  split at h
  · split at h
    · rename_i hb; cases h; exact ⟨rfl, .inl ⟨_, _, rfl, Nat.le_of_ble_eq_true hb⟩⟩
    · cases h
  · split at h
    · rename_i hb; cases h; exact ⟨rfl, .inr (by rw [Nat.eq_of_beq_eq_true hb])⟩
    · cases h
  · cases h
theorem endOw_tmp {n d : Nat} : endOw n d (some (.tmp d)) = some (.tmp d) := by simp [endOw]
theorem endOw_cell {n d b i : Nat} (h : b < n) : endOw n d (some (.cell b i)) = some (.cell b i) := by
  simp only [endOw, show Nat.blt b n = true from Nat.ble_eq_true_of_le h]

/-- The call's own blocks go. -/
def endC (n d : Nat) (C : Ctx) : Ctx := ⟨C.sz, fun b => match Nat.blt b n with
    | true => C.β b
    | false => none, fun id => C.fz id ∨ ∃ b, n ≤ b ∧ C.β b = some id, fun id => C.fx id ∨ ∃ b, n ≤ b ∧ C.β b = some id, fun id => endOw n d (C.ow id)⟩
/-- All blocks stay. -/
def stayC (n d : Nat) (C : Ctx) : Ctx := { C with ow := fun id => endOw n d (C.ow id) }

section
variable {P : Program} {Y : Pol} {f : FuncId} {C C' : Ctx} {h h' : AHeap} {σ σ' : St} {tv : Tr Value} {n d : Nat}

theorem endC_β {b : Nat} (h : b < n) : (endC n d C).β b = C.β b := by
  simp only [endC, show Nat.blt b n = true from Nat.ble_eq_true_of_le h]
theorem endC_β' {b id : Nat} (h : (endC n d C).β b = some id) : b < n ∧ C.β b = some id := by
  simp only [endC] at h
  split at h
  · rename_i hb; exact ⟨Nat.le_of_ble_eq_true hb, h⟩
  · cases h

theorem cell_noref {cs : List PV} (h : ∀ v ∈ cs, cellOK v = true) {i : Nat} (hi : i < cs.length) : noref (cs.getD i .dead) = true := by
  have := h _ (List.getElem_mem hi)
  simp only [cellOK, Bool.and_eq_true] at this
  rw [List.getD_eq_getElem?_getD, List.getElem?_eq_getElem hi]
  exact this.2
theorem norefs_get : ∀ {cs : List PV}, noref.norefs cs = true → ∀ {i : Nat}, i < cs.length → noref (cs.getD i .dead) = true
  | [], _, i, hi => absurd hi (Nat.not_lt_zero _)
  | c :: cs, h, i, hi => by
    simp only [noref.norefs, Bool.and_eq_true] at h
    cases i with
    | zero => simpa using h.1
    | succ i => simpa using norefs_get h.2 (i := i) (by simpa using hi)
theorem refsTo_get {b : Nat} : ∀ {cs : List PV}, refsTo.go b cs = true → ∀ {i : Nat}, i < cs.length → refsTo b (cs.getD i .dead) = true
  | [], _, i, hi => absurd hi (Nat.not_lt_zero _)
  | c :: cs, h, i, hi => by
    simp only [refsTo.go, Bool.and_eq_true] at h
    cases i with
    | zero => simpa using h.1
    | succ i => simpa using refsTo_get h.2 (i := i) (by simpa using hi)

theorem VR.drop {π : Option Pl} {v : PV} {x : Value} (hv : VR C h π v x) (hπ : π = none) (hr : noref v = true ∨ ∃ b, b < n ∧ refsTo b v = true) : VR (endC n d C) h none v x := by
  induction hv with
  | v π x hp hn => exact .v _ x hp hn
  | un => exact .un _
  | dead => exact .dead _ _
  | nil π k c => exact .nil _ k c
  | lst π k c m cs a cap B hb hs hk hn hc hl hv ih =>
    subst hπ
    cases k with
    | fz => exact .lst _ _ _ _ _ _ _ B hb hs (.inl hk) hn (hc.re rfl) hl (fun i hi => ih i hi rfl (.inl (cell_noref hc.one hi)))
    | bor => obtain ⟨_, _, e⟩ := hk; cases e
    | own => obtain ⟨_, e, _⟩ := hk; cases e
    | rf p => obtain ⟨_, _, e⟩ := hk; cases e
    | pt p => obtain ⟨_, _, e⟩ := hk; cases e
  | r π k cs a B hb hs hk hi hl hv ih =>
    rcases hr with hr | ⟨b, _, hr⟩
    · simp [noref] at hr
    · simp [refsTo] at hr
  | p π b off id hb =>
    rcases hr with hr | ⟨b', hlt, hr⟩
    · simp [noref] at hr
    · simp only [refsTo] at hr
      exact .p _ _ _ _ (by rw [endC_β (Nat.lt_of_le_of_lt (Nat.le_of_ble_eq_true hr) hlt)]; exact hb)
  | s π b off m cap id hb hc hn =>
    rcases hr with hr | ⟨b', hlt, hr⟩
    · simp [noref] at hr
    · simp only [refsTo] at hr
      exact .s _ _ _ _ _ _ (by rw [endC_β (Nat.lt_of_le_of_lt (Nat.le_of_ble_eq_true hr) hlt)]; exact hb) hc hn
  | a π cs l hs hv ih =>
    refine .a _ _ _ hs (fun i hi => ih i hi rfl ?_)
    rcases hr with hr | ⟨b, hlt, hr⟩
    · simp only [noref] at hr; exact .inl (norefs_get hr hi)
    · simp only [refsTo] at hr; exact .inr ⟨b, hlt, refsTo_get hr hi⟩
  | t π cs l hs hv ih =>
    rcases hr with hr | ⟨b, _, hr⟩
    · simp [noref] at hr
    · simp [refsTo] at hr
  | f π g as bs as' bs' ha hb hA hB iA iB =>
    refine .f _ _ _ _ _ _ ha hb (fun i hi => iA i hi rfl ?_) (fun i hi => iB i hi rfl ?_)
    · rcases hr with hr | ⟨b, hlt, hr⟩
      · simp only [noref, Bool.and_eq_true] at hr; exact .inl (norefs_get hr.1 hi)
      · simp only [refsTo, Bool.and_eq_true] at hr; exact .inr ⟨b, hlt, refsTo_get hr.1 hi⟩
    · rcases hr with hr | ⟨b, hlt, hr⟩
      · simp only [noref, Bool.and_eq_true] at hr; exact .inl (norefs_get hr.2 hi)
      · simp only [refsTo, Bool.and_eq_true] at hr; exact .inr ⟨b, hlt, refsTo_get hr.2 hi⟩
  | i π ty x x' hx ih =>
    refine .i _ _ _ _ (ih rfl ?_)
    rcases hr with hr | ⟨b, hlt, hr⟩
    · simp only [noref] at hr; exact .inl hr
    · simp only [refsTo] at hr; exact .inr ⟨b, hlt, hr⟩

theorem endC_hi {hp : List (Option (List PV))} (hi : HI C h hp) (hn : n ≤ hp.length) : HI (endC n d C) h (hp.take n) := by
  have own : ∀ {b id}, C.β b = some id → C.ow id = none ∧ ¬ C.fx id := fun hb => ⟨(hi.βl _ _ hb).2.2.1, (hi.βl _ _ hb).2.1⟩
  refine ⟨fun id hid => hid.imp (hi.fzx id) (fun h => h), fun id hid => ?_, fun id p hid => hi.owl id p (endOw_some hid).1, fun b id hb => ?_, fun b b' id h1 h2 => ?_, fun b cs hb => ?_, fun b cs hb v hv => ?_⟩
  · rcases hid with hid | ⟨b, _, hid⟩
    · exact ⟨(hi.fxl id hid).1, by show endOw _ _ _ = none; rw [(hi.fxl id hid).2]; rfl⟩
    · exact ⟨(hi.βl b id hid).1, by show endOw _ _ _ = none; rw [(own hid).1]; rfl⟩
  · obtain ⟨hb1, hb2⟩ := endC_β' hb
    obtain ⟨a1, a2, a3, a4⟩ := hi.βl b id hb2
    refine ⟨a1, fun hx => ?_, by show endOw _ _ _ = none; rw [a3]; rfl, by simp; omega⟩
    rcases hx with hx | ⟨b', hb', hx⟩
    · exact a2 hx
    · have := hi.inj b b' id hb2 hx; omega
  · exact hi.inj b b' id (endC_β' h1).2 (endC_β' h2).2
  · have hlt : b < n := by
      have := (List.getElem?_eq_some_iff.1 hb).1
      simp at this; omega
    rw [List.getElem?_take, if_pos hlt] at hb
    obtain ⟨id, B, h1, h2, h3, h4, h5, h6⟩ := hi.blk b cs hb
    refine ⟨id, B, by rw [endC_β hlt]; exact h1, h2, h3, h4, h5, fun i hi' => ?_⟩
    have h7 := h6 i hi'
    cases ho : isOwn (cs.getD i .dead) with
    | false =>
      refine ((h7.cell_in ho).drop rfl (.inr ⟨b, hlt, hi.rf b cs hb _ ?_⟩)).out _
      rw [List.getD_eq_getElem?_getD, List.getElem?_eq_getElem hi']; exact List.getElem_mem _
    | true =>
      generalize cs.getD i .dead = v at h7 ho
      cases v with
      | l k c m ds =>
        cases k with
        | own =>
          rcases h7.inv_l with ⟨rfl, rfl, e1⟩ | ⟨a, cap, B', e1, g1, g2, ⟨p, g3, g4⟩, g5, g6, g7, g8⟩
          · rw [e1]; exact .nil _ _ _
          · rw [e1]; cases g3
            exact .lst_of g1 g2 ⟨_, rfl, by show endOw _ _ _ = _; rw [g4]; exact endOw_cell hlt⟩ g5 g6 g7 ⟨g8.1, fun j hj => (g8.2 j hj).drop rfl (.inl (cell_noref g6.one hj))⟩
        | _ => cases ho
      | _ => cases ho
  · have hlt : b < n := by
      have := (List.getElem?_eq_some_iff.1 hb).1
      simp at this; omega
    rw [List.getElem?_take, if_pos hlt] at hb
    exact hi.rf b cs hb v hv

theorem stayC_old {hp : List (Option (List PV))} (hi : HI C h hp) (hn : n = hp.length) : HI (stayC n d C) h hp := by
  refine ⟨hi.fzx, fun id hid => ⟨(hi.fxl id hid).1, by show endOw _ _ _ = none; rw [(hi.fxl id hid).2]; rfl⟩, fun id p hid => hi.owl id p (endOw_some hid).1, fun b id hb => ?_, hi.inj, fun b cs hb => ?_, hi.rf⟩
  · obtain ⟨a1, a2, a3, a4⟩ := hi.βl b id hb
    exact ⟨a1, a2, by show endOw _ _ _ = none; rw [a3]; rfl, a4⟩
  · obtain ⟨id, B, h1, h2, h3, h4, h5, h6⟩ := hi.blk b cs hb
    have hlt : b < n := by rw [hn]; exact (List.getElem?_eq_some_iff.1 hb).1
    refine ⟨id, B, h1, h2, h3, h4, h5, fun i hi' => ?_⟩
    have h7 := h6 i hi'
    have nest : ∀ {v x}, VR C h none v x → VR (stayC n d C) h none v x := fun h => VR.nest (C := C) (C' := stayC n d C) (fun _ _ h => h) (fun _ h => h) (fun _ _ => rfl) h rfl
    cases ho : isOwn (cs.getD i .dead) with
    | false => exact (nest (h7.cell_in ho)).out _
    | true =>
      generalize cs.getD i .dead = v at h7 ho
      cases v with
      | l k c m ds =>
        cases k with
        | own =>
          rcases h7.inv_l with ⟨rfl, rfl, e1⟩ | ⟨a, cap, B', e1, g1, g2, ⟨p, g3, g4⟩, g5, g6, g7, g8⟩
          · rw [e1]; exact .nil _ _ _
          · rw [e1]; cases g3
            exact .lst_of g1 g2 ⟨_, rfl, by show endOw _ _ _ = _; rw [g4]; exact endOw_cell hlt⟩ g5 g6 g7 ⟨g8.1, fun j hj => nest (g8.2 j hj)⟩
        | _ => cases ho
      | _ => cases ho

/-! ### The start -/
theorem pinit_get : ∀ {l : List PV} {k : Nat} {t : Tr PV} {j : Nat}, (pinit k l t).get j = if k ≤ j ∧ j < k + l.length then l[j - k]? else t.get j
  | [], k, t, j => by
    rw [if_neg (by simp only [List.length_nil]; omega)]; rfl
  | v :: l, k, t, j => by
    rw [pinit, pinit_get, Tr.get_set]
    simp only [List.length_cons]
    by_cases e : j = k
    · subst e
      rw [if_neg (by omega), if_pos rfl, if_pos (by omega)]; simp
    · by_cases e2 : k + 1 ≤ j ∧ j < k + 1 + l.length
      · rw [if_pos e2, if_pos (by omega), show j - k = (j - (k + 1)) + 1 by omega]; simp
      · rw [if_neg e2, if_neg e, if_neg (by omega)]
theorem initF_get : ∀ {l : List Value} {k : Nat} {t : Tr Value} {j : Nat}, (initF k l t).get j = if k ≤ j ∧ j < k + l.length then l[j - k]? else t.get j
  | [], k, t, j => by
    rw [if_neg (by simp only [List.length_nil]; omega)]; rfl
  | v :: l, k, t, j => by
    rw [initF, initF_get, Tr.get_set]
    simp only [List.length_cons]
    by_cases e : j = k
    · subst e
      rw [if_neg (by omega), if_pos rfl, if_pos (by omega)]; simp
    · by_cases e2 : k + 1 ≤ j ∧ j < k + 1 + l.length
      · rw [if_pos e2, if_pos (by omega), show j - k = (j - (k + 1)) + 1 by omega]; simp
      · rw [if_neg e2, if_neg e, if_neg (by omega)]

theorem LP1.get : ∀ {us : List PV} {xs : List Value}, LP1 C h us xs → xs.length = us.length ∧ ∀ (i : Nat) u, us[i]? = some u → ∃ x, xs[i]? = some x ∧ VA C h u x ∧ loose u = false
  | [], [], _ => ⟨rfl, fun i u h => by simp at h⟩
  | u :: us, x :: xs, hl => by
    obtain ⟨h1, h2⟩ := LP1.get hl.2
    refine ⟨by simp [h1], fun i v hv => ?_⟩
    cases i with
    | zero => cases hv; exact ⟨x, rfl, hl.1⟩
    | succ i => exact h2 i v (by simpa using hv)
  | [], _ :: _, hl => hl.elim
  | _ :: _, [], hl => hl.elim

theorem start_st {hp : List (Option (List PV))} {args : List PV} {args' : List Value} (hin : CallIn P Y C h hp args args') : ST P Y f C h ⟨[], pinit 0 args .nil, hp, none⟩ (initF 0 args' .nil) := by
  obtain ⟨hl, hg⟩ := hin.args.get
  have key : ∀ t v, (pinit 0 args .nil).get t = some v → ∃ x, (initF 0 args' .nil).get t = some x ∧ VA C h v x ∧ loose v = false := fun t v hv => by
    rw [pinit_get] at hv
    split at hv
    · rename_i ht
      obtain ⟨x, h1, h2⟩ := hg _ v hv
      refine ⟨x, ?_, h2⟩
      rw [initF_get, if_pos (by omega)]; exact h1
    · cases hv
  refine ⟨hin.sz, hin.hi, fun t v hv => ?_, fun t v hk hv => ?_, hin.gr⟩
  · unfold look at hv
    split at hv
    · obtain ⟨x, h1, h2, _⟩ := key t v hv
      unfold tget0
      rw [h1]; exact h2 t
    · cases hv
  · obtain ⟨x, _, _, h3⟩ := key t v hv
    exact h3

/-! ### Results -/
theorem presOne_sim {r : ResultVar} {v : PV} (st : ST P Y f C h σ tv) (hq : presOne P Y f σ r = some (v, σ')) :
    ∃ C' x, (match r with
      | .tmp t => ev P tv (.tmp t)
      | .cell a t => match ev P tv (.tmp a) with
        | some v => aload P t v h
        | none => none) = some x ∧ ST P Y f C' h σ' tv ∧ Step allK (fun _ => False) C h σ C' h σ' ∧ VA C' h v x := by
  unfold presOne at hq
  split at hq
  · split at hq
    · rename_i u hu
      cases hq
      obtain ⟨x, h1, h2⟩ := pev_sim st.tr st.gr hu
      exact ⟨C, x, h1, st, .refl _ _ _ _ _, h2⟩
    · cases hq
  · split at hq
    · rename_i u hu
      obtain ⟨x, h1, h2⟩ := pev_sim st.tr st.gr hu
      obtain ⟨C', y, h3, h4, h5, h6⟩ := pload_sim st h2 hq
      exact ⟨C', y, by simp only [h1]; exact h3, h4, h5.any, h6⟩
    · cases hq

/-- The single result: a list that is owned goes to the caller's place. -/
theorem movedRes_sim {v v' : PV} {x : Value} (d : Nat) (st : ST P Y f C h σ tv) (hv : VA C h v x) (hq : moved Y f v σ = some (v', σ')) :
    ∃ C', ST P Y f C' h σ' tv ∧ Step allK (fun _ => False) C h σ C' h σ' ∧ VR C' h (some (.tmp d)) v' x ∧ (firm v' = true ∨ isOwn v' = true) := by
  unfold moved at hq
  split at hq
  · rename_i p c n cs
    split at hq
    · rename_i σ1 ht
      cases hq
      obtain ⟨s1, t1, _, _⟩ := take_sim (K := allK) (some (.tmp d)) (fun _ _ => rfl) st ht
      exact ⟨_, s1, t1, VA.taken hv, .inr rfl⟩
    · cases hq
  · rename_i c n cs
    split at hq
    · cases hq
      obtain ⟨_, _, rfl⟩ := hv.own
      exact ⟨C, st, .refl _ _ _ _ _, .nil _ _ _, .inr rfl⟩
    · cases hq
  · split at hq
    · rename_i v1 σ1 o hs
      cases hq
      obtain ⟨s1, t1, f1, r1⟩ := stor_sim st hv hs
      exact ⟨_, s1, t1.any, r1.out _, .inl f1⟩
    · cases hq

theorem presM_sim : ∀ {rs : List ResultVar} {vs : List PV} {C : Ctx} {σ σ' : St}, ST P Y f C h σ tv → presM P Y f rs σ = some (vs, σ') →
    ∃ C' xs, ares P tv h rs = some xs ∧ ST P Y f C' h σ' tv ∧ Step allK (fun _ => False) C h σ C' h σ' ∧ LR C' h none vs xs ∧ vs.all firm = true
  | [], vs, C, σ, σ', st, hq => by cases hq; exact ⟨C, [], rfl, st, .refl _ _ _ _ _, LR.nil _ _ _, rfl⟩
  | r :: rs, vs, C, σ, σ', st, hq => by
    simp only [presM] at hq
    split at hq
    · rename_i v σ1 hv
      split at hq
      · rename_i v' σ2 o hs
        split at hq
        · rename_i us σ3 hr
          cases hq
          obtain ⟨C1, x, k1, k2, k3, k4⟩ := presOne_sim st hv
          obtain ⟨s1, t1, f1, r1⟩ := stor_sim k2 k4 hs
          obtain ⟨C2, xs, m1, m2, m3, m4, m5⟩ := presM_sim s1 hr
          refine ⟨C2, x :: xs, ?_, m2, (k3.trans t1.any (fun _ h => h) (fun _ h => h)).trans m3 (fun _ h => h) (fun _ h => h), LR.cons (r1.nest m3.ext.β m3.ext.fz (fun id hid => m3.ext.get id (s1.hi.fzx id hid)) rfl) m4, by simp only [List.all_cons, f1, m5, Bool.and_self]⟩
          cases r with
          | tmp t => simp only [ares]; simp only [] at k1; rw [k1]; simp only [m1]
          | cell a t =>
            simp only [ares]
            simp only [] at k1
            split at k1
            · rename_i u hu; simp only [hu, k1, m1]
            · cases k1
        · cases hq
      · cases hq
    · cases hq

/-- One result, its own slice settled. -/
theorem settle_sim {hp : List (Option (List PV))} {sz : TypeId → Option Nat} {t : TypeId} {v u : PV} {x : Value} {π : Option Pl} {B : Nat} (hi : HI C h hp) (hB : n = B) (hd : ∀ p, π = some p → p = .tmp d) (hf : firm v = true ∨ isOwn v = true) (hv : VR C h π v x) (hok : okDrop B v = true) (hq : settle sz B hp t v = some u) :
    VR (endC n d C) h π u x ∧ (firm u = true ∨ isOwn u = true) := by
  subst hB
  have bynoref : ∀ {w : PV}, firm w = true → noref w = true → VR C h π w x → VR (endC n d C) h π w x ∧ (firm w = true ∨ isOwn w = true) := fun h1 h2 h3 => ⟨((h3.firm h1).drop rfl (.inl h2)).out _, .inl h1⟩
  cases v with
  | s b off m cap =>
    obtain ⟨id, hβ, rfl, hc, hm⟩ := hv.inv_s
    simp only [settle] at hq
    split at hq
    · rename_i hle
      split at hq
      · rename_i k cs hk hcs
        split at hq
        · rename_i hall
          · cases hq
            simp only [Bool.and_eq_true] at hall
            obtain ⟨hlen, hall⟩ := hall
            have hlen := Nat.le_of_ble_eq_true hlen
            obtain ⟨id', Bk, h1, h2, h3, h4, h5, h6⟩ := hi.blk b cs hcs
            rw [hβ] at h1; cases h1
            have hnb := Nat.le_of_ble_eq_true hle
            have hone : ∀ v ∈ (cs.drop off).take (m * k), cellOK v = true := fun v hv => List.all_eq_true.1 hall v hv
            have hl2 : ((cs.drop off).take (m * k)).length = m * k := by rw [List.length_take, List.length_drop]; omega
            refine ⟨.lst_of (a := ⟨id, off, none⟩) h2 rfl (.inr ⟨b, hnb, hβ⟩) (by omega) ⟨(fun e => by cases e), (fun e => by cases e), fun _ => hm, .inl hc, (fun e => by cases e), hone⟩ ?_ ?_, .inl rfl⟩
            · rw [hl2]; simp only []; omega
            · rw [hl2]
              simp only []
              refine LR.of_get (by simp only [List.length_take, List.length_drop]; omega) (fun i v v' e1 e2 => ?_)
              have hmem := List.mem_of_getElem? e1
              rw [List.getElem?_take, List.getElem?_drop] at e1 e2
              split at e1
              · rw [if_pos ‹_›] at e2
                have hi' := (List.getElem?_eq_some_iff.1 e1).1
                have h7 := h6 (off + i) hi'
                rw [List.getD_eq_getElem?_getD, e1, List.getD_eq_getElem?_getD, e2] at h7
                have h8 := hone v hmem
                simp only [cellOK, Bool.and_eq_true] at h8
                refine (h7.cell_in ?_).drop rfl (.inl h8.2)
                cases v with
                | l k c n cs => cases k <;> first | rfl | simp [noref] at h8
                | _ => rfl
              · cases e1
        · cases hq
      · cases hq
    · rename_i hle
      cases hq
      have hlt : b < n := Nat.lt_of_not_le fun h => by rw [Nat.ble_eq_true_of_le h] at hle; cases hle
      exact ⟨.s _ _ _ _ _ id (by rw [endC_β hlt]; exact hβ) hc hm, .inl rfl⟩
  | l k c m cs =>
    cases hq
    cases k with
    | fz => exact bynoref rfl rfl hv
    | own =>
      refine ⟨?_, .inr rfl⟩
      rcases hv.inv_l with ⟨rfl, rfl, e1⟩ | ⟨a, cap, B', e1, g1, g2, ⟨p, g3, g4⟩, g5, g6, g7, g8⟩
      · rw [e1]; exact .nil _ _ _
      · rw [e1]
        have hp := hd p g3
        subst hp
        exact .lst_of g1 g2 ⟨_, g3, by show endOw _ _ _ = _; rw [g4]; exact endOw_tmp⟩ g5 g6 g7 ⟨g8.1, fun j hj => (g8.2 j hj).drop rfl (.inl (cell_noref g6.one hj))⟩
    | _ => rcases hf with hf | hf <;> cases hf
  | p b off =>
    cases hq
    obtain ⟨id, hβ, rfl⟩ := hv.inv_p
    exact ⟨.p _ _ _ _ (by rw [endC_β (Nat.le_of_ble_eq_true hok)]; exact hβ), .inl rfl⟩
  | v y => cases hq; exact bynoref rfl hok hv
  | a cs => cases hq; exact bynoref rfl hok hv
  | f g as bs => cases hq; exact bynoref rfl hok hv
  | i ty y => cases hq; exact bynoref rfl hok hv
  | r k cs => simp [okDrop, noref] at hok
  | t cs => simp [okDrop, noref] at hok
  | un => rcases hf with hf | hf <;> cases hf
  | dead => rcases hf with hf | hf <;> cases hf
end
end Go.Pur
