/-
  Lists that are owned: they stay for good from now on, or they are taken along.
  Conditions: none; lemmas.
-/
import Derived.Test.YtcdhajbhpnbdkaaDoorPurQuiet
set_option linter.unusedSimpArgs false
set_option linter.unusedVariables false
set_option linter.unusedSectionVars false
namespace Go.Pur
open Go.Abs

def dropS (S : Pl → Bool) : Option Pl → Option Pl
  | some q => match S q with
    | true => none
    | false => some q
  | none => none
def moveP (p : Pl) (r : Option Pl) : Option Pl → Option Pl
  | some q => match plEq q p with
    | true => r
    | false => some q
  | none => none

theorem dropS_some {S : Pl → Bool} {q : Pl} {o : Option Pl} : dropS S o = some q ↔ o = some q ∧ S q = false := by
  cases o with
  | none => simp [dropS]
  | some r =>
    cases hb : S r with
    | true => simp [dropS, hb]; intro e; subst e; exact hb
    | false => simp [dropS, hb]; intro e; subst e; exact hb
theorem moveP_of {p q : Pl} {r : Option Pl} {o : Option Pl} (h : moveP p r o = some q) : (o = some p ∧ r = some q) ∨ (o = some q ∧ q ≠ p) := by
  cases o with
  | none => simp [moveP] at h
  | some s =>
    cases hb : plEq s p with
    | true => have := plEq_iff.1 hb; subst this; simp [moveP, hb] at h; exact .inl ⟨rfl, h⟩
    | false =>
      have hn : s ≠ p := fun e => by rw [plEq_iff.2 e] at hb; cases hb
      simp [moveP, hb] at h; subst h; exact .inr ⟨rfl, hn⟩
theorem moveP_same {p : Pl} {r : Option Pl} : moveP p r (some p) = r := by
  simp [moveP, plEq_iff.2 rfl]
theorem moveP_ne {p q : Pl} {r : Option Pl} (h : q ≠ p) : moveP p r (some q) = some q := by
  have : plEq q p = false := Bool.eq_false_iff.2 fun e => h (plEq_iff.1 e)
  simp [moveP, this]

def frzC (C : Ctx) (S : Pl → Bool) : Ctx := ⟨C.sz, C.β, fun id => C.fz id ∨ ∃ p, C.ow id = some p ∧ S p = true, fun id => C.fx id ∨ ∃ p, C.ow id = some p ∧ S p = true, fun id => dropS S (C.ow id)⟩
def atP (p : Pl) : Pl → Bool := fun q => plEq q p
theorem atP_iff {p q : Pl} : atP p q = true ↔ q = p := plEq_iff
theorem atP_not {p q : Pl} : atP p q = false ↔ q ≠ p := by
  rw [← Bool.not_eq_true, atP_iff]
def moveC (C : Ctx) (p : Pl) (r : Option Pl) : Ctx := { C with ow := fun id => moveP p r (C.ow id) }
section
variable {P : Program} {Y : Pol} {f : FuncId} {C : Ctx} {h : AHeap} {σ σ' : St} {tv : Tr Value} {p : Pl} {hp : List (Option (List PV))}

theorem lget_mapL {g : PV → PV} : ∀ {l : List (Nat × PV)} {t : Nat}, lget (mapL g l) t = (lget l t).map g
  | [], t => rfl
  | (k, v) :: l, t => by
    simp only [mapL, lget]
    cases Nat.beq k t with
    | true => rfl
    | false => exact lget_mapL

theorem look_tmp {t t' : Nat} {v : PV} : look Y f (setPl Y f v σ (.tmp t)) t' = if t' = t then some v else look Y f σ t' := by
  unfold setPl look
  cases hk : Y.keep f t with
  | true =>
    simp only []
    by_cases e : t' = t
    · subst e; simp [hk, Tr.get_set]
    · cases Y.keep f t' <;> simp [hk, Tr.get_set, e]
  | false =>
    simp only []
    by_cases e : t' = t
    · subst e; simp [hk, lget]
    · have : Nat.beq t t' = false := Bool.eq_false_iff.2 fun h => e (Nat.eq_of_beq_eq_true h).symm
      cases Y.keep f t' <;> simp [hk, e, lget, this]
theorem look_cell {b i t' : Nat} {v : PV} : look Y f (setPl Y f v σ (.cell b i)) t' = look Y f σ t' := by
  unfold setPl look
  simp only []
  cases σ.hp[b]? with
  | none => rfl
  | some o => cases o <;> rfl

theorem VR.firm {π π' : Option Pl} {v : PV} {x : Value} (hv : VR C h π v x) (hf : firm v = true) : VR C h π' v x := by
  cases hv with
  | v _ x hp hn => exact .v _ x hp hn
  | un => exact .un _
  | dead => exact .dead _ _
  | nil _ k c => exact .nil _ k c
  | lst _ k c n cs a cap B hb hs hk hn hc hl hv =>
    cases k <;> first | exact .lst _ _ _ _ _ _ _ B hb hs hk hn hc hl hv | cases hf
  | r _ k cs a B hb hs hk hi hl hv =>
    cases k <;> first | exact .r _ _ _ _ B hb hs hk hi hl hv | cases hf
  | p _ b off id hb => exact .p _ _ _ _ hb
  | s _ b off n cap id hb hc hn => exact .s _ _ _ _ _ _ hb hc hn
  | a _ cs l hs hv => exact .a _ _ _ hs hv
  | t _ cs l hs hv => exact .t _ _ _ hs hv
  | f _ g as bs as' bs' ha hb hA hB => exact .f _ _ _ _ _ _ ha hb hA hB
  | i _ ty x x' hx => exact .i _ _ _ _ hx

/-! ### For good -/
theorem VR.frz {S : Pl → Bool} {π : Option Pl} {v : PV} {x : Value} (hv : VR C h π v x) (hπ : (∀ p, π = some p → S p = false) ∨ isOwn v = false) : VR (frzC C S) h π (frzS S v) x := by
  have hn : ∀ {v x}, VR C h none v x → VR (frzC C S) h none v x := fun h => VR.nest (C := C) (C' := frzC C S) (fun _ _ h => h) (fun _ h => Or.inl h) (fun _ _ => rfl) h rfl
  cases hv with
  | nil _ k c =>
    cases k with
    | rf q => simp only [frzS]; cases S q <;> exact .nil _ _ _
    | pt q => simp only [frzS]; cases S q <;> exact .nil _ _ _
    | _ => exact .nil _ _ _
  | lst _ k c n cs a cap B hb hs hk hn' hc hl hv =>
    cases k with
    | fz => exact .lst _ _ _ _ _ _ _ B hb hs (.inl hk) hn' hc hl (fun i hi => hn (hv i hi))
    | bor => exact .lst _ _ _ _ _ _ _ B hb hs ⟨.inl hk.1, hk.2⟩ hn' hc hl (fun i hi => hn (hv i hi))
    | own =>
      obtain ⟨q, h1, h2⟩ := hk
      rcases hπ with hπ | hπ
      · exact .lst _ _ _ _ _ _ _ B hb hs ⟨q, h1, dropS_some.2 ⟨h2, hπ q h1⟩⟩ hn' hc hl (fun i hi => hn (hv i hi))
      · cases hπ
    | rf q =>
      obtain ⟨h1, h2⟩ := hk
      simp only [frzS]
      cases hq : S q with
      | true => exact .lst _ _ _ _ _ _ _ B hb hs (.inr ⟨q, h1, hq⟩) hn' ⟨hc.full, hc.nz, hc.le, hc.kind, (fun e => by cases e), hc.one⟩ hl (fun i hi => hn (hv i hi))
      | false => exact .lst _ _ _ _ _ _ _ B hb hs ⟨dropS_some.2 ⟨h1, hq⟩, h2⟩ hn' hc hl (fun i hi => hn (hv i hi))
    | pt q =>
      obtain ⟨h1, h2⟩ := hk
      simp only [frzS]
      cases hq : S q with
      | true => exact .lst _ _ _ _ _ _ _ B hb hs (.inr ⟨q, h1, hq⟩) hn' ⟨hc.full, hc.nz, hc.le, hc.kind, (fun e => by cases e), hc.one⟩ hl (fun i hi => hn (hv i hi))
      | false => exact .lst _ _ _ _ _ _ _ B hb hs ⟨dropS_some.2 ⟨h1, hq⟩, h2⟩ hn' hc hl (fun i hi => hn (hv i hi))
  | r _ k cs a B hb hs hk hir hl hv =>
    cases k with
    | fz => exact .r _ _ _ _ B hb hs (.inl hk) hir hl (fun i hi => hn (hv i hi))
    | bor => exact .r _ _ _ _ B hb hs ⟨.inl hk.1, hk.2⟩ hir hl (fun i hi => hn (hv i hi))
    | own => cases hir
    | rf q => cases hir
    | pt q =>
      obtain ⟨h1, h2⟩ := hk
      simp only [frzS]
      cases hq : S q with
      | true => exact .r _ _ _ _ B hb hs (.inr ⟨q, h1, hq⟩) rfl hl (fun i hi => hn (hv i hi))
      | false => exact .r _ _ _ _ B hb hs ⟨dropS_some.2 ⟨h1, hq⟩, h2⟩ hir hl (fun i hi => hn (hv i hi))
  | v _ x hp hn => exact .v _ x hp hn
  | un => exact .un _
  | dead => exact .dead _ _
  | p _ b off id hb => exact .p _ _ _ _ hb
  | s _ b off n cap id hb hc hn => exact .s _ _ _ _ _ _ hb hc hn
  | a _ cs l hs hv => exact .a _ _ _ hs (fun i hi => hn (hv i hi))
  | t _ cs l hs hv => exact .t _ _ _ hs (fun i hi => hn (hv i hi))
  | f _ g as bs as' bs' ha hb hA hB => exact .f _ _ _ _ _ _ ha hb (fun i hi => hn (hA i hi)) (fun i hi => hn (hB i hi))
  | i _ ty x x' hx => exact .i _ _ _ _ (hn hx)

/-- The list owned at p itself. -/
theorem VR.frzOwn {S : Pl → Bool} {c : Ck} {n : Nat} {cs : List PV} {x : Value} (hv : VR C h (some p) (.l .own c n cs) x) (hp : S p = true) (π : Option Pl) : VR (frzC C S) h π (.l .fz c n cs) x := by
  have hn : ∀ {v x}, VR C h none v x → VR (frzC C S) h none v x := fun h => VR.nest (C := C) (C' := frzC C S) (fun _ _ h => h) (fun _ h => Or.inl h) (fun _ _ => rfl) h rfl
  cases hv with
  | nil _ k c => exact .nil _ _ _
  | lst _ k c n cs a cap B hb hs hk hn' hc hl hv =>
    obtain ⟨q, h1, h2⟩ := hk
    cases h1
    exact .lst _ _ _ _ _ _ _ B hb hs (.inr ⟨_, h2, hp⟩) hn' ⟨hc.full, hc.nz, hc.le, hc.kind, (fun e => by cases e), hc.one⟩ hl (fun i hi => hn (hv i hi))

theorem frzS_id {S : Pl → Bool} {v : PV} (hl : loose v = false) : frzS S v = v := by
  cases v with
  | l k c n cs => cases k <;> first | rfl | cases hl
  | r k cs => cases k <;> first | rfl | cases hl
  | _ => rfl

theorem Ext.frz {S : Pl → Bool} (hi : HI C h hp) : Ext C h (frzC C S) h :=
  ⟨rfl, fun _ _ => rfl, Nat.le_refl _, fun _ h => .inl h, fun _ h => .inl h, fun id hid => hid.elim .inl (fun ⟨p, e, _⟩ => .inr (fun hx => by rw [(hi.fxl id hx).2] at e; cases e)), fun _ _ h => h⟩

/-- Cells hold nothing that is meant for one region. -/
theorem VR.cell_firm {b i : Nat} {v : PV} {x : Value} (hv : VR C h (some (.cell b i)) v x) : loose v = false ∨ (∃ k c, v = .l k c 0 [] ∧ x = .slice none 0 0) := by
  cases v with
  | l k c n cs =>
    cases k with
    | rf q =>
      rcases hv.inv_l with ⟨rfl, rfl, rfl⟩ | ⟨a, cap, B, rfl, _, _, ⟨_, _, e⟩, _⟩
      · exact .inr ⟨_, _, rfl, rfl⟩
      · cases e
    | pt q =>
      rcases hv.inv_l with ⟨rfl, rfl, rfl⟩ | ⟨a, cap, B, rfl, _, _, ⟨_, _, e⟩, _⟩
      · exact .inr ⟨_, _, rfl, rfl⟩
      · cases e
    | _ => exact .inl rfl
  | r k cs =>
    cases k with
    | pt q => obtain ⟨a, B, rfl, _, _, ⟨_, _, e⟩, _⟩ := hv.inv_r; cases e
    | _ => exact .inl rfl
  | _ => exact .inl rfl
/-- A cell that owns nothing. -/
theorem VR.cell_in {b i : Nat} {v : PV} {x : Value} (hv : VR C h (some (.cell b i)) v x) (ho : isOwn v = false) : VR C h none v x := by
  cases hv with
  | v _ x hp hn => exact .v _ x hp hn
  | un => exact .un _
  | dead => exact .dead _ _
  | nil _ k c => exact .nil _ k c
  | lst _ k c n cs a cap B hb hs hk hn hc hl hv =>
    cases k with
    | fz => exact .lst _ _ _ _ _ _ _ B hb hs hk hn hc hl hv
    | own => cases ho
    | bor => obtain ⟨_, _, e⟩ := hk; cases e
    | rf q => obtain ⟨_, _, e⟩ := hk; cases e
    | pt q => obtain ⟨_, _, e⟩ := hk; cases e
  | r _ k cs a B hb hs hk hi hl hv =>
    cases k with
    | fz => exact .r _ _ _ _ B hb hs hk hi hl hv
    | own => cases hi
    | rf q => cases hi
    | bor => obtain ⟨_, _, e⟩ := hk; cases e
    | pt q => obtain ⟨_, _, e⟩ := hk; cases e
  | p _ b off id hb => exact .p _ _ _ _ hb
  | s _ b off n cap id hb hc hn => exact .s _ _ _ _ _ _ hb hc hn
  | a _ cs l hs hv => exact .a _ _ _ hs hv
  | t _ cs l hs hv => exact .t _ _ _ hs hv
  | f _ g as bs as' bs' ha hb hA hB => exact .f _ _ _ _ _ _ ha hb hA hB
  | i _ ty x x' hx => exact .i _ _ _ _ hx

theorem VR.frzCell {S : Pl → Bool} {b i : Nat} {v : PV} {x : Value} (hv : VR C h (some (.cell b i)) v x) (hne : S (.cell b i) = false ∨ isOwn v = false) : VR (frzC C S) h (some (.cell b i)) v x := by
  rcases hv.cell_firm with e | ⟨k, c, rfl, rfl⟩
  · have := hv.frz (S := S) (hne.imp (fun h p e => by cases e; exact h) id)
    rwa [frzS_id e] at this
  · exact .nil _ _ _

theorem refsTo_ownFz {b : Nat} {v : PV} : refsTo b (ownFz v) = refsTo b v := by
  cases v with
  | l k c n cs => cases k <;> rfl
  | _ => rfl

/-- Lists owned at places of S: the state in which they stay for good. -/
theorem HI.frz {S : Pl → Bool} {hp hp' : List (Option (List PV))} (hi : HI C h hp) (hlen : hp'.length = hp.length)
    (hb : ∀ b ds', hp'[b]? = some (some ds') → ∃ ds, hp[b]? = some (some ds) ∧ ds'.length = ds.length ∧ ∀ i, i < ds.length → ds'.getD i .dead = (match S (.cell b i) with | true => ownFz (ds.getD i .dead) | false => ds.getD i .dead)) : HI (frzC C S) h hp' := by
  refine ⟨fun i h => h.imp (hi.fzx i) (fun h => h), fun id h => ?_, fun id q h => hi.owl id q (dropS_some.1 h).1, fun b id hb => ?_, hi.inj, fun b ds' hb' => ?_, fun b ds' hb' v hv => ?_⟩
  · rcases h with h | ⟨p, h, hs⟩
    · exact ⟨(hi.fxl id h).1, by simp [frzC, (hi.fxl id h).2, dropS]⟩
    · exact ⟨hi.owl id p h, by simp [frzC, h, dropS, hs]⟩
  · obtain ⟨h1, h2, h3, h4⟩ := hi.βl b id hb
    exact ⟨h1, fun h => h.elim h2 (fun ⟨p, e, _⟩ => by rw [h3] at e; cases e), by simp [frzC, h3, dropS], by rw [hlen]; exact h4⟩
  · obtain ⟨ds, hd, hl, hc⟩ := hb b ds' hb'
    obtain ⟨id, B, h1, h2, h3, h4, h5, h6⟩ := hi.blk b ds hd
    refine ⟨id, B, h1, h2, h3, h4, h5.trans hl.symm, fun i hi' => ?_⟩
    have h7 := h6 i (hl ▸ hi')
    rw [hc i (hl ▸ hi')]
    · cases hS : S (.cell b i) with
      | false => exact h7.frzCell (.inl hS)
      | true =>
        cases hio : isOwn (ds.getD i .dead) with
        | false =>
          rw [show ownFz (ds.getD i .dead) = ds.getD i .dead by
            generalize ds.getD i .dead = v at hio
            cases v with
            | l k c n cs => cases k <;> first | rfl | cases hio
            | _ => rfl]
          exact h7.frzCell (.inr hio)
        | true =>
          generalize ds.getD i .dead = v at hio h7
          cases v with
          | l k c n cs => cases k <;> first | exact h7.frzOwn hS _ | cases hio
          | _ => cases hio
  · obtain ⟨ds, hd, hl, hc⟩ := hb b ds' hb'
    obtain ⟨i, hi', he⟩ := List.getElem_of_mem hv
    have h1 := hc i (hl ▸ hi')
    rw [show ds'.getD i .dead = v by rw [List.getD_eq_getElem?_getD, List.getElem?_eq_getElem hi', he]; rfl] at h1
    have h2 : ds.getD i .dead ∈ ds := by
      rw [List.getD_eq_getElem?_getD, List.getElem?_eq_getElem (hl ▸ hi')]; exact List.getElem_mem _
    have h3 := hi.rf b ds hd _ h2
    rw [h1]
    split
    · rw [refsTo_ownFz]; exact h3
    · exact h3

theorem LP.frz {S : Pl → Bool} {F : Fr} {wl : Option Nat} {hp hp' : List (Option (List PV))} (hlen : hp'.length = hp.length) (l : LP F C h hp wl) : LP F (frzC C S) h hp' wl :=
  ⟨l.n0, by rw [hlen]; exact l.base, l.low, fun hc id q hq hn => l.mine hc id q (dropS_some.1 hq).1 hn, l.βm⟩

theorem Ids.frz {S : Pl → Bool} {id : Nat} (hid : Ids (frzC C S) id) : Ids C id := by
  rcases hid with (hid | ⟨p, h1, _⟩) | ⟨q, hid⟩ | hid
  · exact .inl hid
  · exact .inr (.inl ⟨p, h1⟩)
  · exact .inr (.inl ⟨q, (dropS_some.1 hid).1⟩)
  · exact .inr (.inr hid)

theorem setPl_len {v : PV} : (setPl Y f v σ p).hp.length = σ.hp.length := by
  unfold setPl
  split
  · split <;> rfl
  · split <;> simp
theorem setPl_wl {v : PV} : (setPl Y f v σ p).wl = σ.wl := by
  unfold setPl
  split
  · split <;> rfl
  · split <;> rfl

theorem look_mapL {g : PV → PV} {t : Nat} {wl : Option Nat} : look Y f { σ with ls := mapL g σ.ls, wl := wl } t = match Y.keep f t with
    | true => σ.ts.get t
    | false => (lget σ.ls t).map g := by
  unfold look
  cases Y.keep f t with
  | true => rfl
  | false => exact lget_mapL

theorem VA.frz {S : Pl → Bool} {u : PV} {x : Value} (hu : VA C h u x) : VA (frzC C S) h (frzS S u) x := fun d => by
  cases ho : isOwn u with
  | false => exact (hu d).frz (.inr ho)
  | true =>
    cases u with
    | l k c n cs =>
      cases k with
      | own =>
        rcases (hu 0).inv_l with ⟨rfl, rfl, rfl⟩ | ⟨a, cap, B, rfl, _, _, ⟨p, e1, e2⟩, _⟩
        · exact .nil _ _ _
        · rcases (hu 1).inv_l with ⟨rfl, rfl, e⟩ | ⟨a', cap', B', e, _, _, ⟨p', e3, e4⟩, _⟩
          · cases e
          · cases e; cases e1; cases e3; rw [e2] at e4; cases e4
      | _ => cases ho
    | _ => cases ho

theorem freeze_sim (st : ST P Y f C h σ tv) (hq : freeze Y f p σ = some σ') : ST P Y f (frzC C (atP p)) h σ' tv ∧ Step (Y.keep f) (fun _ => False) C h σ (frzC C (atP p)) h σ' := by
  unfold freeze at hq
  split at hq
  · rename_i c n cs hg
    cases hq
    have rest : ∀ t v, look Y f { σ with ls := mapL (frzV p) σ.ls } t = some v → p ≠ .tmp t → VR (frzC C (atP p)) h (some (.tmp t)) v (tget0 tv t) := fun t v hv hp => by
      have hne : ∀ q, some (Pl.tmp t) = some q → atP p q = false := fun q e => by cases e; exact atP_not.2 (fun e => hp e.symm)
      rw [show ({ σ with ls := mapL (frzV p) σ.ls } : St) = { σ with ls := mapL (frzV p) σ.ls, wl := σ.wl } from rfl, look_mapL] at hv
      split at hv
      · rename_i hk
        have h1 := st.tr t v (by unfold look; rw [hk]; exact hv)
        have h2 := h1.frz (S := atP p) (.inl hne)
        rwa [frzS_id (st.nl t v hk hv)] at h2
      · rename_i hk
        obtain ⟨u, hu, rfl⟩ := Option.map_eq_some_iff.1 hv
        exact (st.tr t u (by unfold look; rw [hk]; exact hu)).frz (S := atP p) (.inl hne)
    refine ⟨⟨st.sz, st.hi.frz setPl_len (fun b ds' hb' => ?_), fun t v hv => ?_, fun t v hk hv => ?_, st.gr.ext st.hi.fzx (.frz st.hi)⟩, ⟨.frz st.hi, fun id hid => .inl hid.frz, by rw [setPl_len]; exact Nat.le_refl _, fun _ _ h => .inl h, (fun F hc => by rw [setPl_wl] at hc; exact hc), fun _ _ _ ho => .inl (dropS_some.1 ho).1, fun F _ hF => ?_⟩⟩
    · cases p with
      | tmp t =>
        have hb : σ.hp[b]? = some (some ds') := by
          rw [← hb']; unfold setPl; simp only []; split <;> rfl
        exact ⟨ds', hb, rfl, fun i hi => by rw [show atP (.tmp t) (.cell b i) = false from rfl]⟩
      | cell b0 i0 =>
        simp only [getPl] at hg
        split at hg
        · rename_i es hes
          simp only [setPl, hes] at hb'
          by_cases e : b0 = b
          · subst e
            have hlt : b0 < σ.hp.length := (List.getElem?_eq_some_iff.1 hes).1
            rw [List.getElem?_set_self hlt] at hb'
            cases hb'
            refine ⟨es, hes, by simp, fun i hi => ?_⟩
            by_cases e : i = i0
            · subst e
              rw [show atP (.cell b0 i) (.cell b0 i) = true from atP_iff.2 rfl]
              rw [show es.getD i .dead = .l .own c n cs by rw [List.getD_eq_getElem?_getD, hg]; rfl]
              simp [List.getD_eq_getElem?_getD, hi, ownFz]
            · rw [show atP (.cell b0 i0) (.cell b0 i) = false from atP_not.2 (fun h => e (by cases h; rfl))]
              simp [List.getD_eq_getElem?_getD, Ne.symm e]
          · rw [List.getElem?_set_ne e] at hb'
            exact ⟨ds', hb', rfl, fun i hi => by rw [show atP (.cell b0 i0) (.cell b i) = false from atP_not.2 (fun h => e (by cases h; rfl))]⟩
        · cases hg
    · cases hp : p with
      | tmp t0 =>
        subst hp
        rw [look_tmp] at hv
        split at hv
        · rename_i e
          subst e
          cases hv
          exact (st.tr t _ hg).frzOwn (atP_iff.2 rfl) _
        · rename_i e
          exact rest t v hv (by simp; exact fun h => e h.symm)
      | cell b i =>
        subst hp
        rw [look_cell] at hv
        exact rest t v hv (by simp)
    · cases hp : p with
      | tmp t0 =>
        subst hp
        unfold setPl at hv
        simp only [] at hv
        cases hk0 : Y.keep f t0 with
        | true =>
          simp only [hk0, Tr.get_set] at hv
          split at hv
          · cases hv; rfl
          · exact st.nl t v hk hv
        | false =>
          simp only [hk0] at hv
          exact st.nl t v hk hv
      | cell b i =>
        subst hp
        unfold setPl at hv
        simp only [] at hv
        split at hv <;> exact st.nl t v hk hv
    · rw [setPl_wl]
      exact hF.frz (by rw [setPl_len])
  · cases hq

/-! ### Taken along -/
theorem VR.mv {C : Ctx} {r : Option Pl} {π : Option Pl} {v : PV} {x : Value} (hv : VR C h π v x) (hπ : π ≠ some p ∨ isOwn v = false) : VR (moveC C p r) h π (killV p v) x := by
  have hn : ∀ {v x}, VR C h none v x → VR (moveC C p r) h none v x := fun h => VR.nest (C := C) (C' := moveC C p r) (fun _ _ h => h) (fun _ h => h) (fun _ _ => rfl) h rfl
  have ne : ∀ {q : Pl}, plEq q p = false → q ≠ p := fun hb e => by rw [plEq_iff.2 e] at hb; cases hb
  have ow : ∀ {q : Pl} {id : Nat}, C.ow id = some q → q ≠ p → (moveC C p r).ow id = some q := fun h1 h2 => by
    show moveP p r (C.ow _) = _
    rw [h1]; exact moveP_ne h2
  cases hv with
  | nil _ k c =>
    cases k with
    | rf q => simp only [killV]; cases plEq q p <;> first | exact .dead _ _ | exact .nil _ _ _
    | pt q => simp only [killV]; cases plEq q p <;> first | exact .dead _ _ | exact .nil _ _ _
    | _ => exact .nil _ _ _
  | lst _ k c n cs a cap B hb hs hk hn' hc hl hv =>
    cases k with
    | fz => exact .lst _ _ _ _ _ _ _ B hb hs hk hn' hc hl (fun i hi => hn (hv i hi))
    | bor => exact .lst _ _ _ _ _ _ _ B hb hs hk hn' hc hl (fun i hi => hn (hv i hi))
    | own =>
      obtain ⟨q, h1, h2⟩ := hk
      rcases hπ with hπ | hπ
      · exact .lst _ _ _ _ _ _ _ B hb hs ⟨q, h1, ow h2 (fun e => hπ (h1.trans (by rw [e])))⟩ hn' hc hl (fun i hi => hn (hv i hi))
      · cases hπ
    | rf q =>
      obtain ⟨h1, h2⟩ := hk
      simp only [killV]
      cases hq : plEq q p with
      | true => exact .dead _ _
      | false => exact .lst _ _ _ _ _ _ _ B hb hs ⟨ow h1 (ne hq), h2⟩ hn' hc hl (fun i hi => hn (hv i hi))
    | pt q =>
      obtain ⟨h1, h2⟩ := hk
      simp only [killV]
      cases hq : plEq q p with
      | true => exact .dead _ _
      | false => exact .lst _ _ _ _ _ _ _ B hb hs ⟨ow h1 (ne hq), h2⟩ hn' hc hl (fun i hi => hn (hv i hi))
  | r _ k cs a B hb hs hk hir hl hv =>
    cases k with
    | fz => exact .r _ _ _ _ B hb hs hk hir hl (fun i hi => hn (hv i hi))
    | bor => exact .r _ _ _ _ B hb hs hk hir hl (fun i hi => hn (hv i hi))
    | own => cases hir
    | rf q => cases hir
    | pt q =>
      obtain ⟨h1, h2⟩ := hk
      simp only [killV]
      cases hq : plEq q p with
      | true => exact .dead _ _
      | false => exact .r _ _ _ _ B hb hs ⟨ow h1 (ne hq), h2⟩ hir hl (fun i hi => hn (hv i hi))
  | v _ x hp hn => exact .v _ x hp hn
  | un => exact .un _
  | dead => exact .dead _ _
  | p _ b off id hb => exact .p _ _ _ _ hb
  | s _ b off n cap id hb hc hn => exact .s _ _ _ _ _ _ hb hc hn
  | a _ cs l hs hv => exact .a _ _ _ hs (fun i hi => hn (hv i hi))
  | t _ cs l hs hv => exact .t _ _ _ hs (fun i hi => hn (hv i hi))
  | f _ g as bs as' bs' ha hb hA hB => exact .f _ _ _ _ _ _ ha hb (fun i hi => hn (hA i hi)) (fun i hi => hn (hB i hi))
  | i _ ty x x' hx => exact .i _ _ _ _ (hn hx)

/-- The list that was meant there is owned at r. -/
theorem VA.taken {c : Ck} {n : Nat} {cs : List PV} {x : Value} {r : Pl} (hv : VA C h (.l (.rf p) c n cs) x) : VR (moveC C p (some r)) h (some r) (.l .own c n cs) x := by
  have hn : ∀ {v x}, VR C h none v x → VR (moveC C p (some r)) h none v x := fun h => VR.nest (C := C) (C' := moveC C p (some r)) (fun _ _ h => h) (fun _ h => h) (fun _ _ => rfl) h rfl
  cases hv 0 with
  | nil _ k c => exact .nil _ _ _
  | lst _ k c n cs a cap B hb hs hk hn' hc hl hv' =>
    exact .lst _ _ _ _ _ _ _ B hb hs ⟨r, rfl, by show moveP p (some r) (C.ow _) = _; rw [hk.1]; exact moveP_same⟩ hn' ⟨hc.full, hc.nz, hc.le, hc.kind, fun _ => hc.mine rfl, hc.one⟩ hl (fun i hi => hn (hv' i hi))

theorem killV_id {v : PV} (hl : loose v = false) : killV p v = v := by
  cases v with
  | l k c n cs => cases k <;> first | rfl | cases hl
  | r k cs => cases k <;> first | rfl | cases hl
  | _ => rfl
theorem killV_own {v : PV} (hv : isOwn v = false) : isOwn (killV p v) = false := by
  cases v with
  | l k c n cs =>
    cases k with
    | rf q => simp only [killV]; cases plEq q p <;> rfl
    | pt q => simp only [killV]; cases plEq q p <;> rfl
    | own => cases hv
    | _ => rfl
  | r k cs =>
    cases k with
    | pt q => simp only [killV]; cases plEq q p <;> rfl
    | _ => rfl
  | _ => rfl

theorem VR.mvCell {b i : Nat} {v : PV} {x : Value} {r : Option Pl} (hv : VR C h (some (.cell b i)) v x) (hne : p ≠ .cell b i ∨ isOwn v = false) : VR (moveC C p r) h (some (.cell b i)) v x := by
  have h1 := hv.mv (p := p) (r := r) (hne.imp (fun h e => h (Option.some.inj e).symm) id)
  cases v with
  | l k c n cs =>
    cases k with
    | rf q =>
      rcases hv.inv_l with ⟨rfl, rfl, rfl⟩ | ⟨a, cap, B, rfl, _, _, ⟨_, _, e⟩, _⟩
      · exact .nil _ _ _
      · cases e
    | pt q =>
      rcases hv.inv_l with ⟨rfl, rfl, rfl⟩ | ⟨a, cap, B, rfl, _, _, ⟨_, _, e⟩, _⟩
      · exact .nil _ _ _
      · cases e
    | _ => exact h1
  | r k cs =>
    cases k with
    | pt q => obtain ⟨a, B, rfl, _, _, ⟨_, _, e⟩, _⟩ := hv.inv_r; cases e
    | _ => exact h1
  | _ => exact h1

theorem HI.mv {r : Option Pl} (hi : HI C h σ.hp) {ls : List (Nat × PV)} {wl : Option Nat} (hg : ∃ v, getPl Y f σ p = some v) : HI (moveC C p r) h (setPl Y f .dead { σ with ls := ls, wl := wl } p).hp := by
  have hlen : (setPl Y f .dead { σ with ls := ls, wl := wl } p).hp.length = σ.hp.length := by
    unfold setPl
    split
    · split <;> rfl
    · split <;> simp
  refine ⟨hi.fzx, fun id h => ⟨(hi.fxl id h).1, by simp [moveC, (hi.fxl id h).2, moveP]⟩, fun id q h => ?_, fun b id hb => ?_, hi.inj, fun b ds hb => ?_, fun b ds hb v hv => ?_⟩
  · rcases moveP_of h with ⟨h1, _⟩ | ⟨h1, _⟩ <;> exact hi.owl id _ h1
  · obtain ⟨h1, h2, h3, h4⟩ := hi.βl b id hb
    exact ⟨h1, h2, by simp [moveC, h3, moveP], by rw [hlen]; exact h4⟩
  · cases p with
    | tmp t =>
      have hb' : σ.hp[b]? = some (some ds) := by
        rw [← hb]; unfold setPl; simp only []; split <;> rfl
      obtain ⟨id, B, h1, h2, h3, h4, h5, h6⟩ := hi.blk b ds hb'
      exact ⟨id, B, h1, h2, h3, h4, h5, fun i hi' => (h6 i hi').mvCell (.inl (by simp))⟩
    | cell b0 i0 =>
      obtain ⟨v, hg⟩ := hg
      simp only [getPl] at hg
      split at hg
      · rename_i es hes
        simp only [setPl, hes] at hb
        by_cases e : b0 = b
        · subst e
          obtain ⟨id, B, h1, h2, h3, h4, h5, h6⟩ := hi.blk b0 es hes
          have hlt : b0 < σ.hp.length := (List.getElem?_eq_some_iff.1 hes).1
          rw [List.getElem?_set_self hlt] at hb
          cases hb
          refine ⟨id, B, h1, h2, h3, h4, by simpa using h5, fun i hi' => ?_⟩
          simp only [List.length_set] at hi'
          by_cases e : i = i0
          · subst e
            rw [show (es.set i .dead).getD i .dead = .dead by simp [List.getD_eq_getElem?_getD, hi']]
            exact .dead _ _
          · have h7 := h6 i hi'
            rw [show (es.set i0 .dead).getD i .dead = es.getD i .dead by simp [List.getD_eq_getElem?_getD, Ne.symm e]]
            exact h7.mvCell (.inl (fun h => e (by cases h; rfl)))
        · rw [List.getElem?_set_ne e] at hb
          obtain ⟨id, B, h1, h2, h3, h4, h5, h6⟩ := hi.blk b ds hb
          exact ⟨id, B, h1, h2, h3, h4, h5, fun i hi' => (h6 i hi').mvCell (.inl (fun h => e (by cases h; rfl)))⟩
      · cases hg
  · cases p with
    | tmp t =>
      have hb' : σ.hp[b]? = some (some ds) := by
        rw [← hb]; unfold setPl; simp only []; split <;> rfl
      exact hi.rf b ds hb' v hv
    | cell b0 i0 =>
      obtain ⟨u, hg⟩ := hg
      simp only [getPl] at hg
      split at hg
      · rename_i es hes
        simp only [setPl, hes] at hb
        by_cases e : b0 = b
        · subst e
          have hlt : b0 < σ.hp.length := (List.getElem?_eq_some_iff.1 hes).1
          rw [List.getElem?_set_self hlt] at hb
          cases hb
          rcases List.mem_or_eq_of_mem_set hv with h1 | rfl
          · exact hi.rf b0 es hes v h1
          · rfl
        · rw [List.getElem?_set_ne e] at hb
          exact hi.rf b ds hb v hv
      · cases hg

theorem cleanW_low {F : Fr} {w : Option Nat} {b : Nat} (hc : cleanW F (lowB w b)) : cleanW F w ∧ F.base ≤ b := by
  cases w with
  | none => exact ⟨trivial, hc⟩
  | some a =>
    have h : F.base ≤ Nat.min a b := hc
    exact ⟨Nat.le_trans h (Nat.min_le_left _ _), Nat.le_trans h (Nat.min_le_right _ _)⟩
theorem cleanW_lowP {F : Fr} {w : Option Nat} (hc : cleanW F (lowP w p)) : cleanW F w ∧ ∀ b i, p = .cell b i → F.base ≤ b := by
  cases p with
  | tmp t => exact ⟨hc, fun _ _ e => by cases e⟩
  | cell b i => exact ⟨(cleanW_low hc).1, fun _ _ e => by cases e; exact (cleanW_low hc).2⟩

theorem LP.mv {F : Fr} {r : Option Pl} {wl : Option Nat} {hp hp' : List (Option (List PV))} (hlen : hp'.length = hp.length) (l : LP F C h hp wl) : LP F (moveC C p r) h hp' (lowP wl p) :=
  ⟨l.n0, by rw [hlen]; exact l.base, fun hc => l.low (cleanW_lowP hc).1, fun hc id q hq hn => by
    obtain ⟨h1, h2⟩ := cleanW_lowP hc
    rcases moveP_of hq with ⟨h3, _⟩ | ⟨h3, _⟩
    · exact l.mine h1 id p h3 h2
    · exact l.mine h1 id q h3 hn, fun hc => l.βm (cleanW_lowP hc).1⟩

/-- The list owned at p is owned at r from now on. -/
theorem take_sim {K : Nat → Bool} (r : Option Pl) (hrk : ∀ d, r = some (.tmp d) → K d = true) (st : ST P Y f C h σ tv) (hq : take Y f p σ = some σ') : ST P Y f (moveC C p r) h σ' tv ∧ Step K (fun _ => False) C h σ (moveC C p r) h σ' ∧
    (∀ u x, VA C h u x → isOwn u = false → VA (moveC C p r) h (killV p u) x) ∧ (∀ t, p = .tmp t → look Y f σ' t = some .dead) := by
  unfold take at hq
  split at hq
  · rename_i c n cs hg
    cases hq
    have he : Ext C h (moveC C p r) h := ⟨rfl, fun _ _ => rfl, Nat.le_refl _, fun _ h => h, fun _ h => h, fun _ h => .inl h, fun _ _ h => h⟩
    refine ⟨⟨st.sz, st.hi.mv ⟨_, hg⟩, fun t v hv => ?_, fun t v hk hv => ?_, st.gr.ext st.hi.fzx he⟩, ⟨he, fun id hid => .inl ?_, by rw [setPl_len]; exact Nat.le_refl _, fun _ _ h => .inl h, (fun F hc => by rw [setPl_wl] at hc; exact (cleanW_lowP hc).1), fun id t ht ho => (moveP_of ho).elim (fun e => by rw [hrk t e.2] at ht; cases ht) (fun e => .inl e.1), fun F _ hF => ?_⟩, fun u x hu ho d => (hu d).mv (.inr ho), fun t e => ?_⟩
    · have rest : ∀ t v, look Y f { σ with ls := mapL (killV p) σ.ls, wl := lowP σ.wl p } t = some v → p ≠ .tmp t → VR (moveC C p r) h (some (.tmp t)) v (tget0 tv t) := fun t v hv hp => by
        rw [look_mapL] at hv
        split at hv
        · rename_i hk
          have h1 := st.tr t v (by unfold look; rw [hk]; exact hv)
          have h2 := h1.mv (p := p) (r := r) (.inl (fun e => hp (Option.some.inj e).symm))
          rwa [killV_id (st.nl t v hk hv)] at h2
        · rename_i hk
          obtain ⟨u, hu, rfl⟩ := Option.map_eq_some_iff.1 hv
          exact (st.tr t u (by unfold look; rw [hk]; exact hu)).mv (.inl (fun e => hp (Option.some.inj e).symm))
      cases hp : p with
      | tmp t0 =>
        subst hp
        rw [look_tmp] at hv
        split at hv
        · cases hv; exact .dead _ _
        · rename_i e
          exact rest t v hv (by simp; exact fun h => e h.symm)
      | cell b i =>
        subst hp
        rw [look_cell] at hv
        exact rest t v hv (by simp)
    · cases hp : p with
      | tmp t0 =>
        subst hp
        unfold setPl at hv
        simp only [] at hv
        cases hk0 : Y.keep f t0 with
        | true =>
          simp only [hk0, Tr.get_set] at hv
          split at hv
          · cases hv; rfl
          · exact st.nl t v hk hv
        | false =>
          simp only [hk0] at hv
          exact st.nl t v hk hv
      | cell b i =>
        subst hp
        unfold setPl at hv
        simp only [] at hv
        split at hv <;> exact st.nl t v hk hv
    · rcases hid with hid | ⟨q, hid⟩ | hid
      · exact .inl hid
      · rcases moveP_of hid with ⟨h1, _⟩ | ⟨h1, _⟩ <;> exact .inr (.inl ⟨_, h1⟩)
      · exact .inr (.inr hid)
    · rw [setPl_wl]
      exact hF.mv (by rw [setPl_len])
    · subst e
      rw [look_tmp, if_pos rfl]
  · cases hq
end
end Go.Pur
