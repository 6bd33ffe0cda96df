/-
  Operations that make a block.
  Conditions: none; lemmas.
-/
import Derived.Test.YtcdhajbhpnbdkaaDoorPurBuild
set_option linter.unusedSimpArgs false
set_option linter.unusedVariables false
set_option linter.unusedSectionVars false
namespace Go.Pur
open Go.Abs

/-- What was there stands as it stood. -/
structure Old (C C' : Ctx) (h h' : AHeap) : Prop where
  sz : C'.sz = C.sz
  β : ∀ b id, C.β b = some id → C'.β b = some id
  fz : ∀ id, C.fz id → C'.fz id
  fx : ∀ id, C.fx id → C'.fx id
  ow : ∀ id p, C.ow id = some p → C'.ow id = some p
  get : ∀ id, C.fx id ∨ (∃ p, C.ow id = some p) → h'.get id = h.get id

structure NewH (h : AHeap) (id : Nat) (B : Blk) (h' : AHeap) : Prop where
  get : ∀ k, h'.get k = if k = id then some B else h.get k
  next : h.next ≤ h'.next
  lt : id < h'.next
  low : h'.low = h.low

def withFz (C : Ctx) (id : Nat) : Ctx := { C with fz := fun k => C.fz k ∨ k = id, fx := fun k => C.fx k ∨ k = id }
def withOw (C : Ctx) (id : Nat) (p : Pl) : Ctx := { C with ow := fun k => if k = id then some p else C.ow k }
def withB (C : Ctx) (b id : Nat) : Ctx := { C with β := fun k => if k = b then some id else C.β k }

section
variable {P : Program} {Y : Pol} {f : FuncId} {C C' : Ctx} {h h' : AHeap} {σ σ' : St} {tv : Tr Value} {id : Nat} {B : Blk}

theorem VR.old (hsub : ∀ id, C.fz id → C.fx id) (o : Old C C' h h') {π : Option Pl} {v : PV} {x : Value} (hv : VR C h π v x) : VR C' h' π v x :=
  hv.step o.sz o.β o.fz o.fx hsub (fun id hid => o.get id (.inl hid)) (fun t e => ⟨t, e⟩) (by
    cases v with
    | l k c n cs =>
      cases k with
      | own => exact fun id p hp ho => ⟨p, hp, o.ow id p ho, o.get id (.inr ⟨p, ho⟩)⟩
      | rf p => exact fun id ho => ⟨o.ow id p ho, o.get id (.inr ⟨p, ho⟩)⟩
      | pt p => exact fun id ho => ⟨o.ow id p ho, o.get id (.inr ⟨p, ho⟩)⟩
      | _ => trivial
    | r k cs =>
      cases k with
      | pt p => exact fun id ho => ⟨o.ow id p ho, o.get id (.inr ⟨p, ho⟩)⟩
      | _ => trivial
    | _ => trivial)

theorem Old.ext (o : Old C C' h h') (hn : h.next ≤ h'.next) (hnew : ∀ id, C'.fz id → C.fz id ∨ ¬ C.fx id) : Ext C h C' h' :=
  ⟨o.sz, fun id hid => o.get id (.inl hid), hn, o.fz, o.fx, hnew, o.β⟩

theorem Old.st {hp' : List (Option (List PV))} {wl' : Option Nat} (st : ST P Y f C h σ tv) (o : Old C C' h h') (hn : h.next ≤ h'.next) (hnew : ∀ id, C'.fz id → C.fz id ∨ ¬ C.fx id) (hi : HI C' h' hp') : ST P Y f C' h' { σ with hp := hp', wl := wl' } tv :=
  ⟨o.sz.trans st.sz, hi, fun t v hv => (st.tr t v hv).old st.hi.fzx o, st.nl, st.gr.ext st.hi.fzx (o.ext hn hnew)⟩

theorem HI.old_blk {hp' : List (Option (List PV))} (hi : HI C h hp') (o : Old C C' h h') (hg : ∀ b id, C.β b = some id → h'.get id = h.get id) {b : Nat} {cs : List PV} (hb : hp'[b]? = some (some cs)) : ∃ id B, C'.β b = some id ∧ h'.get id = some B ∧ B.wr = true ∧ B.unk = false ∧ B.cells.length = cs.length ∧
    ∀ i, i < cs.length → VR C' h' (some (.cell b i)) (cs.getD i .dead) (B.cells.getD i undef) := by
  obtain ⟨id, B, h1, h2, h3, h4, h5, h6⟩ := hi.blk b cs hb
  exact ⟨id, B, o.β _ _ h1, (hg b id h1).trans h2, h3, h4, h5, fun i hi' => (h6 i hi').old hi.fzx o⟩

theorem Ids.lt {hp : List (Option (List PV))} (hi : HI C h hp) (hid : Ids C id) : id < h.next := by
  rcases hid with hid | ⟨p, hid⟩ | ⟨b, hid⟩
  · exact (hi.fxl id hid).1
  · exact hi.owl id p hid
  · exact (hi.βl b id hid).1

/-- A list in a new block. -/
theorem newFz_sim (st : ST P Y f C h σ tv) (hf : ¬ Ids C id) (nh : NewH h id B h') : ST P Y f (withFz C id) h' σ tv ∧ Step (Y.keep f) (· = id) C h σ (withFz C id) h' σ ∧ Old C (withFz C id) h h' := by
  have hget : ∀ k, Ids C k → h'.get k = h.get k := fun k hk => by rw [nh.get, if_neg (show ¬ k = id from fun e => hf (e ▸ hk))]
  have o : Old C (withFz C id) h h' := ⟨rfl, fun _ _ h => h, fun _ h => .inl h, fun _ h => .inl h, fun _ _ h => h, fun k hk => hget k (hk.elim .inl (fun h => .inr (.inl h)))⟩
  have hnew : ∀ k, (withFz C id).fz k → C.fz k ∨ ¬ C.fx k := fun k hk => hk.imp (fun h => h) (fun (e : k = id) hx => hf (.inl (e ▸ hx)))
  have hi : HI (withFz C id) h' σ.hp := by
    refine ⟨fun k hk => hk.imp (st.hi.fzx k) (fun h => h), fun k hk => ?_, fun k p hk => Nat.lt_of_lt_of_le (st.hi.owl k p hk) nh.next, fun b k hk => ?_, st.hi.inj, fun b cs hb => st.hi.old_blk o (fun b k hk => hget k (.inr (.inr ⟨b, hk⟩))) hb, st.hi.rf⟩
    · rcases hk with hk | rfl
      · exact ⟨Nat.lt_of_lt_of_le (st.hi.fxl k hk).1 nh.next, (st.hi.fxl k hk).2⟩
      · refine ⟨nh.lt, ?_⟩
        cases ho : C.ow k with
        | none => exact ho
        | some p => exact absurd (.inr (.inl ⟨p, ho⟩)) hf
    · obtain ⟨h1, h2, h3, h4⟩ := st.hi.βl b k hk
      exact ⟨Nat.lt_of_lt_of_le h1 nh.next, fun hx => hx.elim h2 (fun e => hf (e ▸ .inr (.inr ⟨b, hk⟩))), h3, h4⟩
  refine ⟨Old.st st o nh.next hnew hi, ⟨o.ext nh.next hnew, fun k hk => ?_, Nat.le_refl _, fun _ _ h => .inl h, fun _ h => h, fun _ _ _ h => .inl h, fun F hF l => ⟨Nat.le_trans l.n0 nh.next, l.base, fun hc => by rw [nh.low]; exact l.low hc, l.mine, l.βm⟩⟩, o⟩
  rcases hk with (hk | hk) | hk | hk
  · exact .inl (.inl hk)
  · exact .inr hk
  · exact .inl (.inr (.inl hk))
  · exact .inl (.inr (.inr hk))

/-- A list in a new block, owned at p. -/
theorem newOw_sim (p : Pl) (st : ST P Y f C h σ tv) (hf : ¬ Ids C id) (nh : NewH h id B h') : ST P Y f (withOw C id p) h' σ tv ∧ Step (Y.keep f) (· = id) C h σ (withOw C id p) h' σ ∧ Old C (withOw C id p) h h' := by
  have hget : ∀ k, Ids C k → h'.get k = h.get k := fun k hk => by rw [nh.get, if_neg (show ¬ k = id from fun e => hf (e ▸ hk))]
  have hne : ∀ k, Ids C k → k ≠ id := fun k hk e => hf (e ▸ hk)
  have o : Old C (withOw C id p) h h' := ⟨rfl, fun _ _ h => h, fun _ h => h, fun _ h => h, fun k q hk => by
    show (if k = id then _ else _) = _
    rw [if_neg (hne k (.inr (.inl ⟨q, hk⟩)))]; exact hk, fun k hk => hget k (hk.elim .inl (fun h => .inr (.inl h)))⟩
  have hnew : ∀ k, (withOw C id p).fz k → C.fz k ∨ ¬ C.fx k := fun k hk => .inl hk
  have hi : HI (withOw C id p) h' σ.hp := by
    refine ⟨st.hi.fzx, fun k hk => ⟨Nat.lt_of_lt_of_le (st.hi.fxl k hk).1 nh.next, ?_⟩, fun k q hk => ?_, fun b k hk => ?_, st.hi.inj, fun b cs hb => st.hi.old_blk o (fun b k hk => hget k (.inr (.inr ⟨b, hk⟩))) hb, st.hi.rf⟩
    · show (if k = id then _ else _) = _
      rw [if_neg (hne k (.inl hk))]; exact (st.hi.fxl k hk).2
    · by_cases e : k = id
      · rw [e]; exact nh.lt
      · have : C.ow k = some q := by
          have hk' : (if k = id then some p else C.ow k) = some q := hk
          rwa [if_neg e] at hk'
        exact Nat.lt_of_lt_of_le (st.hi.owl k q this) nh.next
    · obtain ⟨h1, h2, h3, h4⟩ := st.hi.βl b k hk
      refine ⟨Nat.lt_of_lt_of_le h1 nh.next, h2, ?_, h4⟩
      show (if k = id then _ else _) = _
      rw [if_neg (hne k (.inr (.inr ⟨b, hk⟩)))]; exact h3
  refine ⟨Old.st st o nh.next hnew hi, ⟨o.ext nh.next hnew, fun k hk => ?_, Nat.le_refl _, fun _ _ h => .inl h, fun _ h => h, (fun k t _ hk => by
    by_cases e : k = id
    · exact .inr e
    · have hk' : (if k = id then some p else C.ow k) = some (.tmp t) := hk
      rw [if_neg e] at hk'
      exact .inl hk'), fun F hF l => ⟨Nat.le_trans l.n0 nh.next, l.base, fun hc => by rw [nh.low]; exact l.low hc, fun hc k q hk hq => ?_, l.βm⟩⟩, o⟩
  · by_cases e : k = id
    · exact .inr e
    · rcases hk with hk | ⟨q, hk⟩ | hk
      · exact .inl (.inl hk)
      · have hk' : (if k = id then some p else C.ow k) = some q := hk
        rw [if_neg e] at hk'
        exact .inl (.inr (.inl ⟨q, hk'⟩))
      · exact .inl (.inr (.inr hk))
  · by_cases e : k = id
    · exact hF k e
    · have hk' : (if k = id then some p else C.ow k) = some q := hk
      rw [if_neg e] at hk'
      exact l.mine hc k q hk' hq

/-- A new block that is written. -/
theorem newB_sim {cs : List PV} (st : ST P Y f C h σ tv) (hf : ¬ Ids C id) (nh : NewH h id B h') (hw : B.wr = true) (hu : B.unk = false) (hlen : B.cells.length = cs.length) (hrf : ∀ v ∈ cs, refsTo σ.hp.length v = true)
    (hv : ∀ i, i < cs.length → VR C h (some (.cell σ.hp.length i)) (cs.getD i .dead) (B.cells.getD i undef)) : ST P Y f (withB C σ.hp.length id) h' { σ with hp := σ.hp ++ [some cs] } tv ∧ Step (Y.keep f) (· = id) C h σ (withB C σ.hp.length id) h' { σ with hp := σ.hp ++ [some cs] } ∧ Old C (withB C σ.hp.length id) h h' := by
  have hget : ∀ k, Ids C k → h'.get k = h.get k := fun k hk => by rw [nh.get, if_neg (show ¬ k = id from fun e => hf (e ▸ hk))]
  have hne : ∀ k, Ids C k → k ≠ id := fun k hk e => hf (e ▸ hk)
  have hbl : ∀ b k, C.β b = some k → b ≠ σ.hp.length := fun b k hk e => by have := (st.hi.βl b k hk).2.2.2; omega
  have o : Old C (withB C σ.hp.length id) h h' := ⟨rfl, fun b k hk => by
    show (if b = _ then _ else _) = _
    rw [if_neg (hbl b k hk)]; exact hk, fun _ h => h, fun _ h => h, fun _ _ h => h, fun k hk => hget k (hk.elim .inl (fun h => .inr (.inl h)))⟩
  have hnew : ∀ k, (withB C σ.hp.length id).fz k → C.fz k ∨ ¬ C.fx k := fun k hk => .inl hk
  have hβ : ∀ b k, (withB C σ.hp.length id).β b = some k → (b = σ.hp.length ∧ k = id) ∨ (b ≠ σ.hp.length ∧ C.β b = some k) := fun b k hk => by
    have hk' : (if b = σ.hp.length then some id else C.β b) = some k := hk
    by_cases e : b = σ.hp.length
    · rw [if_pos e] at hk'; exact .inl ⟨e, (Option.some.inj hk').symm⟩
    · rw [if_neg e] at hk'; exact .inr ⟨e, hk'⟩
  have hi : HI (withB C σ.hp.length id) h' (σ.hp ++ [some cs]) := by
    refine ⟨st.hi.fzx, fun k hk => ⟨Nat.lt_of_lt_of_le (st.hi.fxl k hk).1 nh.next, (st.hi.fxl k hk).2⟩, fun k q hk => Nat.lt_of_lt_of_le (st.hi.owl k q hk) nh.next, fun b k hk => ?_, fun b b' k h1 h2 => ?_, fun b ds hb => ?_, fun b ds hb v hv => ?_⟩
    · rcases hβ b k hk with ⟨rfl, rfl⟩ | ⟨e, hk'⟩
      · refine ⟨nh.lt, fun hx => hf (.inl hx), ?_, by simp⟩
        cases ho : C.ow k with
        | none => exact ho
        | some p => exact absurd (.inr (.inl ⟨p, ho⟩)) hf
      · obtain ⟨h1, h2, h3, h4⟩ := st.hi.βl b k hk'
        exact ⟨Nat.lt_of_lt_of_le h1 nh.next, h2, h3, by simp; omega⟩
    · rcases hβ b k h1 with ⟨rfl, rfl⟩ | ⟨e, h1'⟩ <;> rcases hβ b' k h2 with ⟨rfl, e2⟩ | ⟨e', h2'⟩
      · rfl
      · exact absurd (.inr (.inr ⟨b', h2'⟩)) hf
      · subst e2; exact absurd (.inr (.inr ⟨b, h1'⟩)) hf
      · exact st.hi.inj b b' k h1' h2'
    · by_cases e : b < σ.hp.length
      · rw [List.getElem?_append_left e] at hb
        exact st.hi.old_blk o (fun b k hk => hget k (.inr (.inr ⟨b, hk⟩))) hb
      · have hlt := (List.getElem?_eq_some_iff.1 hb).1
        simp only [List.length_append, List.length_singleton] at hlt
        have e : b = σ.hp.length := by omega
        subst e
        rw [List.getElem?_append_right (Nat.le_refl _)] at hb
        simp only [Nat.sub_self, List.getElem?_cons_zero, Option.some.injEq] at hb
        subst hb
        exact ⟨id, B, by show (if _ = _ then _ else _) = _; rw [if_pos rfl], by rw [nh.get, if_pos rfl], hw, hu, hlen, fun i hi => (hv i hi).old st.hi.fzx o⟩
    · by_cases e : b < σ.hp.length
      · rw [List.getElem?_append_left e] at hb
        exact st.hi.rf b ds hb v hv
      · have hlt := (List.getElem?_eq_some_iff.1 hb).1
        simp only [List.length_append, List.length_singleton] at hlt
        have e : b = σ.hp.length := by omega
        subst e
        rw [List.getElem?_append_right (Nat.le_refl _)] at hb
        simp only [Nat.sub_self, List.getElem?_cons_zero, Option.some.injEq] at hb
        subst hb
        exact hrf v hv
  refine ⟨Old.st st o nh.next hnew hi, ⟨o.ext nh.next hnew, fun k hk => ?_, by simp, fun b k hk => (hβ b k hk).elim (fun h => .inr (by omega)) (fun h => .inl h.2), fun _ h => h, fun _ _ _ h => .inl h, fun F hF l => ⟨Nat.le_trans l.n0 nh.next, by simp; have := l.base; omega, fun hc => by rw [nh.low]; exact l.low hc, l.mine, fun hc b k hk hb => ?_⟩⟩, o⟩
  · rcases hk with hk | hk | ⟨b, hk⟩
    · exact .inl (.inl hk)
    · exact .inl (.inr (.inl hk))
    · rcases hβ b k hk with ⟨rfl, rfl⟩ | ⟨e, hk'⟩
      · exact .inr rfl
      · exact .inl (.inr (.inr ⟨b, hk'⟩))
  · rcases hβ b k hk with ⟨rfl, rfl⟩ | ⟨e, hk'⟩
    · exact hF k rfl
    · exact l.βm hc b k hk' hb

/-! ### Values that are taken along into a cell -/
theorem take_hp {p : Pl} (hq : take Y f p σ = some σ') : σ'.hp.length = σ.hp.length := by
  unfold take at hq
  split at hq
  · cases hq; rw [setPl_len]
  · cases hq
theorem freeze_hp {p : Pl} (hq : freeze Y f p σ = some σ') : σ'.hp.length = σ.hp.length := by
  unfold freeze at hq
  split at hq
  · cases hq; rw [setPl_len]
  · cases hq

/-- What goes into cells: the value's cells there. -/
def Into (C : Ctx) (h : AHeap) (b off : Nat) (v : PV) (x : Value) : Prop :=
  (vcells x).length = (pcells v).length ∧ (∀ y ∈ vcells x, y.oneCell' = true ∨ ∃ u ∈ pcells v, one u = false) ∧ ∀ i, i < (pcells v).length → VR C h (some (.cell b (off + i))) ((pcells v).getD i .dead) ((vcells x).getD i undef)

theorem Into.of_firm {v : PV} {x : Value} (hf : firm v = true) (hv : VR C h none v x) (b off : Nat) : Into C h b off v x := by
  have hr := pcells_rel hf hv
  refine ⟨hr.1, fun y hy => ?_, fun i hi => (hr.2 i hi).out _⟩
  obtain ⟨i, hi, rfl⟩ := List.getElem_of_mem hy
  have hi' : i < (pcells v).length := by rw [← hr.1]; exact hi
  have h1 := hr.2 i hi'
  rw [List.getD_eq_getElem?_getD, List.getElem?_eq_getElem hi', List.getD_eq_getElem?_getD, List.getElem?_eq_getElem hi] at h1
  cases ho : one (pcells v)[i] with
  | true => exact .inl (one_oneCell h1 ho)
  | false => exact .inr ⟨_, List.getElem_mem _, ho⟩

theorem VR.at_cell {π : Option Pl} {c : Ck} {n : Nat} {cs : List PV} {x : Value} (hv : VR C h π (.l .own c n cs) x) : vcells x = [x] := by
  rcases hv.inv_l with ⟨_, _, rfl⟩ | ⟨a, cap, B, rfl, _⟩ <;> rfl

theorem moved_sim {v v' : PV} {x : Value} (b off : Nat) (st : ST P Y f C h σ tv) (hv : VA C h v x) (hq : moved Y f v σ = some (v', σ')) :
    ∃ C', ST P Y f C' h σ' tv ∧ Step (Y.keep f) (fun _ => False) C h σ C' h σ' ∧ Into C' h b off v' x ∧ (∀ b id, C.β b = some id → C'.β b = some id) ∧ σ'.hp.length = σ.hp.length := by
  unfold moved at hq
  split at hq
  · rename_i p c n cs
    split at hq
    · rename_i σ1 ht
      cases hq
      obtain ⟨s1, t1, _, _⟩ := take_sim (some (.cell b off)) (fun d e => by cases e) st ht
      have hx := VA.taken (r := .cell b off) hv
      refine ⟨_, s1, t1, ⟨by rw [hx.at_cell]; rfl, fun y hy => ?_, fun i hi => ?_⟩, fun _ _ h => h, take_hp ht⟩
      · rw [hx.at_cell] at hy
        simp only [List.mem_singleton] at hy
        subst hy
        exact .inl (one_oneCell hx rfl)
      · rw [hx.at_cell]
        have : i = 0 := by simpa [pcells] using hi
        subst this
        exact hx
    · cases hq
  · rename_i c n cs
    split at hq
    · cases hq
      obtain ⟨_, _, rfl⟩ := hv.own
      exact ⟨C, st, .refl _ _ _ _ _, ⟨rfl, fun y hy => by simp [vcells] at hy; subst hy; exact .inl rfl, fun i hi => by
        have : i = 0 := by simpa [pcells] using hi
        subst this; exact .nil _ _ _⟩, fun _ _ h => h, rfl⟩
    · cases hq
  · split at hq
    · rename_i v1 σ1 o hs
      cases hq
      obtain ⟨s1, t1, f1, r1⟩ := stor_sim st hv hs
      have hlen : σ'.hp.length = σ.hp.length := by
        unfold stor at hs
        split at hs
        · split at hs
          · rename_i hz; cases hs; exact freeze_hp hz
          · cases hs
        · split at hs
          · cases hs; rfl
          · cases hs
        all_goals first
          | (cases hs; done)
          | (cases hs; rfl)
      exact ⟨_, s1, t1, .of_firm f1 r1 b off, fun _ _ h => t1.ext.β _ _ h, hlen⟩
    · cases hq

theorem pvOf_refs {x : Value} {u : PV} (hq : pvOf x = some u) (b : Nat) : refsTo b u = true ∧ (cellOK u = true ∨ u = .l .own .nz 0 []) := by
  unfold pvOf at hq
  split at hq
  · split at hq
    · cases hq; exact ⟨rfl, .inr rfl⟩
    · cases hq
  · split at hq
    · cases hq; exact ⟨rfl, .inl rfl⟩
    · cases hq
theorem pvCells_refs {z : Value} {zc : List PV} (hq : pvCells z = some zc) (b : Nat) : ∀ u ∈ zc, refsTo b u = true := by
  have key : ∀ {l : List Value} {zc : List PV}, pvCells.go l = some zc → ∀ u ∈ zc, refsTo b u = true := by
    intro l
    induction l with
    | nil => intro zc hq u hu; cases hq; cases hu
    | cons x l ih =>
      intro zc hq u hu
      simp only [pvCells.go] at hq
      split at hq
      · rename_i v r hv hr
        cases hq
        rcases List.mem_cons.1 hu with rfl | hu
        · exact (pvOf_refs hv b).1
        · exact ih hr u hu
      · cases hq
  exact key hq

theorem reps_rel {zc : List PV} {z : List Value} {π : Option Pl} (hz : LR C h π zc z) : ∀ n, LR C h π (reps zc n) (zeros z n)
  | 0 => LR.nil _ _ _
  | n + 1 => hz.append (reps_rel hz n)
theorem reps_mem {zc : List PV} {u : PV} : ∀ {n : Nat}, u ∈ reps zc n → u ∈ zc
  | 0, hu => by cases hu
  | n + 1, hu => by
    rcases List.mem_append.1 hu with hu | hu
    · exact hu
    · exact reps_mem hu

theorem refsTo_pcells {b : Nat} {v : PV} (hr : refsTo b v = true) : ∀ u ∈ pcells v, refsTo b u = true := by
  cases v with
  | a cs =>
    have key : ∀ {cs : List PV}, refsTo.go b cs = true → ∀ u ∈ cs, refsTo b u = true := by
      intro cs
      induction cs with
      | nil => intro _ u hu; cases hu
      | cons c cs ih =>
        intro hr u hu
        simp only [refsTo.go, Bool.and_eq_true] at hr
        rcases List.mem_cons.1 hu with rfl | hu
        · exact hr.1
        · exact ih hr.2 u hu
    exact key (show refsTo.go b cs = true by simpa [refsTo] using hr)
  | _ => intro u hu; simp only [pcells, List.mem_singleton] at hu; subst hu; exact hr

/-! ### New blocks -/
theorem new_sim {call : PCallF} {dr : Dr} {op : Op} {v : PV} (st : ST P Y f C h σ tv) (hk : kindOf op = 1) (hf : ¬ Ids C id) (hq : poper P Y f call dr op σ = some (v, σ')) :
    ∃ B x', anew P op tv id = some (x', B) ∧ ∀ h', NewH h id B h' → ∃ C', ST P Y f C' h' σ' tv ∧ Step (Y.keep f) (· = id) C h σ C' h' σ' ∧ VA C' h' v x' ∧ (∀ k t, Y.keep f t = false → C'.ow k = some (.tmp t) → C.ow k = some (.tmp t)) := by
  cases op with
  | box e x =>
    simp only [poper] at hq
    split at hq
    · rename_i u hu
      split at hq
      · rename_i v' σ1 hm
        split at hq
        · rename_i href
          cases hq
          obtain ⟨x', h1, h2⟩ := pev_sim st.tr st.gr hu
          obtain ⟨C1, s1, t1, i1, _, l1⟩ := moved_sim σ.hp.length 0 st h2 hm
          refine ⟨⟨vcells x', e, true, false⟩, .pointer (some ⟨id, 0, none⟩), by simp [anew, h1], fun h' nh => ?_⟩
          have hf1 : ¬ Ids C1 id := fun hid => (t1.ids id hid).elim hf (fun e => e)
          obtain ⟨s2, t2, o2⟩ := newB_sim (cs := pcells v') s1 hf1 nh rfl rfl i1.1 (refsTo_pcells href) (fun i hi => by
            have := i1.2.2 i hi
            rw [l1]; rwa [Nat.zero_add] at this)
          refine ⟨_, s2, t1.trans t2 (fun _ h => h.elim) (fun _ h => h), fun d => .p _ _ _ id ?_, fun k t hk ho => (t1.loc k t hk ho).elim (fun h => h) (fun h => h.elim)⟩
          show (if _ = _ then _ else _) = _
          rw [if_pos rfl]
        · cases hq
      · cases hq
    · cases hq
  | alloc e =>
    simp only [poper] at hq
    split at hq
    · rename_i z hz
      split at hq
      · rename_i zc hzc
        cases hq
        obtain ⟨inf, h1, h2, h3⟩ := zero_of hz
        have hr := fun π => pvCells_rel hzc C h π
        refine ⟨⟨vcells z, e, true, false⟩, .pointer (some ⟨id, 0, none⟩), by simp [anew, h1, h2, h3], fun h' nh => ?_⟩
        obtain ⟨s2, t2, o2⟩ := newB_sim (cs := zc) st hf nh rfl rfl (hr none).1 (pvCells_refs hzc _) (fun i hi => (hr _).2 i hi)
        refine ⟨_, s2, t2, fun d => .p _ _ _ id ?_, fun _ _ _ ho => ho⟩
        show (if _ = _ then _ else _) = _
        rw [if_pos rfl]
      · cases hq
    · cases hq
  | buildSlice t n parts =>
    simp only [poper] at hq
    split at hq
    · rename_i is vs e sz hps hsh
      obtain ⟨hu, inf, hinf, rfl⟩ := shape_slice hsh
      split at hq
      · rename_i z vs' σ1 hz hst
        split at hq
        · rename_i zc hb hzc
          split at hq
          · rename_i cs hfl
            split at hq
            · rename_i hok
              cases hq
              obtain ⟨inf', g1, g2, g3⟩ := zero_of hz
              cases hinf.symm.trans g1
              obtain ⟨ps, h1, h2, h3⟩ := pevParts_sim st.tr st.gr hps
              obtain ⟨C1, s1, t1, f1, r1⟩ := stors_sim st (LF.of h3) hst
              have hzr : LR C1 h none (zc.map ownFz) (vcells z) := by
                have h0 := pvCells_rel hzc C1 h none
                refine LR.of_get (by simpa using h0.1) (fun i u y e1 e2 => ?_)
                rw [List.getElem?_map] at e1
                obtain ⟨w, hw, rfl⟩ := Option.map_eq_some_iff.1 e1
                obtain ⟨y', hy, hv⟩ := h0.get hw
                rw [hy] at e2; cases e2
                have hm : w ∈ zc := List.mem_of_getElem? hw
                cases w with
                | l k c m ds =>
                  cases k with
                  | own =>
                    rcases hv.inv_l with ⟨rfl, rfl, rfl⟩ | ⟨_, _, _, _, _, _, ⟨_, e, _⟩, _⟩
                    · exact .nil _ _ _
                    · cases e
                  | _ => exact hv
                | _ => exact hv
              obtain ⟨o, h4, h5⟩ := fill_sim (l := (zeros (vcells z) n).toArray) h2 r1 f1 (by simpa using reps_rel hzr n) hfl
              simp only [Bool.and_eq_true] at hb
              have hf1 : ¬ Ids C1 id := fun hid => (t1.ids id hid).elim hf (fun e => e)
              refine ⟨⟨o.toList, e, true, false⟩, .slice (some ⟨id, 0, none⟩) n n, ?_, fun h' nh => ?_⟩
              · simp only [anew, h1, abuildSlice, hu, g1, g2]
                rw [show (Nat.ble (n * (inf.size + 1)) limit24 && plainV z && Nat.beq (vcells z).length inf.size) = true by
                  simp only [Bool.and_eq_true]; exact ⟨⟨hb.1, g3⟩, hb.2⟩]
                simp only [h4]
              · obtain ⟨s2, t2, o2⟩ := newFz_sim s1 hf1 nh
                refine ⟨_, s2, t1.trans t2 (fun _ h => h.elim) (fun _ h => h), fun d => ?_, fun k t hk ho => (t1.loc k t hk ho).elim (fun h => h) (fun h => h.elim)⟩
                have hr2 : LR (withFz C1 id) h' none cs o.toList := ⟨h5.1, fun i hi => (h5.2 i hi).old s1.hi.fzx o2⟩
                have hn : n < unkCap := by
                  have := Nat.le_of_ble_eq_true hb.1
                  have h9 : n ≤ n * (inf.size + 1) := Nat.le_mul_of_pos_right _ (by omega)
                  exact Nat.lt_of_le_of_lt (Nat.le_trans h9 this) (by decide)
                refine .lst_of (a := ⟨id, 0, none⟩) (by rw [nh.get, if_pos rfl]) rfl (.inr rfl) hn ⟨fun _ => Nat.le_refl _, (fun e => by cases e), fun _ => Nat.le_refl _, .inl hn, (fun e => by cases e), fun v hv => List.all_eq_true.1 hok v hv⟩ ?_ ?_
                · simp only []; rw [h5.1]; omega
                · simp only [List.drop_zero]; rw [← h5.1, List.take_length]; exact hr2
            · cases hq
          · cases hq
        · cases hq
      · cases hq
    · cases hq
  | makeSlice t lo co =>
    simp only [poper] at hq
    split at hq
    · rename_i k1 l k2 c e sz hl hc hsh
      obtain ⟨hu, inf, hinf, rfl⟩ := shape_slice hsh
      split at hq
      · rename_i z by_ hz hby
        split at hq
        · rename_i zc hb hzc
          cases hq
          obtain ⟨inf', g1, g2, g3⟩ := zero_of hz
          cases hinf.symm.trans g1
          obtain ⟨inf', g4, rfl⟩ := by_of hby
          cases hinf.symm.trans g4
          obtain ⟨l', h1, h2⟩ := pev_sim st.tr st.gr hl
          obtain ⟨c', h3, h4⟩ := pev_sim st.tr st.gr hc
          obtain ⟨rfl, _⟩ := (h2 0).inv_v
          obtain ⟨rfl, _⟩ := (h4 0).inv_v
          simp only [Bool.and_eq_true] at hb
          have hr := fun π => reps_rel (pvCells_rel hzc C h π) c
          refine ⟨⟨zeros (vcells z) c, e, true, false⟩, .slice (some ⟨id, 0, none⟩) l c, ?_, fun h' nh => ?_⟩
          · simp only [anew, h1, h3, amake, hu, g1, g2]
            rw [show (Nat.ble l c && Nat.ble (c * (inf.bytes + inf.size + 1)) limit && plainV z && Nat.beq (vcells z).length inf.size) = true by
              simp only [Bool.and_eq_true]; exact ⟨⟨⟨hb.1.1, hb.1.2⟩, g3⟩, hb.2⟩]
          · obtain ⟨s2, t2, o2⟩ := newB_sim (cs := reps zc c) st hf nh rfl rfl (hr none).1 (fun u hu => pvCells_refs hzc _ u (reps_mem hu)) (fun i hi => (hr _).2 i hi)
            have hcl := Nat.le_of_ble_eq_true hb.1.2
            have h9 : c ≤ c * (inf.bytes + inf.size + 1) := Nat.le_mul_of_pos_right _ (by omega)
            refine ⟨_, s2, t2, fun d => .s _ _ _ _ _ id ?_ (Nat.lt_of_le_of_lt (Nat.le_trans h9 hcl) (by decide)) (Nat.le_of_ble_eq_true hb.1.1), fun _ _ _ ho => ho⟩
            show (if _ = _ then _ else _) = _
            rw [if_pos rfl]
        · cases hq
      · cases hq
    · cases hq
  | call c =>
    obtain ⟨callee, args, types⟩ := c
    cases callee with
    | builtin b => cases b <;> simp [kindOf] at hk
    | _ => simp [kindOf] at hk
  | _ => simp [kindOf] at hk
end
end Go.Pur
