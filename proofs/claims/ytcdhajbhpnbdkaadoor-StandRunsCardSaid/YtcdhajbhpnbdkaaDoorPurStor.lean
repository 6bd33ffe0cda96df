/-
  Values that are stored inside of others, arguments, loads.
  Conditions: none; lemmas.
-/
import Derived.Test.YtcdhajbhpnbdkaaDoorPurOwn
set_option linter.unusedSimpArgs false
set_option linter.unusedVariables false
set_option linter.unusedSectionVars false
namespace Go.Pur
open Go.Abs
section
variable {P : Program} {Y : Pol} {f : FuncId} {C : Ctx} {h : AHeap} {σ σ' : St} {tv : Tr Value} {N : Nat}

def frzO (C : Ctx) : Option Pl → Ctx
  | none => C
  | some p => frzC C (atP p)

theorem VA.own {c : Ck} {n : Nat} {cs : List PV} {x : Value} (hu : VA C h (.l .own c n cs) x) : n = 0 ∧ cs = [] ∧ x = .slice none 0 0 := by
  rcases (hu 0).inv_l with ⟨rfl, rfl, rfl⟩ | ⟨a, cap, B, rfl, _, _, ⟨p, e1, e2⟩, _⟩
  · exact ⟨rfl, rfl, rfl⟩
  · rcases (hu 1).inv_l with ⟨rfl, rfl, e⟩ | ⟨a', cap', B', e, _, _, ⟨p', e3, e4⟩, _⟩
    · cases e
    · cases e; cases e1; cases e3; rw [e2] at e4; cases e4

theorem stor_sim {v v' : PV} {x : Value} {o : Option Pl} (st : ST P Y f C h σ tv) (hv : VA C h v x) (hq : stor Y f v σ = some (v', σ', o)) :
    ST P Y f (frzO C o) h σ' tv ∧ Step (Y.keep f) (fun _ => False) C h σ (frzO C o) h σ' ∧ firm v' = true ∧ VR (frzO C o) h none v' x := by
  have same : ∀ {u : PV}, firm u = true → VA C h u x → ST P Y f (frzO C none) h σ tv ∧ Step (Y.keep f) (fun _ => False) C h σ (frzO C none) h σ ∧ firm u = true ∧ VR (frzO C none) h none u x :=
    fun hf hu => ⟨st, .refl _ _ _ _ _, hf, (hu 0).firm hf⟩
  unfold stor at hq
  split at hq
  · rename_i p c n cs
    split at hq
    · rename_i σ1 hz
      cases hq
      obtain ⟨h1, h2⟩ := freeze_sim st hz
      refine ⟨h1, h2, rfl, ?_⟩
      have h3 := hv.frz (S := atP p)
      rw [show frzS (atP p) (.l (.rf p) c n cs) = .l .fz c n cs by simp [frzS, atP_iff.2]] at h3
      exact (h3 0).firm rfl
    · cases hq
  · rename_i c n cs
    split at hq
    · cases hq
      exact same (u := .l .fz c 0 []) rfl (by rw [hv.own.2.2]; exact fun d => .nil _ _ _)
    · cases hq
  all_goals first
    | (cases hq; done)
    | (cases hq; exact same rfl hv)

theorem frzs_add {o : Option Pl} {ps : List Pl} {v : PV} {x : Value} (hv : VA C h (frzs ps v) x) : VA (frzO C o) h (frzs (addP o ps) v) x := by
  cases o with
  | none => exact hv
  | some p => exact hv.frz (S := atP p)

def LF (C : Ctx) (h : AHeap) (ps : List Pl) : List PV → List Value → Prop
  | [], [] => True
  | u :: us, x :: xs => VA C h (frzs ps u) x ∧ LF C h ps us xs
  | _, _ => False
theorem LF.of : ∀ {us : List PV} {xs : List Value}, LA C h us xs → LF C h [] us xs
  | [], [], _ => trivial
  | _ :: _, _ :: _, hl => ⟨hl.1, LF.of hl.2⟩
  | [], _ :: _, hl => hl.elim
  | _ :: _, [], hl => hl.elim
theorem LF.add {o : Option Pl} {ps : List Pl} : ∀ {us : List PV} {xs : List Value}, LF C h ps us xs → LF (frzO C o) h (addP o ps) us xs
  | [], [], _ => trivial
  | _ :: _, _ :: _, hl => ⟨frzs_add hl.1, LF.add hl.2⟩
  | [], _ :: _, hl => hl.elim
  | _ :: _, [], hl => hl.elim

theorem stors_sim : ∀ {us us' : List PV} {xs : List Value} {ps : List Pl} {C : Ctx} {σ σ' : St}, ST P Y f C h σ tv → LF C h ps us xs → stors Y f ps us σ = some (us', σ') →
    ∃ C', ST P Y f C' h σ' tv ∧ Step (Y.keep f) (fun _ => False) C h σ C' h σ' ∧ (us'.all firm = true) ∧ LR C' h none us' xs
  | [], us', [], ps, C, σ, σ', st, _, hq => by cases hq; exact ⟨C, st, .refl _ _ _ _ _, rfl, LR.nil _ _ _⟩
  | u :: us, us', x :: xs, ps, C, σ, σ', st, hl, hq => by
    simp only [stors] at hq
    split at hq
    · rename_i v' σ1 o hs
      split at hq
      · rename_i vs' σ2 hr
        cases hq
        obtain ⟨s1, t1, f1, r1⟩ := stor_sim st hl.1 hs
        obtain ⟨C2, s2, t2, f2, r2⟩ := stors_sim s1 hl.2.add hr
        refine ⟨C2, s2, t1.trans t2 (fun _ h => h) (fun _ h => h), by simp only [List.all_cons, f1, f2, Bool.and_self], LR.cons (r1.nest t2.ext.β t2.ext.fz (fun id hid => t2.ext.get id (s1.hi.fzx id hid)) rfl) r2⟩
      · cases hq
    · cases hq
  | [], _, _ :: _, _, _, _, _, _, hl, _ => hl.elim
  | _ :: _, _, [], _, _, _, _, _, hl, _ => hl.elim

/-! ### Arguments -/
def cellOf (n : Nat) : Option Pl → Option Pl
  | some (.cell b i) => match Nat.blt b n with
    | true => some (.cell b i)
    | false => none
  | _ => none
/-- What the function that is called sees. -/
def callC (N : Nat) (C : Ctx) : Ctx := { C with fx := fun id => C.fx id ∨ ∃ t, C.ow id = some (.tmp t), ow := fun id => cellOf N (C.ow id) }

theorem cellOf_some {n : Nat} {o : Option Pl} {p : Pl} (hq : cellOf n o = some p) : o = some p ∧ ∃ b i, p = .cell b i ∧ b < n := by
  unfold cellOf at hq
  split at hq
  · split at hq
    · rename_i hb; cases hq; exact ⟨rfl, _, _, rfl, Nat.le_of_ble_eq_true hb⟩
    · cases hq
  · cases hq

theorem callC_sub (hi : HI C h σ.hp) : ∀ id, (callC N C).fz id → (callC N C).fx id := fun id hid => .inl (hi.fzx id hid)

/-- Arguments as the callee sees them. -/
def AR (N : Nat) (C : Ctx) (h : AHeap) (v : PV) (x : Value) : Prop := ∀ d, VR (callC N C) h (some (.tmp d)) v x

theorem AR.of_firm (hi : HI C h σ.hp) {v : PV} {x : Value} (hv : VR C h none v x) : AR N C h v x := fun d =>
  (VR.nest (C := C) (C' := callC N C) (fun _ _ h => h) (fun _ h => h) (fun _ _ => rfl) hv rfl).out _

theorem AR.step {C' : Ctx} {v : PV} {x : Value} (hsz : C'.sz = C.sz) (hi : HI C h σ.hp) (hlo : loose v = false) (ho : isOwn v = false) (hβ : ∀ b id, C.β b = some id → C'.β b = some id) (hf : ∀ id, C.fz id → C'.fz id) (hx : ∀ id, (callC N C).fx id → (callC N C').fx id) (hv : AR N C h v x) : AR N C' h v x := fun d =>
  VR.step (C := callC N C) (C' := callC N C') hsz hβ hf hx (callC_sub (σ := σ) hi) (fun _ _ => rfl) (fun t e => ⟨t, e⟩) (hv d) (by
    cases v with
    | l k c n cs => cases k <;> first | trivial | cases hlo | cases ho
    | r k cs => cases k <;> first | trivial | cases hlo
    | _ => trivial)

theorem frzO_call {o : Option Pl} : ∀ id, (callC N C).fx id → (callC N (frzO C o)).fx id := by
  cases o with
  | none => exact fun _ h => h
  | some p =>
    intro id hid
    rcases hid with hid | ⟨t, hid⟩
    · exact .inl (.inl hid)
    · cases hS : atP p (.tmp t) with
      | true => exact .inl (.inr ⟨_, hid, hS⟩)
      | false => exact .inr ⟨t, dropS_some.2 ⟨hid, hS⟩⟩

theorem argv_sim {v v' : PV} {x : Value} {o : Option Pl} (st : ST P Y f C h σ tv) (hv : VA C h v x) (hq : argv Y f v σ = some (v', σ', o)) :
    ST P Y f (frzO C o) h σ' tv ∧ Step (Y.keep f) (fun _ => False) C h σ (frzO C o) h σ' ∧ loose v' = false ∧ isOwn v' = false ∧ AR N (frzO C o) h v' x := by
  have bystor : ∀ {v : PV}, VA C h v x → stor Y f v σ = some (v', σ', o) → ST P Y f (frzO C o) h σ' tv ∧ Step (Y.keep f) (fun _ => False) C h σ (frzO C o) h σ' ∧ loose v' = false ∧ isOwn v' = false ∧ AR N (frzO C o) h v' x := fun hv hq => by
    obtain ⟨s1, t1, f1, r1⟩ := stor_sim st hv hq
    refine ⟨s1, t1, ?_, ?_, AR.of_firm s1.hi r1⟩ <;>
    · cases v' with
      | l k c n cs => cases k <;> first | rfl | cases f1
      | r k cs => cases k <;> first | rfl | cases f1
      | _ => rfl
  have bor : ∀ {k : Vl} {c : Ck} {n : Nat} {cs : List PV}, (∀ id, LOK C (some (.tmp 0)) k id → (callC N C).fx id) → VA C h (.l k c n cs) x → AR N C h (.l .bor c n cs) x := fun hk hv d => by
    cases hv 0 with
    | nil => exact .nil _ _ _
    | lst _ _ _ _ _ a cap B hb hs ho hn hc hl hv' =>
      exact .lst _ _ _ _ _ _ _ B hb hs ⟨hk _ ho, d, rfl⟩ hn ⟨hc.full, hc.nz, hc.le, hc.kind, (fun e => by cases e), hc.one⟩ hl
        (fun i hi => VR.nest (C := C) (C' := callC N C) (fun _ _ h => h) (fun _ h => h) (fun _ _ => rfl) (hv' i hi) rfl)
  have borr : ∀ {k : Vl} {cs : List PV}, (∀ id, LOK C (some (.tmp 0)) k id → (callC N C).fx id) → VA C h (.r k cs) x → AR N C h (.r .bor cs) x := fun hk hv d => by
    cases hv 0 with
    | r _ _ _ a B hb hs ho hir hl hv' =>
      exact .r _ _ _ _ B hb hs ⟨hk _ ho, d, rfl⟩ rfl hl
        (fun i hi => VR.nest (C := C) (C' := callC N C) (fun _ _ h => h) (fun _ h => h) (fun _ _ => rfl) (hv' i hi) rfl)
  unfold argv at hq
  split at hq
  · rename_i t c n cs
    split at hq
    · cases hq
      exact ⟨st, .refl _ _ _ _ _, rfl, rfl, bor (k := .rf (.tmp t)) (fun id hk => .inr ⟨t, hk.1⟩) hv⟩
    · exact bystor hv hq
  · rename_i t c n cs
    cases hq
    exact ⟨st, .refl _ _ _ _ _, rfl, rfl, bor (k := .pt (.tmp t)) (fun id hk => .inr ⟨t, hk.1⟩) hv⟩
  · cases hq
    exact ⟨st, .refl _ _ _ _ _, rfl, rfl, bor (k := .bor) (fun id hk => .inl hk.1) hv⟩
  · rename_i t cs
    cases hq
    exact ⟨st, .refl _ _ _ _ _, rfl, rfl, borr (k := .pt (.tmp t)) (fun id hk => .inr ⟨t, hk.1⟩) hv⟩
  · cases hq
    exact ⟨st, .refl _ _ _ _ _, rfl, rfl, borr (k := .bor) (fun id hk => .inl hk.1) hv⟩
  · exact bystor hv hq

def LAR (N : Nat) (C : Ctx) (h : AHeap) : List PV → List Value → Prop
  | [], [] => True
  | u :: us, x :: xs => AR N C h u x ∧ loose u = false ∧ isOwn u = false ∧ LAR N C h us xs
  | _, _ => False
theorem LAR.step {C' : Ctx} (hsz : C'.sz = C.sz) (hi : HI C h σ.hp) (hβ : ∀ b id, C.β b = some id → C'.β b = some id) (hf : ∀ id, C.fz id → C'.fz id) (hx : ∀ id, (callC N C).fx id → (callC N C').fx id) : ∀ {us : List PV} {xs : List Value}, LAR N C h us xs → LAR N C' h us xs
  | [], [], _ => trivial
  | _ :: _, _ :: _, hl => ⟨hl.1.step hsz hi hl.2.1 hl.2.2.1 hβ hf hx, hl.2.1, hl.2.2.1, hl.2.2.2.step hsz hi hβ hf hx⟩
  | [], _ :: _, hl => hl.elim
  | _ :: _, [], hl => hl.elim

theorem argvs_sim : ∀ {us us' : List PV} {xs : List Value} {ps : List Pl} {C : Ctx} {σ σ' : St}, ST P Y f C h σ tv → LF C h ps us xs → argvs Y f ps us σ = some (us', σ') →
    ∃ C', ST P Y f C' h σ' tv ∧ Step (Y.keep f) (fun _ => False) C h σ C' h σ' ∧ (∀ id, (callC N C).fx id → (callC N C').fx id) ∧ LAR N C' h us' xs
  | [], us', [], ps, C, σ, σ', st, _, hq => by cases hq; exact ⟨C, st, .refl _ _ _ _ _, fun _ h => h, trivial⟩
  | u :: us, us', x :: xs, ps, C, σ, σ', st, hl, hq => by
    simp only [argvs] at hq
    split at hq
    · rename_i v' σ1 o hs
      split at hq
      · rename_i vs' σ2 hr
        cases hq
        obtain ⟨s1, t1, l1, o1, r1⟩ := argv_sim st hl.1 hs
        obtain ⟨C2, s2, t2, x2, r2⟩ := argvs_sim s1 hl.2.add hr
        exact ⟨C2, s2, t1.trans t2 (fun _ h => h) (fun _ h => h), fun id h => x2 id (frzO_call id h), r1.step t2.ext.sz s1.hi l1 o1 t2.ext.β t2.ext.fz x2, l1, o1, r2⟩
      · cases hq
    · cases hq
  | [], _, _ :: _, _, _, _, _, _, hl, _ => hl.elim
  | _ :: _, _, [], _, _, _, _, _, hl, _ => hl.elim

/-! ### Loads -/
theorem aload_of {t : TypeId} {a : Addr} {B : Blk} {cs : List PV} {v : PV} (hb : h.get a.block = some B) (hr : LR C h none cs ((B.cells.drop a.off).take cs.length)) (hq : ppart P t cs 0 = some v) : ∃ y, aload P t (.pointer (some a)) h = some y ∧ VR C h none v y := by
  unfold ppart at hq
  unfold aload
  split at hq
  · rename_i hrow
    split at hq
    · rename_i n hn
      obtain ⟨inf, hinf, rfl⟩ := sz_of hn
      split at hq
      · rename_i r htk
        cases hq
        obtain ⟨rfl, hle⟩ := takeP_some htk
        rw [List.drop_zero] at hle
        have h1 := hr.take inf.size
        rw [List.take_take, Nat.min_eq_left hle] at h1
        have h2 := hr.1
        rw [List.length_take] at h2
        refine ⟨.agg ((B.cells.drop a.off).take inf.size).toArray, by simp only [hb, hrow, hinf, takeN_of (show inf.size ≤ (B.cells.drop a.off).length by omega)], ?_⟩
        rw [List.drop_zero]
        exact VR.agg_of h1
      · cases hq
    · cases hq
  · rename_i hrow
    obtain ⟨y, h1, h2⟩ := hr.get hq
    refine ⟨y, ?_, h2⟩
    simp only [hb, hrow]
    rw [List.getElem?_take] at h1
    split at h1
    · rwa [List.getElem?_drop, Nat.add_zero] at h1
    · cases h1
  · cases hq

/-- The state in which the lists of block b stay for good. -/
theorem frzB_sim {b : Nat} {cs : List PV} (st : ST P Y f C h σ tv) (hb : σ.hp[b]? = some (some cs)) :
    ST P Y f (frzC C (atB b)) h { σ with hp := σ.hp.set b (some (cs.map ownFz)), ls := mapL (frzS (atB b)) σ.ls } tv ∧ Step (Y.keep f) (fun _ => False) C h σ (frzC C (atB b)) h { σ with hp := σ.hp.set b (some (cs.map ownFz)), ls := mapL (frzS (atB b)) σ.ls } := by
  refine ⟨⟨st.sz, st.hi.frz (by simp) (fun b' ds' hb' => ?_), fun t v hv => ?_, st.nl, st.gr.ext st.hi.fzx (.frz st.hi)⟩, ⟨.frz st.hi, fun id hid => .inl hid.frz, by simp, fun _ _ h => .inl h, fun _ h => h, fun _ _ _ ho => .inl (dropS_some.1 ho).1, fun F _ hF => hF.frz (by simp)⟩⟩
  · by_cases e : b = b'
    · subst e
      have hlt : b < σ.hp.length := (List.getElem?_eq_some_iff.1 hb).1
      rw [List.getElem?_set_self hlt] at hb'
      cases hb'
      refine ⟨cs, hb, by simp, fun i hi => ?_⟩
      rw [show atB b (.cell b i) = true by simp [atB]]
      simp [List.getD_eq_getElem?_getD, hi]
    · rw [List.getElem?_set_ne e] at hb'
      refine ⟨ds', hb', rfl, fun i hi => ?_⟩
      rw [show atB b (.cell b' i) = false from Bool.eq_false_iff.2 fun h => e (Nat.eq_of_beq_eq_true h).symm]
  · have hne : ∀ q, some (Pl.tmp t) = some q → atB b q = false := fun q e => by cases e; rfl
    have hv' : look Y f { σ with ls := mapL (frzS (atB b)) σ.ls, wl := σ.wl } t = some v := hv
    rw [look_mapL] at hv'
    split at hv'
    · rename_i hk
      have h1 := st.tr t v (by unfold look; rw [hk]; exact hv')
      have h2 := h1.frz (S := atB b) (.inl hne)
      rwa [frzS_id (st.nl t v hk hv')] at h2
    · rename_i hk
      obtain ⟨u, hu, rfl⟩ := Option.map_eq_some_iff.1 hv'
      exact (st.tr t u (by unfold look; rw [hk]; exact hu)).frz (S := atB b) (.inl hne)

theorem pload_sim {t : TypeId} {x v : PV} {x' : Value} (st : ST P Y f C h σ tv) (hx : VA C h x x') (hq : pload P t x σ = some (v, σ')) :
    ∃ C' y, aload P t x' h = some y ∧ ST P Y f C' h σ' tv ∧ Step (Y.keep f) (fun _ => False) C h σ C' h σ' ∧ VA C' h v y := by
  unfold pload at hq
  split at hq
  · rename_i k cs
    split at hq
    · rename_i u hu
      cases hq
      obtain ⟨a, B, rfl, hb, hs, hk, hir, hl, hr⟩ := (hx 0).inv_r
      obtain ⟨y, h1, h2⟩ := aload_of hb hr hu
      exact ⟨C, y, h1, st, .refl _ _ _ _ _, fun d => h2.out _⟩
    · cases hq
  · rename_i b off
    split at hq
    · rename_i cs hb
      obtain ⟨id, hβ, rfl⟩ := (hx 0).inv_p
      obtain ⟨id', B, h1, h2, h3, h4, h5, h6⟩ := st.hi.blk b cs hb
      rw [hβ] at h1; cases h1
      split at hq
      · rename_i hrow
        split at hq
        · rename_i n hn
          obtain ⟨inf, hinf, rfl⟩ := sz_of hn
          split at hq
          · rename_i r htk
            obtain ⟨rfl, hle⟩ := takeP_some htk
            have hal : aload P t (.pointer (some ⟨id, off, none⟩)) h = some (.agg ((B.cells.drop off).take inf.size).toArray) := by
              unfold aload
              simp only [h2, hrow, hinf, takeN_of (show inf.size ≤ (B.cells.drop off).length by simp at hle ⊢; omega)]
            -- the cells of the row
            have cell : ∀ i v v', ((cs.drop off).take inf.size)[i]? = some v → ((B.cells.drop off).take inf.size)[i]? = some v' → VR C h (some (.cell b (off + i))) v v' ∧ cs[off + i]? = some v := fun i v v' e1 e2 => by
              rw [List.getElem?_take, List.getElem?_drop] at e1 e2
              split at e1
              · rw [if_pos ‹_›] at e2
                have hi := (List.getElem?_eq_some_iff.1 e1).1
                have := h6 (off + i) hi
                rw [List.getD_eq_getElem?_getD, e1, List.getD_eq_getElem?_getD, e2] at this
                exact ⟨this, e1⟩
              · cases e1
            have hlen : ((B.cells.drop off).take inf.size).length = ((cs.drop off).take inf.size).length := by simp; omega
            split at hq
            · cases hq
              obtain ⟨s1, t1⟩ := frzB_sim st hb
              refine ⟨_, _, hal, s1, t1, fun d => VR.agg_of (LR.of_get (by simpa using hlen) (fun i v v' e1 e2 => ?_))⟩
              rw [List.getElem?_map] at e1
              obtain ⟨u, hu, rfl⟩ := Option.map_eq_some_iff.1 e1
              obtain ⟨h7, h8⟩ := cell i u v' hu e2
              cases ho : isOwn u with
              | true =>
                cases u with
                | l k c n cs' => cases k <;> first | exact h7.frzOwn (S := atB b) (by simp [atB]) _ | cases ho
                | _ => cases ho
              | false =>
                rw [show ownFz u = u by cases u with
                  | l k c n cs' => cases k <;> first | rfl | cases ho
                  | _ => rfl]
                exact (h7.cell_in ho).nest t1.ext.β t1.ext.fz (fun _ _ => rfl) rfl
            · rename_i hany
              cases hq
              refine ⟨C, _, hal, st, .refl _ _ _ _ _, fun d => VR.agg_of (LR.of_get hlen (fun i v v' e1 e2 => ?_))⟩
              refine (cell i v v' e1 e2).1.cell_in (Bool.eq_false_iff.2 fun e => ?_)
              rw [← Bool.not_eq_true, List.any_eq_true] at hany
              exact hany ⟨v, List.mem_of_getElem? e1, e⟩
          · cases hq
        · cases hq
      · rename_i hrow
        split at hq
        · rename_i u hu
          split at hq
          · rename_i u' hu'
            cases hq
            have hi := (List.getElem?_eq_some_iff.1 hu).1
            have hB : B.cells[off]? = some (B.cells.getD off undef) := by
              rw [List.getD_eq_getElem?_getD, List.getElem?_eq_getElem (by omega)]; rfl
            refine ⟨C, B.cells.getD off undef, by unfold aload; simp only [h2, hrow]; exact hB, st, .refl _ _ _ _ _, fun d => ?_⟩
            have h7 := h6 off hi
            rw [show cs.getD off .dead = u by rw [List.getD_eq_getElem?_getD, hu]; rfl] at h7
            -- a list that the cell owns
            unfold rdv at hu'
            split at hu'
            · rename_i c n cs'
              cases hu'
              rcases h7.inv_l with ⟨rfl, rfl, e⟩ | ⟨a, cap, B', e, g1, g2, ⟨p, g3, g4⟩, g5, g6, g7, g8⟩
              · rw [e]; exact .nil _ _ _
              · rw [e]; cases g3
                exact .lst_of g1 g2 ⟨g4, d, rfl⟩ g5 ⟨g6.full, g6.nz, g6.le, g6.kind, fun _ => g6.mine rfl, g6.one⟩ g7 g8
            · cases hu'
            · cases hu'
            · rename_i hno _ _
              obtain rfl : u = v := Option.some.inj hu'
              refine (h7.cell_in ?_).out _
              cases u with
              | l k c n cs' =>
                cases k with
                | own => exact (hno c n cs' rfl).elim
                | _ => rfl
              | _ => rfl
          · cases hq
        · cases hq
      · cases hq
    · cases hq
  · cases hq
end
end Go.Pur
