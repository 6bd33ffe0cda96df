/-
  Operations that turn blocks: store, append, copy.
  Calls, from the caller's side.
  Regions: in the order of the text, and in any order.
  Regions that draw their order.
  Functions, from the callee's side.
  Code and calls: a run of the pure evaluator that ends well is one of the abstract evaluator.
  The pure evaluator without fuel: its equations.
  Conditions: none; definitions and lemmas.
-/
import Derived.Test.YtmnmfmghmenkkaaPurA
set_option linter.unusedSimpArgs false
set_option linter.unusedVariables false
set_option linter.unusedSectionVars false
namespace Go.Pur
open Go.Abs
section
variable {P : Program} {Y : Pol} {f : FuncId} {C C' : Ctx} {h h' : AHeap} {σ σ' : St} {tv : Tr Value} {id : Nat} {B : Blk}
mutual
theorem noref_refs (b : Nat) : ∀ v : PV, noref v = true → refsTo b v = true
  | .v _, _ => by simp [refsTo]
  | .l _ _ _ _, _ => by simp [refsTo]
  | .r _ _, h => by simp [noref] at h
  | .p _ _, h => by simp [noref] at h
  | .s _ _ _ _, h => by simp [noref] at h
  | .m _ _ _, _ => by simp [refsTo]
  | .t _, h => by simp [noref] at h
  | .dead, _ => by simp [refsTo]
  | .un, _ => by simp [refsTo]
  | .a cs, h => by
    simp only [noref] at h
    simp only [refsTo]
    exact norefs_refs b cs h
  | .i _ x, h => by
    simp only [noref] at h
    simp only [refsTo]
    exact noref_refs b x h
  | .f _ as bs, h => by
    simp only [noref, Bool.and_eq_true] at h
    simp only [refsTo, Bool.and_eq_true]
    exact ⟨norefs_refs b as h.1, norefs_refs b bs h.2⟩
theorem norefs_refs (b : Nat) : ∀ l : List PV, noref.norefs l = true → refsTo.go b l = true
  | [], _ => by simp [refsTo.go]
  | c :: cs, h => by
    simp only [noref.norefs, Bool.and_eq_true] at h
    simp only [refsTo.go, Bool.and_eq_true]
    exact ⟨noref_refs b c h.1, norefs_refs b cs h.2⟩
end
def StoreAt (P : Program) (Y : Pol) (f : FuncId) (C : Ctx) (σ : St) (tv : Tr Value) (dr : Dr) (op : Op) : Prop :=
  ∃ a ty xo yo b off id, dr = some a ∧ op = .store ty xo yo ∧ ev P tv xo = some (.pointer (some ⟨id, off, none⟩)) ∧ C.β b = some id ∧ mayStore Y f σ b dr = true ∧ ¬ C.fx id
end
end Go.Pur
namespace Go.Pur
open Go.Abs
def LP1 (C : Ctx) (h : AHeap) : List PV → List Value → Prop
  | [], [] => True
  | u :: us, x :: xs => (VA C h u x ∧ loose u = false) ∧ LP1 C h us xs
  | _, _ => False
structure CallIn (P : Program) (Y : Pol) (C : Ctx) (h : AHeap) (hp : List (Option (List PV))) (args : List PV) (args' : List Value) : Prop where
  sz : C.sz = P.cellsOf
  hi : HI C h hp
  gr : GR P Y C h
  owc : ∀ id p, C.ow id = some p → ∃ b i, p = .cell b i ∧ b < hp.length
  args : LP1 C h args args'
def sound : PV → Bool
  | .l .own _ _ _ => true
  | .m .own _ _ => true
  | .t cs => cs.all firm
  | v => firm v
structure CallOut (C : Ctx) (h : AHeap) (hp : List (Option (List PV))) (r : PV) (hp' : List (Option (List PV))) (w : Option Nat) (d : Nat) (C' : Ctx) (h' : AHeap) (x' : Value) : Prop where
  hi : HI C' h' hp'
  ext : Ext C h C' h'
  ids : ∀ id, Ids C' id → Ids C id ∨ h.next ≤ id
  len : hp.length ≤ hp'.length
  bnew : ∀ b id, C'.β b = some id → C.β b = some id ∨ hp.length ≤ b
  ow : ∀ id p, C'.ow id = some p → (∃ b i, p = .cell b i ∧ b < hp'.length) ∨ p = .tmp d
  res : VR C' h' (some (.tmp d)) r x'
  snd : sound r = true
  own : isOwn r = true → w = none
  lp : ∀ F, LP F C h hp none → LP F C' h' hp' w
section
variable {P : Program} {Y : Pol} {f : FuncId} {C C' : Ctx} {h h' : AHeap} {σ σ' : St} {tv : Tr Value} {N : Nat}
theorem LP1.append : ∀ {us vs : List PV} {xs ys : List Value}, LP1 C h us xs → LP1 C h vs ys → LP1 C h (us ++ vs) (xs ++ ys)
  | [], _, [], _, _, h2 => h2
  | _ :: _, _, _ :: _, _, h1, h2 => ⟨h1.1, LP1.append h1.2 h2⟩
  | [], _, _ :: _, _, h1, _ => h1.elim
  | _ :: _, _, [], _, h1, _ => h1.elim
theorem LA.get {C : Ctx} {h : AHeap} : ∀ {us : List PV} {xs : List Value} {i : Nat} {u : PV}, LA C h us xs → us[i]? = some u → ∃ x, xs[i]? = some x ∧ VA C h u x
  | u :: us, x :: xs, 0, v, hl, hi => by cases hi; exact ⟨x, rfl, hl.1⟩
  | u :: us, x :: xs, i + 1, v, hl, hi => hl.2.get (i := i) hi
  | [], [], i, v, _, hi => by simp at hi
  | [], _ :: _, _, _, hl, _ => hl.elim
  | _ :: _, [], _, _, hl, _ => hl.elim
theorem LA.set {C : Ctx} {h : AHeap} : ∀ {us : List PV} {xs : List Value} {i : Nat} {v : PV} {x : Value}, LA C h us xs → xs[i]? = some x → VA C h v x → LA C h (us.set i v) xs
  | u :: us, x :: xs, 0, v, y, hl, hi, hv => by cases hi; exact ⟨hv, hl.2⟩
  | u :: us, x :: xs, i + 1, v, y, hl, hi, hv => ⟨hl.1, hl.2.set hi hv⟩
  | [], [], i, v, _, _, hi, _ => by simp at hi
  | [], _ :: _, _, _, _, hl, _, _ => hl.elim
  | _ :: _, [], _, _, _, hl, _, _ => hl.elim
end
end Go.Pur
namespace Go.Pur
open Go.Abs
section
variable {P : Program} {Y : Pol} {f : FuncId} {C C' : Ctx} {h h' : AHeap} {σ σ' : St} {tv : Tr Value}
theorem ST.heap (st : ST P Y f C h σ tv) (hg : ∀ a, h'.get a = h.get a) (hi : h'.its = h.its) (hn : h.next ≤ h'.next) : ST P Y f C h' σ tv := by
  have o : Old C C h h' := ⟨rfl, fun _ _ h => h, fun _ h => h, fun _ h => h, fun _ _ h => h, fun a _ => hg a, fun a _ => by unfold AHeap.getIt; rw [hi]⟩
  exact Old.st (hp' := σ.hp) (wl' := σ.wl) st o hn (fun _ h => .inl h) ⟨st.hi.fzx, fun id hid => ⟨Nat.lt_of_lt_of_le (st.hi.fxl id hid).1 hn, (st.hi.fxl id hid).2⟩, fun id p hid => Nat.lt_of_lt_of_le (st.hi.owl id p hid) hn,
    fun b id hb => let ⟨a1, a2, a3, a4⟩ := st.hi.βl b id hb; ⟨Nat.lt_of_lt_of_le a1 hn, a2, a3, a4⟩, st.hi.inj, fun b cs hb => st.hi.old_blk o (fun b id _ => hg id) hb, st.hi.rf⟩
theorem VR.heap (hg : ∀ a, h'.get a = h.get a) (hi : h'.its = h.its) (hs : ∀ id, C.fz id → C.fx id) {π : Option Pl} {v : PV} {x : Value} (hv : VR C h π v x) : VR C h' π v x :=
  hv.old hs ⟨rfl, fun _ _ h => h, fun _ h => h, fun _ h => h, fun _ _ h => h, fun a _ => hg a, fun a _ => by unfold AHeap.getIt; rw [hi]⟩
theorem Step.same {K : Nat → Bool} {N : Nat → Prop} {σ2 : St} (s : Step K N C h σ C' h' σ') (h1 : σ2.hp = σ'.hp) (h2 : σ2.wl = σ'.wl) : Step K N C h σ C' h' σ2 :=
  ⟨s.ext, s.ids, by rw [h1]; exact s.len, s.bnew, fun F hc => s.wlm F (by rw [h2] at hc; exact hc), s.loc, fun F hN l => by rw [h1, h2]; exact s.lp F hN l⟩
def RA (Y : Pol) (f : FuncId) (σ : St) (tv : Tr Value) (v : PV) (x : Value) : Prop := ∀ t es c es' c', v = .m (.rf (.tmp t)) es c → look Y f σ t = some (.m .own es' c') → x = tget0 tv t
theorem RA.of {v : PV} {x : Value} (h : maOf v = none) : RA Y f σ tv v x := fun t es c _ _ e => by rw [e] at h; cases h
end
end Go.Pur
namespace Go.Pur
open Go.Abs
def marks (o : Oper) : Bool :=
  match o.op with
  | .load _ _ => true
  | op => Nat.beq (kindOf op) 1
theorem zip_mem {α : Type} {l : List α} {i : Nat} {o : α} (h : l[i]? = some o) : (o, i) ∈ l.zipIdx := by
  rw [List.mem_zipIdx_iff_getElem?]; exact h
theorem noMaker_get {ops : Array Oper} {k i : Nat} {o : Oper} (h : noMaker ops k = true) (ho : ops[i]? = some o) (hi : i < k) : kindOf o.op = 0 := by
  have h1 := List.all_eq_true.1 h (o, i) (zip_mem (by simpa using ho))
  simp only [Bool.or_eq_true] at h1
  rcases h1 with h1 | h1
  · exact absurd (Nat.le_of_ble_eq_true h1) (by omega)
  · exact Nat.eq_of_beq_eq_true h1
section
variable {P : Program} {Y : Pol} {f : FuncId} {B n nt : Nat} {ops : Array Oper}
def TurnOK (B : Nat) (ops : Array Oper) (k : Nat) (rq : List (Nat × Nat)) (x : Nat × Turned) : Prop :=
  (B + ops.size ≤ x.2.1 ∨ ordAll ops x.1 = true) ∨ ∃ c, x.2.2 = some c ∧ (c < B ∨ ∀ (i : Nat) (o : Oper), ops[i]? = some o → kindOf o.op = 1 → ordered ops i x.1 = true) ∧ (∀ y ∈ rq, y.2 ≠ c ∨ ordered ops y.1 x.1 = true) ∧
    ∀ (i : Nat) (o : Oper), k ≤ i → ops[i]? = some o → (∃ ty xo, o.op = .load ty xo) → ordered ops i x.1 = true
def StillThere (P : Program) (ops : Array Oper) (k : Nat) (tv : Tr Value) (rq : List (Nat × Nat)) : Prop :=
  ∀ y ∈ rq, ∀ (o : Oper) ty t, ops[y.1]? = some o → o.op = .load ty (.tmp t) → stays ops y.1 k t = true → ∃ a, ev P tv (.tmp t) = some (.pointer (some a)) ∧ a.block = y.2
theorem stays_succ {ops : Array Oper} {i k t : Nat} {o : Oper} (h : stays ops i (k + 1) t = true) (ho : ops[k]? = some o) (hi : i ≤ k) : stays ops i k t = true ∧ o.dst ≠ some t := by
  constructor
  · refine List.all_eq_true.2 fun p hp => ?_
    have h1 := List.all_eq_true.1 h p hp
    simp only [Bool.or_eq_true] at h1 ⊢
    rcases h1 with (h1 | h1) | h1
    · exact .inl (.inl h1)
    · exact .inl (.inr (Nat.ble_eq_true_of_le (by have := Nat.le_of_ble_eq_true h1; omega)))
    · exact .inr h1
  · intro e
    have h1 := List.all_eq_true.1 h (o, k) (zip_mem (by simpa using ho))
    simp only [Bool.or_eq_true, e] at h1
    rcases h1 with (h1 | h1) | h1
    · have := Nat.le_of_ble_eq_true h1; omega
    · have := Nat.le_of_ble_eq_true h1; omega
    · simp at h1
theorem ev_put {P : Program} {nt : Nat} {ts ts' : Tr Value} {d : Option Tmp} {v : Value} {t : Nat} (hp : putA nt ts d v = some ts') (hd : d ≠ some t) : ev P ts' (.tmp t) = ev P ts (.tmp t) := by
  unfold putA at hp
  split at hp
  · cases hp; rfl
  · rename_i d
    split at hp
    · cases hp
      simp only [ev, Tr.get_set]
      rw [if_neg (fun e => hd (by rw [e]))]
    · cases hp
theorem StillThere.step {P : Program} {ops : Array Oper} {nt k : Nat} {tv tv' : Tr Value} {rq : List (Nat × Nat)} {o : Oper} {v : Value} (h : StillThere P ops k tv rq) (hk : ∀ y ∈ rq, y.1 < k) (ho : ops[k]? = some o) (hp : putA nt tv o.dst v = some tv') : StillThere P ops (k + 1) tv' rq := fun y hy o' ty t h1 h2 h3 => by
  obtain ⟨s1, s2⟩ := stays_succ h3 ho (Nat.le_of_lt (hk y hy))
  rw [ev_put hp s2]
  exact h y hy o' ty t h1 h2 s1
theorem TurnOK.step {B : Nat} {ops : Array Oper} {k : Nat} {rq : List (Nat × Nat)} {x : Nat × Turned} (h : TurnOK B ops k rq x) : TurnOK B ops (k + 1) rq x :=
  h.imp (fun h => h) (fun ⟨c, h1, h2, h3, h4⟩ => ⟨c, h1, h2, h3, fun i o hi => h4 i o (by omega)⟩)
theorem TurnOK.read {B : Nat} {ops : Array Oper} {k b : Nat} {rq : List (Nat × Nat)} {x : Nat × Turned} {o : Oper} (h : TurnOK B ops k rq x) (ho : ops[k]? = some o) (hb : (∃ ty xo, o.op = .load ty xo) ∨ (B ≤ b ∧ kindOf o.op = 1)) : TurnOK B ops (k + 1) ((k, b) :: rq) x :=
  h.imp (fun h => h) (fun ⟨c, h1, h2, h3, h4⟩ => ⟨c, h1, h2, fun y hy => (List.mem_cons.1 hy).elim (fun e => by
    subst e
    rcases hb with hb | ⟨hb, hk⟩
    · exact .inr (h4 k o (Nat.le_refl _) ho hb)
    · rcases h2 with h2 | h2
      · exact .inl (by simp only []; omega)
      · exact .inr (h2 k o ho hk)) (h3 y), fun i o hi => h4 i o (by omega)⟩)
theorem StillThere.read {P : Program} {ops : Array Oper} {nt k b : Nat} {tv tv' : Tr Value} {rq : List (Nat × Nat)} {o : Oper} {v : Value} (h : StillThere P ops k tv rq) (hk : ∀ y ∈ rq, y.1 < k) (ho : ops[k]? = some o) (hp : putA nt tv o.dst v = some tv')
    (hb : ∀ ty t, o.op = .load ty (.tmp t) → ∃ a, ev P tv (.tmp t) = some (.pointer (some a)) ∧ a.block = b) : StillThere P ops (k + 1) tv' ((k, b) :: rq) := fun y hy o' ty t h1 h2 h3 => by
  rcases List.mem_cons.1 hy with rfl | hy
  · obtain ⟨s1, s2⟩ := stays_succ h3 ho (Nat.le_refl _)
    obtain rfl : o = o' := Option.some.inj (ho.symm.trans h1)
    rw [ev_put hp s2]
    exact hb ty t h2
  · exact h.step hk ho hp y hy o' ty t h1 h2 h3
structure DI (P : Program) (Y : Pol) (f : FuncId) (B n : Nat) (ops : Array Oper) (k : Nat) (C : Ctx) (h : AHeap) (σ : St) (tv : Tr Value) (RQ : List (Nat × Nat)) (RL : List (Nat × Turned)) : Prop where
  st : ST P Y f C h σ tv
  nx : B + ops.size ≤ h.next
  fr : ∀ id, Ids C id → id < B ∨ (∃ j, j < k ∧ id = B + j) ∨ B + ops.size ≤ id
  bo : ∀ b id, C.β b = some id → b < n → id < B
  nm : noMaker ops k = true → ∀ id, Ids C id → id < B
  len : n ≤ σ.hp.length
  lo : ∀ id t, C.ow id = some (.tmp t) → Y.keep f t = false → B + ops.size ≤ id
  rq : ∀ x ∈ RQ, x.1 < k ∧ x.2 < B + ops.size ∧ ∃ o, ops[x.1]? = some o ∧ (marks o = true ∨ noMaker ops ops.size = true)
  rl : ∀ x ∈ RL, TurnOK B ops k RQ x ∧ ∃ o, ops[x.1]? = some o ∧ marks o = false ∧ kindOf o.op ≠ 0
  rt : StillThere P ops k tv RQ
  rm : ∀ y ∈ RQ, (∃ o ty x, ops[y.1]? = some o ∧ o.op = .load ty x) ∨ (B ≤ y.2 ∧ ∃ o, ops[y.1]? = some o ∧ kindOf o.op = 1) ∨ noMaker ops ops.size = true
theorem LOK.ids {C : Ctx} {hp : List (Option (List PV))} {h : AHeap} (hi : HI C h hp) {π : Option Pl} {k : Vl} {b : Nat} (hk : LOK C π k b) : Ids C b := by
  cases k with
  | fz => exact .inl (hi.fzx b hk)
  | bor => exact .inl hk.1
  | own => obtain ⟨p, _, h2⟩ := hk; exact .inr (.inl ⟨p, h2⟩)
  | rf p => exact .inr (.inl ⟨p, hk.1⟩)
  | pt p => exact .inr (.inl ⟨p, hk.1⟩)
theorem LOK.ne {C : Ctx} {h : AHeap} {hp : List (Option (List PV))} (hi : HI C h hp) {π : Option Pl} {k : Vl} {b id : Nat} {i : Nat} (hβ : C.β i = some id) (hne : ¬ C.fx id) (hk : LOK C π k b) : b ≠ id := fun e => by
  subst e
  obtain ⟨_, n1, n2, _⟩ := hi.βl i b hβ
  cases k with
  | fz => exact hne (hi.fzx b hk)
  | bor => exact hne hk.1
  | own => obtain ⟨p, _, h2⟩ := hk; rw [n2] at h2; cases h2
  | rf p => have h2 := hk.1; rw [n2] at h2; cases h2
  | pt p => have h2 := hk.1; rw [n2] at h2; cases h2
theorem DI.store {k : Nat} {C : Ctx} {h : AHeap} {σ : St} {tv : Tr Value} {rq : List (Nat × Nat)} {rl : List (Nat × Turned)} {o : Oper} {lw : Nat} (D : DI P Y f B n ops k C h σ tv rq rl) (ho : ops[k]? = some o)
    (hs : StoreAt P Y f C σ tv (some ⟨ops, k, n⟩) o.op) : TurnOK B ops (k + 1) rq (k, lw, storeB P o tv) := by
  obtain ⟨a, ty, xo, yo, b, off, id, e, hop, hev, hβ, hm, hnfx⟩ := hs
  cases e
  have hall := hm
  simp only [mayStore] at hall
  have hmk : id < B ∨ ∀ (i : Nat) (o : Oper), ops[i]? = some o → kindOf o.op = 1 → ordered ops i k = true := by
    cases hbn : Nat.blt b n with
    | true => exact .inl (D.bo b id hβ (Nat.le_of_ble_eq_true hbn))
    | false =>
      refine .inr fun i o' hoi hk => ?_
      have h1 := List.all_eq_true.1 hall (o', i) (zip_mem (by simpa using hoi))
      simp only [Bool.or_eq_true] at h1
      rcases h1 with (h1 | h1) | h1
      · obtain rfl := Nat.eq_of_beq_eq_true h1
        obtain rfl : o = o' := Option.some.inj (ho.symm.trans hoi)
        rw [hop] at hk; cases hk
      · exact h1
      · split at h1
        · rename_i e; rw [e] at hk; cases hk
        · rename_i e; rw [e] at hk; cases hk
        · rw [hk, hbn] at h1; cases h1
  refine .inr ⟨id, by simp [storeB, hop, hev], hmk, fun y hy => ?_, fun i o' hi hoi hl => ?_⟩
  · obtain ⟨y1, y2, o', y3, y4⟩ := D.rq y hy
    rcases D.rm y hy with ⟨o', ty', x', e1, e2⟩ | hge
    · have h1 := List.all_eq_true.1 hall (o', y.1) (zip_mem (by simpa using e1))
      simp only [Bool.or_eq_true, e2] at h1
      rcases h1 with (h1 | h1) | h1
      · have := Nat.eq_of_beq_eq_true h1; omega
      · exact .inr h1
      · refine .inl ?_
        split at h1
        · rename_i t hx
          cases hx
          simp only [Bool.and_eq_true] at h1
          obtain ⟨⟨_, h2⟩, h3⟩ := h1
          obtain ⟨a, r1, r2⟩ := D.rt y hy o' ty' t e1 e2 h2
          split at h3
          · rename_i v hv
            obtain ⟨x', p1, p2⟩ := pev_sim D.st.tr D.st.gr hv
            obtain rfl : Value.pointer (some a) = x' := Option.some.inj (r1.symm.trans p1)
            cases v with
            | p b' off' =>
              obtain ⟨id', q1, q2⟩ := (p2 0).inv_p
              cases q2
              intro e
              rw [← r2] at e
              simp only [] at e
              rw [e] at q1
              have := D.st.hi.inj b b' id hβ q1
              simp [apartP, this] at h3
            | r kk cs =>
              obtain ⟨a', Bk, q1, _, _, q2, _⟩ := (p2 0).inv_r
              cases q1
              rw [← r2]
              exact LOK.ne D.st.hi hβ hnfx q2
            | _ => cases h3
          · cases h3
        · cases h1
        · rename_i hx; first | exact absurd rfl (hx _ _) | (exact absurd rfl (by assumption))
    · rcases hge with ⟨hge, o', hoi, hk⟩ | hge
      · rcases hmk with hmk | hmk
        · exact .inl (by omega)
        · exact .inr (hmk y.1 o' hoi hk)
      · have := noMaker_get hge ho (Array.getElem?_eq_some_iff.1 ho).1
        rw [hop] at this; cases this
  · obtain ⟨ty', x', e2⟩ := hl
    have h1 := List.all_eq_true.1 hall (o', i) (zip_mem (by simpa using hoi))
    simp only [Bool.or_eq_true, e2] at h1
    rcases h1 with (h1 | h1) | h1
    · have := Nat.eq_of_beq_eq_true h1; omega
    · exact h1
    · split at h1
      · simp only [Bool.and_eq_true] at h1
        have := Nat.le_of_ble_eq_true h1.1.1; omega
      · cases h1
      · rename_i hx; exact absurd rfl (hx _ _)
end
end Go.Pur
namespace Go.Pur
open Go.Abs
def allK : Nat → Bool := fun _ => true
theorem Step.any {K : Nat → Bool} {N : Nat → Prop} {C C' : Ctx} {h h' : AHeap} {σ σ' : St} (s : Step K N C h σ C' h' σ') : Step allK N C h σ C' h' σ' :=
  ⟨s.ext, s.ids, s.len, s.bnew, s.wlm, (fun _ _ e => by cases e), s.lp⟩
def endOw (n d : Nat) : Option Pl → Option Pl
  | some (.cell b i) => match Nat.blt b n with
    | true => some (.cell b i)
    | false => none
  | some (.tmp t) => match Nat.beq t d with
    | true => some (.tmp t)
    | false => none
  | none => none
def endC (n d : Nat) (C : Ctx) : Ctx := ⟨C.sz, fun b => match Nat.blt b n with
    | true => C.β b
    | false => none, fun id => C.fz id ∨ ∃ b, n ≤ b ∧ C.β b = some id, fun id => C.fx id ∨ ∃ b, n ≤ b ∧ C.β b = some id, fun id => endOw n d (C.ow id)⟩
section
variable {P : Program} {Y : Pol} {f : FuncId} {C C' : Ctx} {h h' : AHeap} {σ σ' : St} {tv : Tr Value} {n d : Nat}
theorem endC_β {b : Nat} (h : b < n) : (endC n d C).β b = C.β b := by
  simp only [endC, show Nat.blt b n = true from Nat.ble_eq_true_of_le h]
theorem cell_noref {cs : List PV} (h : ∀ v ∈ cs, cellOK v = true) {i : Nat} (hi : i < cs.length) : noref (cs.getD i .dead) = true := by
  have := h _ (List.getElem_mem hi)
  simp only [cellOK, Bool.and_eq_true] at this
  rw [List.getD_eq_getElem?_getD, List.getElem?_eq_getElem hi]
  exact this.2
theorem norefs_get : ∀ {cs : List PV}, noref.norefs cs = true → ∀ {i : Nat}, i < cs.length → noref (cs.getD i .dead) = true
  | [], _, i, hi => absurd hi (Nat.not_lt_zero _)
  | c :: cs, h, i, hi => by
    simp only [noref.norefs, Bool.and_eq_true] at h
    cases i with
    | zero => simpa using h.1
    | succ i => simpa using norefs_get h.2 (i := i) (by simpa using hi)
theorem refsTo_get {b : Nat} : ∀ {cs : List PV}, refsTo.go b cs = true → ∀ {i : Nat}, i < cs.length → refsTo b (cs.getD i .dead) = true
  | [], _, i, hi => absurd hi (Nat.not_lt_zero _)
  | c :: cs, h, i, hi => by
    simp only [refsTo.go, Bool.and_eq_true] at h
    cases i with
    | zero => simpa using h.1
    | succ i => simpa using refsTo_get h.2 (i := i) (by simpa using hi)
theorem VR.drop {π : Option Pl} {v : PV} {x : Value} (hv : VR C h π v x) (hπ : π = none) (hr : noref v = true ∨ ∃ b, b < n ∧ refsTo b v = true) : VR (endC n d C) h none v x := by
  induction hv with
  | v π x hp hn => exact .v _ x hp hn
  | un => exact .un _
  | dead => exact .dead _ _
  | nil π k c => exact .nil _ k c
  | lst π k c m cs a cap B hb hs hk hn hc hl hv ih =>
    subst hπ
    cases k with
    | fz => exact .lst _ _ _ _ _ _ _ B hb hs (.inl hk) hn (hc.re rfl) hl (fun i hi => ih i hi rfl (.inl (cell_noref hc.one hi)))
    | bor => obtain ⟨_, _, e⟩ := hk; cases e
    | own => obtain ⟨_, e, _⟩ := hk; cases e
    | rf p => obtain ⟨_, _, e⟩ := hk; cases e
    | pt p => obtain ⟨_, _, e⟩ := hk; cases e
  | r π k cs a B hb hs hk hi hl hv ih =>
    rcases hr with hr | ⟨b, _, hr⟩
    · simp [noref] at hr
    · simp [refsTo] at hr
  | it π s pos id t h1 => rw [hπ] at h1; cases h1
  | m π k es c id hk hi =>
    subst hπ
    cases k with
    | fz => exact .m _ _ _ _ _ (.inl hk) hi
    | bor => obtain ⟨_, _, e⟩ := hk; cases e
    | own => obtain ⟨_, e, _⟩ := hk; cases e
    | rf p => obtain ⟨_, _, e⟩ := hk; cases e
    | pt p => obtain ⟨_, _, e⟩ := hk; cases e
  | p π b off id hb =>
    rcases hr with hr | ⟨b', hlt, hr⟩
    · simp [noref] at hr
    · simp only [refsTo] at hr
      exact .p _ _ _ _ (by rw [endC_β (Nat.lt_of_le_of_lt (Nat.le_of_ble_eq_true hr) hlt)]; exact hb)
  | s π b off m cap id hb hc hn =>
    rcases hr with hr | ⟨b', hlt, hr⟩
    · simp [noref] at hr
    · simp only [refsTo] at hr
      exact .s _ _ _ _ _ _ (by rw [endC_β (Nat.lt_of_le_of_lt (Nat.le_of_ble_eq_true hr) hlt)]; exact hb) hc hn
  | a π cs l hs hv ih =>
    refine .a _ _ _ hs (fun i hi => ih i hi rfl ?_)
    rcases hr with hr | ⟨b, hlt, hr⟩
    · simp only [noref] at hr; exact .inl (norefs_get hr hi)
    · simp only [refsTo] at hr; exact .inr ⟨b, hlt, refsTo_get hr hi⟩
  | t π cs l hs hv ih =>
    rcases hr with hr | ⟨b, _, hr⟩
    · simp [noref] at hr
    · simp [refsTo] at hr
  | f π g as bs as' bs' ha hb hA hB iA iB =>
    refine .f _ _ _ _ _ _ ha hb (fun i hi => iA i hi rfl ?_) (fun i hi => iB i hi rfl ?_)
    · rcases hr with hr | ⟨b, hlt, hr⟩
      · simp only [noref, Bool.and_eq_true] at hr; exact .inl (norefs_get hr.1 hi)
      · simp only [refsTo, Bool.and_eq_true] at hr; exact .inr ⟨b, hlt, refsTo_get hr.1 hi⟩
    · rcases hr with hr | ⟨b, hlt, hr⟩
      · simp only [noref, Bool.and_eq_true] at hr; exact .inl (norefs_get hr.2 hi)
      · simp only [refsTo, Bool.and_eq_true] at hr; exact .inr ⟨b, hlt, refsTo_get hr.2 hi⟩
  | i π ty x x' hx ih =>
    refine .i _ _ _ _ (ih rfl ?_)
    rcases hr with hr | ⟨b, hlt, hr⟩
    · simp only [noref] at hr; exact .inl hr
    · simp only [refsTo] at hr; exact .inr ⟨b, hlt, hr⟩
theorem LP1.get : ∀ {us : List PV} {xs : List Value}, LP1 C h us xs → xs.length = us.length ∧ ∀ (i : Nat) u, us[i]? = some u → ∃ x, xs[i]? = some x ∧ VA C h u x ∧ loose u = false
  | [], [], _ => ⟨rfl, fun i u h => by simp at h⟩
  | u :: us, x :: xs, hl => by
    obtain ⟨h1, h2⟩ := LP1.get hl.2
    refine ⟨by simp [h1], fun i v hv => ?_⟩
    cases i with
    | zero => cases hv; exact ⟨x, rfl, hl.1⟩
    | succ i => exact h2 i v (by simpa using hv)
  | [], _ :: _, hl => hl.elim
  | _ :: _, [], hl => hl.elim
end
end Go.Pur
namespace Go.Pur
open Go.Abs
def codeOK : Code → Bool
  | .region _ ops draw => match draw with
    | true => drawOK ops
    | false => true
  | .seq a b => codeOK a && codeOK b
  | .cond _ a b => codeOK a && codeOK b
  | .block _ b => codeOK b
  | .loop b => codeOK b
  | _ => true
def progOK (P : Program) : Bool := P.funcs.toList.all fun fn => match fn.body with
  | some c => codeOK c
  | none => true
section
variable {P : Program} {Y : Pol} {f : FuncId}
end
end Go.Pur
namespace Go.Pur
open Go.Abs
noncomputable def lim {α : Type} (F : Nat → Option α) : Option α :=
  haveI := Classical.propDecidable (∃ n, (F n).isSome = true)
  if h : ∃ n, (F n).isSome = true then F h.choose else none
section
variable {P : Program} {Y : Pol} {f : FuncId}
noncomputable def EC (P : Program) (Y : Pol) (f : FuncId) (nt : Nat) : PCodeF := fun c σ => lim fun n => pcode P Y n f nt c σ
noncomputable def E (P : Program) (Y : Pol) : PCallF := fun g a hp => lim fun n => purRun P Y n g a hp
variable {nt : Nat} {σ : St}
inductive Fm where
  | c (c : Code)
  | blk (id : Nat)
  | lp (b : Code)
noncomputable def EK (P : Program) (Y : Pol) (f : FuncId) (nt : Nat) : List Fm → St → Option (AExit × St)
  | [], σ => some (.normal, σ)
  | .c c :: k, σ => match EC P Y f nt c σ with
    | some (.normal, σ') => EK P Y f nt k σ'
    | some (.exit j, σ') => ex j k σ'
    | r => r
  | .blk _ :: k, σ => EK P Y f nt k σ
  | .lp b :: k, σ => match EC P Y f nt (.loop b) σ with
    | some (.normal, σ') => EK P Y f nt k σ'
    | some (.exit j, σ') => ex j k σ'
    | r => r
where ex (j : Nat) : List Fm → St → Option (AExit × St)
  | [], σ => some (.exit j, σ)
  | .c _ :: k, σ => ex j k σ
  | .blk id :: k, σ => match Nat.beq j id with
    | true => EK P Y f nt k σ
    | false => ex j k σ
  | .lp _ :: k, σ => ex j k σ
variable {k : List Fm}
noncomputable def EB (P : Program) (Y : Pol) (f : FuncId) (nt : Nat) (o : Option Bool) (a b : Code) (k : List Fm) (σ : St) : Option (AExit × St) :=
  match o with
  | some true => EK P Y f nt (.c a :: k) σ
  | some false => EK P Y f nt (.c b :: k) σ
  | none => none
noncomputable def EO (P : Program) (Y : Pol) (f : FuncId) (nt : Nat) (draw : Bool) (ops : Array Oper) (n i : Nat) (l : List Oper) (k : List Fm) (σ : St) : Option (AExit × St) :=
  match pops P Y f (E P Y) draw nt ops n i l σ with
  | some σ' => EK P Y f nt k σ'
  | none => none
noncomputable def EO1 (P : Program) (Y : Pol) (f : FuncId) (nt : Nat) (draw : Bool) (ops : Array Oper) (n i : Nat) (w : Option Bool) (o : Oper) (l : List Oper) (k : List Fm) (σ : St) : Option (AExit × St) :=
  match w with
  | some true => match poper P Y f (E P Y) (drOf draw ops i n) o.op (premv Y f draw o σ) with
    | some (v, σ') => match pputT Y f nt (isAssign o.op) o.dst v σ' with
      | some σ'' => EO P Y f nt draw ops n (i + 1) l k σ''
      | none => none
    | none => none
  | some false => match pskip Y f nt o.dst σ with
    | some σ' => EO P Y f nt draw ops n (i + 1) l k σ'
    | none => none
  | none => none
noncomputable def EO2 (P : Program) (Y : Pol) (f : FuncId) (nt : Nat) (draw : Bool) (ops : Array Oper) (n i : Nat) (asg : Bool) (dst : Option Tmp) (r : Option (PV × St)) (l : List Oper) (k : List Fm) : Option (AExit × St) :=
  match r with
  | some (v, σ') => match pputT Y f nt asg dst v σ' with
    | some σ'' => EO P Y f nt draw ops n (i + 1) l k σ''
    | none => none
  | none => none
noncomputable def EO3 (P : Program) (Y : Pol) (f : FuncId) (nt : Nat) (draw : Bool) (ops : Array Oper) (n i : Nat) (r : Option St) (l : List Oper) (k : List Fm) : Option (AExit × St) :=
  match r with
  | some σ'' => EO P Y f nt draw ops n (i + 1) l k σ''
  | none => none
variable {draw : Bool} {ops : Array Oper} {n i : Nat} {l : List Oper}
end
end Go.Pur
