/-
  A region that draws its order: one walk of the text's order serves every order.
  Conditions: none; lemmas.
-/
import Derived.Test.YtcdhajbhpnbdkaaDoorAbsExt
set_option linter.unusedSimpArgs false
set_option linter.unusedVariables false
set_option linter.unusedSectionVars false
namespace Go.Abs

/-! ### Whatever order: an invariant over what has been carried out -/
theorem wpAny_inv {P : Program} {ops : Array Oper} {Q : Exit → Act → World → Prop} (I : Array Bool → Act → World → Prop)
    (hstep : ∀ listed a w, I listed a w → ∀ i ∈ Region.ready .any ops listed, wpOp P ops Q i (I (listed.setIfInBounds i true)) a w)
    (hend : ∀ listed a w, I listed a w → Region.ready .any ops listed = [] → Q .normal a w) :
    ∀ (fuel : Nat) (listed : Array Bool) (a : Act) (w : World), listed.size = ops.size → listed.toList.count false ≤ fuel → I listed a w → wpAny P .any ops Q fuel listed a w
  | 0, listed, a, w, hs, hc, hI => by
    have hr : Region.ready .any ops listed = [] := by
      rw [List.eq_nil_iff_forall_not_mem]
      intro i hi
      obtain ⟨h0, o, ho, _⟩ := mem_ready.1 hi
      have hlt : i < listed.size := by rw [hs]; exact (Array.getElem?_eq_some_iff.1 ho).1
      have hf : listed[i] = false := by simpa [Array.getD, hlt] using h0
      have : false ∈ listed.toList := by rw [← hf]; simp
      have := List.count_pos_iff.2 this
      omega
    exact ⟨hr, hend _ _ _ hI hr⟩
  | fuel + 1, listed, a, w, hs, hc, hI => by
    refine ⟨fun hr => hend _ _ _ hI hr, fun i hi => ?_⟩
    refine wpOp_mono (fun a' w' hI' => wpAny_inv I hstep hend fuel _ a' w' (by simpa using hs) ?_ hI') (hstep _ _ _ hI i hi)
    obtain ⟨h0, o, ho, _⟩ := mem_ready.1 hi
    have hlt : i < listed.size := by rw [hs]; exact (Array.getElem?_eq_some_iff.1 ho).1
    have hf : listed[i] = false := by simpa [Array.getD, hlt] using h0
    have hlt' : i < listed.toList.length := by simpa using hlt
    have hge : listed.toList[i] = false := by simpa using hf
    have hcs : (listed.toList.set i true).count false = listed.toList.count false - 1 := by
      rw [List.count_set hlt', hge]
      simp
    rw [Array.toList_setIfInBounds, hcs]
    omega

/-! ### What is ordered ahead -/
inductive Reach (ops : Array Oper) : Nat → Nat → Prop where
  | edge (i j : Nat) (o : Oper) (e : Edge) (ho : ops[j]? = some o) (he : e ∈ o.after) (hb : Region.binds .any e = true) (hi : e.on = i) : Reach ops i j
  | trans (i k j : Nat) (o : Oper) (e : Edge) (ho : ops[j]? = some o) (he : e ∈ o.after) (hb : Region.binds .any e = true) (hk : e.on = k) (hr : Reach ops i k) : Reach ops i j

theorem before_inner (ops : Array Oper) (acc : Array Nat) (hacc : ∀ j i, (acc.getD j 0).testBit i = true → Reach ops i j) (j : Nat) (o : Oper) (ho : ops[j]? = some o) :
    ∀ (es : List Edge) (_ : ∀ e ∈ es, e ∈ o.after) (s : Nat) (_ : ∀ i, s.testBit i = true → Reach ops i j) (i : Nat),
      (es.foldl (fun s e => if Region.binds .any e then s ||| 2 ^ e.on ||| acc.getD e.on 0 else s) s).testBit i = true → Reach ops i j
  | [], _, s, hs, i, hi => hs i hi
  | e :: es, he, s, hs, i, hi => by
    rw [List.foldl_cons] at hi
    refine before_inner ops acc hacc j o ho es (fun e' h' => he e' (List.mem_cons_of_mem _ h')) _ (fun i' hi' => ?_) i hi
    split at hi'
    · rename_i hb
      rw [Nat.testBit_or, Nat.testBit_or, Nat.testBit_two_pow] at hi'
      simp only [Bool.or_eq_true, decide_eq_true_eq] at hi'
      rcases hi' with (h1 | h1) | h1
      · exact hs i' h1
      · exact .edge i' j o e ho (he e (List.mem_cons_self ..)) hb h1
      · exact .trans i' e.on j o e ho (he e (List.mem_cons_self ..)) hb rfl (hacc _ _ h1)
    · exact hs i' hi'

theorem before_outer (ops : Array Oper) : ∀ (l : List Oper) (acc : Array Nat) (_ : ∀ k, l[k]? = ops[acc.size + k]?) (_ : ∀ j i, (acc.getD j 0).testBit i = true → Reach ops i j),
    ∀ j i, ((l.foldl (fun acc o => acc.push (o.after.foldl (fun s e => if Region.binds .any e then s ||| 2 ^ e.on ||| acc.getD e.on 0 else s) 0)) acc).getD j 0).testBit i = true → Reach ops i j
  | [], acc, _, hacc, j, i, h => hacc j i h
  | o :: l, acc, hl, hacc, j, i, h => by
    rw [List.foldl_cons] at h
    refine before_outer ops l _ (fun k => ?_) (fun j' i' h' => ?_) j i h
    · have := hl (k + 1)
      rw [Array.size_push]
      simpa [Nat.add_assoc, Nat.add_comm 1 k] using this
    · rw [Array.getD_eq_getD_getElem?, Array.getElem?_push] at h'
      split at h'
      · rename_i he
        subst he
        simp only [Option.getD_some] at h'
        rw [← Array.foldl_toList] at h'
        refine before_inner ops acc hacc acc.size o (by simpa using (hl 0).symm) o.after.toList (fun e he => by simpa using he) 0 (fun i hi => by simp at hi) i' h'
      · rw [← Array.getD_eq_getD_getElem?] at h'
        exact hacc j' i' h'

theorem befOf_reach {ops : Array Oper} {i j : Nat} (h : befOf ops i j = true) : Reach ops i j := by
  unfold befOf Region.before at h
  rw [← Array.foldl_toList] at h
  exact before_outer ops ops.toList #[] (fun k => by simp) (fun j i h => by simp at h) j i h

/-- What has been carried out, closed under what must come ahead. -/
def Closed (ops : Array Oper) (S : Nat → Prop) : Prop := ∀ j o, S j → ops[j]? = some o → ∀ e ∈ o.after, Region.binds .any e = true → S e.on

theorem Reach.closed {ops : Array Oper} {S : Nat → Prop} (hc : Closed ops S) {i j : Nat} (hr : Reach ops i j) : (∀ o, ops[j]? = some o → ∀ e ∈ o.after, Region.binds .any e = true → S e.on) → S i := by
  induction hr with
  | edge j o e ho he hb hi => intro h; subst hi; exact h o ho e he hb
  | trans k j o e ho he hb hk hr ih =>
    intro h
    subst hk
    exact ih (fun o' ho' e' he' hb' => hc e.on o' (h o ho e he hb) ho' e' he' hb')

theorem Reach.lt {ops : Array Oper} (hlt : ∀ j o, ops[j]? = some o → ∀ e ∈ o.after, Region.binds .any e = true → e.on < j) {i j : Nat} (hr : Reach ops i j) : i < j := by
  induction hr with
  | edge j o e ho he hb hi => subst hi; exact hlt j o ho e he hb
  | trans k j o e ho he hb hk hr ih => subst hk; exact Nat.lt_trans ih (hlt j o ho e he hb)

/-! ### Operations look at their own operands alone -/
section
variable {P : Program}

theorem ev_tget (ts : Tr Value) (t : Tmp) : ev P ts (.tmp t) = some (tget ts t) := by
  simp only [ev, tget]
  cases h : ts.get t <;> rfl

theorem ev_congr {ts ts' : Tr Value} {x : Operand} (h : ∀ t, x = .tmp t → tget ts t = tget ts' t) : ev P ts x = ev P ts' x := by
  cases x with
  | tmp t => rw [ev_tget, ev_tget, h t rfl]
  | _ => rfl

theorem evs_congr {ts ts' : Tr Value} : ∀ {l : List Operand}, (∀ x ∈ l, ev P ts x = ev P ts' x) → evs P ts l = evs P ts' l
  | [], _ => rfl
  | x :: l, h => by
    simp only [evs]
    rw [h x (List.mem_cons_self ..), evs_congr (fun y hy => h y (List.mem_cons_of_mem _ hy))]

theorem evParts_congr {ts ts' : Tr Value} : ∀ {l : List (Nat × Operand)}, (∀ x ∈ l, ev P ts x.2 = ev P ts' x.2) → evParts P ts l = evParts P ts' l
  | [], _ => rfl
  | (i, x) :: l, h => by
    simp only [evParts]
    rw [h (i, x) (List.mem_cons_self ..), evParts_congr (fun y hy => h y (List.mem_cons_of_mem _ hy))]

theorem optEv_congr {ts ts' : Tr Value} {x : Option Operand} (h : ∀ y, x = some y → ev P ts y = ev P ts' y) : optEv P ts x = optEv P ts' x := by
  cases x with
  | none => rfl
  | some x => simp only [optEv]; rw [h x rfl]

theorem aq_congr {op : Op} {ts ts' : Tr Value} (h : AHeap) (he : ∀ x ∈ op.operands, ev P ts x = ev P ts' x) : aq P op ts h = aq P op ts' h := by
  cases op with
  | move x => exact he x (by simp [Op.operands])
  | assign x => exact he x (by simp [Op.operands])
  | pick c x y => simp only [aq, aqPick, aqLoad, aqBuild, aqNil, aqBin, aqUn, aqConv, aqIface, aqFunc, aqSlice, aqFieldAddr, aqField, aqIndexAddr, aqIndex, aqExtract]; rw [he c (by simp [Op.operands]), he x (by simp [Op.operands]), he y (by simp [Op.operands])]
  | load t x => simp only [aq, aqPick, aqLoad, aqBuild, aqNil, aqBin, aqUn, aqConv, aqIface, aqFunc, aqSlice, aqFieldAddr, aqField, aqIndexAddr, aqIndex, aqExtract]; rw [he x (by simp [Op.operands])]
  | build t parts => simp only [aq, aqPick, aqLoad, aqBuild, aqNil, aqBin, aqUn, aqConv, aqIface, aqFunc, aqSlice, aqFieldAddr, aqField, aqIndexAddr, aqIndex, aqExtract]; rw [evParts_congr (fun x hx => he x.2 (by simp [Op.operands]; exact ⟨x.1, by simpa using hx⟩))]
  | nilCheck x => simp only [aq, aqPick, aqLoad, aqBuild, aqNil, aqBin, aqUn, aqConv, aqIface, aqFunc, aqSlice, aqFieldAddr, aqField, aqIndexAddr, aqIndex, aqExtract]; rw [he x (by simp [Op.operands])]
  | binOp op t x y yt => simp only [aq, aqPick, aqLoad, aqBuild, aqNil, aqBin, aqUn, aqConv, aqIface, aqFunc, aqSlice, aqFieldAddr, aqField, aqIndexAddr, aqIndex, aqExtract]; rw [he x (by simp [Op.operands]), he y (by simp [Op.operands])]
  | unOp op t x => simp only [aq, aqPick, aqLoad, aqBuild, aqNil, aqBin, aqUn, aqConv, aqIface, aqFunc, aqSlice, aqFieldAddr, aqField, aqIndexAddr, aqIndex, aqExtract]; rw [he x (by simp [Op.operands])]
  | convert s d x => simp only [aq, aqPick, aqLoad, aqBuild, aqNil, aqBin, aqUn, aqConv, aqIface, aqFunc, aqSlice, aqFieldAddr, aqField, aqIndexAddr, aqIndex, aqExtract]; rw [he x (by simp [Op.operands])]
  | makeInterface t x => simp only [aq, aqPick, aqLoad, aqBuild, aqNil, aqBin, aqUn, aqConv, aqIface, aqFunc, aqSlice, aqFieldAddr, aqField, aqIndexAddr, aqIndex, aqExtract]; rw [he x (by simp [Op.operands])]
  | makeFunc fn as bs => simp only [aq, aqPick, aqLoad, aqBuild, aqNil, aqBin, aqUn, aqConv, aqIface, aqFunc, aqSlice, aqFieldAddr, aqField, aqIndexAddr, aqIndex, aqExtract]; rw [evs_congr (l := as.toList) (fun x hx => he x (by simp [Op.operands]; exact .inl (by simpa using hx))), evs_congr (l := bs.toList) (fun x hx => he x (by simp [Op.operands]; exact .inr (by simpa using hx)))]
  | slice t x lo hi mx =>
    simp only [aq, aqPick, aqLoad, aqBuild, aqNil, aqBin, aqUn, aqConv, aqIface, aqFunc, aqSlice, aqFieldAddr, aqField, aqIndexAddr, aqIndex, aqExtract]
    rw [he x (by simp [Op.operands]), optEv_congr (x := lo) (fun y hy => he y (by simp [Op.operands, hy])), optEv_congr (x := hi) (fun y hy => he y (by simp [Op.operands, hy])), optEv_congr (x := mx) (fun y hy => he y (by simp [Op.operands, hy]))]
  | fieldAddr s x f => simp only [aq, aqPick, aqLoad, aqBuild, aqNil, aqBin, aqUn, aqConv, aqIface, aqFunc, aqSlice, aqFieldAddr, aqField, aqIndexAddr, aqIndex, aqExtract]; rw [he x (by simp [Op.operands])]
  | field t x f => simp only [aq, aqPick, aqLoad, aqBuild, aqNil, aqBin, aqUn, aqConv, aqIface, aqFunc, aqSlice, aqFieldAddr, aqField, aqIndexAddr, aqIndex, aqExtract]; rw [he x (by simp [Op.operands])]
  | indexAddr t x ix => simp only [aq, aqPick, aqLoad, aqBuild, aqNil, aqBin, aqUn, aqConv, aqIface, aqFunc, aqSlice, aqFieldAddr, aqField, aqIndexAddr, aqIndex, aqExtract]; rw [he x (by simp [Op.operands]), he ix (by simp [Op.operands])]
  | index t x ix => simp only [aq, aqPick, aqLoad, aqBuild, aqNil, aqBin, aqUn, aqConv, aqIface, aqFunc, aqSlice, aqFieldAddr, aqField, aqIndexAddr, aqIndex, aqExtract]; rw [he x (by simp [Op.operands]), he ix (by simp [Op.operands])]
  | extract t ix => simp only [aq, aqPick, aqLoad, aqBuild, aqNil, aqBin, aqUn, aqConv, aqIface, aqFunc, aqSlice, aqFieldAddr, aqField, aqIndexAddr, aqIndex, aqExtract]; rw [he t (by simp [Op.operands])]
  | call c =>
    obtain ⟨callee, args, types⟩ := c
    cases callee with
    | value f => rfl
    | invoke r s => rfl
    | builtin b =>
      have ha : ∀ x ∈ args.toList, ev P ts x = ev P ts' x := fun x hx => he x (by simp [Op.operands, Call.operands]; simpa using hx)
      cases b <;> first | rfl | skip
      case len =>
        rcases hargs : args.toList with _ | ⟨x, _ | ⟨y, r⟩⟩ <;> simp only [aq, aqBuiltin, aqLen, aqCap, hargs]
        rw [ha x (by rw [hargs]; simp)]
      case cap =>
        rcases hargs : args.toList with _ | ⟨x, _ | ⟨y, r⟩⟩ <;> simp only [aq, aqBuiltin, aqLen, aqCap, hargs]
        rw [ha x (by rw [hargs]; simp)]
      case max => simp only [aq, aqBuiltin, aqMax]; rw [evs_congr ha]
      case min => simp only [aq, aqBuiltin, aqMin]; rw [evs_congr ha]
  | _ => rfl

theorem anew_congr {op : Op} {ts ts' : Tr Value} (id : Nat) (he : ∀ x ∈ op.operands, ev P ts x = ev P ts' x) : anew P op ts id = anew P op ts' id := by
  cases op with
  | box e x => simp only [anew]; rw [he x (by simp [Op.operands])]
  | buildSlice t n parts => simp only [anew]; rw [evParts_congr (fun x hx => he x.2 (by simp [Op.operands]; exact ⟨x.1, by simpa using hx⟩))]
  | makeSlice t l c => simp only [anew]; rw [he l (by simp [Op.operands]), he c (by simp [Op.operands])]
  | _ => rfl

theorem aloud_congr {op : Op} {ts ts' : Tr Value} (h : AHeap) (he : ∀ x ∈ op.operands, ev P ts x = ev P ts' x) : aloud P op ts h = aloud P op ts' h := by
  cases op with
  | store t x y => simp only [aloud]; rw [he x (by simp [Op.operands]), he y (by simp [Op.operands])]
  | call c =>
    obtain ⟨callee, args, types⟩ := c
    cases callee with
    | value f => rfl
    | invoke r s => rfl
    | builtin b =>
      have ha : ∀ x ∈ args.toList, ev P ts x = ev P ts' x := fun x hx => he x (by simp [Op.operands, Call.operands]; simpa using hx)
      cases b <;> first | rfl | skip
      case append => simp only [aloud]; rw [evs_congr ha]
      case copy => simp only [aloud]; rw [evs_congr ha]
      case clear => simp only [aloud]; rw [evs_congr ha]
  | _ => rfl

theorem acallOp_congr {call : CallF} {op : Op} {ts ts' : Tr Value} (h : AHeap) (he : ∀ x ∈ op.operands, ev P ts x = ev P ts' x) : acallOp P call op ts h = acallOp P call op ts' h := by
  cases op with
  | call c =>
    obtain ⟨callee, args, types⟩ := c
    cases callee with
    | value f =>
      simp only [acallOp]
      rw [he f (by simp [Op.operands, Call.operands]), evs_congr (fun x hx => he x (by simp [Op.operands, Call.operands]; exact .inr (by simpa using hx)))]
    | _ => rfl
  | _ => rfl

theorem aoper_congr {call : CallF} {o : Oper} {ts ts' : Tr Value} (h : AHeap) (he : ∀ x ∈ o.op.operands, ev P ts x = ev P ts' x) : aoper P call o ts h = aoper P call o ts' h := by
  unfold aoper
  rw [aq_congr h he, anew_congr h.next he, aloud_congr h he, acallOp_congr h he]

theorem wantedA_congr {ops : Array Oper} {o : Oper} {ts ts' : Tr Value} (h : ∀ t, (∀ j w, o.guard = some (j, w) → (ops[j]?).bind (·.dst) = some t → tget ts t = tget ts' t)) : wantedA ops o ts = wantedA ops o ts' := by
  unfold wantedA
  cases hg : o.guard with
  | none => rfl
  | some q =>
    obtain ⟨j, w⟩ := q
    simp only []
    cases hd : (ops[j]?).bind (·.dst) with
    | none => rfl
    | some t =>
      have he := h t j w hg hd
      simp only []
      unfold tget at he
      cases h1 : ts.get t <;> cases h2 : ts'.get t <;> simp only [h1, h2] at he ⊢
      · rw [← he]; rfl
      · rw [he]; rfl
      · rw [he]

/-- Only a load looks at the heap, and at its block alone. -/
theorem aq_heap {o : Oper} {ts : Tr Value} {h h' : AHeap} (hb : ∀ b, loadBlock P o ts = some b → h.get b = h'.get b) : aq P o.op ts h = aq P o.op ts h' := by
  obtain ⟨dst, op, type, pos, after, guard⟩ := o
  cases op with
  | load t x =>
    simp only [aq, aqLoad]
    split
    · rename_i v hv
      unfold aload
      split
      · rename_i a
        have := hb a.block (by simp [loadBlock, hv])
        rw [this]
      · rfl
    · rfl
  | call c =>
    obtain ⟨callee, args, types⟩ := c
    cases callee with
    | builtin b => cases b <;> rfl
    | _ => rfl
  | _ => rfl

/-! ### The walk of the text's order, step by step -/
variable {call : CallF} {nt base : Nat} {ops : Array Oper}

/-- What one operation did there: temporaries and heap ahead of it, its value, temporaries and heap behind it; 'RQ', 'RL': what was noted in all. -/
def StepD (P : Program) (call : CallF) (nt base : Nat) (ops : Array Oper) (RQ RL : List (Nat × Nat)) (i : Nat) (o : Oper) (ts : Tr Value) (h : AHeap) (v : Value) (ts' : Tr Value) (h' : AHeap) : Prop :=
  putA nt ts o.dst v = some ts' ∧
  ((wantedA ops o ts = false ∧ v = undef ∧ h' = h) ∨
   (wantedA ops o ts = true ∧ kindOf o.op = 0 ∧ aq P o.op ts h = some v ∧ h' = h ∧ ∀ b, loadBlock P o ts = some b → b < base ∧ (i, b) ∈ RQ) ∨
   (wantedA ops o ts = true ∧ kindOf o.op = 1 ∧ (∃ B, anew P o.op ts (base + i) = some (v, B) ∧ h' = { h with m := h.m.set (base + i) (some B) }) ∧ (i, base + i) ∈ RQ) ∨
   (wantedA ops o ts = true ∧ 2 ≤ kindOf o.op ∧ ∃ h1, aoper P call o ts { h with low := h.next } = some (v, h1) ∧ h' = { h1 with low := Nat.min h.low h1.low } ∧ (i, h1.low) ∈ RL))

/-- The record of the whole walk. -/
structure Rec (P : Program) (call : CallF) (nt base : Nat) (ops : Array Oper) (RQ RL : List (Nat × Nat)) (k n : Nat) (ts : Tr Value) (h : AHeap) (ts' : Tr Value) (h' : AHeap) (T : Nat → Tr Value) (H : Nat → AHeap) (V : Nat → Value) : Prop where
  t0 : T k = ts
  h0 : H k = h
  t1 : T n = ts'
  h1 : H n = h'
  le : k ≤ n
  size : n = ops.size
  step : ∀ i o, k ≤ i → ops[i]? = some o → StepD P call nt base ops RQ RL i o (T i) (H i) (V i) (T (i + 1)) (H (i + 1))

theorem aopsD_mono : ∀ {l : List Oper} {k : Nat} {ts ts' : Tr Value} {h h' : AHeap} {rq rl rq' rl' : List (Nat × Nat)}, aopsD P call nt base ops l k ts h rq rl = some (ts', h', rq', rl') → (∀ x ∈ rq, x ∈ rq') ∧ ∀ x ∈ rl, x ∈ rl'
  | [], k, ts, ts', h, h', rq, rl, rq', rl', ha => by cases ha; exact ⟨fun _ h => h, fun _ h => h⟩
  | o :: l, k, ts, ts', h, h', rq, rl, rq', rl', ha => by
    unfold aopsD at ha
    repeat' (split at ha)
    all_goals first
      | (cases ha; done)
      | exact aopsD_mono ha
      | (obtain ⟨h1, h2⟩ := aopsD_mono ha; exact ⟨fun x hx => h1 x (List.mem_cons_of_mem _ hx), h2⟩)
      | (obtain ⟨h1, h2⟩ := aopsD_mono ha; exact ⟨h1, fun x hx => h2 x (List.mem_cons_of_mem _ hx)⟩)

theorem aopsD_rec : ∀ {l : List Oper} {k : Nat} {ts ts' : Tr Value} {h h' : AHeap} {rq rl rq' rl' : List (Nat × Nat)}, (∀ j, l[j]? = ops[k + j]?) → k + l.length = ops.size →
    aopsD P call nt base ops l k ts h rq rl = some (ts', h', rq', rl') → ∃ T H V, Rec P call nt base ops rq' rl' k ops.size ts h ts' h' T H V
  | [], k, ts, ts', h, h', rq, rl, rq', rl', hl, hk, ha => by
    cases ha
    refine ⟨fun _ => ts, fun _ => h, fun _ => undef, rfl, rfl, rfl, rfl, by simp at hk; omega, rfl, fun i o hi ho => ?_⟩
    have := (Array.getElem?_eq_some_iff.1 ho).1
    simp at hk; omega
  | o :: l, k, ts, ts', h, h', rq, rl, rq', rl', hl, hk, ha => by
    have ho : ops[k]? = some o := by simpa using (hl 0).symm
    have hl' : ∀ j, l[j]? = ops[k + 1 + j]? := fun j => by
      have := hl (j + 1); simpa [Nat.add_assoc, Nat.add_comm 1 j] using this
    have hk' : k + 1 + l.length = ops.size := by simp at hk; omega
    -- one step, and the rest
    have glue : ∀ (v : Value) (ts1 : Tr Value) (h1 : AHeap) (rq1 rl1 : List (Nat × Nat)), aopsD P call nt base ops l (k + 1) ts1 h1 rq1 rl1 = some (ts', h', rq', rl') →
        StepD P call nt base ops rq' rl' k o ts h v ts1 h1 → ∃ T H V, Rec P call nt base ops rq' rl' k ops.size ts h ts' h' T H V := by
      intro v ts1 h1 rq1 rl1 hrest hstep
      obtain ⟨T, H, V, r⟩ := aopsD_rec hl' hk' hrest
      have hle := r.le
      refine ⟨fun i => if i = k then ts else T i, fun i => if i = k then h else H i, fun i => if i = k then v else V i, by simp, by simp, ?_, ?_, by omega, rfl, fun i p hi hp => ?_⟩
      · rw [if_neg (by omega)]; exact r.t1
      · rw [if_neg (by omega)]; exact r.h1
      · by_cases e : i = k
        · subst e
          rw [ho] at hp; cases hp
          simp only [if_true]
          rw [if_neg (by omega), if_neg (by omega), r.t0, r.h0]
          exact hstep
        · simp only [if_neg e]
          rw [if_neg (by omega), if_neg (by omega)]
          exact r.step i p (by omega) hp
    unfold aopsD at ha
    split at ha
    · rename_i hw
      split at ha
      · rename_i hkind
        split at ha
        · rename_i v hv
          split at ha
          · rename_i ts1 hp
            split at ha
            · rename_i b hb
              split at ha
              · rename_i hlt
                rw [Nat.blt_eq] at hlt
                refine glue v ts1 h _ _ ha ⟨hp, .inr (.inl ⟨hw, hkind, hv, rfl, fun b' hb' => ?_⟩)⟩
                rw [hb] at hb'; cases hb'
                exact ⟨hlt, (aopsD_mono ha).1 _ (List.mem_cons_self ..)⟩
              · cases ha
            · rename_i hb
              exact glue v ts1 h _ _ ha ⟨hp, .inr (.inl ⟨hw, hkind, hv, rfl, fun b' hb' => by rw [hb] at hb'; cases hb'⟩)⟩
          · cases ha
        · cases ha
      · rename_i hkind
        split at ha
        · rename_i v B hv
          split at ha
          · rename_i ts1 hp
            exact glue v ts1 _ _ _ ha ⟨hp, .inr (.inr (.inl ⟨hw, hkind, ⟨B, hv, rfl⟩, (aopsD_mono ha).1 _ (List.mem_cons_self ..)⟩))⟩
          · cases ha
        · cases ha
      · rename_i hk0 hk1
        split at ha
        · rename_i v h1 hv
          split at ha
          · rename_i ts1 hp
            have h2 : 2 ≤ kindOf o.op := by
              rcases hq : kindOf o.op with _ | _ | q
              · exact (hk0 hq).elim
              · exact (hk1 hq).elim
              · omega
            exact glue v ts1 _ _ _ ha ⟨hp, .inr (.inr (.inr ⟨hw, h2, h1, hv, rfl, (aopsD_mono ha).2 _ (List.mem_cons_self ..)⟩))⟩
          · cases ha
        · cases ha
    · rename_i hw
      split at ha
      · rename_i ts1 hp
        exact glue undef ts1 h _ _ ha ⟨hp, .inl ⟨hw, rfl, rfl⟩⟩
      · cases ha

/-! ### What the text shows -/
structure Shown (ops : Array Oper) : Prop where
  lt : ∀ (j : Nat) (o : Oper), ops[j]? = some o → ∀ e ∈ o.after, Region.binds .any e = true → e.on < j
  once : ∀ (i j : Nat) (p o : Oper) (t : Tmp), ops[i]? = some p → ops[j]? = some o → p.dst = some t → o.dst = some t → i = j
  looks : ∀ (i j : Nat) (p o : Oper) (t : Tmp), ops[i]? = some p → ops[j]? = some o → p.dst = some t → t ∈ o.looksAt ops → i = j ∨ (i < j ∧ Reach ops i j) ∨ (j < i ∧ Reach ops j i)
  loud : ∀ (i j : Nat) (p o : Oper), ops[i]? = some p → ops[j]? = some o → loudOp p = true → loudOp o = true → i < j → Reach ops i j

theorem shown_of {ops : Array Oper} (h : drawOK ops = true) : Shown ops := by
  unfold drawOK at h
  rw [Bool.and_eq_true] at h
  have hall := List.all_eq_true.1 h.2
  have hmem : ∀ {j o}, ops[j]? = some o → (o, j) ∈ ops.toList.zipIdx := fun {j o} ho => by
    rw [List.mem_zipIdx_iff_getElem?]; simpa using ho
  have hpair : ∀ {i j p o}, ops[i]? = some p → ops[j]? = some o → drawPair ops p i o j = true := fun {i j p o} hp ho => by
    have h1 := hall _ (hmem ho)
    simp only [Bool.and_eq_true] at h1
    exact List.all_eq_true.1 h1.2 _ (hmem hp)
  refine ⟨fun j o ho e he hb => ?_, fun i j p o t hp ho hd he => ?_, fun i j p o t hp ho hd hl => ?_, fun i j p o hp ho h1 h2 hlt => ?_⟩
  · have h1 := hall _ (hmem ho)
    simp only [Bool.and_eq_true] at h1
    have h2 := List.all_eq_true.1 h1.1 e (by simpa using he)
    rw [hb] at h2
    simpa [Nat.blt_eq] using h2
  · have h1 := hpair hp ho
    unfold drawPair at h1
    simp only [hd, he, Bool.and_eq_true, Bool.or_eq_true] at h1
    rcases h1.1.1 with h2 | h2
    · exact Nat.eq_of_beq_eq_true h2
    · simp at h2
  · have h1 := hpair hp ho
    unfold drawPair at h1
    simp only [hd, Bool.and_eq_true] at h1
    have h2 := h1.1.2
    have hc : (o.looksAt ops).contains t = true := by simpa using hl
    rw [hc] at h2
    by_cases e : i = j
    · exact .inl e
    · have e' : Nat.beq i j = false := by
        cases hb : Nat.beq i j with
        | true => exact absurd (Nat.eq_of_beq_eq_true hb) e
        | false => rfl
      rw [e'] at h2
      simp only [Bool.not_true, Bool.or_self, Bool.false_or] at h2
      split at h2
      · rename_i hlt
        rw [Nat.blt_eq] at hlt
        exact .inr (.inl ⟨hlt, befOf_reach h2⟩)
      · rename_i hlt
        have : ¬ i < j := fun hh => by
          have : Nat.blt i j = true := by rw [Nat.blt_eq]; exact hh
          rw [hlt] at this; cases this
        exact .inr (.inr ⟨by omega, befOf_reach h2⟩)
  · have h3 := hpair hp ho
    unfold drawPair at h3
    rw [Bool.and_eq_true] at h3
    have h4 := h3.2
    have hb : Nat.blt i j = true := by rw [Nat.blt_eq]; exact hlt
    rw [h1, h2, hb] at h4
    simp only [Bool.and_self, Bool.not_true, Bool.false_or] at h4
    exact befOf_reach h4

theorem stable_of {ops : Array Oper} {RQ RL : List (Nat × Nat)} (h : stable ops RQ RL = true) :
    ∀ i b q lw, (i, b) ∈ RQ → (q, lw) ∈ RL → b < lw ∨ Reach ops i q ∨ Reach ops q i := by
  intro i b q lw h1 h2
  unfold stable at h
  have h3 := List.all_eq_true.1 (List.all_eq_true.1 h _ h1) _ h2
  simp only [Bool.or_eq_true, ordered] at h3
  rcases h3 with h3 | h3 | h3
  · exact .inl (by rwa [Nat.blt_eq] at h3)
  · exact .inr (.inl (befOf_reach h3))
  · exact .inr (.inr (befOf_reach h3))

/-! ### The record's heaps and temporaries -/
section rec
variable {RQ RL : List (Nat × Nat)} {ts ts' : Tr Value} {h h' : AHeap} {T : Nat → Tr Value} {H : Nat → AHeap} {V : Nat → Value}

theorem rec_next (hc : CallExt call) (R : Rec P call nt base ops RQ RL 0 ops.size ts h ts' h' T H V) : ∀ i j, i ≤ j → j ≤ ops.size → (H i).next ≤ (H j).next := by
  intro i j hij
  induction j with
  | zero => intro _; obtain rfl : i = 0 := by omega
            exact Nat.le_refl _
  | succ j ih =>
    intro hj
    by_cases e : i = j + 1
    · subst e; exact Nat.le_refl _
    · refine Nat.le_trans (ih (by omega) (by omega)) ?_
      have hlt : j < ops.size := by omega
      obtain ⟨_, hs⟩ := R.step j ops[j] (Nat.zero_le _) (by simp [hlt])
      rcases hs with ⟨_, _, e1⟩ | ⟨_, _, _, e1, _⟩ | ⟨_, _, ⟨B, _, e1⟩, _⟩ | ⟨_, _, h1, hv, e1, _⟩
      · rw [e1]; exact Nat.le_refl _
      · rw [e1]; exact Nat.le_refl _
      · rw [e1]; exact Nat.le_refl _
      · rw [e1]; exact (aoper_ext hc hv).next

/-- A block that no loud operation between i and j turns. -/
theorem rec_get (hc : CallExt call) (R : Rec P call nt base ops RQ RL 0 ops.size ts h ts' h' T H V) (b : Nat) (hb : b < (H 0).next) (i : Nat) : ∀ j, i ≤ j → j ≤ ops.size →
    (∀ q o, i ≤ q → q < j → ops[q]? = some o → loudOp o = true → ∀ lw, (q, lw) ∈ RL → b < lw) → (∀ q, i ≤ q → q < j → b ≠ base + q) → (H j).get b = (H i).get b := by
  intro j hij
  induction j with
  | zero => intro _ _ _; obtain rfl : i = 0 := by omega
            rfl
  | succ j ih =>
    intro hj hl hn
    by_cases e : i = j + 1
    · subst e; rfl
    · rw [← ih (by omega) (by omega) (fun q o h1 h2 => hl q o h1 (by omega)) (fun q h1 h2 => hn q h1 (by omega))]
      have hlt : j < ops.size := by omega
      have hoj : ops[j]? = some ops[j] := by simp [hlt]
      obtain ⟨_, hs⟩ := R.step j ops[j] (Nat.zero_le _) hoj
      rcases hs with ⟨_, _, e1⟩ | ⟨_, _, _, e1, _⟩ | ⟨_, _, ⟨B, _, e1⟩, _⟩ | ⟨_, hk, h1, hv, e1, hin⟩
      · rw [e1]
      · rw [e1]
      · rw [e1]
        have := AHeap.get_put (H j) (base + j) b (some B)
        rw [if_neg (hn j (by omega) (by omega))] at this
        exact this
      · rw [e1]
        have hloud : loudOp ops[j] = true := by unfold loudOp; exact Nat.ble_eq_true_of_le hk
        exact (aoper_ext hc hv).old b (Nat.lt_of_lt_of_le hb (rec_next hc R 0 j (Nat.zero_le _) (by omega))) (hl j _ (by omega) (by omega) hoj hloud _ hin)

/-- A number that is laid by for operation i0 is dead till it comes up. -/
theorem rec_dead (hc : CallExt call) (R : Rec P call nt base ops RQ RL 0 ops.size ts h ts' h' T H V) (i0 : Nat) (hb : base + i0 < (H 0).next) (h0 : (H 0).get (base + i0) = none) : ∀ j, j ≤ i0 → j ≤ ops.size → (H j).get (base + i0) = none := by
  intro j
  induction j with
  | zero => intro _ _; exact h0
  | succ j ih =>
    intro hj hs
    have ih := ih (by omega) (by omega)
    have hlt : j < ops.size := by omega
    obtain ⟨_, hs⟩ := R.step j ops[j] (Nat.zero_le _) (by simp [hlt])
    rcases hs with ⟨_, _, e1⟩ | ⟨_, _, _, e1, _⟩ | ⟨_, _, ⟨B, _, e1⟩, _⟩ | ⟨_, hk, h1, hv, e1, hin⟩
    · rw [e1]; exact ih
    · rw [e1]; exact ih
    · rw [e1]
      have := AHeap.get_put (H j) (base + j) (base + i0) (some B)
      rw [if_neg (by omega), ih] at this
      exact this
    · rw [e1]
      exact (aoper_ext hc hv).dead _ (Nat.lt_of_lt_of_le hb (rec_next hc R 0 j (Nat.zero_le _) (by omega))) ih

theorem rec_tget (R : Rec P call nt base ops RQ RL 0 ops.size ts h ts' h' T H V) (sh : Shown ops) (t : Tmp) : ∀ i, i ≤ ops.size →
    (∀ j o, j < i → ops[j]? = some o → o.dst = some t → tget (T i) t = V j) ∧ ((∀ j o, j < i → ops[j]? = some o → o.dst ≠ some t) → tget (T i) t = tget (T 0) t) := by
  intro i
  induction i with
  | zero => intro _; exact ⟨fun j o hj => absurd hj (Nat.not_lt_zero _), fun _ => rfl⟩
  | succ i ih =>
    intro hi
    obtain ⟨ih1, ih2⟩ := ih (by omega)
    have hlt : i < ops.size := by omega
    have hoi : ops[i]? = some ops[i] := by simp [hlt]
    obtain ⟨hp, _⟩ := R.step i ops[i] (Nat.zero_le _) hoi
    have hput : ∀ u, tget (T (i + 1)) u = if ops[i].dst = some u then V i else tget (T i) u := fun u => by
      unfold putA at hp
      split at hp
      · rename_i hd
        rw [← Option.some.inj hp, hd]; simp
      · rename_i d hd
        split at hp
        · rw [← Option.some.inj hp, tget_set, hd]
          by_cases e : u = d
          · subst e; simp
          · rw [if_neg e, if_neg (by simpa using Ne.symm e)]
        · cases hp
    refine ⟨fun j o hj ho hd => ?_, fun hno => ?_⟩
    · rw [hput]
      by_cases e : j = i
      · subst e
        rw [hoi] at ho; cases ho
        rw [if_pos hd]
      · rw [if_neg (fun he => e (sh.once j i _ _ t ho hoi hd he))]
        exact ih1 j o (by omega) ho hd
    · rw [hput, if_neg (hno i _ (by omega) hoi)]
      exact ih2 (fun j o hj => hno j o (by omega))
end rec

/-! ### What a world may come to -/
section worlds
variable {m m0 : BMap} {h h0 h1 : AHeap} {w w0 : World}

/-- A new block for a number that was laid by. -/
theorem rel_newid (hR : Rel P m h w) {id : Nat} {B : Blk} {C : Array Value} {e : TypeId} (hf : m id = none) (hid : id < h.next) (hlive : ∀ B', h.get id = some B' → B' = B)
    (hl : LRel m B.cells C.toList) (hu : B.unk = false) :
    Rel P (upd m id ⟨w.heap.size, 0, 0⟩) h (w.alloc (.cells C e)) ∧ BlkRel P (upd m id ⟨w.heap.size, 0, 0⟩) (w.alloc (.cells C e)) B ⟨w.heap.size, 0, 0⟩ := by
  have hext := upd_ext (L := ⟨w.heap.size, 0, 0⟩) hf
  obtain ⟨l1, l2⟩ := lrel_arr hl
  have hblk : BlkRel P (upd m id ⟨w.heap.size, 0, 0⟩) (w.alloc (.cells C e)) B ⟨w.heap.size, 0, 0⟩ :=
    blk_new 0 (cells_new w C e) (by omega) (fun i hi => (l2 i hi).mono hext) (fun hh => by rw [hu] at hh; cases hh)
  have hcase : ∀ a K, upd m id ⟨w.heap.size, 0, 0⟩ a = some K → (a = id ∧ K = ⟨w.heap.size, 0, 0⟩) ∨ (a ≠ id ∧ m a = some K) := fun a K hk => by
    unfold upd at hk
    split at hk
    · cases hk; exact .inl ⟨‹_›, rfl⟩
    · exact .inr ⟨‹_›, hk⟩
  refine ⟨⟨?_, ?_, ?_, ?_, fun g hg => hext _ _ (hR.glob g hg), hR.wf⟩, hblk⟩
  · intro a K hk
    rw [World.size_alloc]
    rcases hcase a K hk with ⟨_, rfl⟩ | ⟨_, hk⟩
    · exact Nat.lt_succ_self _
    · exact Nat.lt_succ_of_lt (hR.lt a K hk)
  · intro a ha
    unfold upd
    rw [if_neg (by omega)]
    exact hR.fresh a ha
  · intro a D K hd hk
    rcases hcase a K hk with ⟨rfl, rfl⟩ | ⟨_, hk⟩
    · rw [hlive D hd]; exact hblk
    · exact ((hR.blk a D K hd hk).mono hext).same (heap_alloc_lt w _ _ (hR.lt a K hk))
  · intro a a' D1 D2 K1 K2 g1 g2 k1 k2 he hne
    rcases hcase a K1 k1 with ⟨rfl, rfl⟩ | ⟨n1, q1⟩
    · rcases hcase a' K2 k2 with ⟨rfl, rfl⟩ | ⟨n2, k2⟩
      · exact absurd rfl hne
      · have := hR.lt a' K2 k2; simp at he; omega
    · rcases hcase a' K2 k2 with ⟨rfl, rfl⟩ | ⟨n2, q2⟩
      · have := hR.lt a K1 q1; simp at he; omega
      · exact hR.inj a a' D1 D2 K1 K2 g1 g2 q1 q2 he hne

theorem sim_newid (s : Sim m0 h0 w0 m h w) {id : Nat} {o : Obj} (hf : m id = none) (hid : h0.next ≤ id) : Sim m0 h0 w0 (upd m id ⟨w.heap.size, 0, 0⟩) h (w.alloc o) := by
  have hext := upd_ext (L := ⟨w.heap.size, 0, 0⟩) hf
  have hs := s.size
  refine ⟨fun a L hh => hext _ _ (s.ext a L hh), s.os, s.output, s.tape, by rw [World.size_alloc]; omega, fun r hr hno => ?_, fun a K hk => ?_, s.low, s.next, fun a ha => ?_, s.old, s.dead, s.wrs⟩
  · rw [heap_alloc_lt w o r (by omega)]; exact s.frame r hr hno
  · unfold upd at hk
    split at hk
    · cases hk; exact .inr (.inl hs)
    · exact s.img a K hk
  · unfold upd
    rw [if_neg (by omega)]
    exact s.newm a ha

/-- A number that was laid by comes to life in the abstract heap: its block is there, or it is not made yet. -/
theorem rel_fill (hR : Rel P m h w) {id : Nat} {B : Blk} (hid : id < h.next) (hm : m id = none ∨ ∃ L, m id = some L ∧ BlkRel P m w B L ∧ ∀ a' L', m a' = some L' → L'.b = L.b → a' = id) :
    Rel P m { h with m := h.m.set id (some B) } w := by
  have hget : ∀ k, ({ h with m := h.m.set id (some B) } : AHeap).get k = if k = id then some B else h.get k := fun k => AHeap.get_put h id k (some B)
  refine ⟨hR.lt, hR.fresh, fun a D K hd hk => ?_, fun a a' D1 D2 K1 K2 g1 g2 k1 k2 he hne => ?_, hR.glob, fun a ha => ?_⟩
  · rw [hget] at hd
    split at hd
    · rename_i e; subst e
      cases hd
      rcases hm with hm | ⟨L, hm, hb, _⟩
      · rw [hm] at hk; cases hk
      · rw [hm] at hk; cases hk; exact hb
    · exact hR.blk a D K hd hk
  · rw [hget] at g1 g2
    split at g1
    · rename_i e; subst e
      rcases hm with hm | ⟨L, hm, hb, hu⟩
      · rw [hm] at k1; cases k1
      · rw [hm] at k1; cases k1
        exact absurd (hu a' K2 k2 he.symm).symm hne
    · split at g2
      · rename_i e; subst e
        rcases hm with hm | ⟨L, hm, hb, hu⟩
        · rw [hm] at k2; cases k2
        · rw [hm] at k2; cases k2
          exact absurd (hu a K1 k1 he) hne
      · exact hR.inj a a' D1 D2 K1 K2 g1 g2 k1 k2 he hne
  · rw [hget, if_neg]
    · exact hR.wf a ha
    · have : h.next ≤ a := ha
      omega

theorem sim_fill (s : Sim m0 h0 w0 m h w) {id : Nat} {B : Blk} (hid : h0.next ≤ id) : Sim m0 h0 w0 m { h with m := h.m.set id (some B) } w := by
  have hget : ∀ k, k < h0.next → ({ h with m := h.m.set id (some B) } : AHeap).get k = h.get k := fun k hk => by
    have := AHeap.get_put h id k (some B)
    rw [if_neg (by omega)] at this
    exact this
  refine ⟨s.ext, s.os, s.output, s.tape, s.size, s.frame, s.img, s.low, s.next, s.newm, fun a ha hl => (hget a ha).trans (s.old a ha hl), fun a ha hd => (hget a ha).trans (s.dead a ha hd), fun a D ha hd => s.wrs a D ha ((hget a ha).symm.trans hd)⟩

end worlds

/-! ### The invariant -/
section inv
variable {RQ RL : List (Nat × Nat)} {ts ts' : Tr Value} {h h' : AHeap} {T : Nat → Tr Value} {H : Nat → AHeap} {V : Nat → Value}

def Done (listed : Array Bool) (i : Nat) : Prop := listed.getD i false = true

/-- A block that operation j has made, and that the abstract heap does not show yet. -/
def Made (P : Program) (ops : Array Oper) (base : Nat) (T : Nat → Tr Value) (m : BMap) (w : World) (j : Nat) : Prop :=
  ∀ (o : Oper) (v : Value) (B : Blk), ops[j]? = some o → kindOf o.op = 1 → wantedA ops o (T j) = true → anew P o.op (T j) (base + j) = some (v, B) →
    ∃ L, m (base + j) = some L ∧ BlkRel P m w B L ∧ ∀ a' L', m a' = some L' → L'.b = L.b → a' = base + j

structure DInv (P : Program) (nt base : Nat) (ops : Array Oper) (T : Nat → Tr Value) (H : Nat → AHeap) (V : Nat → Value) (m0 : BMap) (h0 : AHeap) (w0 : World) (m : BMap) (p : Nat) (listed : Array Bool) (a : Act) (w : World) : Prop where
  size : listed.size = ops.size
  asz : a.tmps.size = nt
  adf : a.defers = []
  closed : Closed ops (Done listed)
  t1 : ∀ (i : Nat) (o : Oper) (d : Tmp), Done listed i → ops[i]? = some o → o.dst = some d → VRel m (V i) (a.tmps.getD d undef)
  t2 : ∀ (t : Tmp), (∀ (i : Nat) (o : Oper), Done listed i → ops[i]? = some o → o.dst ≠ some t) → VRel m (tget (T 0) t) (a.tmps.getD t undef)
  ple : p ≤ ops.size
  pnot : ∀ o, ops[p]? = some o → loudOp o = true ∧ ¬ Done listed p
  pall : ∀ (i : Nat) (o : Oper), i < p → ops[i]? = some o → loudOp o = true → Done listed i
  rel : Rel P m (H p) w
  sim : Sim m0 h0 w0 m (H p) w
  n1 : ∀ j, Done listed j → p ≤ j → Made P ops base T m w j
  n2 : ∀ j, j < ops.size → ¬ Done listed j → m (base + j) = none

/-- On to the next loud operation that has not come up. -/
theorem advance (R : Rec P call nt base ops RQ RL 0 ops.size ts h ts' h' T H V) (hnx : ∀ i, i ≤ ops.size → base + ops.size ≤ (H i).next) {m0 m : BMap} {h0 : AHeap} {w0 w : World} {listed : Array Bool} (hb0 : h0.next = base)
    (n2 : ∀ j, j < ops.size → ¬ Done listed j → m (base + j) = none) :
    ∀ (d k : Nat), k + d = ops.size → Rel P m (H k) w → Sim m0 h0 w0 m (H k) w → (∀ j, Done listed j → k ≤ j → Made P ops base T m w j) →
      (∀ (i : Nat) (o : Oper), i < k → ops[i]? = some o → loudOp o = true → Done listed i) → (∀ (i : Nat) (o : Oper), k ≤ i → ops[i]? = some o → loudOp o = true → ¬ Done listed i) →
      ∃ p, k ≤ p ∧ p ≤ ops.size ∧ (∀ o, ops[p]? = some o → loudOp o = true ∧ ¬ Done listed p) ∧ (∀ (i : Nat) (o : Oper), i < p → ops[i]? = some o → loudOp o = true → Done listed i) ∧
        Rel P m (H p) w ∧ Sim m0 h0 w0 m (H p) w
  | 0, k, hk, hR, hS, _, hall, _ => ⟨k, Nat.le_refl _, by omega, fun o ho => by
      have := (Array.getElem?_eq_some_iff.1 ho).1; omega, hall, hR, hS⟩
  | d + 1, k, hk, hR, hS, hmade, hall, hnone => by
    have hlt : k < ops.size := by omega
    have hok : ops[k]? = some ops[k] := by simp [hlt]
    cases hl : loudOp ops[k] with
    | true =>
      refine ⟨k, Nat.le_refl _, by omega, fun o ho => ?_, hall, hR, hS⟩
      rw [hok] at ho; cases ho
      exact ⟨hl, hnone k _ (Nat.le_refl _) hok hl⟩
    | false =>
      obtain ⟨_, hs⟩ := R.step k ops[k] (Nat.zero_le _) hok
      have next : Rel P m (H (k + 1)) w ∧ Sim m0 h0 w0 m (H (k + 1)) w := by
        rcases hs with ⟨_, _, e1⟩ | ⟨_, _, _, e1, _⟩ | ⟨hw, hkind, ⟨B, hv, e1⟩, _⟩ | ⟨_, h2, _⟩
        · rw [e1]; exact ⟨hR, hS⟩
        · rw [e1]; exact ⟨hR, hS⟩
        · have hid : base + k < (H k).next := by have := hnx k (by omega); omega
          have hm : m (base + k) = none ∨ ∃ L, m (base + k) = some L ∧ BlkRel P m w B L ∧ ∀ a' L', m a' = some L' → L'.b = L.b → a' = base + k := by
            by_cases hd : Done listed k
            · exact .inr (hmade k hd (Nat.le_refl _) _ _ _ hok hkind hw hv)
            · exact .inl (n2 k hlt hd)
          rw [e1]
          exact ⟨rel_fill hR hid hm, sim_fill hS (by omega)⟩
        · unfold loudOp at hl
          rw [Nat.ble_eq_true_of_le h2] at hl; cases hl
      obtain ⟨p, q1, q2⟩ := advance R hnx hb0 n2 d (k + 1) (by omega) next.1 next.2 (fun j hj hkj => hmade j hj (by omega))
        (fun i o hi ho hlo => by
          by_cases e : i = k
          · subst e; rw [hok] at ho; cases ho; rw [hl] at hlo; cases hlo
          · exact hall i o (by omega) ho hlo)
        (fun i o hi => hnone i o (by omega))
      exact ⟨p, by omega, q2⟩

theorem advance_made {T : Nat → Tr Value} {m : BMap} {w : World} {listed : Array Bool} {k p : Nat} (hkp : k ≤ p) (h : ∀ j, Done listed j → k ≤ j → Made P ops base T m w j) :
    ∀ j, Done listed j → p ≤ j → Made P ops base T m w j := fun j hj hp => h j hj (Nat.le_trans hkp hp)

/-- The temporaries as they stand, in the abstract. -/
def tsS (ops : Array Oper) (listed : Array Bool) (V : Nat → Value) (t0 : Tr Value) : Nat → Tr Value
  | 0 => t0
  | k + 1 => if listed.getD k false then (match (ops[k]?).bind (·.dst) with
      | some d => (tsS ops listed V t0 k).set d (V k)
      | none => tsS ops listed V t0 k) else tsS ops listed V t0 k

theorem tsS_get (sh : Shown ops) (listed : Array Bool) (V : Nat → Value) (t0 : Tr Value) (t : Tmp) : ∀ k, k ≤ ops.size →
    (∀ (j : Nat) (o : Oper), j < k → Done listed j → ops[j]? = some o → o.dst = some t → tget (tsS ops listed V t0 k) t = V j) ∧
    ((∀ (j : Nat) (o : Oper), j < k → Done listed j → ops[j]? = some o → o.dst ≠ some t) → tget (tsS ops listed V t0 k) t = tget t0 t) := by
  intro k
  induction k with
  | zero => intro _; exact ⟨fun j o hj => absurd hj (Nat.not_lt_zero _), fun _ => rfl⟩
  | succ k ih =>
    intro hk
    obtain ⟨ih1, ih2⟩ := ih (by omega)
    have hlt : k < ops.size := by omega
    have hok : ops[k]? = some ops[k] := by simp [hlt]
    have hput : tget (tsS ops listed V t0 (k + 1)) t = if listed.getD k false = true ∧ ops[k].dst = some t then V k else tget (tsS ops listed V t0 k) t := by
      simp only [tsS, hok, Option.bind_some]
      cases hd : listed.getD k false with
      | false => simp
      | true =>
        simp only [if_true, true_and]
        cases hdst : ops[k].dst with
        | none => simp
        | some d =>
          simp only []
          rw [tget_set]
          by_cases e : t = d
          · subst e; simp
          · rw [if_neg e, if_neg (by simpa using Ne.symm e)]
    refine ⟨fun j o hj hd ho he => ?_, fun hno => ?_⟩
    · rw [hput]
      by_cases e : j = k
      · subst e
        rw [hok] at ho; cases ho
        rw [if_pos ⟨hd, he⟩]
      · rw [if_neg (fun hh => e (sh.once j k _ _ t ho hok he hh.2))]
        exact ih1 j o (by omega) hd ho he
    · rw [hput, if_neg (fun hh => hno k _ (by omega) hh.1 hok hh.2)]
      exact ih2 (fun j o hj => hno j o (by omega))

theorem done_set {listed : Array Bool} {i : Nat} (hlt : i < listed.size) (k : Nat) : Done (listed.setIfInBounds i true) k ↔ k = i ∨ Done listed k := by
  unfold Done
  by_cases e : k = i
  · subst e; simp [Array.getD, hlt]
  · rw [getD_set_ne false (Ne.symm e)]; simp [e]

/-- One operation more: what the frame then is. -/
theorem dinv_put (R : Rec P call nt base ops RQ RL 0 ops.size ts h ts' h' T H V) (sh : Shown ops) {m0 m m' : BMap} {h0 : AHeap} {w0 w w' : World} {p p' i : Nat} {listed : Array Bool} {a : Act} {o : Oper} {v' : Value}
    (I : DInv P nt base ops T H V m0 h0 w0 m p listed a w) (hi : i ∈ Region.ready .any ops listed) (ho : ops[i]? = some o) (hext : ∀ b L, m b = some L → m' b = some L) (hv : VRel m' (V i) v')
    (hple : p' ≤ ops.size) (hpnot : ∀ o, ops[p']? = some o → loudOp o = true ∧ ¬ Done (listed.setIfInBounds i true) p')
    (hpall : ∀ (k : Nat) (o : Oper), k < p' → ops[k]? = some o → loudOp o = true → Done (listed.setIfInBounds i true) k)
    (hR : Rel P m' (H p') w') (hS : Sim m0 h0 w0 m' (H p') w') (hn1 : ∀ j, Done (listed.setIfInBounds i true) j → p' ≤ j → Made P ops base T m' w' j)
    (hn2 : ∀ j, j < ops.size → ¬ Done (listed.setIfInBounds i true) j → m' (base + j) = none) :
    DInv P nt base ops T H V m0 h0 w0 m' p' (listed.setIfInBounds i true) (a.put o.dst v') w' := by
  obtain ⟨hun, o', ho', hafter⟩ := mem_ready.1 hi
  rw [ho] at ho'; cases ho'
  have hlt : i < ops.size := (Array.getElem?_eq_some_iff.1 ho).1
  have hlt' : i < listed.size := by rw [I.size]; exact hlt
  have hD := fun k => done_set hlt' k
  obtain ⟨hp, _⟩ := R.step i o (Nat.zero_le _) ho
  have hdlt : ∀ d, o.dst = some d → d < nt := fun d hd => by
    unfold putA at hp
    rw [hd] at hp
    simp only [] at hp
    split at hp
    · rename_i hb; rwa [Nat.blt_eq] at hb
    · cases hp
  have hget : ∀ t, o.dst ≠ some t → (a.put o.dst v').tmps.getD t undef = a.tmps.getD t undef := fun t ht => by
    unfold Act.put
    cases hd : o.dst with
    | none => rfl
    | some d =>
      simp only [Array.getD_eq_getD_getElem?]
      rw [Array.getElem?_setIfInBounds_ne (fun e => ht (by rw [hd, e]))]
  refine ⟨by simpa using I.size, ?_, ?_, ?_, ?_, ?_, hple, hpnot, hpall, hR, hS, hn1, hn2⟩
  · unfold Act.put
    cases o.dst <;> simpa using I.asz
  · unfold Act.put
    cases o.dst <;> exact I.adf
  · intro j q hj hq e he hb
    rw [hD] at hj ⊢
    rcases hj with rfl | hj
    · rw [ho] at hq; cases hq
      exact .inr (hafter e he hb)
    · exact .inr (I.closed j q hj hq e he hb)
  · intro j q d hj hq hd
    rw [hD] at hj
    by_cases e : j = i
    · subst e
      rw [ho] at hq; cases hq
      have hdn := hdlt d hd
      have : (a.put o.dst v').tmps.getD d undef = v' := by
        unfold Act.put
        rw [hd]
        have := I.asz
        simp [Array.getD, this, hdn]
      rw [this]
      exact hv
    · rw [hget d (fun he => e (sh.once j i q o d hq ho hd he))]
      exact (I.t1 j q d (hj.resolve_left e) hq hd).mono hext
  · intro t hno
    rw [hget t (hno i o ((hD i).2 (.inl rfl)) ho)]
    exact (I.t2 t (fun j q hj hq => hno j q ((hD j).2 (.inr hj)) hq)).mono hext

theorem dinv_step (hc : CallExt call) (hcall : CallOK P call) (R : Rec P call nt base ops RQ RL 0 ops.size ts h ts' h' T H V) (sh : Shown ops)
    (st : ∀ i b q lw, (i, b) ∈ RQ → (q, lw) ∈ RL → b < lw ∨ Reach ops i q ∨ Reach ops q i) {m0 : BMap} {h0 : AHeap} {w0 : World} (hR0 : Rel P m0 h0 w0) (hb0 : h0.next = base)
    (hH0 : H 0 = { h0 with next := base + ops.size }) {Q : Exit → Act → World → Prop} {m : BMap} {p : Nat} {listed : Array Bool} {a : Act} {w : World} (I : DInv P nt base ops T H V m0 h0 w0 m p listed a w)
    {i : Nat} (hi : i ∈ Region.ready .any ops listed) : wpOp P ops Q i (fun a' w' => ∃ m' p', DInv P nt base ops T H V m0 h0 w0 m' p' (listed.setIfInBounds i true) a' w') a w := by
  obtain ⟨hun, o, ho, hafter⟩ := mem_ready.1 hi
  have hlt : i < ops.size := (Array.getElem?_eq_some_iff.1 ho).1
  have hlt' : i < listed.size := by rw [I.size]; exact hlt
  have hD := fun k => done_set hlt' k
  have hnd : ¬ Done listed i := by
    unfold Done
    simp only [Array.getD, hlt', dif_pos] at hun ⊢
    rw [hun]; simp
  have hreach : ∀ j, Reach ops j i → Done listed j := fun j hr => hr.closed I.closed (fun o' ho' e he hb => by rw [ho] at ho'; cases ho'; exact hafter e he hb)
  have hnaft : ∀ j, Done listed j → ¬ Reach ops i j := fun j hj hr => hnd (hr.closed I.closed (fun o' ho' e he hb => I.closed j o' hj ho' e he hb))
  have hnx : ∀ k, k ≤ ops.size → base + ops.size ≤ (H k).next := fun k hk => by
    have h1 := rec_next hc R 0 k (Nat.zero_le _) hk
    rw [hH0] at h1
    exact h1
  -- where the next loud operation is
  have hploud : loudOp o = true → i = p := fun hl => by
    rcases Nat.lt_trichotomy i p with h1 | h1 | h1
    · exact absurd (I.pall i o h1 ho hl) hnd
    · exact h1
    · have hps : p < ops.size := by omega
      have hop : ops[p]? = some ops[p] := by simp [hps]
      obtain ⟨l1, l2⟩ := I.pnot _ hop
      exact absurd (hreach p (sh.loud p i _ o hop ho l1 hl h1)) l2
  have hbehind : ∀ (q : Nat) (oq : Oper), p < q → ops[q]? = some oq → loudOp oq = true → ¬ Done listed q := fun q oq hpq hq hl hd => by
    have hps : p < ops.size := by have := (Array.getElem?_eq_some_iff.1 hq).1; omega
    have hop : ops[p]? = some ops[p] := by simp [hps]
    obtain ⟨l1, l2⟩ := I.pnot _ hop
    exact l2 ((sh.loud p q _ oq hop hq l1 hl hpq).closed I.closed (fun o' ho' e he hb => I.closed q o' hd ho' e he hb))
  -- the temporaries
  have hT : TRel m nt (tsS ops listed V (T 0) ops.size) a := by
    refine ⟨I.asz, I.adf, fun t => ?_⟩
    by_cases hex : ∃ (j : Nat) (q : Oper), Done listed j ∧ ops[j]? = some q ∧ q.dst = some t
    · obtain ⟨j, q, h1, h2, h3⟩ := hex
      rw [(tsS_get sh listed V (T 0) t ops.size (Nat.le_refl _)).1 j q (Array.getElem?_eq_some_iff.1 h2).1 h1 h2 h3]
      exact I.t1 j q t h1 h2 h3
    · have hno : ∀ (j : Nat) (q : Oper), Done listed j → ops[j]? = some q → q.dst ≠ some t := fun j q h1 h2 h3 => hex ⟨j, q, h1, h2, h3⟩
      rw [(tsS_get sh listed V (T 0) t ops.size (Nat.le_refl _)).2 (fun j q _ => hno j q)]
      exact I.t2 t hno
  have hagree : ∀ t ∈ o.looksAt ops, tget (tsS ops listed V (T 0) ops.size) t = tget (T i) t := fun t ht => by
    obtain ⟨r1, r2⟩ := rec_tget R sh t i (by omega)
    obtain ⟨s1, s2⟩ := tsS_get sh listed V (T 0) t ops.size (Nat.le_refl _)
    by_cases hex : ∃ (j : Nat) (q : Oper), ops[j]? = some q ∧ q.dst = some t
    · obtain ⟨j, q, h2, h3⟩ := hex
      have hjlt := (Array.getElem?_eq_some_iff.1 h2).1
      have none_of : ¬ Done listed j → ¬ j < i → tget (tsS ops listed V (T 0) ops.size) t = tget (T i) t := fun hnj hji => by
        rw [s2 (fun k o' _ hk hok hd => by
          have := sh.once k j o' q t hok h2 hd h3; subst this; exact hnj hk), r2 (fun k o' hk hok hd => by
          have := sh.once k j o' q t hok h2 hd h3; subst this; exact hji hk)]
      rcases sh.looks j i q o t h2 ho h3 ht with e | ⟨hji, hr⟩ | ⟨hij, hr⟩
      · subst e; exact none_of hnd (by omega)
      · rw [s1 j q hjlt (hreach j hr) h2 h3, r1 j q hji h2 h3]
      · exact none_of (fun hj => hnaft j hj hr) (by omega)
    · rw [s2 (fun j q _ _ hq hd => hex ⟨j, q, hq, hd⟩), r2 (fun j q _ hq hd => hex ⟨j, q, hq, hd⟩)]
  have he : ∀ x ∈ o.op.operands, ev P (T i) x = ev P (tsS ops listed V (T 0) ops.size) x := fun x hx => ev_congr (fun t ht => (hagree t (by
    subst ht
    unfold Oper.looksAt
    refine List.mem_append_left _ (List.mem_filterMap.2 ⟨.tmp t, by simpa using hx, rfl⟩))).symm)
  have hw : Region.wanted o (yielded ops a.tmps) = wantedA ops o (T i) := by
    rw [wanted_rel hT]
    refine wantedA_congr (fun t j want hg hd => hagree t ?_)
    unfold Oper.looksAt
    refine List.mem_append_right _ ?_
    rw [hg]
    simp only [hd, Option.toList_some, List.mem_singleton]
  have hnl : loudOp o = false → i ≠ p := fun hl e => by
    subst e
    have := (I.pnot o ho).1
    rw [hl] at this; cases this
  -- an operation that is not loud: the next loud one is the same
  have same_p : loudOp o = false → (∀ q, ops[p]? = some q → loudOp q = true ∧ ¬ Done (listed.setIfInBounds i true) p) ∧ (∀ (k : Nat) (q : Oper), k < p → ops[k]? = some q → loudOp q = true → Done (listed.setIfInBounds i true) k) := fun hl =>
    ⟨fun q hq => ⟨(I.pnot q hq).1, fun hd => by
      rcases (hD p).1 hd with e | hd
      · exact hnl hl e.symm
      · exact (I.pnot q hq).2 hd⟩, fun k q hk hq hlq => (hD k).2 (.inr (I.pall k q hk hq hlq))⟩
  have n2' : ∀ j, j < ops.size → ¬ Done (listed.setIfInBounds i true) j → m (base + j) = none := fun j hj hd => I.n2 j hj (fun hh => hd ((hD j).2 (.inr hh)))
  -- behind a loud operation: on to the next
  have on_from : ∀ {m' : BMap} {w' : World}, i = p → (∀ j, j < ops.size → ¬ Done (listed.setIfInBounds i true) j → m' (base + j) = none) → Rel P m' (H (p + 1)) w' → Sim m0 h0 w0 m' (H (p + 1)) w' →
      (∀ j, Done (listed.setIfInBounds i true) j → p + 1 ≤ j → Made P ops base T m' w' j) → ∃ p', p + 1 ≤ p' ∧ p' ≤ ops.size ∧ (∀ o, ops[p']? = some o → loudOp o = true ∧ ¬ Done (listed.setIfInBounds i true) p') ∧
        (∀ (k : Nat) (o : Oper), k < p' → ops[k]? = some o → loudOp o = true → Done (listed.setIfInBounds i true) k) ∧ Rel P m' (H p') w' ∧ Sim m0 h0 w0 m' (H p') w' := fun {m' w'} hip hn2 hR hS hmade => by
    have hps : p < ops.size := hip ▸ hlt
    refine advance R hnx hb0 hn2 (ops.size - (p + 1)) (p + 1) (by omega) hR hS hmade (fun k q hk hq hlq => ?_) (fun k q hk hq hlq hd => ?_)
    · by_cases e : k = p
      · exact (hD k).2 (.inl (e.trans hip.symm))
      · exact (hD k).2 (.inr (I.pall k q (by omega) hq hlq))
    · rcases (hD k).1 hd with e | hd
      · omega
      · exact hbehind k q (by omega) hq hlq hd
  obtain ⟨hp, hs⟩ := R.step i o (Nat.zero_le _) ho
  unfold wpOp
  rw [ho]
  simp only []
  rw [hw]
  rcases hs with ⟨hwant, hv, e1⟩ | ⟨hwant, hkind, hv, e1, hload⟩ | ⟨hwant, hkind, ⟨B, hv, e1⟩, hin⟩ | ⟨hwant, hkind, h1, hv, e1, hin⟩
  · -- not wanted
    rw [hwant]
    simp only [Bool.false_eq_true, if_false]
    cases hl : loudOp o with
    | false =>
      obtain ⟨s1, s2⟩ := same_p hl
      exact ⟨m, p, dinv_put R sh I hi ho (fun _ _ h => h) (by rw [hv]; exact .undef m) I.ple s1 s2 I.rel I.sim (fun j hj hpj => by
        rcases (hD j).1 hj with e | hj
        · subst e
          intro q v B hq _ hwq _
          rw [ho] at hq; cases hq
          rw [hwant] at hwq; cases hwq
        · exact I.n1 j hj hpj) n2'⟩
    | true =>
      have hip := hploud hl
      rw [hip] at e1
      have hmade : ∀ j, Done (listed.setIfInBounds i true) j → p + 1 ≤ j → Made P ops base T m w j := fun j hj hpj => by
        rcases (hD j).1 hj with e | hj
        · omega
        · exact I.n1 j hj (by omega)
      obtain ⟨p', q1, q2, q3, q4, q5, q6⟩ := on_from hip n2' (by rw [e1]; exact I.rel) (by rw [e1]; exact I.sim) hmade
      exact ⟨m, p', dinv_put R sh I hi ho (fun _ _ h => h) (by rw [hv]; exact .undef m) q2 q3 q4 q5 q6 (fun j hj hpj => hmade j hj (by omega)) n2'⟩
  · -- quiet
    rw [hwant]
    simp only [if_true]
    have hl : loudOp o = false := by unfold loudOp; rw [hkind]; rfl
    obtain ⟨s1, s2⟩ := same_p hl
    have hlb : loadBlock P o (tsS ops listed V (T 0) ops.size) = loadBlock P o (T i) := by
      unfold loadBlock
      split
      · rename_i t x hop
        rw [← he x (by rw [hop]; simp [Op.operands])]
      · rfl
    have hq : aq P o.op (tsS ops listed V (T 0) ops.size) (H p) = some (V i) := by
      rw [← hv, aq_congr (H i) he]
      refine aq_heap (fun b hb => ?_)
      rw [hlb] at hb
      obtain ⟨hbb, hbin⟩ := hload b hb
      have hb1 : b < (H 0).next := by have := hnx 0 (Nat.zero_le _); omega
      rcases Nat.le_total p i with hpi | hip
      · refine (rec_get hc R b hb1 p i hpi (by omega) (fun q oq h1 h2 hoq hlq lw hlw => ?_) (fun q _ _ => by omega)).symm
        rcases st i b q lw hbin hlw with h3 | h3 | h3
        · exact h3
        · have := h3.lt sh.lt; omega
        · rcases Nat.lt_or_ge p q with h4 | h4
          · exact absurd (hreach q h3) (hbehind q oq h4 hoq hlq)
          · obtain rfl : q = p := by omega
            exact absurd (hreach q h3) (I.pnot oq hoq).2
      · refine rec_get hc R b hb1 i p hip I.ple (fun q oq h1 h2 hoq hlq lw hlw => ?_) (fun q _ _ => by omega)
        rcases st i b q lw hbin hlw with h3 | h3 | h3
        · exact h3
        · exact absurd h3 (hnaft q (I.pall q oq h2 hoq hlq))
        · have := h3.lt sh.lt
          omega
    obtain ⟨v', r1, r2⟩ := aq_rel I.rel hT o hq
    refine .inl (upon_value r1 ⟨m, p, dinv_put R sh I hi ho (fun _ _ h => h) r2 I.ple s1 s2 I.rel I.sim (fun j hj hpj => ?_) n2'⟩)
    rcases (hD j).1 hj with e | hj
    · subst e
      intro q v B hq' hk' _ _
      rw [ho] at hq'; cases hq'
      rw [hkind] at hk'; cases hk'
    · exact I.n1 j hj hpj
  · -- a new block
    rw [hwant]
    simp only [if_true]
    have hl : loudOp o = false := by unfold loudOp; rw [hkind]; rfl
    obtain ⟨s1, s2⟩ := same_p hl
    have hf := I.n2 i hlt hnd
    have hv' : anew P o.op (tsS ops listed V (T 0) ops.size) (base + i) = some (V i, B) := by rw [← hv, anew_congr _ he]
    obtain ⟨v', C, e, r1, r2, r3, r4, r5⟩ := anew_rel I.rel hT o hf hv'
    have hext := upd_ext (L := ⟨w.heap.size, 0, 0⟩) hf
    have hid : base + i < (H p).next := by have := hnx p I.ple; omega
    have hb1 : base + i < (H 0).next := by have := hnx 0 (Nat.zero_le _); omega
    have h00 : (H 0).get (base + i) = none := by
      rw [hH0]
      exact hR0.wf _ (by omega)
    have hlive : ∀ B', (H p).get (base + i) = some B' → B' = B := fun B' hB' => by
      rcases Nat.lt_or_ge i p with hip | hpi
      · have hself : (H (i + 1)).get (base + i) = some B := by
          rw [e1]
          have := AHeap.get_put (H i) (base + i) (base + i) (some B)
          rw [if_pos rfl] at this
          exact this
        rw [rec_get hc R (base + i) hb1 (i + 1) p hip I.ple (fun q oq h1 h2 hoq hlq lw hlw => by
          rcases st i (base + i) q lw hin hlw with h3 | h3 | h3
          · exact h3
          · exact absurd h3 (hnaft q (I.pall q oq h2 hoq hlq))
          · have := h3.lt sh.lt
            omega) (fun q _ _ => by omega), hself] at hB'
        exact (Option.some.inj hB').symm
      · rw [rec_dead hc R i hb1 h00 p hpi I.ple] at hB'; cases hB'
    obtain ⟨g1, g2⟩ := rel_newid (e := e) I.rel hf hid hlive r3 r5
    have g3 := sim_newid (o := .cells C e) I.sim hf (by omega : h0.next ≤ base + i)
    have hnew : ∀ b, b ≠ base + i → upd m (base + i) ⟨w.heap.size, 0, 0⟩ b = m b := fun b hb => by unfold upd; rw [if_neg hb]
    refine .inl (upon_value r1 ⟨_, p, dinv_put R sh I hi ho hext r2 I.ple s1 s2 g1 g3 (fun j hj hpj => ?_) (fun j hj hd => ?_)⟩)
    · rcases (hD j).1 hj with e' | hj
      · subst e'
        intro q v2 B2 hq' hk' hw' hv2
        rw [ho] at hq'; cases hq'
        rw [hv] at hv2; cases hv2
        refine ⟨_, by simp [upd], g2, fun a' L' ha' hL' => ?_⟩
        by_cases ee : a' = base + j
        · exact ee
        · rw [hnew a' ee] at ha'
          have := I.rel.lt a' L' ha'
          simp at hL'; omega
      · have hji : j ≠ i := fun ee => hnd (ee ▸ hj)
        intro q v2 B2 hq' hk' hw' hv2
        obtain ⟨L, l1, l2, l3⟩ := I.n1 j hj hpj q v2 B2 hq' hk' hw' hv2
        have hLlt := I.rel.lt _ _ l1
        refine ⟨L, hext _ _ l1, (l2.mono hext).same (heap_alloc_lt w _ _ hLlt), fun a' L' ha' hL' => ?_⟩
        by_cases ee : a' = base + i
        · subst ee
          simp only [upd, if_true] at ha'
          cases ha'
          simp at hL'; omega
        · rw [hnew a' ee] at ha'
          exact l3 a' L' ha' hL'
    · rw [hnew _ (fun ee => hd ((hD j).2 (.inl (by omega))))]
      exact n2' j hj hd
  · -- loud
    rw [hwant]
    simp only [if_true]
    have hl : loudOp o = true := by unfold loudOp; exact Nat.ble_eq_true_of_le hkind
    have hip := hploud hl
    subst hip
    rw [aoper_congr _ he] at hv
    have h00 : ∀ j, j < ops.size → (H 0).get (base + j) = none := fun j _ => by
      rw [hH0]
      exact hR0.wf _ (by omega)
    have hb1 : ∀ j, j < ops.size → base + j < (H 0).next := fun j hj => by have := hnx 0 (Nat.zero_le _); omega
    refine .inl (aoper_wp hcall (I.rel.relow (H i).next) hT o hv fun m' v' w' r1 r2 r3 => ?_)
    have r3' := r3.relow
    have hRn : Rel P m' (H (i + 1)) w' := by rw [e1]; exact r2.relow _
    have hSn : Sim m0 h0 w0 m' (H (i + 1)) w' := by rw [e1]; exact I.sim.trans hR0 r3'
    have hn2 : ∀ j, j < ops.size → ¬ Done (listed.setIfInBounds i true) j → m' (base + j) = none := fun j hj hd => by
      rw [r3'.newm (base + j) (by have := hnx i (by omega); omega)]
      exact n2' j hj hd
    have hmade : ∀ j, Done (listed.setIfInBounds i true) j → i + 1 ≤ j → Made P ops base T m' w' j := fun j hj hpj => by
      rcases (hD j).1 hj with e' | hj
      · omega
      · intro q v2 B2 hq' hk' hw' hv2
        have hjs := (Array.getElem?_eq_some_iff.1 hq').1
        obtain ⟨L, l1, l2, l3⟩ := I.n1 j hj (by omega) q v2 B2 hq' hk' hw' hv2
        have hdead := rec_dead hc R j (hb1 j hjs) (h00 j hjs) i (by omega) (by omega)
        have hLlt := I.rel.lt _ _ l1
        refine ⟨L, r3'.ext _ _ l1, (l2.mono r3'.ext).same (r3'.frame L.b hLlt (fun a' B' L' g1 _ g3 _ g5 => ?_)), fun a' L' ha' hL' => ?_⟩
        · have := l3 a' L' g3 g5
          subst this
          rw [hdead] at g1; cases g1
        · rcases r3'.img a' L' ha' with g | g | ⟨a0, B0, L0, g1, _, g3, g4, _⟩
          · exact l3 a' L' g hL'
          · omega
          · have := l3 a0 L0 g3 (g4.trans hL')
            subst this
            rw [hdead] at g1; cases g1
    obtain ⟨p', q1, q2, q3, q4, q5, q6⟩ := on_from rfl hn2 hRn hSn hmade
    exact ⟨m', p', dinv_put R sh I hi ho r3'.ext r1 q2 q3 q4 q5 q6 (fun j hj hpj => hmade j hj (by omega)) hn2⟩

end inv

theorem aregD_wp (hmix : P.follows .mixedOrders = true) {call : CallF} (hc : CallExt call) (hcall : CallOK P call) {id nt : Nat} {ops : Array Oper} {ts ts' : Tr Value} {h h' : AHeap} (hq : aregD P call nt ops ts h = some (ts', h'))
    {m : BMap} {w : World} {a : Act} {Q : Exit → Act → World → Prop} (hR : Rel P m h w) (hT : TRel m nt ts a)
    (hQ : ∀ m' w' a', Rel P m' h' w' → TRel m' nt ts' a' → Sim m h w m' h' w' → Q .normal a' w') : (Code.region id ops true).wp P Q a w := by
  unfold aregD at hq
  split at hq
  · rename_i hok
    have sh := shown_of hok
    split at hq
    · rename_i ts1 h1 RQ RL hd
      split at hq
      · rename_i hst
        cases hq
        have st := stable_of hst
        obtain ⟨T, H, V, R⟩ := aopsD_rec (ops := ops) (l := ops.toList) (k := 0) (by simp) (by simp) hd
        have hnx : ∀ k, k ≤ ops.size → h.next + ops.size ≤ (H k).next := fun k hk => by
          have h1 := rec_next hc R 0 k (Nat.zero_le _) hk
          rw [R.h0] at h1
          exact h1
        -- behind the draw
        have hRd : Rel P m h w.drew := ⟨hR.lt, hR.fresh, hR.blk, hR.inj, hR.glob, hR.wf⟩
        have hSd : Sim m h w.drew m h w.drew := Sim.refl _ _ _
        have hSd0 : Sim m h w m h w.drew := ⟨fun _ _ h => h, rfl, rfl, rfl, Nat.le_refl _, fun _ _ _ => rfl, fun _ _ h => .inl h, Nat.le_refl _, Nat.le_refl _, fun _ _ => rfl, fun _ _ _ => rfl, fun _ _ h => h, fun _ B' _ h => ⟨B', h, rfl⟩⟩
        have hR0 : Rel P m (H 0) w.drew := by
          rw [R.h0]
          exact ⟨hR.lt, fun a ha => hR.fresh a (Nat.le_trans (Nat.le_add_right _ _) ha), hR.blk, hR.inj, hR.glob, fun a ha => hR.wf a (Nat.le_trans (Nat.le_add_right _ _) ha)⟩
        have hS0 : Sim m h w.drew m (H 0) w.drew := by
          rw [R.h0]
          exact ⟨fun _ _ h => h, rfl, rfl, rfl, Nat.le_refl _, fun _ _ _ => rfl, fun _ _ h => .inl h, Nat.le_refl _, Nat.le_add_right _ _, fun _ _ => rfl, fun _ _ _ => rfl, fun _ _ h => h, fun _ B' _ h => ⟨B', h, rfl⟩⟩
        have hno : ∀ k, ¬ Done (Array.replicate ops.size false) k := fun k => by
          unfold Done
          simp only [Array.getD_eq_getD_getElem?]
          rw [Array.getElem?_replicate]
          split <;> simp
        have hn2 : ∀ j, j < ops.size → ¬ Done (Array.replicate ops.size false) j → m (h.next + j) = none := fun j _ _ => hR.fresh _ (Nat.le_add_right _ _)
        obtain ⟨p, _, p2, p3, p4, p5, p6⟩ := advance R hnx rfl hn2 ops.size 0 (by omega) hR0 hS0 (fun j hj => absurd hj (hno j)) (fun i o hi => absurd hi (Nat.not_lt_zero _)) (fun i o _ _ _ => hno i)
        have I0 : DInv P nt h.next ops T H V m h w.drew m p (Array.replicate ops.size false) a w.drew :=
          ⟨by simp, hT.size, hT.defers, fun j o hj => absurd hj (hno j), fun i o d hi => absurd hi (hno i), fun t _ => by rw [R.t0]; exact hT.val t, p2, p3, p4, p5, p6, fun j hj => absurd hj (hno j), hn2⟩
        have hstep : ∀ (listed : Array Bool) (a : Act) (w1 : World), (listed.size = ops.size ∧ ∃ m' p', DInv P nt h.next ops T H V m h w.drew m' p' listed a w1) → ∀ i ∈ Region.ready .any ops listed,
            wpOp P ops Q i (fun a' w' => (listed.setIfInBounds i true).size = ops.size ∧ ∃ m' p', DInv P nt h.next ops T H V m h w.drew m' p' (listed.setIfInBounds i true) a' w') a w1 := fun listed a w1 ⟨hs, m1, p1, I⟩ i hi =>
          wpOp_mono (fun a' w' ⟨m', p', I'⟩ => ⟨by simpa using hs, m', p', I'⟩) (dinv_step hc hcall R sh st hRd rfl R.h0 I hi)
        have hend : ∀ (listed : Array Bool) (a : Act) (w1 : World), (listed.size = ops.size ∧ ∃ m' p', DInv P nt h.next ops T H V m h w.drew m' p' listed a w1) → Region.ready .any ops listed = [] → Q .normal a w1 := by
          rintro listed a w1 ⟨hs, m1, p1, I⟩ hr
          have hall : ∀ k, k < ops.size → Done listed k := by
            intro k
            induction k using Nat.strongRecOn with
            | _ k ih =>
              intro hk
              have hok : ops[k]? = some ops[k] := by simp [hk]
              have hks : k < listed.size := by rw [hs]; exact hk
              rcases hb : listed[k] with _ | _
              · have : k ∈ Region.ready .any ops listed := mem_ready.2 ⟨by simp [Array.getD, hks, hb], ops[k], hok, fun e he hb => ih e.on (sh.lt k _ hok e he hb) (Nat.lt_trans (sh.lt k _ hok e he hb) hk)⟩
                rw [hr] at this; cases this
              · unfold Done; simp [Array.getD, hks, hb]
          have hp : p1 = ops.size := by
            rcases Nat.lt_or_ge p1 ops.size with h' | h'
            · exact absurd (hall p1 h') (I.pnot ops[p1] (by simp [h'])).2
            · exact Nat.le_antisymm I.ple h'
          subst hp
          refine hQ m1 w1 a (by rw [← R.h1]; exact I.rel) ⟨I.asz, I.adf, fun t => ?_⟩ (by rw [← R.h1]; exact hSd0.trans hR I.sim)
          rw [← R.t1]
          obtain ⟨r1, r2⟩ := rec_tget R sh t ops.size (Nat.le_refl _)
          by_cases hex : ∃ (j : Nat) (q : Oper), ops[j]? = some q ∧ q.dst = some t
          · obtain ⟨j, q, e1, e2⟩ := hex
            have hj := (Array.getElem?_eq_some_iff.1 e1).1
            rw [r1 j q hj e1 e2]
            exact I.t1 j q t (hall j hj) e1 e2
          · rw [r2 (fun j q _ hq hd => hex ⟨j, q, hq, hd⟩)]
            exact I.t2 t (fun j q _ hq hd => hex ⟨j, q, hq, hd⟩)
        exact wp_region_any hmix (wpAny_inv (fun listed a w' => listed.size = ops.size ∧ ∃ m' p', DInv P nt h.next ops T H V m h w.drew m' p' listed a w') hstep hend ops.size (Array.replicate ops.size false) a w.drew (by simp) (by simp) ⟨by simp, m, p, I0⟩)
      · cases hq
    · cases hq
  · cases hq
end
end Go.Abs
