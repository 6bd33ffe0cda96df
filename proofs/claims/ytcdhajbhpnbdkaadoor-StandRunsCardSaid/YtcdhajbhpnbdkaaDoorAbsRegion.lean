/-
  A region in the order of the text; a call: what the abstract evaluator says of them, the model does.
  Conditions: none; lemmas.
-/
import Derived.Test.YtcdhajbhpnbdkaaDoorAbsTurn
import Derived.LoopN
set_option linter.unusedSimpArgs false
set_option linter.unusedVariables false
set_option linter.unusedSectionVars false
namespace Go.Abs
section
variable {P : Program}

/-- What is owed for calls. -/
def CallOK (P : Program) (call : CallF) : Prop := ∀ f args h v h', call f args h = some (v, h') → (bodyOf P f).isSome = true ∧ ∀ m w args', Rel P m h w → LRel m args args' →
  Calls P f args'.toArray w (fun e w' => ∃ m' v', e = .returned v' ∧ VRel m' v v' ∧ Rel P m' h' w' ∧ Sim m h w m' h' w')

theorem run_callFunc {f : FuncId} {args : Array Value} {w : World} (hb : (bodyOf P f).isSome = true) : (callFunc f args).run P w = .ok (.enter f args) w := by
  unfold bodyOf at hb
  cases hf : P.funcs[f]? with
  | none => simp [hf] at hb
  | some fn =>
    simp only [hf] at hb
    cases hc : fn.body with
    | none => simp [hc] at hb
    | some c =>
      cases hn : (fn.name == "runtime.NumGoroutine" : Bool) with
      | true => simp [hc, hn] at hb
      | false =>
        have hn' : ¬ fn.name = "runtime.NumGoroutine" := by simpa using hn
        simp [callFunc, hf, hn', hc]

variable {m : BMap} {h : AHeap} {w : World} {nt : Nat} {ts : Tr Value} {a : Act}

theorem upon_value {o : Oper} {v : Value} {w' : World} {next : Act → World → Prop} {Q : Exit → Act → World → Prop} (hr : (execOp a.eval o).run P w = .ok (.value v) w') (hn : next (a.put o.dst v) w') : o.wp P a w next Q := by
  unfold Oper.wp
  rw [hr]
  exact hn

theorem aloud_wp (hR : Rel P m h w) (hT : TRel m nt ts a) (o : Oper) {v : Value} {h' : AHeap} (hq : aloud P o.op ts h = some (v, h')) {next : Act → World → Prop} {Q : Exit → Act → World → Prop}
    (hn : ∀ m' v' w', VRel m' v v' → Rel P m' h' w' → Sim m h w m' h' w' → next (a.put o.dst v') w') : o.wp P a w next Q := by
  have hG := hR.glob
  obtain ⟨dst, op, type, pos, after, guard⟩ := o
  cases op with
  | store t x y =>
    simp only [aloud] at hq
    split at hq
    · rename_i p u hp hu
      split at hq
      · rename_i h1 hs
        cases hq
        obtain ⟨w', r1, r2, r3⟩ := astore_rel hR (ev_rel hT hG hp) (ev_rel hT hG hu) hs
        unfold Oper.wp
        have : (execOp a.eval ⟨dst, .store t x y, type, pos, after, guard⟩).run P w = .ok .skip w' := by simp [execOp, r1]
        rw [this]
        exact hn m undef w' (.undef m) r2 r3
      · cases hq
    · cases hq
  | call c =>
    obtain ⟨callee, args, types⟩ := c
    cases callee with
    | value f => simp only [aloud] at hq; cases hq
    | invoke r s => simp only [aloud] at hq; cases hq
    | builtin b =>
      cases b <;> try (simp only [aloud] at hq; cases hq; done)
      case append =>
        simp only [aloud] at hq
        split at hq
        · rename_i s x hargs
          have hl := evs_rel hT hG hargs
          rcases hl.ind with ⟨hl, _⟩ | ⟨_, s', _, r, h1, h2, hs, hl⟩
          · cases hl
          · cases h1
            rcases hl.ind with ⟨hl, _⟩ | ⟨_, x', _, r', h1, rfl, hx, hl⟩
            · cases hl
            · cases h1
              rcases hl.ind with ⟨_, rfl⟩ | ⟨_, _, _, _, h1, _⟩
              · obtain ⟨m', v', w', r1, r2, r3, r4⟩ := aappend_rel (ty := type) hR hs hx hq
                refine upon_value ?_ (hn m' v' w' r2 r3 r4)
                have e : args.map a.eval = #[s', x'] := by apply Array.ext'; simpa using h2
                simp [execOp, resolve, invoke, builtin, e, r1]
              · cases h1
        · cases hq
      case copy =>
        simp only [aloud] at hq
        split at hq
        · rename_i s x hargs
          have hl := evs_rel hT hG hargs
          rcases hl.ind with ⟨hl, _⟩ | ⟨_, s', _, r, h1, h2, hs, hl⟩
          · cases hl
          · cases h1
            rcases hl.ind with ⟨hl, _⟩ | ⟨_, x', _, r', h1, rfl, hx, hl⟩
            · cases hl
            · cases h1
              rcases hl.ind with ⟨_, rfl⟩ | ⟨_, _, _, _, h1, _⟩
              · obtain ⟨v', w', r1, r2, r3, r4⟩ := acopy_rel (ty := type) hR hs hx hq
                refine upon_value ?_ (hn m v' w' r2 r3 r4)
                have e : args.map a.eval = #[s', x'] := by apply Array.ext'; simpa using h2
                simp [execOp, resolve, invoke, builtin, e, r1]
              · cases h1
        · cases hq
      case clear =>
        simp only [aloud] at hq
        split at hq
        · rename_i x t hargs ht
          have hl := evs_rel hT hG hargs
          rcases hl.ind with ⟨hl, _⟩ | ⟨_, x', _, r, h1, h2, hx, hl⟩
          · cases hl
          · cases h1
            rcases hl.ind with ⟨_, rfl⟩ | ⟨_, _, _, _, h1, _⟩
            · obtain ⟨v', w', r1, r2, r3, r4⟩ := aclear_rel (ty := type) hR ht hx hq
              refine upon_value ?_ (hn m v' w' r2 r3 r4)
              have e : args.map a.eval = #[x'] := by apply Array.ext'; simpa using h2
              simp [execOp, resolve, invoke, builtin, e, r1]
            · cases h1
        · cases hq
  | _ => simp only [aloud] at hq; cases hq

theorem acallOp_wp {call : CallF} (hcall : CallOK P call) (hR : Rel P m h w) (hT : TRel m nt ts a) (o : Oper) {v : Value} {h' : AHeap} (hq : acallOp P call o.op ts h = some (v, h')) {next : Act → World → Prop} {Q : Exit → Act → World → Prop}
    (hn : ∀ m' v' w', VRel m' v v' → Rel P m' h' w' → Sim m h w m' h' w' → next (a.put o.dst v') w') : o.wp P a w next Q := by
  have hG := hR.glob
  obtain ⟨dst, op, type, pos, after, guard⟩ := o
  unfold acallOp at hq
  split at hq
  · rename_i f args types hop
    simp only at hop
    subst hop
    split at hq
    · rename_i g first captured as hf has
      obtain ⟨as', bs', he, ha, hb⟩ := (ev_rel hT hG hf).inv_func
      have hl := evs_rel hT hG has
      obtain ⟨hbody, hc⟩ := hcall _ _ _ _ _ hq
      have hC := hc m w (as'.toList ++ args.toList.map a.eval ++ bs'.toList) hR ((ha.append hl).append hb)
      have hrun : (execOp a.eval ⟨dst, .call ⟨.value f, args, types⟩, type, pos, after, guard⟩).run P w = .ok (.enter g (as'.toList ++ args.toList.map a.eval ++ bs'.toList).toArray) w := by
        have e : (as' ++ args.map a.eval) ++ bs' = (as'.toList ++ args.toList.map a.eval ++ bs'.toList).toArray := by apply Array.ext'; simp
        have hcf := run_callFunc (P := P) (f := g) (args := as' ++ args.map a.eval ++ bs') (w := w) hbody
        simp only [execOp, resolve, Sem.run_bind, Sem.run_pure, he, Deferred.ofValue, Result.andThen_ok, invoke]
        rw [← e]
        exact hcf
      unfold Oper.wp
      rw [hrun]
      exact hC.mono fun e w' ⟨m', v', he, hv, hr, hs⟩ => by subst he; exact hn m' v' w' hv hr hs
    · cases hq
  · cases hq

theorem aoper_wp {call : CallF} (hcall : CallOK P call) (hR : Rel P m h w) (hT : TRel m nt ts a) (o : Oper) {v : Value} {h' : AHeap} (hq : aoper P call o ts h = some (v, h')) {next : Act → World → Prop} {Q : Exit → Act → World → Prop}
    (hn : ∀ m' v' w', VRel m' v v' → Rel P m' h' w' → Sim m h w m' h' w' → next (a.put o.dst v') w') : o.wp P a w next Q := by
  unfold aoper at hq
  split at hq
  · split at hq
    · rename_i u hu
      cases hq
      obtain ⟨v', r1, r2⟩ := aq_rel hR hT o hu
      exact upon_value r1 (hn m v' w r2 hR (Sim.refl _ _ _))
    · cases hq
  · split at hq
    · rename_i u B hu
      cases hq
      obtain ⟨v', C, e, r1, r2, r3, r4, r5⟩ := anew_rel hR hT o (hR.fresh _ (Nat.le_refl _)) hu
      obtain ⟨l1, l2⟩ := lrel_arr r3
      obtain ⟨q1, q2⟩ := rel_alloc (B := B) (C := C) (e := e) (n := w.heap.size) 0 hR (by omega) l2 (fun hh => by rw [r5] at hh; cases hh) rfl (.inl rfl)
      exact upon_value r1 (hn _ v' _ r2 q1 q2)
    · cases hq
  · exact aloud_wp hR hT o hq hn
  · exact acallOp_wp hcall hR hT o hq hn

theorem VRel.to_bool {v : Value} {b : Bool} (h : VRel m v (.bool b)) : v = .bool b := by
  cases h; rfl

theorem wanted_rel (hT : TRel m nt ts a) (ops : Array Oper) (o : Oper) : Region.wanted o (yielded ops a.tmps) = wantedA ops o ts := by
  unfold Region.wanted wantedA
  cases hg : o.guard with
  | none => rfl
  | some q =>
    obtain ⟨j, want⟩ := q
    simp only []
    unfold yielded
    cases hd : (ops[j]?).bind (·.dst) with
    | none => simp
    | some t =>
      simp only [Option.bind_some]
      have hv := hT.val t
      have hnb : ∀ v : Value, v = undef → ∀ b, v ≠ .bool b := fun v hv b h => by rw [hv] at h; cases h
      cases ht : a.tmps[t]? with
      | none =>
        have e : a.tmps.getD t undef = undef := by rw [Array.getD_eq_getD_getElem?, ht]; rfl
        rw [e] at hv
        simp only []
        cases hts : ts.get t with
        | none => rfl
        | some v =>
          cases v <;> try rfl
          rename_i b
          simp only [tget, hts] at hv
          cases hv
      | some u =>
        have e : a.tmps.getD t undef = u := by rw [Array.getD_eq_getD_getElem?, ht]; rfl
        rw [e] at hv
        cases hts : ts.get t with
        | none =>
          simp only [tget, hts] at hv
          cases u <;> try rfl
          cases hv
        | some v =>
          simp only [tget, hts] at hv
          cases u with
          | bool b =>
            obtain rfl := VRel.to_bool hv
            rfl
          | _ =>
            cases v <;> try rfl
            have := hv.inv_bool
            cases this

theorem aops_wp {call : CallF} (hcall : CallOK P call) (ops : Array Oper) : ∀ (l : List Oper) {ts ts' : Tr Value} {h h' : AHeap} {m : BMap} {w : World} {a : Act} {Q : Exit → Act → World → Prop}, aops P call nt ops l ts h = some (ts', h') → Rel P m h w → TRel m nt ts a →
    (∀ m' w' a', Rel P m' h' w' → TRel m' nt ts' a' → Sim m h w m' h' w' → Q .normal a' w') → wpList P ops Q l a w
  | [], ts, ts', h, h', m, w, a, Q, hq, hR, hT, hQ => by
    cases hq
    exact hQ m w a hR hT (Sim.refl _ _ _)
  | o :: l, ts, ts', h, h', m, w, a, Q, hq, hR, hT, hQ => by
    unfold wpList
    rw [wanted_rel hT]
    unfold aops at hq
    cases hw : wantedA ops o ts with
    | true =>
      simp only [hw] at hq
      simp only [if_true]
      split at hq
      · rename_i v h1 hv
        split at hq
        · rename_i ts1 hp
          refine .inl (aoper_wp hcall hR hT o hv fun m' v' w' r1 r2 r3 => ?_)
          exact aops_wp hcall ops l hq r2 ((hT.mono r3.ext).put hp r1) (fun m2 w2 a2 q1 q2 q3 => hQ m2 w2 a2 q1 q2 (r3.trans hR q3))
        · cases hq
      · cases hq
    | false =>
      simp only [hw] at hq
      simp only [Bool.false_eq_true, if_false]
      split at hq
      · rename_i ts1 hp
        exact aops_wp hcall ops l hq hR (hT.put hp (.undef m)) hQ
      · cases hq

end
end Go.Abs
