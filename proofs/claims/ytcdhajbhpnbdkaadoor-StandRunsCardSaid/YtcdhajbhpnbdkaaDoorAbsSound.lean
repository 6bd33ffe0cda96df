/-
  A run of the abstract evaluator that ends well stands for every run of the model: the theorem 'sound_call'.
  Conditions: the program is one under which regions may take any order (a closed fact).
-/
import Derived.Test.YtcdhajbhpnbdkaaDoorAbsDraw
set_option linter.unusedSimpArgs false
set_option linter.unusedVariables false
set_option linter.unusedSectionVars false
namespace Go.Abs
section
variable {P : Program}

def exitOf : AExit → Exit
  | .normal => .normal
  | .exit id => .exit id
  | .ret => .ret

/-- What is owed for code. -/
def CodeOK (P : Program) (code : CodeF) : Prop := ∀ c nt ts h x ts' h', code c nt ts h = some (x, ts', h') → ∀ m w a (Q : Exit → Act → World → Prop), Rel P m h w → TRel m nt ts a →
  (∀ m' w' a', Rel P m' h' w' → TRel m' nt ts' a' → Sim m h w m' h' w' → Q (exitOf x) a' w') → c.wp P Q a w

theorem tget_initF : ∀ (l : List Value) (k : Nat) (t : Tr Value) (j : Nat), tget (initF k l t) j = if k ≤ j ∧ j < k + l.length then l.getD (j - k) undef else tget t j
  | [], k, t, j => by
    rw [if_neg (by simp only [List.length_nil]; omega)]; rfl
  | v :: l, k, t, j => by
    rw [initF, tget_initF l (k + 1) _ j, tget_set]
    simp only [List.length_cons]
    by_cases e : j = k
    · subst e
      rw [if_neg (by omega), if_pos rfl, if_pos (by omega)]; simp
    · by_cases e2 : k + 1 ≤ j ∧ j < k + 1 + l.length
      · rw [if_pos e2, if_pos (by omega), show j - k = (j - (k + 1)) + 1 by omega]; simp
      · rw [if_neg e2, if_neg e, if_neg (by omega)]

/-- One result, as the model reads it. -/
def resOne (tmps : Array Value) : ResultVar → Sem Value
  | .tmp t => pure (tmps.getD t undef)
  | .cell a t => do loadVar t (← asAddr (tmps.getD a undef))

theorem resOne_rel {m : BMap} {h : AHeap} {w : World} {nt : Nat} {ts : Tr Value} {a : Act} (hR : Rel P m h w) (hT : TRel m nt ts a) {r : ResultVar} {v : Value} (hv : (match r with
      | .tmp t => ev P ts (.tmp t)
      | .cell a t => match ev P ts (.tmp a) with
        | some v => aload P t v h
        | none => none) = some v) : ∃ v', (resOne a.tmps r).run P w = .ok v' w ∧ VRel m v v' := by
  cases r with
  | tmp t => exact ⟨a.eval (.tmp t), rfl, ev_rel hT hR.glob hv⟩
  | cell p t =>
    simp only at hv
    split at hv
    · rename_i pv hpv
      have hr := ev_rel hT hR.glob hpv
      obtain ⟨v', l1, l2⟩ := aload_rel hR hr hv
      refine ⟨v', ?_, l2⟩
      unfold aload at hv
      split at hv
      · rename_i ad
        obtain ⟨L, hm, hs, he⟩ := hr.inv_ptr
        have he' : a.tmps.getD p undef = .pointer (some ⟨L.b, L.base + ad.off, none⟩) := he
        rw [he] at l1
        have l1' : (loadVar t ⟨L.b, L.base + ad.off, none⟩).run P w = .ok v' w := by
          simpa [Instr.loadAt, Instr.sureAddr] using l1
        show (do loadVar t (← asAddr (a.tmps.getD p undef)) : Sem Value).run P w = _
        rw [he']
        simp only [Sem.run_bind, asAddr, Sem.run_pure, Result.andThen_ok, l1']
      · cases hv
    · cases hv

theorem ares_rel {m : BMap} {h : AHeap} {w : World} {nt : Nat} {ts : Tr Value} {a : Act} (hR : Rel P m h w) (hT : TRel m nt ts a) : ∀ {l : List ResultVar} {vs : List Value}, ares P ts h l = some vs →
    ∃ vs', (l.mapM (resOne a.tmps)).run P w = .ok vs' w ∧ LRel m vs vs'
  | [], vs, hq => by cases hq; exact ⟨[], by simp, LRel.nil m⟩
  | r :: l, vs, hq => by
    simp only [ares] at hq
    split at hq
    · rename_i v hv
      split at hq
      · rename_i us hus
        cases hq
        obtain ⟨vs', h1, h2⟩ := ares_rel hR hT hus
        obtain ⟨v', l1, l2⟩ := resOne_rel hR hT hv
        refine ⟨v' :: vs', ?_, LRel.cons l2 h2⟩
        rw [List.mapM_cons]
        simp only [Sem.run_bind, l1, h1, Sem.run_pure, Result.andThen_ok]
      · cases hq
    · cases hq

theorem packed_rel {m : BMap} {l l' : List Value} (h : LRel m l l') : VRel m (packed l) (if hh : l'.toArray.size = 1 then l'.toArray[0] else .tuple l'.toArray) := by
  rcases h.ind with ⟨rfl, rfl⟩ | ⟨v, v', r, r', rfl, rfl, hv, hr⟩
  · exact VRel.tuple_of (LRel.nil m)
  · rcases hr.ind with ⟨rfl, rfl⟩ | ⟨u, u', q, q', rfl, rfl, hu, hq⟩
    · exact hv
    · have := VRel.tuple_of (LRel.cons hv (LRel.cons hu hq))
      simpa [packed] using this

theorem results_rel {m : BMap} {h : AHeap} {w : World} {nt : Nat} {ts : Tr Value} {a : Act} {fn : Func} (hR : Rel P m h w) (hT : TRel m nt ts a) {vs : List Value} (hq : ares P ts h fn.results.toList = some vs) :
    ∃ v', (results fn a.tmps).run P w = .ok v' w ∧ VRel m (packed vs) v' := by
  obtain ⟨vs', h1, h2⟩ := ares_rel hR hT hq
  refine ⟨_, ?_, packed_rel h2⟩
  have hres : results fn a.tmps = (do
      let vs ← fn.results.mapM (resOne a.tmps)
      pure (if h : vs.size = 1 then vs[0] else .tuple vs)) := rfl
  rw [hres, Array.mapM_eq_mapM_toList]
  simp only [Sem.run_bind, Sem.run_map, h1, Result.andThen_ok, Sem.run_pure]

theorem acall_ok {O : CallF} (hO : CallOK P O) {code : CodeF} (hc : CodeOK P code) : CallOK P (acall P O code) := by
  intro f args h v h' hq
  unfold acall at hq
  split at hq
  · rename_i hk; cases hq; exact hO _ _ _ _ _ hk
  split at hq
  · rename_i fn c hb
    refine ⟨by rw [hb]; rfl, fun m w args' hR hA => ?_⟩
    split at hq
    · rename_i hle
      have hle' := Nat.le_of_ble_eq_true hle
      have hf : P.funcs[f]? = some fn ∧ fn.body = some c := by
        unfold bodyOf at hb
        split at hb
        · rename_i fn' hfn
          split at hb
          · rename_i c' hbody _
            cases hb
            exact ⟨hfn, hbody⟩
          · cases hb
        · cases hb
      have hlen : args.length = args'.length := hA.1
      have hT0 : TRel m fn.ntmps (initF 0 args .nil) { tmps := args'.toArray ++ Array.replicate (fn.ntmps - args'.toArray.size) undef, defers := [] } := by
        refine ⟨by simp; omega, rfl, fun t => ?_⟩
        rw [tget_initF]
        simp only [Nat.zero_le, true_and, Nat.zero_add, Nat.sub_zero]
        by_cases ht : t < args.length
        · rw [if_pos ht]
          have h1 : t < args'.length := hlen ▸ ht
          have := hA.2 t ht
          simp only [Array.getD_eq_getD_getElem?]
          rw [Array.getElem?_append_left (by simpa using h1)]
          simpa [List.getD_eq_getElem?_getD] using this
        · rw [if_neg ht]
          have ht' : args'.length ≤ t := hlen ▸ Nat.not_lt.1 ht
          have : (args'.toArray ++ Array.replicate (fn.ntmps - args'.toArray.size) undef).getD t undef = undef := by
            simp only [Array.getD_eq_getD_getElem?]
            rw [Array.getElem?_append_right (by simpa using ht')]
            rw [Array.getElem?_replicate]
            split <;> rfl
          rw [this]
          exact .undef m
      refine calls_of_wp hf.1 hf.2 ?_
      split at hq
      · rename_i ts' h1 hcode
        split at hq
        · rename_i vs hvs
          cases hq
          refine hc _ _ _ _ _ _ _ hcode m w _ _ hR hT0 (fun m' w' a' r1 r2 r3 => ?_)
          obtain ⟨v', e1, e2⟩ := results_rel r1 r2 hvs
          exact ⟨r2.defers, v', e1, m', v', rfl, e2, r1, r3⟩
        · cases hq
      · rename_i ts' h1 hcode
        split at hq
        · rename_i vs hvs
          cases hq
          refine hc _ _ _ _ _ _ _ hcode m w _ _ hR hT0 (fun m' w' a' r1 r2 r3 => ?_)
          obtain ⟨v', e1, e2⟩ := results_rel r1 r2 hvs
          exact ⟨r2.defers, v', e1, m', v', rfl, e2, r1, r3⟩
        · cases hq
      · cases hq
    · cases hq
  · cases hq

theorem aloop_ok {code : CodeF} (hc : CodeOK P code) {b : Code} {nt : Nat} : ∀ (n : Nat) {ts ts' : Tr Value} {h h' : AHeap} {x : AExit}, aloop code b nt n ts h = some (x, ts', h') → ∀ {m : BMap} {w : World} {a : Act} {Q : Exit → Act → World → Prop}, Rel P m h w → TRel m nt ts a →
    (∀ m' w' a', Rel P m' h' w' → TRel m' nt ts' a' → Sim m h w m' h' w' → Q (exitOf x) a' w') → Code.rounds P b Q n a w
  | 0, ts, ts', h, h', x, hq, m, w, a, Q, hR, hT, hQ => by cases hq
  | n + 1, ts, ts', h, h', x, hq, m, w, a, Q, hR, hT, hQ => by
    rw [rounds_succ]
    unfold aloop at hq
    split at hq
    · rename_i ts1 h1 h1eq
      refine hc _ _ _ _ _ _ _ h1eq m w a _ hR hT (fun m' w' a' r1 r2 r3 => ?_)
      exact aloop_ok hc n hq r1 r2 (fun m2 w2 a2 q1 q2 q3 => hQ m2 w2 a2 q1 q2 (r3.trans hR q3))
    · rename_i r hno
      cases hcode : code b nt ts h with
      | none => rw [hcode] at hq; cases hq
      | some y =>
        rw [hcode] at hq
        cases hq
        refine hc _ _ _ _ _ _ _ hcode m w a _ hR hT (fun m' w' a' r1 r2 r3 => ?_)
        cases x with
        | normal => exact (hno _ _ hcode).elim
        | exit id => exact hQ m' w' a' r1 r2 r3
        | ret => exact hQ m' w' a' r1 r2 r3

theorem astep_ok (hmix : P.follows .mixedOrders = true) {O : CallF} (hOe : CallExt O) (hO : CallOK P O) {code : CodeF} (hce : CodeExt code) (hc : CodeOK P code) (n : Nat) : CodeOK P (astep P O n code) := by
  intro c nt ts h x ts' h' hq m w a Q hR hT hQ
  have hcall := acall_ok hO hc
  cases c with
  | skip => cases hq; exact wp_skip (hQ m w a hR hT (Sim.refl _ _ _))
  | label l => cases hq; exact wp_label (hQ m w a hR hT (Sim.refl _ _ _))
  | exit id => cases hq; exact wp_exit (hQ m w a hR hT (Sim.refl _ _ _))
  | ret => cases hq; exact wp_ret (hQ m w a hR hT (Sim.refl _ _ _))
  | region id ops draw =>
    cases draw with
    | false =>
      simp only [astep] at hq
      split at hq
      · rename_i ts1 h1 hr
        cases hq
        exact wp_region_list (aops_wp hcall ops _ hr hR hT hQ)
      · cases hq
    | true =>
      simp only [astep] at hq
      split at hq
      · rename_i ts1 h1 hr
        cases hq
        exact aregD_wp hmix (acall_ext hOe hce) hcall hr hR hT hQ
      · cases hq
  | seq c d =>
    simp only [astep] at hq
    refine wp_seq ?_
    split at hq
    · rename_i ts1 h1 h1eq
      refine hc _ _ _ _ _ _ _ h1eq m w a _ hR hT (fun m' w' a' r1 r2 r3 => ?_)
      exact hc _ _ _ _ _ _ _ hq m' w' a' Q r1 r2 (fun m2 w2 a2 q1 q2 q3 => hQ m2 w2 a2 q1 q2 (r3.trans hR q3))
    · rename_i r hno
      cases hcode : code c nt ts h with
      | none => rw [hcode] at hq; cases hq
      | some y =>
        rw [hcode] at hq
        cases hq
        refine hc _ _ _ _ _ _ _ hcode m w a _ hR hT (fun m' w' a' r1 r2 r3 => ?_)
        cases x with
        | normal => exact (hno _ _ hcode).elim
        | exit id => exact hQ m' w' a' r1 r2 r3
        | ret => exact hQ m' w' a' r1 r2 r3
  | cond c d e =>
    simp only [astep] at hq
    split at hq
    · rename_i hb
      exact wp_cond_true (ev_rel hT hR.glob hb).inv_bool (hc _ _ _ _ _ _ _ hq m w a Q hR hT hQ)
    · rename_i hb
      exact wp_cond_false (ev_rel hT hR.glob hb).inv_bool (hc _ _ _ _ _ _ _ hq m w a Q hR hT hQ)
    · cases hq
  | block id b =>
    simp only [astep] at hq
    refine wp_block ?_
    split at hq
    · rename_i j ts1 h1 h1eq
      refine hc _ _ _ _ _ _ _ h1eq m w a _ hR hT (fun m' w' a' r1 r2 r3 => ?_)
      show (if j = id then Q .normal a' w' else Q (.exit j) a' w')
      split at hq
      · rename_i hj
        cases hq
        rw [if_pos (Nat.eq_of_beq_eq_true hj)]
        exact hQ m' w' a' r1 r2 r3
      · rename_i hj
        cases hq
        rw [if_neg (Nat.ne_of_beq_eq_false hj)]
        exact hQ m' w' a' r1 r2 r3
    · rename_i r hno
      cases hcode : code b nt ts h with
      | none => rw [hcode] at hq; cases hq
      | some y =>
        rw [hcode] at hq
        cases hq
        refine hc _ _ _ _ _ _ _ hcode m w a _ hR hT (fun m' w' a' r1 r2 r3 => ?_)
        cases x with
        | normal => exact hQ m' w' a' r1 r2 r3
        | exit j => exact (hno _ _ _ hcode).elim
        | ret => exact hQ m' w' a' r1 r2 r3
  | loop b =>
    simp only [astep] at hq
    exact wp_loop_rounds n (aloop_ok hc n hq hR hT hQ)
  | _ => simp only [astep] at hq; cases hq

theorem acode_ok (hmix : P.follows .mixedOrders = true) {O : CallF} (hOe : CallExt O) (hO : CallOK P O) : ∀ n, CodeOK P (acode P O n)
  | 0 => fun _ _ _ _ _ _ _ hq => by cases hq
  | n + 1 => astep_ok hmix hOe hO (acode_ext hOe n) (acode_ok hmix hOe hO n) n

/-- THE THEOREM: a call that the abstract evaluator ends well, with value v and heap h', the model ends so from every world that the heap describes. -/
theorem sound_call (hmix : P.follows .mixedOrders = true) {O : CallF} (hOe : CallExt O) (hO : CallOK P O) (n : Nat) : CallOK P (run P O n) := acall_ok hO (acode_ok hmix hOe hO n)

theorem noO_ext : CallExt noO := fun _ _ _ _ _ h => by cases h
theorem noO_ok : CallOK P noO := fun _ _ _ _ _ h => by cases h

end
end Go.Abs
