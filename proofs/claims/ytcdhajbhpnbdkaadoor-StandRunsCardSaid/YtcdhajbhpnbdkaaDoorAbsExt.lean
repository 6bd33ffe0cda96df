/-
  What a run of the abstract evaluator leaves of a heap, without any world: blocks below its mark stay as they were.
  Conditions: none; lemmas.
-/
import Derived.Test.YtcdhajbhpnbdkaaDoorAbsRegion
set_option linter.unusedSimpArgs false
set_option linter.unusedVariables false
set_option linter.unusedSectionVars false
namespace Go.Abs

structure AExt (h h' : AHeap) : Prop where
  low : h'.low ≤ h.low
  next : h.next ≤ h'.next
  old : ∀ a, a < h.next → a < h'.low → h'.get a = h.get a
  dead : ∀ a, a < h.next → h.get a = none → h'.get a = none
  ro : ∀ a B, a < h.next → h.get a = some B → B.wr = false → h'.get a = some B

theorem AExt.refl (h : AHeap) : AExt h h := ⟨Nat.le_refl _, Nat.le_refl _, fun _ _ _ => rfl, fun _ _ h => h, fun _ _ _ h _ => h⟩
theorem AExt.trans {h h1 h2 : AHeap} (s : AExt h h1) (t : AExt h1 h2) : AExt h h2 :=
  ⟨Nat.le_trans t.low s.low, Nat.le_trans s.next t.next, fun a ha hl => (t.old a (Nat.lt_of_lt_of_le ha s.next) hl).trans (s.old a ha (Nat.lt_of_lt_of_le hl t.low)),
    fun a ha hd => t.dead a (Nat.lt_of_lt_of_le ha s.next) (s.dead a ha hd), fun a B ha hg hw => t.ro a B (Nat.lt_of_lt_of_le ha s.next) (s.ro a B ha hg hw) hw⟩

theorem AExt.alloc (h : AHeap) (B : Blk) : AExt h (h.alloc B) :=
  ⟨Nat.le_refl _, Nat.le_succ _, fun a ha _ => by rw [AHeap.get_alloc, if_neg (by omega)], fun a ha hd => by rw [AHeap.get_alloc, if_neg (by omega)]; exact hd, fun a B ha hg _ => by rw [AHeap.get_alloc, if_neg (by omega)]; exact hg⟩

theorem AExt.put {h : AHeap} {a : Nat} {b : Option Blk} {B : Blk} (hg : h.get a = some B) (hw : B.wr = true) : AExt h (h.put a b) :=
  ⟨Nat.min_le_left _ _, Nat.le_refl _, fun k _ hk => by
    rw [AHeap.get_put, if_neg]
    intro e; subst e
    exact absurd hk (Nat.not_lt.2 (Nat.min_le_right _ _)), fun k _ hd => by
    rw [AHeap.get_put]
    split
    · rename_i e; subst e; rw [hg] at hd; cases hd
    · exact hd, fun k D _ hd hdw => by
    rw [AHeap.get_put, if_neg]
    · exact hd
    · intro e; subst e; rw [hg] at hd; cases hd; rw [hw] at hdw; cases hdw⟩

theorem aput_ext {h h' : AHeap} {a : Addr} {vs : List Value} (hp : aput h a vs = some h') : AExt h h' := by
  unfold aput at hp
  split at hp
  · rename_i B hg
    split at hp
    · rename_i hw
      split at hp
      · split at hp
        · cases hp; exact AExt.put hg hw
        · cases hp
      · cases hp
    · cases hp
  · cases hp

theorem agrow_ext {ce : TypeId → Nat} {size bytes : Nat} {z : Value} {e : TypeId} {s : Value} {n : Nat} {new : List Value} {h h' : AHeap} {v : Value} (hg : agrow ce size bytes z e s n new h = some (v, h')) : AExt h h' := by
  unfold agrow at hg
  split at hg
  · split at hg
    · cases hg; exact AExt.alloc _ _
    · cases hg
  · split at hg
    · split at hg
      · split at hg
        · split at hg
          · rename_i h1 hp; cases hg; exact aput_ext hp
          · cases hg
        · split at hg
          · cases hg; exact AExt.alloc _ _
          · cases hg
      · split at hg
        · rename_i B _ hB
          split at hg
          · rename_i hb
            simp only [Bool.and_eq_true] at hb
            cases hg
            exact (AExt.put hB hb.2).trans (AExt.alloc _ _)
          · cases hg
        · cases hg
    · cases hg
  · cases hg

theorem aappend_ext {P : Program} {types : Array TypeId} {s x v : Value} {h h' : AHeap} (ha : aappend P types s x h = some (v, h')) : AExt h h' := by
  unfold aappend at ha
  repeat' (split at ha)
  all_goals first
    | (cases ha; done)
    | (cases ha; exact AExt.refl _)
    | exact agrow_ext ha

theorem acopy_ext {P : Program} {types : Array TypeId} {s x v : Value} {h h' : AHeap} (ha : acopy P types s x h = some (v, h')) : AExt h h' := by
  unfold acopy at ha
  repeat' (split at ha)
  all_goals first
    | (cases ha; done)
    | (cases ha; exact AExt.refl _)
    | (cases ha; exact aput_ext (by assumption))

theorem aclear_ext {P : Program} {t : TypeId} {x v : Value} {h h' : AHeap} (ha : aclear P t x h = some (v, h')) : AExt h h' := by
  unfold aclear at ha
  repeat' (split at ha)
  all_goals first
    | (cases ha; done)
    | (cases ha; exact AExt.refl _)
    | (cases ha; exact aput_ext (by assumption))

theorem astore_ext {P : Program} {t : TypeId} {p v : Value} {h h' : AHeap} (ha : astore P t p v h = some h') : AExt h h' := by
  unfold astore at ha
  repeat' (split at ha)
  all_goals first
    | (cases ha; done)
    | exact aput_ext ha

theorem aloud_ext {P : Program} {op : Op} {ts : Tr Value} {v : Value} {h h' : AHeap} (ha : aloud P op ts h = some (v, h')) : AExt h h' := by
  unfold aloud at ha
  split at ha
  · split at ha
    · split at ha
      · cases ha; exact astore_ext (by assumption)
      · cases ha
    · cases ha
  · split at ha
    · exact aappend_ext ha
    · cases ha
  · split at ha
    · exact acopy_ext ha
    · cases ha
  · split at ha
    · exact aclear_ext ha
    · cases ha
  · cases ha

def CallExt (call : CallF) : Prop := ∀ f args h v h', call f args h = some (v, h') → AExt h h'

section
variable {P : Program} {call : CallF}

theorem acallOp_ext (hc : CallExt call) {op : Op} {ts : Tr Value} {v : Value} {h h' : AHeap} (ha : acallOp P call op ts h = some (v, h')) : AExt h h' := by
  unfold acallOp at ha
  split at ha
  · split at ha
    · exact hc _ _ _ _ _ ha
    · cases ha
  · cases ha

theorem aoper_ext (hc : CallExt call) {o : Oper} {ts : Tr Value} {v : Value} {h h' : AHeap} (ha : aoper P call o ts h = some (v, h')) : AExt h h' := by
  unfold aoper at ha
  split at ha
  · split at ha
    · cases ha; exact AExt.refl _
    · cases ha
  · split at ha
    · cases ha; exact AExt.alloc _ _
    · cases ha
  · exact aloud_ext ha
  · exact acallOp_ext hc ha

theorem aops_ext (hc : CallExt call) {nt : Nat} {ops : Array Oper} : ∀ {l : List Oper} {ts ts' : Tr Value} {h h' : AHeap}, aops P call nt ops l ts h = some (ts', h') → AExt h h'
  | [], ts, ts', h, h', ha => by cases ha; exact AExt.refl _
  | o :: l, ts, ts', h, h', ha => by
    unfold aops at ha
    split at ha
    · split at ha
      · rename_i v h1 hv
        split at ha
        · exact (aoper_ext hc hv).trans (aops_ext hc ha)
        · cases ha
      · cases ha
    · split at ha
      · exact aops_ext hc ha
      · cases ha

/-- Ahead of a walk of a drawn region: numbers from 'base' on are laid by. -/
structure DExt (base : Nat) (h h' : AHeap) : Prop where
  low : h'.low ≤ h.low
  next : h.next ≤ h'.next
  old : ∀ a, a < base → a < h'.low → h'.get a = h.get a
  dead : ∀ a, a < base → h.get a = none → h'.get a = none
  ro : ∀ a B, a < base → h.get a = some B → B.wr = false → h'.get a = some B

theorem aopsD_ext (hc : CallExt call) {nt base : Nat} {ops : Array Oper} : ∀ {l : List Oper} {k : Nat} {ts ts' : Tr Value} {h h' : AHeap} {rq rl rq' rl' : List (Nat × Nat)}, base ≤ h.next →
    aopsD P call nt base ops l k ts h rq rl = some (ts', h', rq', rl') → DExt base h h'
  | [], k, ts, ts', h, h', rq, rl, rq', rl', hb, ha => by cases ha; exact ⟨Nat.le_refl _, Nat.le_refl _, fun _ _ _ => rfl, fun _ _ h => h, fun _ _ _ h _ => h⟩
  | o :: l, k, ts, ts', h, h', rq, rl, rq', rl', hb, ha => by
    unfold aopsD at ha
    split at ha
    · split at ha
      · split at ha
        · split at ha
          · split at ha
            · split at ha
              · exact aopsD_ext hc hb ha
              · cases ha
            · exact aopsD_ext hc hb ha
          · cases ha
        · cases ha
      · split at ha
        · split at ha
          · rename_i v B _ _ _ _
            obtain ⟨h1, h2, h3, h4, h5⟩ := aopsD_ext hc (h := { h with m := h.m.set (base + k) (some B) }) hb ha
            have hg : ∀ a, a < base → ({ h with m := h.m.set (base + k) (some B) } : AHeap).get a = h.get a := fun a ha => by
              have := AHeap.get_put h (base + k) a (some B)
              rw [if_neg (by omega)] at this
              exact this
            exact ⟨h1, h2, fun a ha hl => (h3 a ha hl).trans (hg a ha), fun a ha hd => h4 a ha ((hg a ha).trans hd), fun a D ha hd hw => h5 a D ha ((hg a ha).trans hd) hw⟩
          · cases ha
        · cases ha
      · split at ha
        · rename_i v h1 hv
          split at ha
          · have e1 := aoper_ext hc hv
            obtain ⟨q1, q2, q3, q4, q5⟩ := aopsD_ext hc (h := { h1 with low := Nat.min h.low h1.low }) (Nat.le_trans hb e1.next) ha
            refine ⟨Nat.le_trans q1 (Nat.min_le_left _ _), Nat.le_trans e1.next q2, fun a ha hl => ?_, fun a ha hd => q4 a ha (e1.dead a (Nat.lt_of_lt_of_le ha hb) hd), fun a D ha hd hw => q5 a D ha (e1.ro a D (Nat.lt_of_lt_of_le ha hb) hd hw) hw⟩
            exact (q3 a ha hl).trans (e1.old a (Nat.lt_of_lt_of_le ha hb) (Nat.lt_of_lt_of_le hl (Nat.le_trans q1 (Nat.min_le_right _ _))))
          · cases ha
        · cases ha
    · split at ha
      · exact aopsD_ext hc hb ha
      · cases ha

theorem aregD_ext (hc : CallExt call) {nt : Nat} {ops : Array Oper} {ts ts' : Tr Value} {h h' : AHeap} (ha : aregD P call nt ops ts h = some (ts', h')) : AExt h h' := by
  unfold aregD at ha
  split at ha
  · split at ha
    · rename_i ts1 h1 rq rl hd
      split at ha
      · cases ha
        obtain ⟨q1, q2, q3, q4, q5⟩ := aopsD_ext hc (Nat.le_add_right _ _) hd
        exact ⟨q1, Nat.le_trans (Nat.le_add_right _ _) q2, q3, q4, q5⟩
      · cases ha
    · cases ha
  · cases ha

def CodeExt (code : CodeF) : Prop := ∀ c nt ts h x ts' h', code c nt ts h = some (x, ts', h') → AExt h h'

theorem acall_ext {O : CallF} (hO : CallExt O) {code : CodeF} (hc : CodeExt code) : CallExt (acall P O code) := by
  intro f args h v h' ha
  unfold acall at ha
  split at ha
  · rename_i hk; cases ha; exact hO _ _ _ _ _ hk
  split at ha
  · split at ha
    · split at ha
      · rename_i hcode
        split at ha
        · cases ha; exact hc _ _ _ _ _ _ _ hcode
        · cases ha
      · rename_i hcode
        split at ha
        · cases ha; exact hc _ _ _ _ _ _ _ hcode
        · cases ha
      · cases ha
    · cases ha
  · cases ha

theorem aloop_ext {code : CodeF} (hc : CodeExt code) {b : Code} {nt : Nat} : ∀ (n : Nat) {ts ts' : Tr Value} {h h' : AHeap} {x : AExit}, aloop code b nt n ts h = some (x, ts', h') → AExt h h'
  | 0, ts, ts', h, h', x, ha => by cases ha
  | n + 1, ts, ts', h, h', x, ha => by
    unfold aloop at ha
    split at ha
    · rename_i h1eq
      exact (hc _ _ _ _ _ _ _ h1eq).trans (aloop_ext hc n ha)
    · exact hc _ _ _ _ _ _ _ ha

theorem astep_ext {O : CallF} (hO : CallExt O) {code : CodeF} (hc : CodeExt code) (n : Nat) : CodeExt (astep P O n code) := by
  intro c nt ts h x ts' h' ha
  have hcall := acall_ext (P := P) hO hc
  unfold astep at ha
  split at ha
  · cases ha; exact AExt.refl _
  · cases ha; exact AExt.refl _
  · split at ha
    · split at ha
      · rename_i hr; cases ha; exact aops_ext hcall hr
      · cases ha
    · split at ha
      · rename_i hr; cases ha; exact aregD_ext hcall hr
      · cases ha
  · split at ha
    · rename_i h1; exact (hc _ _ _ _ _ _ _ h1).trans (hc _ _ _ _ _ _ _ ha)
    · exact hc _ _ _ _ _ _ _ ha
  · split at ha
    · exact hc _ _ _ _ _ _ _ ha
    · exact hc _ _ _ _ _ _ _ ha
    · cases ha
  · split at ha
    · rename_i h1
      split at ha
      · cases ha; exact hc _ _ _ _ _ _ _ h1
      · cases ha; exact hc _ _ _ _ _ _ _ h1
    · exact hc _ _ _ _ _ _ _ ha
  · exact aloop_ext hc n ha
  · cases ha; exact AExt.refl _
  · cases ha; exact AExt.refl _
  · cases ha

theorem acode_ext {O : CallF} (hO : CallExt O) : ∀ n, CodeExt (acode P O n)
  | 0 => fun _ _ _ _ _ _ _ ha => by cases ha
  | n + 1 => astep_ext hO (acode_ext hO n) n

theorem run_ext {O : CallF} (hO : CallExt O) (n : Nat) : CallExt (run P O n) := acall_ext hO (acode_ext hO n)
end
end Go.Abs
