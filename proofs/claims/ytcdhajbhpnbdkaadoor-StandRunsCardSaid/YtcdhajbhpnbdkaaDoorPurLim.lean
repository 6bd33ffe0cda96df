/-
  The pure evaluator without fuel: its equations.
  Conditions: none; definitions and lemmas.
-/
import Derived.Test.YtcdhajbhpnbdkaaDoorPurCode
set_option linter.unusedSimpArgs false
set_option linter.unusedVariables false
set_option linter.unusedSectionVars false
namespace Go.Pur
open Go.Abs

/-- What a growing sequence comes to. -/
noncomputable def lim {α : Type} (F : Nat → Option α) : Option α :=
  haveI := Classical.propDecidable (∃ n, (F n).isSome = true)
  if h : ∃ n, (F n).isSome = true then F h.choose else none

def Mono {α : Type} (F : Nat → Option α) : Prop := ∀ n m r, n ≤ m → F n = some r → F m = some r

theorem lim_iff {α : Type} {F : Nat → Option α} (hm : Mono F) {r : α} : lim F = some r ↔ ∃ n, F n = some r := by
  unfold lim
  constructor
  · intro h
    split at h
    · rename_i hx; exact ⟨_, h⟩
    · cases h
  · rintro ⟨n, hn⟩
    have hx : ∃ n, (F n).isSome = true := ⟨n, by rw [hn]; rfl⟩
    rw [dif_pos hx]
    have h1 := hx.choose_spec
    obtain ⟨r', hr'⟩ := Option.isSome_iff_exists.1 h1
    rw [hr']
    have a := hm _ (Nat.max n hx.choose) _ (Nat.le_max_left _ _) hn
    have b := hm _ (Nat.max n hx.choose) _ (Nat.le_max_right _ _) hr'
    rw [a] at b
    exact b.symm

theorem opt_ext {α : Type} {a b : Option α} (h : ∀ r, a = some r ↔ b = some r) : a = b := by
  cases a with
  | none => cases b with
    | none => rfl
    | some y => exact absurd ((h y).2 rfl) (by simp)
  | some x => exact ((h x).1 rfl).symm

def PLe (c c' : PCallF) : Prop := ∀ g a h r, c g a h = some r → c' g a h = some r
def CLe (c c' : FuncId → Nat → PCodeF) : Prop := ∀ f nt x σ r, c f nt x σ = some r → c' f nt x σ = some r

section
variable {P : Program} {Y : Pol} {f : FuncId}

theorem pcallOp_mono {c c' : PCallF} (h : PLe c c') {dr : Dr} {fo : Operand} {args : List Operand} {σ : St} {r : PV × St} (hq : pcallOp Y f c dr fo args σ = some r) : pcallOp Y f c' dr fo args σ = some r := by
  unfold pcallOp at hq ⊢
  split at hq
  · rename_i g first captured vs h1 h2
    try simp only [h1, h2]
    split at hq
    · rename_i vs' σ' h3
      try simp only [h3]
      split at hq
      · rename_i v hp w h4 h5
        simp only [h4, h _ _ _ _ h5]
        exact hq
      · cases hq
    · cases hq
  · cases hq

theorem poper_mono {c c' : PCallF} (h : PLe c c') {dr : Dr} {op : Op} {σ : St} {r : PV × St} (hq : poper P Y f c dr op σ = some r) : poper P Y f c' dr op σ = some r := by
  cases op with
  | call k =>
    obtain ⟨callee, args, types⟩ := k
    cases callee with
    | value fo => exact pcallOp_mono h hq
    | builtin b => cases b <;> exact hq
    | invoke a b => exact hq
  | _ => exact hq

theorem pops_mono {c c' : PCallF} (h : PLe c c') {draw : Bool} {nt : Nat} {ops : Array Oper} {n : Nat} : ∀ {l : List Oper} {k : Nat} {σ : St} {r : St}, pops P Y f c draw nt ops n k l σ = some r → pops P Y f c' draw nt ops n k l σ = some r
  | [], k, σ, r, hq => hq
  | o :: l, k, σ, r, hq => by
    simp only [pops] at hq ⊢
    split at hq
    · rename_i h1
      try simp only [h1]
      split at hq
      · rename_i v σ' h2
        simp only [poper_mono h h2]
        split at hq
        · rename_i σ'' h3
          try simp only [h3]
          exact pops_mono h hq
        · cases hq
      · cases hq
    · rename_i h1
      try simp only [h1]
      split at hq
      · rename_i σ' h2
        try simp only [h2]
        exact pops_mono h hq
      · cases hq
    · cases hq

theorem ploop_mono {c c' : PCodeF} (h : ∀ x σ r, c x σ = some r → c' x σ = some r) {b : Code} : ∀ {n m : Nat} {σ : St} {r : AExit × St}, n ≤ m → ploop c b n σ = some r → ploop c' b m σ = some r
  | 0, m, σ, r, _, hq => by cases hq
  | n + 1, 0, σ, r, hnm, hq => absurd hnm (by omega)
  | n + 1, m + 1, σ, r, hnm, hq => by
    simp only [ploop] at hq ⊢
    split at hq
    · rename_i σ' h1
      simp only [h _ _ _ h1]
      exact ploop_mono h (by omega) hq
    · rename_i hne
      have h1 := h _ _ _ hq
      rw [h1]
      obtain ⟨x, σ'⟩ := r
      cases x with
      | normal => exact (hne _ hq).elim
      | _ => rfl

theorem pstep_mono {c c' : PCallF} {pc pc' : PCodeF} (hc : PLe c c') (h : ∀ x σ r, pc x σ = some r → pc' x σ = some r) {nt n m : Nat} (hnm : n ≤ m) {x : Code} {σ : St} {r : AExit × St} (hq : pstep P Y f nt c n pc x σ = some r) : pstep P Y f nt c' m pc' x σ = some r := by
  cases x with
  | region id ops draw =>
    simp only [pstep] at hq ⊢
    split at hq
    · rename_i σ' h1
      rw [pops_mono hc h1]
      exact hq
    · cases hq
  | seq a b =>
    simp only [pstep] at hq ⊢
    split at hq
    · rename_i σ' h1
      simp only [h _ _ _ h1]
      exact h _ _ _ hq
    · rename_i hne
      rw [h _ _ _ hq]
      obtain ⟨x, σ'⟩ := r
      cases x with
      | normal => exact (hne _ hq).elim
      | _ => rfl
  | cond c0 a b =>
    simp only [pstep] at hq ⊢
    split at hq
    · exact h _ _ _ hq
    · exact h _ _ _ hq
    · cases hq
  | block id b =>
    simp only [pstep] at hq ⊢
    split at hq
    · rename_i j σ' h1
      simp only [h _ _ _ h1]
      exact hq
    · rename_i hne
      rw [h _ _ _ hq]
      obtain ⟨x, σ'⟩ := r
      cases x with
      | exit j => exact (hne _ _ hq).elim
      | _ => rfl
  | loop b => exact ploop_mono h hnm hq
  | _ => exact hq

theorem pcall_mono {pc pc' : FuncId → Nat → PCodeF} (h : CLe pc pc') : PLe (pcall P Y pc) (pcall P Y pc') := by
  intro g a hp r hq
  unfold pcall at hq ⊢
  split at hq
  · rename_i fn c hb
    try simp only [hb]
    split at hq
    · rename_i h1
      try simp only [h1]
      split at hq
      · rename_i σ h2
        simp only [h _ _ _ _ _ h2]
        exact hq
      · rename_i σ h2
        simp only [h _ _ _ _ _ h2]
        exact hq
      · cases hq
    · cases hq
  · cases hq

theorem pcode_succ : ∀ n, CLe (pcode P Y n) (pcode P Y (n + 1))
  | 0 => fun f nt c σ r hq => by cases hq
  | n + 1 => fun f nt c σ r hq => pstep_mono (pcall_mono (pcode_succ n)) (fun x σ r h => pcode_succ n f nt x σ r h) (Nat.le_succ n) hq
theorem pcode_le {n m : Nat} (h : n ≤ m) : CLe (pcode P Y n) (pcode P Y m) := by
  induction h with
  | refl => exact fun _ _ _ _ _ h => h
  | step _ ih => exact fun f nt c σ r hq => pcode_succ _ f nt c σ r (ih f nt c σ r hq)
theorem purRun_le {n m : Nat} (h : n ≤ m) : PLe (purRun P Y n) (purRun P Y m) := pcall_mono (pcode_le h)

/-- Code, with as much fuel as it wants. -/
noncomputable def EC (P : Program) (Y : Pol) (f : FuncId) (nt : Nat) : PCodeF := fun c σ => lim fun n => pcode P Y n f nt c σ
/-- A call, with as much fuel as it wants. -/
noncomputable def E (P : Program) (Y : Pol) : PCallF := fun g a hp => lim fun n => purRun P Y n g a hp

theorem EC_iff {nt : Nat} {c : Code} {σ : St} {r : AExit × St} : EC P Y f nt c σ = some r ↔ ∃ n, pcode P Y n f nt c σ = some r :=
  lim_iff (fun n m r h hq => pcode_le h f nt c σ r hq)
theorem E_iff {g : FuncId} {a : List PV} {hp : List (Option (List PV))} {r : PV × List (Option (List PV)) × Option Nat} : E P Y g a hp = some r ↔ ∃ n, purRun P Y n g a hp = some r :=
  lim_iff (fun n m r h hq => purRun_le h g a hp r hq)

theorem pcode_EC (n : Nat) : CLe (pcode P Y n) (fun f nt => EC P Y f nt) := fun f nt c σ r h => EC_iff.2 ⟨n, h⟩
theorem purRun_E (n : Nat) : PLe (purRun P Y n) (E P Y) := fun g a hp r h => E_iff.2 ⟨n, h⟩

/-- A call is its body. -/
theorem E_eq {g : FuncId} {a : List PV} {hp : List (Option (List PV))} : E P Y g a hp = pcall P Y (fun f nt => EC P Y f nt) g a hp := by
  refine opt_ext fun r => ⟨fun h => ?_, fun h => ?_⟩
  · obtain ⟨n, hn⟩ := E_iff.1 h
    exact pcall_mono (pcode_EC n) g a hp r hn
  · unfold pcall at h
    split at h
    · rename_i fn c hb
      split at h
      · rename_i h1
        split at h
        · rename_i σ h2
          obtain ⟨n, hn⟩ := EC_iff.1 h2
          refine E_iff.2 ⟨n, ?_⟩
          unfold purRun pcall
          simp only [hb, h1, hn]
          exact h
        · rename_i σ h2
          obtain ⟨n, hn⟩ := EC_iff.1 h2
          refine E_iff.2 ⟨n, ?_⟩
          unfold purRun pcall
          simp only [hb, h1, hn]
          exact h
        · cases h
      · cases h
    · cases h

theorem pcallOp_lim {dr : Dr} {fo : Operand} {args : List Operand} {σ : St} {r : PV × St} (hq : pcallOp Y f (E P Y) dr fo args σ = some r) : ∃ n, pcallOp Y f (purRun P Y n) dr fo args σ = some r := by
  unfold pcallOp at hq
  split at hq
  · rename_i g first captured vs h1 h2
    split at hq
    · rename_i vs' σ' h3
      split at hq
      · rename_i v hp w h4 h5
        obtain ⟨n, hn⟩ := E_iff.1 h5
        refine ⟨n, ?_⟩
        unfold pcallOp
        simp only [h1, h2, h3, h4, hn]
        exact hq
      · cases hq
    · cases hq
  · cases hq

theorem poper_lim {dr : Dr} {op : Op} {σ : St} {r : PV × St} (hq : poper P Y f (E P Y) dr op σ = some r) : ∃ n, poper P Y f (purRun P Y n) dr op σ = some r := by
  cases op with
  | call k =>
    obtain ⟨callee, args, types⟩ := k
    cases callee with
    | value fo => exact pcallOp_lim hq
    | builtin b => cases b <;> exact ⟨0, hq⟩
    | invoke a b => exact ⟨0, hq⟩
  | _ => exact ⟨0, hq⟩

theorem pops_lim {draw : Bool} {nt : Nat} {ops : Array Oper} {n : Nat} : ∀ {l : List Oper} {k : Nat} {σ : St} {r : St}, pops P Y f (E P Y) draw nt ops n k l σ = some r → ∃ m, pops P Y f (purRun P Y m) draw nt ops n k l σ = some r
  | [], k, σ, r, hq => ⟨0, hq⟩
  | o :: l, k, σ, r, hq => by
    simp only [pops] at hq
    split at hq
    · rename_i h1
      split at hq
      · rename_i v σ' h2
        split at hq
        · rename_i σ'' h3
          obtain ⟨a, ha⟩ := poper_lim h2
          obtain ⟨b, hb⟩ := pops_lim hq
          refine ⟨Nat.max a b, ?_⟩
          simp only [pops, h1, poper_mono (purRun_le (Nat.le_max_left a b)) ha, h3]
          exact pops_mono (purRun_le (Nat.le_max_right a b)) hb
        · cases hq
      · cases hq
    · rename_i h1
      split at hq
      · rename_i σ' h2
        obtain ⟨b, hb⟩ := pops_lim hq
        exact ⟨b, by simp only [pops, h1, h2]; exact hb⟩
      · cases hq
    · cases hq

variable {nt : Nat} {σ : St}
theorem EC_skip : EC P Y f nt .skip σ = some (.normal, σ) := EC_iff.2 ⟨1, rfl⟩
theorem EC_label {l : Nat} : EC P Y f nt (.label l) σ = some (.normal, σ) := EC_iff.2 ⟨1, rfl⟩
theorem EC_exit {id : Nat} : EC P Y f nt (.exit id) σ = some (.exit id, σ) := EC_iff.2 ⟨1, rfl⟩
theorem EC_ret : EC P Y f nt .ret σ = some (.ret, σ) := EC_iff.2 ⟨1, rfl⟩

theorem EC_succ {c : Code} {r : AExit × St} : EC P Y f nt c σ = some r ↔ ∃ n, pstep P Y f nt (pcall P Y (pcode P Y n)) n (pcode P Y n f nt) c σ = some r := by
  rw [EC_iff]
  constructor
  · rintro ⟨n, hn⟩
    cases n with
    | zero => cases hn
    | succ n => exact ⟨n, hn⟩
  · rintro ⟨n, hn⟩
    exact ⟨n + 1, hn⟩

theorem EC_region {id : Nat} {ops : Array Oper} {draw : Bool} : EC P Y f nt (.region id ops draw) σ = match pops P Y f (E P Y) draw nt ops σ.hp.length 0 ops.toList { σ with ls := [] } with
    | some σ' => some (.normal, σ')
    | none => none := by
  refine opt_ext fun r => ⟨fun h => ?_, fun h => ?_⟩
  · obtain ⟨n, hn⟩ := EC_succ.1 h
    simp only [pstep] at hn
    split at hn
    · rename_i σ' h1
      rw [pops_mono (purRun_E n) h1]; exact hn
    · cases hn
  · split at h
    · rename_i σ' h1
      obtain ⟨n, hn⟩ := pops_lim h1
      refine EC_succ.2 ⟨n, ?_⟩
      simp only [pstep]
      rw [show pops P Y f (pcall P Y (pcode P Y n)) draw nt ops σ.hp.length 0 ops.toList { σ with ls := [] } = some σ' from hn]
      exact h
    · cases h

theorem EC_seq {a b : Code} : EC P Y f nt (.seq a b) σ = match EC P Y f nt a σ with
    | some (.normal, σ') => EC P Y f nt b σ'
    | r => r := by
  refine opt_ext fun r => ⟨fun h => ?_, fun h => ?_⟩
  · obtain ⟨n, hn⟩ := EC_succ.1 h
    simp only [pstep] at hn
    split at hn
    · rename_i σ' h1
      rw [EC_iff.2 ⟨n, h1⟩]
      exact EC_iff.2 ⟨n, hn⟩
    · rename_i hne
      rw [EC_iff.2 ⟨n, hn⟩]
      obtain ⟨x, σ'⟩ := r
      cases x with
      | normal => exact (hne _ hn).elim
      | _ => rfl
  · split at h
    · rename_i σ' h1
      obtain ⟨n1, hn1⟩ := EC_iff.1 h1
      obtain ⟨n2, hn2⟩ := EC_iff.1 h
      refine EC_succ.2 ⟨Nat.max n1 n2, ?_⟩
      simp only [pstep, pcode_le (Nat.le_max_left n1 n2) _ _ _ _ _ hn1]
      exact pcode_le (Nat.le_max_right n1 n2) _ _ _ _ _ hn2
    · rename_i hne
      obtain ⟨n, hn⟩ := EC_iff.1 h
      refine EC_succ.2 ⟨n, ?_⟩
      simp only [pstep, hn]
      obtain ⟨x, σ'⟩ := r
      cases x with
      | normal => exact (hne _ h).elim
      | _ => rfl

theorem EC_cond {c : Operand} {a b : Code} : EC P Y f nt (.cond c a b) σ = match pcond Y f σ c with
    | some true => EC P Y f nt a σ
    | some false => EC P Y f nt b σ
    | none => none := by
  refine opt_ext fun r => ⟨fun h => ?_, fun h => ?_⟩
  · obtain ⟨n, hn⟩ := EC_succ.1 h
    simp only [pstep] at hn
    split at hn
    · rename_i h1; rw [h1]; exact EC_iff.2 ⟨n, hn⟩
    · rename_i h1; rw [h1]; exact EC_iff.2 ⟨n, hn⟩
    · cases hn
  · split at h
    · rename_i h1
      obtain ⟨n, hn⟩ := EC_iff.1 h
      exact EC_succ.2 ⟨n, by simp only [pstep, h1]; exact hn⟩
    · rename_i h1
      obtain ⟨n, hn⟩ := EC_iff.1 h
      exact EC_succ.2 ⟨n, by simp only [pstep, h1]; exact hn⟩
    · cases h

theorem EC_block {id : Nat} {b : Code} : EC P Y f nt (.block id b) σ = match EC P Y f nt b σ with
    | some (.exit j, σ') => match Nat.beq j id with
      | true => some (.normal, σ')
      | false => some (.exit j, σ')
    | r => r := by
  refine opt_ext fun r => ⟨fun h => ?_, fun h => ?_⟩
  · obtain ⟨n, hn⟩ := EC_succ.1 h
    simp only [pstep] at hn
    split at hn
    · rename_i j σ' h1
      rw [EC_iff.2 ⟨n, h1⟩]
      exact hn
    · rename_i hne
      rw [EC_iff.2 ⟨n, hn⟩]
      obtain ⟨x, σ'⟩ := r
      cases x with
      | exit j => exact (hne _ _ hn).elim
      | _ => rfl
  · split at h
    · rename_i j σ' h1
      obtain ⟨n, hn⟩ := EC_iff.1 h1
      refine EC_succ.2 ⟨n, ?_⟩
      simp only [pstep, hn]
      exact h
    · rename_i hne
      obtain ⟨n, hn⟩ := EC_iff.1 h
      refine EC_succ.2 ⟨n, ?_⟩
      simp only [pstep, hn]
      obtain ⟨x, σ'⟩ := r
      cases x with
      | exit j => exact (hne _ _ h).elim
      | _ => rfl

theorem EC_loop {b : Code} : EC P Y f nt (.loop b) σ = match EC P Y f nt b σ with
    | some (.normal, σ') => EC P Y f nt (.loop b) σ'
    | r => r := by
  refine opt_ext fun r => ⟨fun h => ?_, fun h => ?_⟩
  · obtain ⟨n, hn⟩ := EC_succ.1 h
    have hn : ploop (pcode P Y n f nt) b n σ = some r := hn
    cases n with
    | zero => cases hn
    | succ n =>
      simp only [ploop] at hn
      split at hn
      · rename_i σ' h1
        rw [EC_iff.2 ⟨_, h1⟩]
        exact EC_succ.2 ⟨n + 1, ploop_mono (n := n) (m := n + 1) (fun _ _ _ h => h) (Nat.le_succ n) hn⟩
      · rename_i hne
        rw [EC_iff.2 ⟨_, hn⟩]
        obtain ⟨x, σ'⟩ := r
        cases x with
        | normal => exact (hne _ hn).elim
        | _ => rfl
  · split at h
    · rename_i σ' h1
      obtain ⟨n1, hn1⟩ := EC_iff.1 h1
      obtain ⟨n2, hn2⟩ := EC_succ.1 h
      have hn2 : ploop (pcode P Y n2 f nt) b n2 σ' = some r := hn2
      have hm1 := pcode_le (Nat.le_trans (Nat.le_max_left n1 n2) (Nat.le_succ _)) _ _ _ _ _ hn1
      refine EC_succ.2 ⟨Nat.max n1 n2 + 1, ?_⟩
      show ploop (pcode P Y (Nat.max n1 n2 + 1) f nt) b (Nat.max n1 n2 + 1) σ = some r
      simp only [ploop]
      rw [hm1]
      exact ploop_mono (fun x σ r hx => pcode_le (Nat.le_trans (Nat.le_max_right n1 n2) (Nat.le_succ _)) _ _ _ _ _ hx) (Nat.le_max_right n1 n2) hn2
    · rename_i hne
      obtain ⟨n, hn⟩ := EC_iff.1 h
      refine EC_succ.2 ⟨n + 1, ?_⟩
      show ploop (pcode P Y (n + 1) f nt) b (n + 1) σ = some r
      simp only [ploop]
      rw [pcode_le (Nat.le_succ n) _ _ _ _ _ hn]
      obtain ⟨x, σ'⟩ := r
      cases x with
      | normal => exact (hne _ h).elim
      | _ => rfl

/-! ### A machine: what is still to be done lies on a stack -/
inductive Fm where
  | c (c : Code)
  | blk (id : Nat)
  | lp (b : Code)

noncomputable def EK (P : Program) (Y : Pol) (f : FuncId) (nt : Nat) : List Fm → St → Option (AExit × St)
  | [], σ => some (.normal, σ)
  | .c c :: k, σ => match EC P Y f nt c σ with
    | some (.normal, σ') => EK P Y f nt k σ'
    | some (.exit j, σ') => ex j k σ'
    | r => r
  | .blk _ :: k, σ => EK P Y f nt k σ
  | .lp b :: k, σ => match EC P Y f nt (.loop b) σ with
    | some (.normal, σ') => EK P Y f nt k σ'
    | some (.exit j, σ') => ex j k σ'
    | r => r
where ex (j : Nat) : List Fm → St → Option (AExit × St)
  | [], σ => some (.exit j, σ)
  | .c _ :: k, σ => ex j k σ
  | .blk id :: k, σ => match Nat.beq j id with
    | true => EK P Y f nt k σ
    | false => ex j k σ
  | .lp _ :: k, σ => ex j k σ

variable {k : List Fm}
theorem EK_code {c : Code} : EC P Y f nt c σ = EK P Y f nt [.c c] σ := by
  simp only [EK]
  split
  · assumption
  · rename_i h; rw [h]; rfl
  · rfl
theorem EK_skip : EK P Y f nt (.c .skip :: k) σ = EK P Y f nt k σ := by simp only [EK, EC_skip]
theorem EK_label {l : Nat} : EK P Y f nt (.c (.label l) :: k) σ = EK P Y f nt k σ := by simp only [EK, EC_label]
theorem EK_exit {j : Nat} : EK P Y f nt (.c (.exit j) :: k) σ = EK.ex P Y f nt j k σ := by simp only [EK, EC_exit]
theorem EK_ret : EK P Y f nt (.c .ret :: k) σ = some (.ret, σ) := by simp only [EK, EC_ret]
theorem EK_blk {id : Nat} : EK P Y f nt (.blk id :: k) σ = EK P Y f nt k σ := by simp only [EK]
theorem EK_nil : EK P Y f nt [] σ = some (.normal, σ) := by simp only [EK]
theorem EK_seq {a b : Code} : EK P Y f nt (.c (.seq a b) :: k) σ = EK P Y f nt (.c a :: .c b :: k) σ := by
  simp only [EK, EC_seq, EK.ex]
  cases EC P Y f nt a σ with
  | none => rfl
  | some r =>
    obtain ⟨x, σ'⟩ := r
    cases x <;> rfl
theorem EK_block {id : Nat} {b : Code} : EK P Y f nt (.c (.block id b) :: k) σ = EK P Y f nt (.c b :: .blk id :: k) σ := by
  simp only [EK, EC_block, EK.ex]
  cases EC P Y f nt b σ with
  | none => rfl
  | some r =>
    obtain ⟨x, σ'⟩ := r
    cases x with
    | exit j => simp only []; cases Nat.beq j id <;> rfl
    | _ => rfl
theorem EK_loop {b : Code} : EK P Y f nt (.c (.loop b) :: k) σ = EK P Y f nt (.lp b :: k) σ := by simp only [EK]
theorem EK_lp {b : Code} : EK P Y f nt (.lp b :: k) σ = EK P Y f nt (.c b :: .lp b :: k) σ := by
  simp only [EK, EK.ex]
  rw [EC_loop]
  cases EC P Y f nt b σ with
  | none => rfl
  | some r =>
    obtain ⟨x, σ'⟩ := r
    cases x <;> rfl

/-- A branch. -/
noncomputable def EB (P : Program) (Y : Pol) (f : FuncId) (nt : Nat) (o : Option Bool) (a b : Code) (k : List Fm) (σ : St) : Option (AExit × St) :=
  match o with
  | some true => EK P Y f nt (.c a :: k) σ
  | some false => EK P Y f nt (.c b :: k) σ
  | none => none
theorem EK_cond {c : Operand} {a b : Code} : EK P Y f nt (.c (.cond c a b) :: k) σ = EB P Y f nt (pcond Y f σ c) a b k σ := by
  unfold EB
  simp only [EK, EC_cond]
  cases pcond Y f σ c with
  | none => rfl
  | some t => cases t <;> rfl
theorem EB_true {a b : Code} : EB P Y f nt (some true) a b k σ = EK P Y f nt (.c a :: k) σ := rfl
theorem EB_false {a b : Code} : EB P Y f nt (some false) a b k σ = EK P Y f nt (.c b :: k) σ := rfl

/-- Operations, one after the other. -/
noncomputable def EO (P : Program) (Y : Pol) (f : FuncId) (nt : Nat) (draw : Bool) (ops : Array Oper) (n i : Nat) (l : List Oper) (k : List Fm) (σ : St) : Option (AExit × St) :=
  match pops P Y f (E P Y) draw nt ops n i l σ with
  | some σ' => EK P Y f nt k σ'
  | none => none
noncomputable def EO1 (P : Program) (Y : Pol) (f : FuncId) (nt : Nat) (draw : Bool) (ops : Array Oper) (n i : Nat) (w : Option Bool) (o : Oper) (l : List Oper) (k : List Fm) (σ : St) : Option (AExit × St) :=
  match w with
  | some true => match poper P Y f (E P Y) (drOf draw ops i n) o.op σ with
    | some (v, σ') => match pputT Y f nt (isAssign o.op) o.dst v σ' with
      | some σ'' => EO P Y f nt draw ops n (i + 1) l k σ''
      | none => none
    | none => none
  | some false => match pskip Y f nt o.dst σ with
    | some σ' => EO P Y f nt draw ops n (i + 1) l k σ'
    | none => none
  | none => none
noncomputable def EO2 (P : Program) (Y : Pol) (f : FuncId) (nt : Nat) (draw : Bool) (ops : Array Oper) (n i : Nat) (asg : Bool) (dst : Option Tmp) (r : Option (PV × St)) (l : List Oper) (k : List Fm) : Option (AExit × St) :=
  match r with
  | some (v, σ') => match pputT Y f nt asg dst v σ' with
    | some σ'' => EO P Y f nt draw ops n (i + 1) l k σ''
    | none => none
  | none => none
noncomputable def EO3 (P : Program) (Y : Pol) (f : FuncId) (nt : Nat) (draw : Bool) (ops : Array Oper) (n i : Nat) (r : Option St) (l : List Oper) (k : List Fm) : Option (AExit × St) :=
  match r with
  | some σ'' => EO P Y f nt draw ops n (i + 1) l k σ''
  | none => none

variable {draw : Bool} {ops : Array Oper} {n i : Nat} {l : List Oper}
theorem EK_region {id : Nat} : EK P Y f nt (.c (.region id ops draw) :: k) σ = EO P Y f nt draw ops σ.hp.length 0 ops.toList k { σ with ls := [] } := by
  unfold EO
  simp only [EK, EC_region]
  cases pops P Y f (E P Y) draw nt ops σ.hp.length 0 ops.toList { σ with ls := [] } <;> rfl
theorem EO_nil : EO P Y f nt draw ops n i [] k σ = EK P Y f nt k { σ with ls := [] } := by
  unfold EO
  simp only [pops]
theorem EO_cons {o : Oper} : EO P Y f nt draw ops n i (o :: l) k σ = EO1 P Y f nt draw ops n i (pwanted Y f ops o σ) o l k σ := by
  unfold EO EO1
  simp only [pops]
  cases pwanted Y f ops o σ with
  | none => rfl
  | some w =>
    cases w with
    | true =>
      simp only []
      cases poper P Y f (E P Y) (drOf draw ops i n) o.op σ with
      | none => rfl
      | some r =>
        obtain ⟨v, σ'⟩ := r
        simp only []
        cases pputT Y f nt (isAssign o.op) o.dst v σ' <;> rfl
    | false =>
      simp only []
      cases pskip Y f nt o.dst σ <;> rfl
theorem EO1_true {o : Oper} : EO1 P Y f nt draw ops n i (some true) o l k σ = EO2 P Y f nt draw ops n i (isAssign o.op) o.dst (poper P Y f (E P Y) (drOf draw ops i n) o.op σ) l k := by
  unfold EO1 EO2
  rfl
theorem EO1_false {o : Oper} : EO1 P Y f nt draw ops n i (some false) o l k σ = EO3 P Y f nt draw ops n i (pskip Y f nt o.dst σ) l k := by
  unfold EO1 EO3
  rfl
theorem EO2_some {asg : Bool} {dst : Option Tmp} {v : PV} {σ' : St} : EO2 P Y f nt draw ops n i asg dst (some (v, σ')) l k = EO3 P Y f nt draw ops n i (pputT Y f nt asg dst v σ') l k := by
  unfold EO2 EO3
  rfl
theorem EO3_some {σ' : St} : EO3 P Y f nt draw ops n i (some σ') l k = EO P Y f nt draw ops n (i + 1) l k σ' := rfl

/-- The end of a call. -/
def EF (P : Program) (Y : Pol) (g : FuncId) (fn : Func) (base : Nat) (r : Option (AExit × St)) : Option (PV × List (Option (List PV)) × Option Nat) :=
  match r with
  | some (.normal, σ) | some (.ret, σ) => match pres P Y g base fn σ with
    | some (v, σ', drop) => some (pclose base drop v σ')
    | none => none
  | _ => none

theorem E_body {g : FuncId} {fn : Func} {c : Code} {a : List PV} {hp : List (Option (List PV))} (hb : bodyOf P g = some (fn, c)) (hk : (Nat.ble a.length fn.ntmps && keepsTo Y g a.length) = true) :
    E P Y g a hp = EF P Y g fn hp.length (EK P Y g fn.ntmps [.c c] ⟨[], pinit 0 a .nil, hp, none⟩) := by
  rw [E_eq]
  unfold pcall EF
  simp only [hb, hk]
  rw [← EK_code]
  rfl
end
end Go.Pur
