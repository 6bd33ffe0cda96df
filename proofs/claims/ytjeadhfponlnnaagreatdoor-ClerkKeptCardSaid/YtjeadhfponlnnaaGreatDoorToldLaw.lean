/-
  What a line looks like that is an order.
  An office that is told acts: what it is, and how many things it holds.
  Each headword and each short form of a told office came by a line that was taken.
  Conditions: none; definitions and lemmas.
-/
import Derived.Test.YtjeadhfponlnnaaGreatDoorKeep14
set_option linter.unusedSimpArgs false
set_option linter.unusedVariables false
namespace Go.Proofs.YtjeadhfponlnnaaGreatDoor
open Go.RowKit Go.Pur Go.Clerk
def Shape (l : List Tx) : Ord → Prop
 | .word w => l = [kWord, w]
 | .short w f => l = [kShort, w, f]
 | .give w p n => ∃ t, l = [kGive, w, p, t] ∧ numb t = some n
 | .come w n => ∃ t, l = [kCome, w, t] ∧ numb t = some n
 | .see w o => l = [kSee, w, o]
 | .close c => ∃ w, l = [kClose, w] ∧ c = w.headD 0 ∧ named w 1 = true
 | .pay p n => ∃ t, l = [kPay, p, t] ∧ numb t = some n
 | .stop p => l = [kStop, p]
theorem one_of {l : List Tx} (h : l.length = 1) : l = [l.getD 0 []] := by
 match l, h with
 | [a], _ => rfl
theorem two_of {l : List Tx} (h : l.length = 2) : l = [l.getD 0 [], l.getD 1 []] := by
 match l, h with
 | [a, b], _ => rfl
theorem three_of {l : List Tx} (h : l.length = 3) : l = [l.getD 0 [], l.getD 1 [], l.getD 2 []] := by
 match l, h with
 | [a, b, c], _ => rfl
theorem shape_of {first : Tx} {l : List Tx} {x : Ord} (h : parseW first l = (some x, 0)) : Shape (first :: l) x := by
 by_cases a1 : first = kWord
 ·subst a1; rw [parseWord] at h; obtain ⟨n, hr, hx⟩ := mkO_some h; cases hx
  obtain ⟨h1, -, -⟩ := readW_ok hr
  exact congrArg _ (one_of h1)
 by_cases a2 : first = kShort
 ·subst a2; rw [parseShort] at h; obtain ⟨n, hr, hx⟩ := mkO_some h; cases hx
  obtain ⟨h1, -, -⟩ := readW_ok hr
  exact congrArg _ (two_of h1)
 by_cases a3 : first = kGive
 ·subst a3; rw [parseGive] at h; obtain ⟨n, hr, hx⟩ := mkO_some h; cases hx
  obtain ⟨h1, -, h3⟩ := readW_ok hr
  exact ⟨_, congrArg _ (three_of h1), h3 rfl⟩
 by_cases a4 : first = kCome
 ·subst a4; rw [parseCome] at h; obtain ⟨n, hr, hx⟩ := mkO_some h; cases hx
  obtain ⟨h1, -, h3⟩ := readW_ok hr
  exact ⟨_, congrArg _ (two_of h1), h3 rfl⟩
 by_cases a5 : first = kSee
 ·subst a5; rw [parseSee] at h; obtain ⟨n, hr, hx⟩ := mkO_some h; cases hx
  obtain ⟨h1, -, -⟩ := readW_ok hr
  exact congrArg _ (two_of h1)
 by_cases a6 : first = kClose
 ·subst a6; rw [parseClose] at h; obtain ⟨n, hr, hx⟩ := mkO_some h; cases hx
  obtain ⟨h1, h2, -⟩ := readW_ok hr
  refine ⟨_, congrArg _ (one_of h1), rfl, ?_⟩
  have := one_of h1
  exact take_named (i := 0) (by rw [h1]; decide) h2 (by decide)
 by_cases a7 : first = kPay
 ·subst a7; rw [parsePay] at h; obtain ⟨n, hr, hx⟩ := mkO_some h; cases hx
  obtain ⟨h1, -, h3⟩ := readW_ok hr
  exact ⟨_, congrArg _ (two_of h1), h3 rfl⟩
 by_cases a8 : first = kStop
 ·subst a8; rw [parseStop] at h; obtain ⟨n, hr, hx⟩ := mkO_some h; cases hx
  obtain ⟨h1, -, -⟩ := readW_ok hr
  exact congrArg _ (one_of h1)
 by_cases a9 : first = kUndo
 ·subst a9; rw [parseUndo] at h; obtain ⟨n, hr, hx⟩ := mkO_some h; cases hx
 ·rw [parse_else a1 a2 a3 a4 a5 a6 a7 a8 a9] at h
  cases h
theorem split_ne (c : UInt8) : ∀ (l : Tx), splitC c l ≠ []
 | [] => by simp [splitC]
 | x :: l => by
  unfold splitC
  split <;> simp
theorem line_shape {line : Tx} {x : Ord} (h : parse line = (some x, 0)) : Shape (splitC 32 line) x := by
 have h : parseW ((splitC 32 line).headD []) (splitC 32 line).tail = (some x, 0) := h
 have h2 := shape_of h
 have e : (splitC 32 line).headD [] :: (splitC 32 line).tail = splitC 32 line := by
  rcases hs : splitC 32 line with _ | ⟨a, r⟩
  ·exact absurd hs (split_ne 32 line)
  ·rfl
 rw [e] at h2
 exact h2
def joinC : List Tx → Tx
 | [] => []
 | [x] => x
 | x :: y :: r => x ++ 32 :: joinC (y :: r)
theorem split_join : ∀ (line : Tx), joinC (splitC 32 line) = line
 | [] => rfl
 | x :: l => by
  have ih := split_join l
  unfold splitC
  rcases hs : splitC 32 l with _ | ⟨a, r⟩
  ·exact absurd hs (split_ne 32 l)
  ·rw [hs] at ih
   cases hx : decide (x = 32) with
   | true =>
    have := of_decide_eq_true hx
    subst this
    show ([] : Tx) ++ 32 :: joinC (a :: r) = _
    rw [ih]
    rfl
   | false =>
    show joinC ((x :: a) :: r) = x :: l
    rw [← ih]
    cases r with
    | nil => rfl
    | cons b r => rfl
end Go.Proofs.YtjeadhfponlnnaaGreatDoor
set_option linter.unusedSimpArgs false
set_option linter.unusedVariables false
namespace Go.Clerk
open Go.Proofs.YtjeadhfponlnnaaGreatDoor
def toldF (r : Off × List Tx) (l : Tx) : Off × List Tx := match tell r.1 l with
 | (0, S) => (S, r.2 ++ [l])
 | (_ + 1, S) => (S, r.2)
def toldL (ls : List Tx) : Off × List Tx := ls.foldl toldF (Off.none, [])
theorem toldL_snoc (ls : List Tx) (l : Tx) : toldL (ls ++ [l]) = toldF (toldL ls) l := by
 unfold toldL
 rw [List.foldl_append]
 rfl
def LenOK (S : Off) : Prop := ∀ d, d = S.now ∨ d ∈ S.past → d.ents.length ≤ S.lines.length ∧ ∀ v ∈ d.vols, v.words.length < S.lines.length
theorem LenOK.none : LenOK Off.none := fun d h => by
 rcases h with rfl | h
 ·exact ⟨Nat.le_refl _, fun v h => by cases h⟩
 ·cases h
theorem doO_len {x : Ord} {d : Desk} (h : (doO x d).1 = 0) : (doO x d).2.ents.length ≤ d.ents.length + 1 ∧ ∀ v ∈ (doO x d).2.vols, v ∈ d.vols ∨ v.words.length ≤ d.ents.length := by
 cases x with
 | word w =>
  replace h : (doWord w d).1 = 0 := h
  show (doWord w d).2.ents.length ≤ _ ∧ ∀ v ∈ (doWord w d).2.vols, _
  generalize hq : doWord w d = q at h ⊢
  unfold doWord at hq
  split at hq <;> subst hq <;> first | exact absurd h (Nat.succ_ne_zero _) | exact ⟨by simp, fun v hv => .inl hv⟩
 | short w f =>
  replace h : (doShort w f d).1 = 0 := h
  show (doShort w f d).2.ents.length ≤ _ ∧ ∀ v ∈ (doShort w f d).2.vols, _
  generalize hq : doShort w f d = q at h ⊢
  unfold doShort at hq
  split at hq
  ·subst hq; exact absurd h (Nat.succ_ne_zero _)
  ·rename_i e he
   split at hq <;> subst hq <;> first | exact absurd h (Nat.succ_ne_zero _) | exact ⟨by dsimp only; rw [putE_len (x := { e with form := f }) (by show e.word ∈ _; rw [(getE_in he).2]; exact keysE_has he)]; omega, fun v hv => .inl hv⟩
 | give w p n =>
  replace h : (doGive w p n d).1 = 0 := h
  show (doGive w p n d).2.ents.length ≤ _ ∧ ∀ v ∈ (doGive w p n d).2.vols, _
  generalize hq : doGive w p n d = q at h ⊢
  unfold doGive at hq
  split at hq
  ·subst hq; exact absurd h (Nat.succ_ne_zero _)
  ·rename_i e he
   split at hq <;> subst hq <;> first | exact absurd h (Nat.succ_ne_zero _) | exact ⟨by dsimp only; rw [putE_len (x := { e with writer := p, asked := n }) (by show e.word ∈ _; rw [(getE_in he).2]; exact keysE_has he)]; omega, fun v hv => .inl hv⟩
 | come w n =>
  replace h : (doCome w n d).1 = 0 := h
  show (doCome w n d).2.ents.length ≤ _ ∧ ∀ v ∈ (doCome w n d).2.vols, _
  generalize hq : doCome w n d = q at h ⊢
  unfold doCome at hq
  split at hq
  ·subst hq; exact absurd h (Nat.succ_ne_zero _)
  ·rename_i e he
   split at hq <;> subst hq <;> first | exact absurd h (Nat.succ_ne_zero _) | exact ⟨by dsimp only; rw [putE_len (x := { e with came := n }) (by show e.word ∈ _; rw [(getE_in he).2]; exact keysE_has he)]; omega, fun v hv => .inl hv⟩
 | see w o =>
  replace h : (doSee w o d).1 = 0 := h
  show (doSee w o d).2.ents.length ≤ _ ∧ ∀ v ∈ (doSee w o d).2.vols, _
  generalize hq : doSee w o d = q at h ⊢
  unfold doSee at hq
  split at hq
  ·rename_i e _ he _
   split at hq <;> subst hq <;> first | exact absurd h (Nat.succ_ne_zero _) | exact ⟨by dsimp only; rw [putE_len (x := { e with see := o }) (by show e.word ∈ _; rw [(getE_in he).2]; exact keysE_has he)]; omega, fun v hv => .inl hv⟩
  ·subst hq; exact absurd h (Nat.succ_ne_zero _)
 | close c =>
  replace h : (doClose c d).1 = 0 := h
  show (doClose c d).2.ents.length ≤ _ ∧ ∀ v ∈ (doClose c d).2.vols, _
  generalize hq : doClose c d = q at h ⊢
  unfold doClose at hq
  split at hq <;> subst hq
  ·exact absurd h (Nat.succ_ne_zero _)
  ·exact absurd h (Nat.succ_ne_zero _)
  ·refine ⟨by unfold closeD; simp, fun v hv => ?_⟩
   unfold closeD at hv
   simp only [List.mem_append, List.mem_singleton] at hv
   rcases hv with hv | rfl
   ·exact .inl hv
   ·right
    unfold volOf
    simp only [List.length_mergeSort, List.length_map]
    exact List.length_filter_le _ _
 | pay p n =>
  replace h : (doPay p n d).1 = 0 := h
  show (doPay p n d).2.ents.length ≤ _ ∧ ∀ v ∈ (doPay p n d).2.vols, _
  generalize hq : doPay p n d = q at h ⊢
  unfold doPay at hq
  dsimp only at hq
  split at hq <;> subst hq <;> first | exact absurd h (Nat.succ_ne_zero _) | exact ⟨by simp, fun v hv => .inl hv⟩
 | stop p =>
  replace h : (doStop p d).1 = 0 := h
  show (doStop p d).2.ents.length ≤ _ ∧ ∀ v ∈ (doStop p d).2.vols, _
  generalize hq : doStop p d = q at h ⊢
  unfold doStop at hq
  split at hq
  ·subst hq; exact absurd h (Nat.succ_ne_zero _)
  ·split at hq <;> subst hq <;> first | exact absurd h (Nat.succ_ne_zero _) | exact ⟨by simp, fun v hv => .inl hv⟩
theorem tell_line {S : Off} {line : Tx} (hu : parse line ≠ (.none, 0)) : ((tell S line).1 = 0 ∧ (tell S line).2.lines = S.lines ++ [line] ∧ ∃ x, parse line = (some x, 0) ∧ (doO x S.now).1 = 0 ∧ S.lines.length ≠ 150 ∧ (tell S line).2 = ⟨(doO x S.now).2, S.past ++ [S.now], S.lines ++ [line]⟩) ∨ ((tell S line).1 ≠ 0 ∧ (tell S line).2 = S) := by
 rcases hp : parse line with ⟨x, _ | e⟩
 ·cases x with
  | none => exact absurd hp hu
  | some x =>
   by_cases hl : S.lines.length = 150
   ·rw [tell_full_eq hp hl]
    exact .inr ⟨Nat.succ_ne_zero 18, rfl⟩
   ·rcases hd : (doO x S.now).1 with _ | e
    ·rw [tell_taken_eq hp hl hd]
     exact .inl ⟨rfl, rfl, x, rfl, hd, hl, rfl⟩
    ·rw [tell_refused_eq hp hl hd]
     exact .inr ⟨Nat.succ_ne_zero _, rfl⟩
 ·rw [tell_err_eq hp]
  exact .inr ⟨Nat.succ_ne_zero _, rfl⟩
theorem LenOK.tell {S : Off} {line : Tx} (h : LenOK S) (hu : parse line ≠ (.none, 0)) : LenOK (Clerk.tell S line).2 := by
 rcases tell_line (S := S) hu with ⟨-, -, x, -, h0, -, e⟩ | ⟨-, e⟩
 ·rw [e]
  obtain ⟨n1, n2⟩ := h S.now (.inl rfl)
  obtain ⟨d1, d2⟩ := doO_len h0
  intro d hd
  simp only [List.length_append, List.length_singleton, List.mem_append, List.mem_singleton] at hd ⊢
  rcases hd with rfl | hd | rfl
  ·refine ⟨by omega, fun v hv => ?_⟩
   rcases d2 v hv with hv | hv
   ·have := n2 v hv; omega
   ·omega
  ·obtain ⟨p1, p2⟩ := h d (.inr hd)
   exact ⟨by omega, fun v hv => by have := p2 v hv; omega⟩
  ·exact ⟨by omega, fun v hv => by have := n2 v hv; omega⟩
 ·rw [e]
  exact h
theorem toldF_ok {r : Off × List Tx} {l : Tx} (h : LenOK r.1) (hr : r.1.lines = r.2) (hu : parse l ≠ (.none, 0)) : LenOK (toldF r l).1 ∧ (toldF r l).1.lines = (toldF r l).2 := by
 have h1 := h.tell hu
 unfold toldF
 rcases tell_line (S := r.1) hu with ⟨h0, hl, -⟩ | ⟨h0, e⟩
 ·rcases hq : Clerk.tell r.1 l with ⟨k, S⟩
  rw [hq] at h0 hl h1
  cases h0
  exact ⟨h1, hl.trans (by rw [hr])⟩
 ·rcases hq : Clerk.tell r.1 l with ⟨_ | k, S⟩
  ·rw [hq] at h0
   exact absurd rfl h0
  ·rw [hq] at e h1
   exact ⟨h1, by subst e; exact hr⟩
theorem toldL_ok {ls : List Tx} (hu : ∀ l ∈ ls, parse l ≠ (.none, 0)) : LenOK (toldL ls).1 ∧ (toldL ls).1.lines = (toldL ls).2 := by
 have key : ∀ (ls : List Tx) (r : Off × List Tx), LenOK r.1 → r.1.lines = r.2 → (∀ l ∈ ls, parse l ≠ (.none, 0)) → LenOK (ls.foldl toldF r).1 ∧ (ls.foldl toldF r).1.lines = (ls.foldl toldF r).2 := by
  intro ls
  induction ls with
  | nil => exact fun r h1 h2 _ => ⟨h1, h2⟩
  | cons l ls ih =>
   intro r h1 h2 h3
   obtain ⟨p, q⟩ := toldF_ok h1 h2 (h3 l (List.mem_cons_self ..))
   exact ih _ p q fun x hx => h3 x (List.mem_cons_of_mem _ hx)
 exact key ls _ LenOK.none rfl hu
end Go.Clerk
set_option linter.unusedSimpArgs false
set_option linter.unusedVariables false
namespace Go.Proofs.YtjeadhfponlnnaaGreatDoor
open Go.RowKit Go.Pur Go.Clerk
theorem told_ind {Q : Off × List Tx → Prop} (h0 : Q (Off.none, []))
  (hs : ∀ (r : Off × List Tx) (l : Tx) (x : Ord), Q r → parse l = (some x, 0) → (doO x r.1.now).1 = 0 → Q (⟨(doO x r.1.now).2, r.1.past ++ [r.1.now], r.1.lines ++ [l]⟩, r.2 ++ [l])) :
  ∀ {ls : List Tx}, (∀ l ∈ ls, parse l ≠ (.none, 0)) → Q (toldL ls) := by
 have key : ∀ (ls : List Tx) (r : Off × List Tx), Q r → (∀ l ∈ ls, parse l ≠ (.none, 0)) → Q (ls.foldl toldF r) := by
  intro ls
  induction ls with
  | nil => exact fun r h _ => h
  | cons l ls ih =>
   intro r h hu
   refine ih _ ?_ fun x hx => hu x (List.mem_cons_of_mem _ hx)
   unfold toldF
   rcases tell_line (S := r.1) (hu l (List.mem_cons_self ..)) with ⟨e0, -, x, hp, hd, -, e⟩ | ⟨e0, e⟩
   ·rcases hq : Clerk.tell r.1 l with ⟨k, S⟩
    rw [hq] at e0 e
    cases e0
    cases e
    exact hs r l x h hp hd
   ·rcases hq : Clerk.tell r.1 l with ⟨_ | k, S⟩
    ·rw [hq] at e0
     exact absurd rfl e0
    ·rw [hq] at e
     cases e
     exact h
 exact fun {ls} hu => key ls _ h0 hu
def lnWord (w : Tx) : Tx := kWord ++ 32 :: w
def lnShort (w f : Tx) : Tx := kShort ++ 32 :: (w ++ 32 :: f)
theorem line_wordW {l w : Tx} (h : parse l = (some (.word w), 0)) : l = lnWord w := by
 have := line_shape h
 have e := split_join l
 rw [show splitC 32 l = [kWord, w] from this] at e
 exact e.symm
theorem line_shortW {l w f : Tx} (h : parse l = (some (.short w f), 0)) : l = lnShort w f := by
 have := line_shape h
 have e := split_join l
 rw [show splitC 32 l = [kShort, w, f] from this] at e
 exact e.symm
def FormInv (r : Off × List Tx) : Prop := ∀ e ∈ r.1.now.ents, lnWord e.word ∈ r.2 ∧ (e.form ≠ [] → lnShort e.word e.form ∈ r.2)
theorem ents_of {x : Ord} {d : Desk} (h : (doO x d).1 = 0) : ∀ e ∈ (doO x d).2.ents, (∃ o ∈ d.ents, o.word = e.word ∧ (o.form = e.form ∨ x = .short e.word e.form)) ∨ (x = .word e.word ∧ e.form = []) := by
 have put : ∀ {y o : Ent} {w : Tx}, getE w d.ents = some o → y.word = o.word → (y.form = o.form ∨ x = .short y.word y.form) → ∀ e ∈ putE y d.ents, (∃ o ∈ d.ents, o.word = e.word ∧ (o.form = e.form ∨ x = .short e.word e.form)) ∨ (x = .word e.word ∧ e.form = []) := by
  intro y o w ho hw hf e he
  rcases putE_mem he with rfl | he
  ·exact .inl ⟨o, (getE_in ho).1, hw.symm, hf.imp (fun h => h.symm) (fun h => h)⟩
  ·exact .inl ⟨e, he, rfl, .inl rfl⟩
 have same : ∀ e ∈ d.ents, (∃ o ∈ d.ents, o.word = e.word ∧ (o.form = e.form ∨ x = .short e.word e.form)) ∨ (x = .word e.word ∧ e.form = []) := fun e he => .inl ⟨e, he, rfl, .inl rfl⟩
 cases x with
 | word w =>
  replace h : (doWord w d).1 = 0 := h
  show ∀ e ∈ (doWord w d).2.ents, _
  generalize hq : doWord w d = q at h ⊢
  unfold doWord at hq
  split at hq <;> subst hq <;> first | exact absurd h (Nat.succ_ne_zero _) | (intro e he; rcases List.mem_append.1 he with he | he; exact same e he; rw [List.mem_singleton.1 he]; exact .inr ⟨rfl, rfl⟩)
 | short w f =>
  replace h : (doShort w f d).1 = 0 := h
  show ∀ e ∈ (doShort w f d).2.ents, _
  generalize hq : doShort w f d = q at h ⊢
  unfold doShort at hq
  split at hq
  ·subst hq; exact absurd h (Nat.succ_ne_zero _)
  ·rename_i o ho
   split at hq <;> subst hq <;> first | exact absurd h (Nat.succ_ne_zero _) | exact put ho rfl (.inr (by show Ord.short w f = Ord.short o.word f; rw [(getE_in ho).2]))
 | give w p n =>
  replace h : (doGive w p n d).1 = 0 := h
  show ∀ e ∈ (doGive w p n d).2.ents, _
  generalize hq : doGive w p n d = q at h ⊢
  unfold doGive at hq
  split at hq
  ·subst hq; exact absurd h (Nat.succ_ne_zero _)
  ·rename_i o ho
   split at hq <;> subst hq <;> first | exact absurd h (Nat.succ_ne_zero _) | exact put ho rfl (.inl rfl)
 | come w n =>
  replace h : (doCome w n d).1 = 0 := h
  show ∀ e ∈ (doCome w n d).2.ents, _
  generalize hq : doCome w n d = q at h ⊢
  unfold doCome at hq
  split at hq
  ·subst hq; exact absurd h (Nat.succ_ne_zero _)
  ·rename_i o ho
   split at hq <;> subst hq <;> first | exact absurd h (Nat.succ_ne_zero _) | exact put ho rfl (.inl rfl)
 | see w o =>
  replace h : (doSee w o d).1 = 0 := h
  show ∀ e ∈ (doSee w o d).2.ents, _
  generalize hq : doSee w o d = q at h ⊢
  unfold doSee at hq
  split at hq
  ·rename_i e1 _ ho _
   split at hq <;> subst hq <;> first | exact absurd h (Nat.succ_ne_zero _) | exact put ho rfl (.inl rfl)
  ·subst hq; exact absurd h (Nat.succ_ne_zero _)
 | close c =>
  replace h : (doClose c d).1 = 0 := h
  show ∀ e ∈ (doClose c d).2.ents, _
  generalize hq : doClose c d = q at h ⊢
  unfold doClose at hq
  split at hq <;> subst hq
  ·exact absurd h (Nat.succ_ne_zero _)
  ·exact absurd h (Nat.succ_ne_zero _)
  ·intro e he
   obtain ⟨o, ho, rfl⟩ := List.mem_map.1 (show e ∈ d.ents.map _ from he)
   refine .inl ⟨o, ho, ?_⟩
   split <;> exact ⟨rfl, .inl rfl⟩
 | pay p n =>
  replace h : (doPay p n d).1 = 0 := h
  show ∀ e ∈ (doPay p n d).2.ents, _
  generalize hq : doPay p n d = q at h ⊢
  unfold doPay at hq
  dsimp only at hq
  split at hq <;> subst hq <;> exact same
 | stop p =>
  replace h : (doStop p d).1 = 0 := h
  show ∀ e ∈ (doStop p d).2.ents, _
  generalize hq : doStop p d = q at h ⊢
  unfold doStop at hq
  split at hq
  ·subst hq; exact absurd h (Nat.succ_ne_zero _)
  ·split at hq <;> subst hq <;> exact same
theorem form_inv {ls : List Tx} (hu : ∀ l ∈ ls, parse l ≠ (.none, 0)) : FormInv (toldL ls) := by
 refine told_ind (Q := FormInv) (fun e he => by cases he) ?_ hu
 intro r l x h hp hd e he
 rcases ents_of hd e he with ⟨o, ho, hw, hf⟩ | ⟨rfl, hf⟩
 ·obtain ⟨i1, i2⟩ := h o ho
  rw [hw] at i1 i2
  refine ⟨List.mem_append_left _ i1, fun hne => ?_⟩
  rcases hf with hf | rfl
  ·rw [hf] at i2
   exact List.mem_append_left _ (i2 hne)
  ·exact List.mem_append_right _ (List.mem_singleton.2 (line_shortW hp).symm)
 ·exact ⟨List.mem_append_right _ (List.mem_singleton.2 (line_wordW hp).symm), fun hne => absurd hf hne⟩
end Go.Proofs.YtjeadhfponlnnaaGreatDoor
