/-
  The words of a line that was taken, as strings.Fields cuts it.
  The desk behind each of the lines that were taken.
  Who refers to whom in a told office: no circles, and the ways end.
  Conditions: none; definitions and lemmas.
-/
import Derived.Test.YtjeadhfponlnnaaGreatDoorToldLaw
import Derived.Lib.Fields
import Derived.Test.YtjeadhfponlnnaaGreatDoorDesk14
set_option linter.unusedSimpArgs false
set_option linter.unusedVariables false
namespace Go.Proofs.YtjeadhfponlnnaaGreatDoor
open Go.RowKit Go.Pur Go.Clerk
def Clean (w : Tx) : Prop := w ≠ [] ∧ ∀ c ∈ w, 48 ≤ c.toNat ∧ c.toNat ≤ 122
instance (w : Tx) : Decidable (Clean w) := inferInstanceAs (Decidable (w ≠ [] ∧ ∀ c ∈ w, 48 ≤ c.toNat ∧ c.toNat ≤ 122))
theorem NameT.clean {w : Tx} (h : NameT w) : Clean w := ⟨h.spec.1, fun c hc => by have := h.spec.2.2 c hc; omega⟩
theorem numb_clean {t : Tx} {n : Nat} (h : numb t = some n) : Clean t := by
 obtain ⟨h1, rfl⟩ := numb_some h
 obtain ⟨a1, -, a2, -⟩ := itoaN_digits h1
 exact ⟨a2, fun c hc => by have := isDig_iff.1 (List.all_eq_true.1 a1 c hc); omega⟩
theorem shape_clean {ws : List Tx} {x : Ord} (h : Shape ws x) (hx : OrdOK x) : ∀ w ∈ ws, Clean w := by
 have two : ∀ {a b : Tx}, Clean a → Clean b → ∀ w ∈ [a, b], Clean w := fun ha hb w hw => by
  rcases List.mem_cons.1 hw with rfl | hw
  ·exact ha
  ·rw [List.mem_singleton.1 hw]; exact hb
 cases x with
 | word w => rw [show ws = _ from h]; exact two (by decide) (NameT.clean hx)
 | short w f => rw [show ws = _ from h]; intro v hv; rcases List.mem_cons.1 hv with rfl | hv; decide; exact two (NameT.clean hx.1) (NameT.clean hx.2) v hv
 | give w p n =>
  obtain ⟨t, h, hn⟩ := h
  rw [h]; intro v hv; rcases List.mem_cons.1 hv with rfl | hv; decide
  rcases List.mem_cons.1 hv with rfl | hv; exact (NameT.clean hx.1)
  exact two (NameT.clean hx.2.1) (numb_clean hn) v hv
 | come w n =>
  obtain ⟨t, h, hn⟩ := h
  rw [h]; intro v hv; rcases List.mem_cons.1 hv with rfl | hv; decide
  exact two (NameT.clean hx.1) (numb_clean hn) v hv
 | see w o => rw [show ws = _ from h]; intro v hv; rcases List.mem_cons.1 hv with rfl | hv; decide; exact two (NameT.clean hx.1) (NameT.clean hx.2) v hv
 | close c =>
  obtain ⟨w, h, -, hn⟩ := h
  rw [h]
  refine two (by decide) ?_
  unfold named at hn
  simp only [Bool.and_eq_true, Bool.not_eq_true', decide_eq_true_eq, List.all_eq_true] at hn
  exact ⟨fun e => by rw [e] at hn; simp at hn, fun c hc => by have := hn.2 c hc; omega⟩
 | pay p n =>
  obtain ⟨t, h, hn⟩ := h
  rw [h]; intro v hv; rcases List.mem_cons.1 hv with rfl | hv; decide
  exact two (NameT.clean hx.1) (numb_clean hn) v hv
 | stop p => rw [show ws = _ from h]; exact two (by decide) (NameT.clean hx)
theorem isSp_clean {c : UInt8} (h : 48 ≤ c.toNat) : Lib.isSp c = false := by
 have hne : ∀ k : UInt8, k.toNat < 48 → (c == k) = false := fun k hk => by
  rw [beq_eq_false_iff_ne]
  intro e
  rw [e] at h
  omega
 unfold Lib.isSp
 rw [hne 9 (by decide), hne 10 (by decide), hne 11 (by decide), hne 12 (by decide), hne 13 (by decide), hne 32 (by decide)]
 rfl
theorem fieldsGo_split : ∀ (l cur a : Tx) (r : List Tx), splitC 32 l = a :: r → (∀ w ∈ r, w ≠ []) → (∀ w ∈ a :: r, ∀ c ∈ w, Lib.isSp c = false) → cur ++ a ≠ [] → Lib.fieldsGo cur l = (cur ++ a) :: r
 | [], cur, a, r, h, _, _, hne => by
  cases h
  rw [List.append_nil] at hne ⊢
  cases cur with
  | nil => exact absurd rfl hne
  | cons x l => rfl
 | x :: l, cur, a, r, h, hr, hs, hne => by
  unfold splitC at h
  obtain ⟨a', r', h'⟩ := List.exists_cons_of_ne_nil (split_ne 32 l)
  by_cases hx : x = 32
  ·rw [decide_eq_true hx, h'] at h
   replace h : [] :: a' :: r' = a :: r := h
   cases h
   subst hx
   rw [List.append_nil] at hne ⊢
   rw [Lib.fieldsGo_end cur 32 l (by decide) hne, fieldsGo_split l [] a' r' h' (fun w hw => hr w (List.mem_cons_of_mem _ hw)) (fun w hw => hs w (List.mem_cons_of_mem _ hw)) (hr a' List.mem_cons_self)]
   rfl
  ·rw [decide_eq_false hx, h'] at h
   replace h : (x :: a') :: r' = a :: r := h
   cases h
   rw [Lib.fieldsGo_more cur x l (hs _ List.mem_cons_self x List.mem_cons_self), fieldsGo_split l (cur ++ [x]) _ _ h' hr (fun w hw c hc => by
    rcases List.mem_cons.1 hw with rfl | hw
    ·exact hs _ List.mem_cons_self c (List.mem_cons_of_mem _ hc)
    ·exact hs w (List.mem_cons_of_mem _ hw) c hc) (by simp)]
   simp
theorem mem_joinC {c : UInt8} : ∀ {ws : List Tx}, c ∈ joinC ws → c = 32 ∨ ∃ w ∈ ws, c ∈ w
 | [], h => by cases h
 | [x], h => .inr ⟨x, List.mem_cons_self, h⟩
 | x :: y :: r, h => by
  rcases List.mem_append.1 (show c ∈ x ++ 32 :: joinC (y :: r) from h) with h | h
  ·exact .inr ⟨x, List.mem_cons_self, h⟩
  ·rcases List.mem_cons.1 h with h | h
   ·exact .inl h
   ·rcases mem_joinC h with h | ⟨w, hw, hc⟩
    ·exact .inl h
    ·exact .inr ⟨w, List.mem_cons_of_mem _ hw, hc⟩
theorem line_fields {l : Tx} {x : Ord} (h : parse l = (some x, 0)) : Lib.fields l = splitC 32 l ∧ Shape (Lib.fields l) x ∧ (∀ w ∈ Lib.fields l, Clean w) ∧ l.all (fun b => decide (b.toNat < 128)) = true := by
 have hs := line_shape h
 have hc := shape_clean hs (parse_ok h)
 have hf : Lib.fields l = splitC 32 l := by
  obtain ⟨a, r, h'⟩ := List.exists_cons_of_ne_nil (split_ne 32 l)
  rw [h'] at hc ⊢
  exact fieldsGo_split l [] a r h' (fun w hw => (hc w (List.mem_cons_of_mem _ hw)).1) (fun w hw c hcw => isSp_clean ((hc w hw).2 c hcw).1) (hc a List.mem_cons_self).1
 refine ⟨hf, by rw [hf]; exact hs, by rw [hf]; exact hc, List.all_eq_true.2 fun c hcl => decide_eq_true ?_⟩
 rw [← split_join l] at hcl
 rcases mem_joinC hcl with rfl | ⟨w, hw, hcw⟩
 ·decide
 ·have := (hc w hw).2 c hcw
  omega
theorem splitC_app {a : Tx} (h : ∀ c ∈ a, c ≠ 32) (l : Tx) : splitC 32 (a ++ 32 :: l) = a :: splitC 32 l := by
 induction a with
 | nil => rfl
 | cons x a ih =>
  rw [List.cons_append, splitC_cons, if_neg (h x List.mem_cons_self), ih fun c hc => h c (List.mem_cons_of_mem _ hc)]
theorem splitC_one {a : Tx} (h : ∀ c ∈ a, c ≠ 32) : splitC 32 a = [a] := by
 induction a with
 | nil => rfl
 | cons x a ih =>
  rw [splitC_cons, if_neg (h x List.mem_cons_self), ih fun c hc => h c (List.mem_cons_of_mem _ hc)]
theorem Clean.no32 {w : Tx} (h : Clean w) : ∀ c ∈ w, c ≠ 32 := fun c hc e => by
 have := (h.2 c hc).1
 rw [e] at this
 exact absurd this (by decide)
theorem told_ind2 {Q : Off × List Tx → Prop} (h0 : Q (Off.none, []))
  (hs : ∀ (r : Off × List Tx) (l : Tx) (x : Ord), Q r → DeskOK r.1.now → parse l = (some x, 0) → (doO x r.1.now).1 = 0 → Q (⟨(doO x r.1.now).2, r.1.past ++ [r.1.now], r.1.lines ++ [l]⟩, r.2 ++ [l])) :
  ∀ {ls : List Tx}, (∀ l ∈ ls, parse l ≠ (.none, 0)) → Q (toldL ls) := by
 have key : ∀ (ls : List Tx) (r : Off × List Tx), Q r → DeskOK r.1.now → (∀ l ∈ ls, parse l ≠ (.none, 0)) → Q (ls.foldl toldF r) := by
  intro ls
  induction ls with
  | nil => exact fun r h _ _ => h
  | cons l ls ih =>
   intro r h hd hu
   have : Q (toldF r l) ∧ DeskOK (toldF r l).1.now := by
    unfold toldF
    rcases tell_line (S := r.1) (hu l (List.mem_cons_self ..)) with ⟨e0, -, x, hp, hd0, -, e⟩ | ⟨e0, e⟩
    ·rcases hq : Clerk.tell r.1 l with ⟨k, S⟩
     rw [hq] at e0 e
     cases e0
     cases e
     exact ⟨hs r l x h hd hp hd0, do_ok hd (parse_ok hp) hd0⟩
    ·rcases hq : Clerk.tell r.1 l with ⟨_ | k, S⟩
     ·rw [hq] at e0
      exact absurd rfl e0
     ·rw [hq] at e
      cases e
      exact ⟨h, hd⟩
   exact ih _ this.1 this.2 fun x hx => hu x (List.mem_cons_of_mem _ hx)
 exact fun {ls} hu => key ls _ h0 DeskOK.none hu
end Go.Proofs.YtjeadhfponlnnaaGreatDoor
set_option linter.unusedSimpArgs false
set_option linter.unusedVariables false
namespace Go.Proofs.YtjeadhfponlnnaaGreatDoor
open Go.RowKit Go.Pur Go.Clerk
def deskL (d : Desk) (l : Tx) : Desk := match (parse l).1 with
 | some x => (doO x d).2
 | none => d
def deskM (ls : List Tx) : Desk := ls.foldl deskL Desk.none
theorem deskM_snoc (ls : List Tx) (l : Tx) : deskM (ls ++ [l]) = deskL (deskM ls) l := by
 unfold deskM
 rw [List.foldl_append]
 rfl
structure RInv (r : Off × List Tx) : Prop where
 ords : ∀ (i : Nat) l, r.2[i]? = some l → ∃ x, parse l = (some x, 0) ∧ (doO x (deskM (r.2.take i))).1 = 0 ∧ DeskOK (deskM (r.2.take i))
 now : r.1.now = deskM r.2
theorem replay {ls : List Tx} (hu : ∀ l ∈ ls, parse l ≠ (.none, 0)) : RInv (toldL ls) := by
 refine told_ind2 (Q := RInv) ⟨fun i l h => (by cases h), rfl⟩ ?_ hu
 intro r l x h hD hp hd
 refine ⟨fun i l' hl' => ?_, ?_⟩
 ·by_cases hi : i < r.2.length
  ·rw [List.getElem?_append_left hi] at hl'
   show ∃ x, _ ∧ (doO x (deskM ((r.2 ++ [l]).take i))).1 = 0 ∧ DeskOK (deskM ((r.2 ++ [l]).take i))
   rw [List.take_append_of_le_length (by omega)]
   exact h.ords i l' hl'
  ·have hil : i < (r.2 ++ [l]).length := (List.getElem?_eq_some_iff.1 hl').1
   simp at hil
   obtain rfl : i = r.2.length := by omega
   rw [List.getElem?_append_right (Nat.le_refl _), Nat.sub_self] at hl'
   cases hl'
   show ∃ x, _ ∧ (doO x (deskM ((r.2 ++ [l]).take r.2.length))).1 = 0 ∧ DeskOK (deskM ((r.2 ++ [l]).take r.2.length))
   rw [List.take_append_of_le_length (Nat.le_refl _), List.take_length, ← h.now]
   exact ⟨x, hp, hd, hD⟩
 ·show (doO x r.1.now).2 = deskM (r.2 ++ [l])
  rw [deskM_snoc, ← h.now]
  unfold deskL
  rw [hp]
end Go.Proofs.YtjeadhfponlnnaaGreatDoor
set_option linter.unusedSimpArgs false
set_option linter.unusedVariables false
namespace Go.Proofs.YtjeadhfponlnnaaGreatDoor
open Go.RowKit Go.Pur Go.Clerk
def Path (f : Tx → Tx) : Tx → List Tx → Prop
 | w, [] => f w = []
 | w, x :: r => f w = x ∧ x ≠ [] ∧ Path f x r
theorem path_uniq {f : Tx → Tx} : ∀ {r s : List Tx} {w : Tx}, Path f w r → Path f w s → r = s
 | [], [], _, _, _ => rfl
 | [], x :: s, w, h, g => absurd (g.1.symm.trans h) g.2.1
 | x :: r, [], w, h, g => absurd (h.1.symm.trans g) h.2.1
 | x :: r, y :: s, w, h, g => by
  obtain rfl : x = y := h.1.symm.trans g.1
  rw [path_uniq h.2.2 g.2.2]
theorem path_suffix {f : Tx → Tx} : ∀ {r : List Tx} {w y : Tx}, Path f w r → y ∈ w :: r → ∃ q, Path f y q ∧ ∀ z, f z = [] → z ∈ w :: r → z ∈ y :: q
 | [], w, y, h, hy => by
  rw [List.mem_singleton.1 hy]
  exact ⟨[], h, fun z _ hz => hz⟩
 | x :: r, w, y, h, hy => by
  rcases List.mem_cons.1 hy with rfl | hy
  ·exact ⟨x :: r, h, fun z _ hz => hz⟩
  ·obtain ⟨q, h1, h2⟩ := path_suffix h.2.2 hy
   refine ⟨q, h1, fun z hz hm => h2 z hz ?_⟩
   rcases List.mem_cons.1 hm with rfl | hm
   ·exact absurd (h.1.symm.trans hz) h.2.1
   ·exact hm
def updF (f : Tx → Tx) (w o : Tx) (y : Tx) : Tx := if y = w then o else f y
theorem path_upd {f g : Tx → Tx} : ∀ {r : List Tx} {x : Tx}, Path f x r → (∀ y ∈ x :: r, g y = f y) → Path g x r
 | [], x, h, hw => (hw x List.mem_cons_self).trans h
 | y :: r, x, h, hw => ⟨(hw x List.mem_cons_self).trans h.1, h.2.1, path_upd h.2.2 fun z hz => hw z (List.mem_cons_of_mem _ hz)⟩
theorem path_join {f : Tx → Tx} {w o : Tx} {s : List Tx} (hf : f w = []) (ho : o ≠ []) (hs : Path (updF f w o) o s) : ∀ {r : List Tx} {x : Tx}, Path f x r → w ∈ x :: r → Path (updF f w o) x (r ++ o :: s)
 | [], x, h, hm => by
  obtain rfl : w = x := List.mem_singleton.1 hm
  exact ⟨if_pos rfl, ho, hs⟩
 | y :: r, x, h, hm => by
  have hx : x ≠ w := fun e => h.2.1 (by rw [← h.1, e]; exact hf)
  refine ⟨(if_neg hx).trans h.1, h.2.1, path_join hf ho hs h.2.2 ?_⟩
  rcases List.mem_cons.1 hm with e | hm
  ·exact absurd e.symm hx
  ·exact hm
def WayAt (l : List Ent) (w : Tx) (r : List Tx) : Prop := Path (seeOf · l) w r ∧ (w :: r).Nodup ∧ ∀ x ∈ w :: r, x ∈ keysE l
theorem wayN_path {l : List Ent} : ∀ {r : List Tx} {w : Tx} {n : Nat}, Path (seeOf · l) w r → r.length < n → wayN l n w = w :: r
 | [], w, n, h, hn => by
  obtain ⟨m, rfl⟩ : ∃ m, n = m + 1 := ⟨n - 1, by simp at hn; omega⟩
  unfold wayN
  rw [show seeOf w l = [] from h]
 | x :: r, w, n, h, hn => by
  obtain ⟨m, rfl⟩ : ∃ m, n = m + 1 := ⟨n - 1, by simp at hn; omega⟩
  unfold wayN
  rw [show seeOf w l = x from h.1]
  cases x with
  | nil => exact absurd rfl h.2.1
  | cons a t =>
   show w :: wayN l m (a :: t) = _
   rw [wayN_path h.2.2 (by simp at hn ⊢; omega)]
theorem nodup_le {α : Type} : ∀ {l m : List α}, l.Nodup → (∀ x ∈ l, x ∈ m) → l.length ≤ m.length
 | [], _, _, _ => Nat.zero_le _
 | a :: l, m, hn, h => by
  obtain ⟨m1, m2, rfl⟩ := List.append_of_mem (h a List.mem_cons_self)
  rw [List.nodup_cons] at hn
  have := nodup_le (m := m1 ++ m2) hn.2 fun x hx => by
   rcases List.mem_append.1 (h x (List.mem_cons_of_mem _ hx)) with h1 | h1
   ·exact List.mem_append_left _ h1
   ·rcases List.mem_cons.1 h1 with rfl | h1
    ·exact absurd hx hn.1
    ·exact List.mem_append_right _ h1
  simp at this ⊢
  omega
theorem WayAt.len {l : List Ent} {w : Tx} {r : List Tx} (h : WayAt l w r) : r.length < l.length := by
 have := nodup_le h.2.1 h.2.2
 unfold keysE at this
 simp at this
 omega
theorem WayAt.way {d : Desk} {w : Tx} {r : List Tx} (h : WayAt d.ents w r) : d.way w = w :: r := wayN_path h.1 h.len
theorem seeOf_new {y w : Tx} : ∀ {l : List Ent}, seeOf y (l ++ [⟨w, [], [], [], 0, 0, 0⟩]) = seeOf y l
 | [] => by
  unfold seeOf
  simp only [List.nil_append, getE]
  cases decide (w = y) <;> rfl
 | e :: l => by
  have ih := seeOf_new (y := y) (w := w) (l := l)
  unfold seeOf at ih ⊢
  rw [List.cons_append]
  unfold getE
  cases decide (e.word = y)
  ·exact ih
  ·rfl
theorem seeOf_put {y : Tx} {x : Ent} : ∀ {l : List Ent}, x.word ∈ keysE l → seeOf y (putE x l) = if y = x.word then x.see else seeOf y l
 | [], h => by cases h
 | e :: l, h => by
  unfold putE
  by_cases he : e.word = x.word
  ·rw [decide_eq_true he]
   show seeOf y (x :: l) = _
   unfold seeOf getE
   by_cases hy : y = x.word
   ·rw [if_pos hy, decide_eq_true hy.symm]
   ·rw [if_neg hy, decide_eq_false (fun e => hy e.symm), decide_eq_false (fun e2 => hy (by rw [← e2, he]))]
  ·rw [decide_eq_false he]
   show seeOf y (e :: putE x l) = _
   have ih := seeOf_put (y := y) (x := x) (l := l) (by
    rcases List.mem_cons.1 (show x.word ∈ e.word :: keysE l from h) with e1 | h
    ·exact absurd e1.symm he
    ·exact h)
   unfold seeOf at ih ⊢
   unfold getE
   by_cases hy : e.word = y
   ·rw [decide_eq_true hy, if_neg (fun e1 => he (hy.trans e1))]
   ·rw [decide_eq_false hy]
    exact ih
theorem seeOf_map {y : Tx} {f : Ent → Ent} (hw : ∀ e, (f e).word = e.word) (hs : ∀ e, (f e).see = e.see) : ∀ {l : List Ent}, seeOf y (l.map f) = seeOf y l
 | [] => rfl
 | e :: l => by
  have ih := seeOf_map (y := y) hw hs (l := l)
  unfold seeOf at ih ⊢
  rw [List.map_cons]
  unfold getE
  rw [hw e]
  cases decide (e.word = y)
  ·exact ih
  ·exact hs e
theorem seeOf_get {w : Tx} {l : List Ent} {e : Ent} (h : getE w l = some e) : seeOf w l = e.see := by unfold seeOf; rw [h]
theorem seeOf_no {w : Tx} {l : List Ent} (h : w ∉ keysE l) : seeOf w l = [] := by unfold seeOf; rw [getE_none h]
theorem see_of {x : Ord} {d : Desk} (h : (doO x d).1 = 0) : ∀ y, seeOf y (doO x d).2.ents = match x with
  | .see w o => updF (seeOf · d.ents) w o y
  | _ => seeOf y d.ents := by
 have put : ∀ {y : Tx} {e z : Ent} {w : Tx}, getE w d.ents = some e → z.word = e.word → z.see = e.see → seeOf y (putE z d.ents) = seeOf y d.ents := by
  intro y e z w he hw hs
  rw [seeOf_put (by rw [hw, (getE_in he).2]; exact keysE_has he)]
  split
  ·rename_i hy
   rw [hy, hw, (getE_in he).2, hs, seeOf_get he]
  ·rfl
 have putS : ∀ {e : Ent} {w o : Tx}, getE w d.ents = some e → ∀ y, seeOf y (putE { e with see := o } d.ents) = updF (seeOf · d.ents) w o y := by
  intro e w o he y
  rw [seeOf_put (by show e.word ∈ _; rw [(getE_in he).2]; exact keysE_has he)]
  show (if y = e.word then o else _) = _
  rw [(getE_in he).2]
  rfl
 cases x with
 | word w =>
  replace h : (doWord w d).1 = 0 := h
  show ∀ y, seeOf y (doWord w d).2.ents = seeOf y d.ents
  generalize hq : doWord w d = q at h ⊢
  unfold doWord at hq
  split at hq <;> subst hq <;> first | exact absurd h (Nat.succ_ne_zero _) | exact fun y => seeOf_new
 | short w f =>
  replace h : (doShort w f d).1 = 0 := h
  show ∀ y, seeOf y (doShort w f d).2.ents = seeOf y d.ents
  generalize hq : doShort w f d = q at h ⊢
  unfold doShort at hq
  split at hq
  ·subst hq; exact absurd h (Nat.succ_ne_zero _)
  ·rename_i e he
   split at hq <;> subst hq <;> first | exact absurd h (Nat.succ_ne_zero _) | exact fun y => put he rfl rfl
 | give w p n =>
  replace h : (doGive w p n d).1 = 0 := h
  show ∀ y, seeOf y (doGive w p n d).2.ents = seeOf y d.ents
  generalize hq : doGive w p n d = q at h ⊢
  unfold doGive at hq
  split at hq
  ·subst hq; exact absurd h (Nat.succ_ne_zero _)
  ·rename_i e he
   split at hq <;> subst hq <;> first | exact absurd h (Nat.succ_ne_zero _) | exact fun y => put he rfl rfl
 | come w n =>
  replace h : (doCome w n d).1 = 0 := h
  show ∀ y, seeOf y (doCome w n d).2.ents = seeOf y d.ents
  generalize hq : doCome w n d = q at h ⊢
  unfold doCome at hq
  split at hq
  ·subst hq; exact absurd h (Nat.succ_ne_zero _)
  ·rename_i e he
   split at hq <;> subst hq <;> first | exact absurd h (Nat.succ_ne_zero _) | exact fun y => put he rfl rfl
 | see w o =>
  replace h : (doSee w o d).1 = 0 := h
  show ∀ y, seeOf y (doSee w o d).2.ents = updF (seeOf · d.ents) w o y
  generalize hq : doSee w o d = q at h ⊢
  unfold doSee at hq
  split at hq
  ·rename_i e _ he _
   split at hq <;> subst hq <;> first
    | exact absurd h (Nat.succ_ne_zero _)
    | exact putS he
  ·subst hq; exact absurd h (Nat.succ_ne_zero _)
 | close c =>
  replace h : (doClose c d).1 = 0 := h
  show ∀ y, seeOf y (doClose c d).2.ents = seeOf y d.ents
  generalize hq : doClose c d = q at h ⊢
  unfold doClose at hq
  split at hq <;> subst hq
  ·exact absurd h (Nat.succ_ne_zero _)
  ·exact absurd h (Nat.succ_ne_zero _)
  ·exact fun y => seeOf_map (fun e => by split <;> rfl) (fun e => by split <;> rfl)
 | pay p n =>
  replace h : (doPay p n d).1 = 0 := h
  show ∀ y, seeOf y (doPay p n d).2.ents = seeOf y d.ents
  generalize hq : doPay p n d = q at h ⊢
  unfold doPay at hq
  dsimp only at hq
  split at hq <;> subst hq <;> exact fun y => rfl
 | stop p =>
  replace h : (doStop p d).1 = 0 := h
  show ∀ y, seeOf y (doStop p d).2.ents = seeOf y d.ents
  generalize hq : doStop p d = q at h ⊢
  unfold doStop at hq
  split at hq
  ·subst hq; exact absurd h (Nat.succ_ne_zero _)
  ·split at hq <;> subst hq <;> exact fun y => rfl
theorem keys_of {x : Ord} {d : Desk} (h : (doO x d).1 = 0) : keysE (doO x d).2.ents = match x with
  | .word w => keysE d.ents ++ [w]
  | _ => keysE d.ents := by
 cases x with
 | word w =>
  replace h : (doWord w d).1 = 0 := h
  show keysE (doWord w d).2.ents = _
  generalize hq : doWord w d = q at h ⊢
  unfold doWord at hq
  split at hq <;> subst hq <;> first | exact absurd h (Nat.succ_ne_zero _) | (unfold keysE; simp)
 | short w f =>
  replace h : (doShort w f d).1 = 0 := h
  show keysE (doShort w f d).2.ents = _
  generalize hq : doShort w f d = q at h ⊢
  unfold doShort at hq
  split at hq
  ·subst hq; exact absurd h (Nat.succ_ne_zero _)
  ·rename_i e he
   split at hq <;> subst hq <;> first | exact absurd h (Nat.succ_ne_zero _) | exact keysE_put (x := { e with form := f }) (by show e.word ∈ _; rw [(getE_in he).2]; exact keysE_has he)
 | give w p n =>
  replace h : (doGive w p n d).1 = 0 := h
  show keysE (doGive w p n d).2.ents = _
  generalize hq : doGive w p n d = q at h ⊢
  unfold doGive at hq
  split at hq
  ·subst hq; exact absurd h (Nat.succ_ne_zero _)
  ·rename_i e he
   split at hq <;> subst hq <;> first | exact absurd h (Nat.succ_ne_zero _) | exact keysE_put (x := { e with writer := p, asked := n }) (by show e.word ∈ _; rw [(getE_in he).2]; exact keysE_has he)
 | come w n =>
  replace h : (doCome w n d).1 = 0 := h
  show keysE (doCome w n d).2.ents = _
  generalize hq : doCome w n d = q at h ⊢
  unfold doCome at hq
  split at hq
  ·subst hq; exact absurd h (Nat.succ_ne_zero _)
  ·rename_i e he
   split at hq <;> subst hq <;> first | exact absurd h (Nat.succ_ne_zero _) | exact keysE_put (x := { e with came := n }) (by show e.word ∈ _; rw [(getE_in he).2]; exact keysE_has he)
 | see w o =>
  replace h : (doSee w o d).1 = 0 := h
  show keysE (doSee w o d).2.ents = _
  generalize hq : doSee w o d = q at h ⊢
  unfold doSee at hq
  split at hq
  ·rename_i e _ he _
   split at hq <;> subst hq <;> first | exact absurd h (Nat.succ_ne_zero _) | exact keysE_put (x := { e with see := o }) (by show e.word ∈ _; rw [(getE_in he).2]; exact keysE_has he)
  ·subst hq; exact absurd h (Nat.succ_ne_zero _)
 | close c =>
  replace h : (doClose c d).1 = 0 := h
  show keysE (doClose c d).2.ents = _
  generalize hq : doClose c d = q at h ⊢
  unfold doClose at hq
  split at hq <;> subst hq
  ·exact absurd h (Nat.succ_ne_zero _)
  ·exact absurd h (Nat.succ_ne_zero _)
  ·exact keysE_map fun e => by split <;> rfl
 | pay p n =>
  replace h : (doPay p n d).1 = 0 := h
  show keysE (doPay p n d).2.ents = _
  generalize hq : doPay p n d = q at h ⊢
  unfold doPay at hq
  dsimp only at hq
  split at hq <;> subst hq <;> rfl
 | stop p =>
  replace h : (doStop p d).1 = 0 := h
  show keysE (doStop p d).2.ents = _
  generalize hq : doStop p d = q at h ⊢
  unfold doStop at hq
  split at hq
  ·subst hq; exact absurd h (Nat.succ_ne_zero _)
  ·split at hq <;> subst hq <;> rfl
theorem see_taken {w o : Tx} {d : Desk} (h : (doSee w o d).1 = 0) : w ∈ keysE d.ents ∧ o ∈ keysE d.ents ∧ seeOf w d.ents = [] ∧ w ∉ d.way o ∧ ∃ e, getE w d.ents = some e ∧ e.writer = [] := by
 unfold doSee at h
 split at h
 ·rename_i e e2 he he2
  split at h <;> first | exact absurd h (Nat.succ_ne_zero _) | skip
  rename_i h1 h2 h3 h4
  refine ⟨keysE_has he, keysE_has he2, ?_, fun hm => ?_, e, he, ?_⟩
  ·rw [seeOf_get he]
   cases hs : e.see with
   | nil => rfl
   | cons a l => rw [hs] at h1; cases h1
  ·have := List.elem_eq_true_of_mem hm
   rw [show (d.way o).contains w = List.elem w (d.way o) from rfl, this] at h4
   cases h4
  ·cases hs : e.writer with
   | nil => rfl
   | cons a l => rw [hs] at h2; cases h2
 ·exact absurd h (Nat.succ_ne_zero _)
def seeF (M : List (Tx × Tx)) (l : Tx) : List (Tx × Tx) := if (Lib.fields l).headD [] = kSee then kSet ((Lib.fields l).getD 1 []) ((Lib.fields l).getD 2 []) M else M
def seeM (ls : List Tx) : List (Tx × Tx) := ls.foldl seeF []
theorem seeM_snoc (ls : List Tx) (l : Tx) : seeM (ls ++ [l]) = seeF (seeM ls) l := by
 unfold seeM
 rw [List.foldl_append]
 rfl
structure WLine (M : List (Tx × Tx)) (l : Tx) : Prop where
 ascii : l.all (fun b => decide (b.toNat < 128)) = true
 ne : Lib.fields l ≠ []
 see : (Lib.fields l).headD [] = kSee → (Lib.fields l).length = 3 ∧ (kGet ((Lib.fields l).getD 1 []) M).getD [] = []
theorem kGet_setW {V : Type} {k y : Tx} {v : V} : ∀ {M : List (Tx × V)}, kGet y (kSet k v M) = if y = k then some v else kGet y M
 | [] => by
  unfold kSet kGet
  by_cases h : y = k
  ·rw [if_pos h, decide_eq_true h.symm]
  ·rw [if_neg h, decide_eq_false (fun e => h e.symm)]; rfl
 | e :: M => by
  unfold kSet
  by_cases he : e.1 = k
  ·rw [decide_eq_true he]
   show kGet y ((k, v) :: M) = _
   unfold kGet
   by_cases h : y = k
   ·rw [if_pos h, decide_eq_true h.symm]
   ·rw [if_neg h, decide_eq_false (fun e => h e.symm), decide_eq_false (fun e2 => h (by rw [← e2, he]))]
  ·rw [decide_eq_false he]
   show kGet y (e :: kSet k v M) = _
   have ih := kGet_setW (k := k) (y := y) (v := v) (M := M)
   unfold kGet
   by_cases hy : e.1 = y
   ·rw [decide_eq_true hy, if_neg (fun e1 => he (hy.trans e1))]
   ·rw [decide_eq_false hy]
    exact ih
structure WInv (r : Off × List Tx) : Prop where
 lines : ∀ (i : Nat) l, r.2[i]? = some l → WLine (seeM (r.2.take i)) l
 see : ∀ w, (kGet w (seeM r.2)).getD [] = seeOf w r.1.now.ents
 ways : ∀ w ∈ keysE r.1.now.ents, ∃ s, WayAt r.1.now.ents w s
 free : ∀ e ∈ r.1.now.ents, (e.see ≠ [] → e.writer = []) ∧ (e.came ≠ 0 → e.writer ≠ [])
theorem free_of {x : Ord} {d : Desk} (h : (doO x d).1 = 0) (hf : ∀ e ∈ d.ents, (e.see ≠ [] → e.writer = []) ∧ (e.came ≠ 0 → e.writer ≠ [])) (hx : OrdOK x) : ∀ e ∈ (doO x d).2.ents, (e.see ≠ [] → e.writer = []) ∧ (e.came ≠ 0 → e.writer ≠ []) := by
 have put : ∀ {z : Ent}, ((z.see ≠ [] → z.writer = []) ∧ (z.came ≠ 0 → z.writer ≠ [])) → ∀ e ∈ putE z d.ents, (e.see ≠ [] → e.writer = []) ∧ (e.came ≠ 0 → e.writer ≠ []) := fun hz e he => by
  rcases putE_mem he with rfl | he
  ·exact hz
  ·exact hf e he
 cases x with
 | word w =>
  replace h : (doWord w d).1 = 0 := h
  show ∀ e ∈ (doWord w d).2.ents, _
  generalize hq : doWord w d = q at h ⊢
  unfold doWord at hq
  split at hq <;> subst hq <;> first | exact absurd h (Nat.succ_ne_zero _) | (intro e he; rcases List.mem_append.1 he with he | he; exact hf e he; rw [List.mem_singleton.1 he]; exact ⟨fun h => absurd rfl h, fun h => absurd rfl h⟩)
 | short w f =>
  replace h : (doShort w f d).1 = 0 := h
  show ∀ e ∈ (doShort w f d).2.ents, _
  generalize hq : doShort w f d = q at h ⊢
  unfold doShort at hq
  split at hq
  ·subst hq; exact absurd h (Nat.succ_ne_zero _)
  ·rename_i o ho
   split at hq <;> subst hq <;> first | exact absurd h (Nat.succ_ne_zero _) | exact put (hf o (getE_in ho).1)
 | give w p n =>
  replace h : (doGive w p n d).1 = 0 := h
  show ∀ e ∈ (doGive w p n d).2.ents, _
  generalize hq : doGive w p n d = q at h ⊢
  unfold doGive at hq
  split at hq
  ·subst hq; exact absurd h (Nat.succ_ne_zero _)
  ·rename_i o ho
   split at hq <;> subst hq <;> first | exact absurd h (Nat.succ_ne_zero _) | skip
   rename_i h1 h2 h3 h4
   refine put ⟨fun hs => ?_, fun _ => (NameT.spec hx.2.1).1⟩
   have hs : o.see ≠ [] := hs
   cases hq : o.see with
   | nil => exact absurd hq hs
   | cons a l => rw [hq] at h2; cases h2
 | come w n =>
  replace h : (doCome w n d).1 = 0 := h
  show ∀ e ∈ (doCome w n d).2.ents, _
  generalize hq : doCome w n d = q at h ⊢
  unfold doCome at hq
  split at hq
  ·subst hq; exact absurd h (Nat.succ_ne_zero _)
  ·rename_i o ho
   split at hq <;> subst hq <;> first | exact absurd h (Nat.succ_ne_zero _) | skip
   rename_i h1 h2 h3 h4 h5
   refine put ⟨(hf o (getE_in ho).1).1, fun _ => ?_⟩
   show o.writer ≠ []
   intro e
   rw [e] at h1
   cases h1
 | see w o =>
  replace h : (doSee w o d).1 = 0 := h
  obtain ⟨-, -, -, -, e1, he1, hw⟩ := see_taken h
  show ∀ e ∈ (doSee w o d).2.ents, _
  generalize hq : doSee w o d = q at h ⊢
  unfold doSee at hq
  split at hq
  ·rename_i e2 _ ho _
   rw [ho] at he1
   cases he1
   split at hq <;> subst hq <;> first | exact absurd h (Nat.succ_ne_zero _) | exact put ⟨fun _ => hw, (hf _ (getE_in ho).1).2⟩
  ·subst hq; exact absurd h (Nat.succ_ne_zero _)
 | close c =>
  replace h : (doClose c d).1 = 0 := h
  show ∀ e ∈ (doClose c d).2.ents, _
  generalize hq : doClose c d = q at h ⊢
  unfold doClose at hq
  split at hq <;> subst hq
  ·exact absurd h (Nat.succ_ne_zero _)
  ·exact absurd h (Nat.succ_ne_zero _)
  ·intro e he
   obtain ⟨o, ho, rfl⟩ := List.mem_map.1 (show e ∈ d.ents.map _ from he)
   have := hf o ho
   split <;> exact this
 | pay p n =>
  replace h : (doPay p n d).1 = 0 := h
  show ∀ e ∈ (doPay p n d).2.ents, _
  generalize hq : doPay p n d = q at h ⊢
  unfold doPay at hq
  dsimp only at hq
  split at hq <;> subst hq <;> exact hf
 | stop p =>
  replace h : (doStop p d).1 = 0 := h
  show ∀ e ∈ (doStop p d).2.ents, _
  generalize hq : doStop p d = q at h ⊢
  unfold doStop at hq
  split at hq
  ·subst hq; exact absurd h (Nat.succ_ne_zero _)
  ·split at hq <;> subst hq <;> exact hf
theorem ways_see {w o : Tx} {l l2 : List Ent} {s : List Tx} (hs2 : ∀ y, seeOf y l2 = updF (seeOf · l) w o y) (hk : keysE l2 = keysE l) (hw : seeOf w l = []) (ho : o ≠ []) (hos : WayAt l o s) (hno : w ∉ o :: s) (h : ∀ x ∈ keysE l, ∃ s, WayAt l x s) : ∀ x ∈ keysE l2, ∃ s, WayAt l2 x s := by
 intro x hx
 rw [hk] at hx
 obtain ⟨r, h1, h2, h3⟩ := h x hx
 have hfun : (fun y => seeOf y l2) = updF (seeOf · l) w o := funext hs2
 unfold WayAt
 rw [hfun, hk]
 have hpo : Path (updF (seeOf · l) w o) o s := path_upd hos.1 fun y hy => if_neg fun e => hno (by rw [← e]; exact hy)
 by_cases hm : w ∈ x :: r
 ·refine ⟨r ++ o :: s, path_join hw ho hpo h1 hm, ?_, ?_⟩
  ·rw [show x :: (r ++ o :: s) = (x :: r) ++ (o :: s) from rfl, List.nodup_append]
   refine ⟨h2, hos.2.1, fun a ha b hb e => ?_⟩
   subst e
   obtain ⟨q1, g1, g2⟩ := path_suffix h1 ha
   obtain ⟨q2, g3, g4⟩ := path_suffix hos.1 hb
   have := g2 w hw hm
   rw [path_uniq g1 g3] at this
   have sub : ∀ {r : List Tx} {w y : Tx} {q : List Tx}, Path (seeOf · l) w r → y ∈ w :: r → Path (seeOf · l) y q → ∀ z ∈ y :: q, z ∈ w :: r := by
    intro r
    induction r with
    | nil =>
     intro w y q hp hy hq z hz
     obtain rfl := List.mem_singleton.1 hy
     rw [path_uniq hq hp] at hz
     exact hz
    | cons a r ih =>
     intro w y q hp hy hq z hz
     rcases List.mem_cons.1 hy with rfl | hy
     ·rw [path_uniq hq hp] at hz
      exact hz
     ·exact List.mem_cons_of_mem _ (ih hp.2.2 hy hq z hz)
   exact hno (sub hos.1 hb g3 w this)
  ·intro z hz
   rcases List.mem_append.1 (show z ∈ (x :: r) ++ (o :: s) from hz) with hz | hz
   ·exact h3 z hz
   ·exact hos.2.2 z hz
 ·exact ⟨r, path_upd h1 fun y hy => if_neg fun e => hm (by rw [← e]; exact hy), h2, h3⟩
theorem ways_same {l l2 : List Ent} (hs : ∀ y, seeOf y l2 = seeOf y l) (hk : ∀ x ∈ keysE l, x ∈ keysE l2) (hn : ∀ x ∈ keysE l2, x ∈ keysE l ∨ seeOf x l = []) (h : ∀ x ∈ keysE l, ∃ s, WayAt l x s) : ∀ x ∈ keysE l2, ∃ s, WayAt l2 x s := by
 intro x hx
 rcases hn x hx with h1 | h1
 ·obtain ⟨s, a, b, c⟩ := h x h1
  exact ⟨s, path_upd a fun y _ => hs y, b, fun y hy => hk y (c y hy)⟩
 ·exact ⟨[], (hs x).trans h1, by simp, fun y hy => by rw [List.mem_singleton.1 hy]; exact hx⟩
theorem ways_inv {ls : List Tx} (hu : ∀ l ∈ ls, parse l ≠ (.none, 0)) : WInv (toldL ls) := by
 refine told_ind2 (Q := WInv) ⟨fun i l h => (by cases h), fun w => rfl, fun w h => (by cases h), fun e h => (by cases h)⟩ ?_ hu
 intro r l x h hD hp hd
 obtain ⟨hf, hs, hc, ha⟩ := line_fields hp
 have hx := parse_ok hp
 have hso := see_of hd
 have hko := keys_of hd
 have hne : Lib.fields l ≠ [] := by rw [hf]; exact split_ne 32 l
 have hhd : (Lib.fields l).headD [] = kSee → ∃ w o, x = .see w o ∧ Lib.fields l = [kSee, w, o] := by
  intro hk
  cases x with
  | see w o => exact ⟨w, o, rfl, hs⟩
  | word w => rw [show Lib.fields l = _ from hs] at hk; exact absurd hk (show kWord ≠ kSee by decide)
  | short w f => rw [show Lib.fields l = _ from hs] at hk; exact absurd hk (show kShort ≠ kSee by decide)
  | give w p n => obtain ⟨t, hs, _⟩ := hs; rw [hs] at hk; exact absurd hk (show kGive ≠ kSee by decide)
  | come w n => obtain ⟨t, hs, _⟩ := hs; rw [hs] at hk; exact absurd hk (show kCome ≠ kSee by decide)
  | close c => obtain ⟨t, hs, _⟩ := hs; rw [hs] at hk; exact absurd hk (show kClose ≠ kSee by decide)
  | pay p n => obtain ⟨t, hs, _⟩ := hs; rw [hs] at hk; exact absurd hk (show kPay ≠ kSee by decide)
  | stop p => rw [show Lib.fields l = _ from hs] at hk; exact absurd hk (show kStop ≠ kSee by decide)
 refine ⟨fun i l' hl' => ?_, fun w => ?_, ?_, free_of hd h.free hx⟩
 ·by_cases hi : i < r.2.length
  ·rw [List.getElem?_append_left hi] at hl'
   show WLine (seeM ((r.2 ++ [l]).take i)) l'
   rw [List.take_append_of_le_length (by omega)]
   exact h.lines i l' hl'
  ·have hil : i < (r.2 ++ [l]).length := (List.getElem?_eq_some_iff.1 hl').1
   simp at hil
   obtain rfl : i = r.2.length := by omega
   rw [List.getElem?_append_right (Nat.le_refl _), Nat.sub_self] at hl'
   cases hl'
   show WLine (seeM ((r.2 ++ [l]).take r.2.length)) l
   rw [List.take_append_of_le_length (Nat.le_refl _), List.take_length]
   refine ⟨ha, hne, fun hk => ?_⟩
   obtain ⟨w, o, rfl, hw⟩ := hhd hk
   rw [hw]
   refine ⟨rfl, ?_⟩
   show (kGet w (seeM r.2)).getD [] = []
   rw [h.see w]
   exact (see_taken hd).2.2.1
 ·show (kGet w (seeM (r.2 ++ [l]))).getD [] = seeOf w (doO x r.1.now).2.ents
  rw [seeM_snoc, hso w]
  unfold seeF
  by_cases hk : (Lib.fields l).headD [] = kSee
  ·rw [if_pos hk]
   obtain ⟨w', o, rfl, hw⟩ := hhd hk
   rw [hw]
   show (kGet w (kSet w' o (seeM r.2))).getD [] = updF (seeOf · r.1.now.ents) w' o w
   rw [kGet_setW]
   unfold updF
   split
   ·rfl
   ·exact h.see w
  ·rw [if_neg hk]
   cases x with
   | see w' o => exact absurd (by rw [show Lib.fields l = _ from hs]; rfl) hk
   | _ => exact h.see w
 ·show ∀ w ∈ keysE (doO x r.1.now).2.ents, ∃ s, WayAt (doO x r.1.now).2.ents w s
  cases x with
  | see w o =>
   obtain ⟨t1, t2, t3, t4, -⟩ := see_taken hd
   obtain ⟨s, hs'⟩ := h.ways o t2
   rw [hs'.way] at t4
   exact ways_see hso hko t3 (NameT.spec hx.2).1 hs' t4 h.ways
  | word w =>
   refine ways_same hso (fun y hy => by rw [hko]; exact List.mem_append_left _ hy) (fun y hy => ?_) h.ways
   rw [hko] at hy
   rcases List.mem_append.1 hy with hy | hy
   ·exact .inl hy
   ·rw [List.mem_singleton.1 hy]
    by_cases hin : w ∈ keysE r.1.now.ents
    ·exact .inl (by rw [List.mem_singleton.1 hy] at *; exact hin)
    ·exact .inr (seeOf_no hin)
  | _ => exact ways_same hso (fun y hy => by rw [hko]; exact hy) (fun y hy => .inl (by rw [hko] at hy; exact hy)) h.ways
def lnSee (w o : Tx) : Tx := kSee ++ 32 :: (w ++ 32 :: o)
theorem circle_no {S : Off} {w a : Tx} (hw : NameT w) (ha : NameT a) (hm : a ∈ S.now.way w) : (tell S (lnSee a w)).1 ≠ 0 := by
 have hsp : splitC 32 (lnSee a w) = [kSee, a, w] := by
  unfold lnSee
  rw [splitC_app (by decide), splitC_app (NameT.clean ha).no32, splitC_one (NameT.clean hw).no32]
 have hu : parse (lnSee a w) ≠ (.none, 0) := fun hp => by
  have : parseW ((splitC 32 (lnSee a w)).headD []) (splitC 32 (lnSee a w)).tail = (.none, 0) := hp
  rw [hsp] at this
  have : parseW kSee [a, w] = (.none, 0) := this
  rw [parseSee] at this
  revert this
  generalize readW [a, w] 2 10 false = q
  intro this
  obtain ⟨n, e⟩ := q
  cases e with
  | zero => exact absurd (Prod.mk.inj this).1 (fun h => by cases h)
  | succ e => exact absurd (Prod.mk.inj this).2 (Nat.succ_ne_zero _)
 rcases tell_line (S := S) hu with ⟨h0, -, x, hp, hd, -⟩ | ⟨h0, -⟩
 ·exfalso
  have hs := line_shape hp
  rw [hsp] at hs
  have hx : x = .see a w := by
   cases x with
   | see w' o =>
    have : [kSee, a, w] = [kSee, w', o] := hs
    cases this
    rfl
   | word w' => exact absurd (congrArg List.length (show [kSee, a, w] = _ from hs)) (by decide : (3 : Nat) ≠ 2)
   | short w' f => exact absurd (congrArg (·.headD []) (show [kSee, a, w] = _ from hs)) (by decide : kSee ≠ kShort)
   | give w' p n => obtain ⟨t, hs, _⟩ := hs; exact absurd (congrArg (·.headD []) hs) (by decide : kSee ≠ kGive)
   | come w' n => obtain ⟨t, hs, _⟩ := hs; exact absurd (congrArg (·.headD []) hs) (by decide : kSee ≠ kCome)
   | close c => obtain ⟨t, hs, _⟩ := hs; exact absurd (congrArg (·.headD []) hs) (by decide : kSee ≠ kClose)
   | pay p n => obtain ⟨t, hs, _⟩ := hs; exact absurd (congrArg (·.headD []) hs) (by decide : kSee ≠ kPay)
   | stop p => exact absurd (congrArg (·.headD []) (show [kSee, a, w] = _ from hs)) (by decide : kSee ≠ kStop)
  subst hx
  exact (see_taken hd).2.2.2.1 hm
 ·exact h0
end Go.Proofs.YtjeadhfponlnnaaGreatDoor
