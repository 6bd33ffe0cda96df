/-
  A volume closes: word by word, subscriber by subscriber; plainly.
  Conditions: none; lemmas.
-/
import Derived.Test.YtdhichidcomkmaaGreatDoorPlain14
set_option linter.unusedSimpArgs false
set_option linter.unusedVariables false
namespace Go.Clerk
def zeroE : Ent := ⟨[], [], [], [], 0, 0, 0⟩
theorem key_inj {α β : Type} {f : α → β} : ∀ {l : List α} {a b : α}, (l.map f).Nodup → a ∈ l → b ∈ l → f a = f b → a = b
 | [], _, _, _, h, _, _ => by cases h
 | z :: l, a, b, hn, ha, hb, hab => by
  have hn' := List.nodup_cons.1 (show (f z :: l.map f).Nodup from hn)
  rcases List.mem_cons.1 ha with rfl | ha'
  ·rcases List.mem_cons.1 hb with rfl | hb'
   ·rfl
   ·exact absurd (List.mem_map_of_mem (f := f) hb') (by rw [← hab]; exact hn'.1)
  ·rcases List.mem_cons.1 hb with rfl | hb'
   ·exact absurd (List.mem_map_of_mem (f := f) ha') (by rw [hab]; exact hn'.1)
   ·exact key_inj hn'.2 ha' hb' hab
def volE (n : Nat) (l : List Ent) (w : Tx) : List Ent := putE { (getE w l).getD zeroE with vol := n } l
def keysE (l : List Ent) : List Tx := l.map (·.word)
theorem getE_some {w : Tx} : ∀ {l : List Ent}, w ∈ keysE l → ∃ e, getE w l = some e ∧ e ∈ l ∧ e.word = w
 | [], h => by cases h
 | e :: l, h => by
  unfold getE
  by_cases he : e.word = w
  ·rw [decide_eq_true he]
   exact ⟨e, rfl, List.mem_cons_self, he⟩
  ·rw [decide_eq_false he]
   rcases List.mem_cons.1 h with h | h
   ·exact absurd h.symm he
   ·obtain ⟨x, h1, h2, h3⟩ := getE_some h
    exact ⟨x, h1, List.mem_cons_of_mem _ h2, h3⟩
theorem getE_none {w : Tx} : ∀ {l : List Ent}, w ∉ keysE l → getE w l = none
 | [], _ => rfl
 | e :: l, h => by
  unfold getE
  have he : ¬ e.word = w := fun h' => h (by rw [← h']; exact List.mem_cons_self)
  rw [decide_eq_false he]
  exact getE_none fun h' => h (List.mem_cons_of_mem _ h')
theorem putE_map {x : Ent} : ∀ {l : List Ent}, (keysE l).Nodup → x.word ∈ keysE l → putE x l = l.map fun e => if e.word = x.word then x else e
 | [], _, h => by cases h
 | e :: l, hn, h => by
  unfold putE
  have hn' := List.nodup_cons.1 (show (e.word :: keysE l).Nodup from hn)
  by_cases he : e.word = x.word
  ·rw [decide_eq_true he]
   have : l.map (fun e => if e.word = x.word then x else e) = l := by
    conv => rhs; rw [← List.map_id l]
    refine List.map_congr_left fun y hy => ?_
    rw [if_neg (fun h' => hn'.1 (by rw [he, ← h']; exact List.mem_map_of_mem hy))]
    rfl
   show x :: l = _
   rw [List.map_cons, if_pos he, this]
  ·rw [decide_eq_false he]
   rcases List.mem_cons.1 h with h | h
   ·exact absurd h.symm he
   ·show e :: putE x l = _
    rw [putE_map hn'.2 h, List.map_cons, if_neg he]
theorem keysE_map {l : List Ent} {f : Ent → Ent} (h : ∀ e, (f e).word = e.word) : keysE (l.map f) = keysE l := by
 unfold keysE
 rw [List.map_map]
 exact List.map_congr_left fun e _ => h e
theorem volE_map {n : Nat} {l : List Ent} {w : Tx} (hn : (keysE l).Nodup) (hw : w ∈ keysE l) : volE n l w = l.map fun e => if e.word = w then { e with vol := n } else e := by
 obtain ⟨e, h1, h2, h3⟩ := getE_some hw
 unfold volE
 rw [h1]
 show putE { e with vol := n } l = _
 rw [putE_map hn (by show e.word ∈ _; rw [h3]; exact hw)]
 refine List.map_congr_left fun y hy => ?_
 show (if y.word = e.word then { e with vol := n } else y) = _
 rw [h3]
 by_cases hy2 : y.word = w
 ·rw [if_pos hy2, if_pos hy2]
  have : y = e := key_inj hn hy h2 (by rw [hy2, h3])
  rw [this]
  simp [h3]
 ·rw [if_neg hy2, if_neg hy2]
theorem fold_vol {n : Nat} : ∀ {ws : List Tx} {l : List Ent}, (keysE l).Nodup → (∀ w ∈ ws, w ∈ keysE l) → ws.foldl (volE n) l = l.map fun e => if e.word ∈ ws then { e with vol := n } else e
 | [], l, _, _ => by simp
 | w :: ws, l, hn, hw => by
  have h1 := volE_map (n := n) hn (hw w List.mem_cons_self)
  have hk : keysE (volE n l w) = keysE l := by
   rw [h1]
   exact keysE_map fun e => by split <;> rfl
  rw [List.foldl_cons, fold_vol (by rw [hk]; exact hn) (fun x hx => by rw [hk]; exact hw x (List.mem_cons_of_mem _ hx)), h1, List.map_map]
  refine List.map_congr_left fun e _ => ?_
  simp only [Function.comp]
  by_cases he : e.word = w
  ·rw [if_pos he]
   simp only [List.mem_cons, he, true_or, if_true]
   split <;> rfl
  ·rw [if_neg he]
   simp only [List.mem_cons, he, false_or]
def volsOf (c : UInt8) (d : Desk) : List Ent := d.ents.map fun e => match closes c e with
 | true => { e with vol := d.vols.length + 1 }
 | false => e
theorem fold_closes {c : UInt8} {d : Desk} {ws : List Tx} (hn : (keysE d.ents).Nodup) (hp : ws.Perm ((d.ents.filter (closes c)).map (·.word))) : ws.foldl (volE (d.vols.length + 1)) d.ents = volsOf c d := by
 have hmem : ∀ w, w ∈ ws ↔ ∃ e ∈ d.ents, closes c e = true ∧ e.word = w := fun w => by
  rw [hp.mem_iff, List.mem_map]
  simp only [List.mem_filter]
  constructor
  ·rintro ⟨e, ⟨h1, h2⟩, h3⟩; exact ⟨e, h1, h2, h3⟩
  ·rintro ⟨e, h1, h2, h3⟩; exact ⟨e, ⟨h1, h2⟩, h3⟩
 rw [fold_vol hn (fun w hw => by
  obtain ⟨e, h1, _, h3⟩ := (hmem w).1 hw
  rw [← h3]
  exact List.mem_map_of_mem h1)]
 unfold volsOf
 refine List.map_congr_left fun e he => ?_
 by_cases hc : closes c e = true
 ·rw [if_pos ((hmem _).2 ⟨e, he, hc, rfl⟩), hc]
 ·have : e.word ∉ ws := fun h => by
   obtain ⟨x, h1, h2, h3⟩ := (hmem _).1 h
   exact hc (key_inj hn h1 he h3 ▸ h2)
  have hcf : closes c e = false := by simpa using hc
  rw [if_neg this, hcf]
def keysA (l : List Acc) : List Tx := l.map (·.who)
def pay1 (a : Acc) : Acc := match pays a with
 | true => { a with pence := a.pence - 20, vols := a.vols + 1 }
 | false => a
theorem pay1_who (a : Acc) : (pay1 a).who = a.who := by unfold pay1; split <;> rfl
theorem putA_map {x : Acc} : ∀ {l : List Acc}, (keysA l).Nodup → x.who ∈ keysA l → putA x l = l.map fun e => if e.who = x.who then x else e
 | [], _, h => by cases h
 | e :: l, hn, h => by
  unfold putA
  have hn' := List.nodup_cons.1 (show (e.who :: keysA l).Nodup from hn)
  by_cases he : e.who = x.who
  ·rw [decide_eq_true he]
   have : l.map (fun e => if e.who = x.who then x else e) = l := by
    conv => rhs; rw [← List.map_id l]
    refine List.map_congr_left fun y hy => ?_
    rw [if_neg (fun h' => hn'.1 (by rw [he, ← h']; exact List.mem_map_of_mem hy))]
    rfl
   show x :: l = _
   rw [List.map_cons, if_pos he, this]
  ·rw [decide_eq_false he]
   rcases List.mem_cons.1 h with h | h
   ·exact absurd h.symm he
   ·show e :: putA x l = _
    rw [putA_map hn'.2 h, List.map_cons, if_neg he]
def paidBut (l : List Acc) (rest : List Tx) : List Acc := l.map fun a => if a.who ∈ rest then a else pay1 a
theorem paidBut_all {l : List Acc} : paidBut l (keysA l) = l := by
 unfold paidBut
 conv => rhs; rw [← List.map_id l]
 refine List.map_congr_left fun a ha => ?_
 rw [if_pos (show a.who ∈ keysA l from List.mem_map_of_mem (f := (·.who)) ha)]
 rfl
theorem paidBut_nil {l : List Acc} : paidBut l [] = l.map pay1 := by
 unfold paidBut
 exact List.map_congr_left fun a _ => by rw [if_neg (by simp)]
theorem keysA_paid {l : List Acc} {r : List Tx} : keysA (paidBut l r) = keysA l := by
 unfold keysA paidBut
 rw [List.map_map]
 refine List.map_congr_left fun a _ => ?_
 simp only [Function.comp]
 split
 ·rfl
 ·exact pay1_who a
theorem paidBut_step {l : List Acc} {r r' : List Tx} {a : Acc} (hn : (keysA l).Nodup) (ha : a ∈ l) (hr : ∀ x, x ∈ r ↔ x = a.who ∨ x ∈ r') (hd : a.who ∉ r') : paidBut l r' = if pays a then putA (pay1 a) (paidBut l r) else paidBut l r := by
 have hu : ∀ b ∈ l, b.who = a.who → b = a := fun b hb hba => key_inj hn hb ha hba
 by_cases hp : pays a = true
 ·rw [if_pos hp, putA_map (by rw [keysA_paid]; exact hn) (by rw [keysA_paid, pay1_who]; exact List.mem_map_of_mem ha)]
  unfold paidBut
  rw [List.map_map]
  refine List.map_congr_left fun b hb => ?_
  simp only [Function.comp, pay1_who]
  by_cases hba : b.who = a.who
  ·obtain rfl := hu b hb hba
   rw [if_neg hd]
   have h1 : b.who ∈ r := (hr _).2 (.inl rfl)
   rw [if_pos h1, if_pos rfl]
  ·by_cases hb2 : b.who ∈ r'
   ·rw [if_pos hb2, if_pos ((hr _).2 (.inr hb2)), if_neg hba]
   ·have h1 : b.who ∉ r := fun h => by
     rcases (hr _).1 h with h | h
     ·exact hba h
     ·exact hb2 h
    rw [if_neg hb2, if_neg h1, pay1_who, if_neg hba]
 ·rw [if_neg hp]
  unfold paidBut
  refine List.map_congr_left fun b hb => ?_
  by_cases hba : b.who = a.who
  ·obtain rfl := hu b hb hba
   rw [if_neg hd, if_pos ((hr _).2 (.inl rfl))]
   unfold pay1
   rw [show pays b = false by simpa using hp]
  ·by_cases hb2 : b.who ∈ r'
   ·rw [if_pos hb2, if_pos ((hr _).2 (.inr hb2))]
   ·have h1 : b.who ∉ r := fun h => by
     rcases (hr _).1 h with h | h
     ·exact hba h
     ·exact hb2 h
    rw [if_neg hb2, if_neg h1]
end Go.Clerk
