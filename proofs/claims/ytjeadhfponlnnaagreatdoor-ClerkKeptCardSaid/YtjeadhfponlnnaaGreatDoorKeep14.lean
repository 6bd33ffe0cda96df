/-
  What holds of every desk and office that was told lines; plainly.
  What holds of every office that was told lines; plainly.
  Conditions: none; definitions and lemmas.
-/
import Derived.Test.YtjeadhfponlnnaaGreatDoorPlain14
import Derived.Test.YtjeadhfponlnnaaGreatDoorParsed50
set_option linter.unusedSimpArgs false
set_option linter.unusedVariables false
namespace Go.Clerk
def NameT (w : Tx) : Prop := named w 10 = true
theorem NameT.spec {w : Tx} (h : NameT w) : w ≠ [] ∧ w.length ≤ 10 ∧ ∀ c ∈ w, 97 ≤ c.toNat ∧ c.toNat ≤ 122 := by
 unfold NameT named at h
 simp only [Bool.and_eq_true, Bool.not_eq_true', decide_eq_true_eq, List.all_eq_true] at h
 exact ⟨fun e => by rw [e] at h; simp at h, h.1.2, fun c hc => h.2 c hc⟩
structure EntOK (e : Ent) : Prop where
 word : NameT e.word
 form : e.form = [] ∨ NameT e.form
 see : e.see = [] ∨ NameT e.see
 writer : e.writer = [] ∨ NameT e.writer
 asked : e.asked ≤ 9999
 came : e.came ≤ 9999
structure VolOK (v : Vol) : Prop where
 words : v.words.length ≤ 40
 names : ∀ w ∈ v.words, NameT w
 lines : v.lines ≤ 399960
 sent : v.sent ≤ 12
 letter : ∃ c : UInt8, v.letter = [c] ∧ 97 ≤ c.toNat ∧ c.toNat ≤ 122
structure DeskOK (d : Desk) : Prop where
 keys : (keysE d.ents).Nodup
 few : d.ents.length ≤ 40
 ent : ∀ e ∈ d.ents, EntOK e
 own : ∀ e ∈ d.ents, e.form ≠ [] → leftC e.word e.form = true ∧ ∀ x ∈ d.ents, leftC x.word e.form = true → x.word = e.word
 keysa : (keysA d.accs).Nodup
 fewa : d.accs.length ≤ 12
 acc : ∀ a ∈ d.accs, NameT a.who ∧ a.pence ≤ 9999 ∧ a.vols ≤ d.vols.length
 shut : d.closed.toNat ≤ 122 ∧ (d.vols.length = 0 ∨ d.vols.length + 96 ≤ d.closed.toNat)
 vol : ∀ v ∈ d.vols, VolOK v
 late : ∀ e ∈ d.ents, e.vol ≤ d.vols.length
def OrdOK : Ord → Prop
 | .word w => NameT w
 | .short w f => NameT w ∧ NameT f
 | .give w p n => NameT w ∧ NameT p ∧ n ≤ 9999
 | .come w n => NameT w ∧ n ≤ 9999
 | .see w o => NameT w ∧ NameT o
 | .close c => 97 ≤ c.toNat ∧ c.toNat ≤ 122
 | .pay p n => NameT p ∧ n ≤ 9999
 | .stop p => NameT p
theorem DeskOK.none : DeskOK Desk.none :=
 ⟨List.nodup_nil, Nat.zero_le _, fun _ h => (by cases h), fun _ h => (by cases h), List.nodup_nil, Nat.zero_le _, fun _ h => (by cases h), ⟨by decide, .inl rfl⟩, fun _ h => (by cases h), fun _ h => (by cases h)⟩
theorem getE_in {w : Tx} {e : Ent} : ∀ {l : List Ent}, getE w l = some e → e ∈ l ∧ e.word = w
 | [], h => by cases h
 | x :: l, h => by
  unfold getE at h
  by_cases hx : x.word = w
  ·rw [decide_eq_true hx] at h
   cases h
   exact ⟨List.mem_cons_self, hx⟩
  ·rw [decide_eq_false hx] at h
   obtain ⟨a, b⟩ := getE_in h
   exact ⟨List.mem_cons_of_mem _ a, b⟩
theorem getE_no {w : Tx} {l : List Ent} (h : getE w l = .none) : w ∉ keysE l := fun hm => by
 obtain ⟨e, h1, _⟩ := getE_some hm
 rw [h1] at h; cases h
theorem putE_mem {x y : Ent} : ∀ {l : List Ent}, y ∈ putE x l → y = x ∨ y ∈ l
 | [], h => by
  rw [putE, List.mem_singleton] at h
  exact .inl h
 | e :: l, h => by
  unfold putE at h
  by_cases he : e.word = x.word
  ·rw [decide_eq_true he] at h
   rcases List.mem_cons.1 h with h | h
   ·exact .inl h
   ·exact .inr (List.mem_cons_of_mem _ h)
  ·rw [decide_eq_false he] at h
   rcases List.mem_cons.1 h with h | h
   ·exact .inr (h ▸ List.mem_cons_self)
   ·exact (putE_mem h).imp id (List.mem_cons_of_mem _)
theorem putE_old {x y : Ent} : ∀ {l : List Ent}, y ∈ l → y.word ≠ x.word → y ∈ putE x l
 | e :: l, h, hne => by
  unfold putE
  by_cases he : e.word = x.word
  ·rw [decide_eq_true he]
   rcases List.mem_cons.1 h with rfl | h
   ·exact absurd he hne
   ·exact List.mem_cons_of_mem _ h
  ·rw [decide_eq_false he]
   rcases List.mem_cons.1 h with h | h
   ·exact h ▸ List.mem_cons_self
   ·exact List.mem_cons_of_mem _ (putE_old h hne)
theorem keysE_put {x : Ent} : ∀ {l : List Ent}, x.word ∈ keysE l → keysE (putE x l) = keysE l
 | [], h => by cases h
 | e :: l, h => by
  unfold putE
  by_cases he : e.word = x.word
  ·rw [decide_eq_true he]
   show x.word :: keysE l = e.word :: keysE l
   rw [he]
  ·rw [decide_eq_false he]
   rcases List.mem_cons.1 h with h | h
   ·exact absurd h.symm he
   ·show e.word :: keysE (putE x l) = e.word :: keysE l
    rw [keysE_put h]
theorem putE_len {x : Ent} {l : List Ent} (h : x.word ∈ keysE l) : (putE x l).length = l.length := by
 have := congrArg List.length (keysE_put h)
 simpa [keysE] using this
theorem getA_in {w : Tx} {e : Acc} : ∀ {l : List Acc}, getA w l = some e → e ∈ l ∧ e.who = w
 | [], h => by cases h
 | x :: l, h => by
  unfold getA at h
  by_cases hx : x.who = w
  ·rw [decide_eq_true hx] at h
   cases h
   exact ⟨List.mem_cons_self, hx⟩
  ·rw [decide_eq_false hx] at h
   obtain ⟨a, b⟩ := getA_in h
   exact ⟨List.mem_cons_of_mem _ a, b⟩
theorem getA_no {w : Tx} : ∀ {l : List Acc}, getA w l = .none → w ∉ keysA l
 | [], _, hm => by cases hm
 | e :: l, h, hm => by
  unfold getA at h
  by_cases hx : e.who = w
  ·rw [decide_eq_true hx] at h; cases h
  ·rw [decide_eq_false hx] at h
   rcases List.mem_cons.1 hm with hm | hm
   ·exact hx hm.symm
   ·exact getA_no h hm
theorem putA_mem {x y : Acc} : ∀ {l : List Acc}, y ∈ putA x l → y = x ∨ y ∈ l
 | [], h => by
  rw [putA, List.mem_singleton] at h
  exact .inl h
 | e :: l, h => by
  unfold putA at h
  by_cases he : e.who = x.who
  ·rw [decide_eq_true he] at h
   rcases List.mem_cons.1 h with h | h
   ·exact .inl h
   ·exact .inr (List.mem_cons_of_mem _ h)
  ·rw [decide_eq_false he] at h
   rcases List.mem_cons.1 h with h | h
   ·exact .inr (h ▸ List.mem_cons_self)
   ·exact (putA_mem h).imp id (List.mem_cons_of_mem _)
theorem keysA_put {x : Acc} : ∀ {l : List Acc}, x.who ∈ keysA l → keysA (putA x l) = keysA l
 | [], h => by cases h
 | e :: l, h => by
  unfold putA
  by_cases he : e.who = x.who
  ·rw [decide_eq_true he]
   show x.who :: keysA l = e.who :: keysA l
   rw [he]
  ·rw [decide_eq_false he]
   rcases List.mem_cons.1 h with h | h
   ·exact absurd h.symm he
   ·show e.who :: keysA (putA x l) = e.who :: keysA l
    rw [keysA_put h]
theorem keysA_new {x : Acc} : ∀ {l : List Acc}, x.who ∉ keysA l → putA x l = l ++ [x]
 | [], _ => rfl
 | e :: l, h => by
  unfold putA
  have he : ¬ e.who = x.who := fun he => h (by rw [← he]; exact List.mem_cons_self)
  rw [decide_eq_false he]
  show e :: putA x l = _
  rw [keysA_new fun hm => h (List.mem_cons_of_mem _ hm)]
  rfl
theorem keysA_has {w : Tx} {l : List Acc} {a : Acc} (h : getA w l = some a) : w ∈ keysA l := by
 obtain ⟨h1, h2⟩ := getA_in h
 rw [← h2]
 exact List.mem_map_of_mem h1
theorem keysE_has {w : Tx} {l : List Ent} {e : Ent} (h : getE w l = some e) : w ∈ keysE l := by
 obtain ⟨h1, h2⟩ := getE_in h
 rw [← h2]
 exact List.mem_map_of_mem h1
theorem DeskOK.put {d : Desk} (h : DeskOK d) {e x : Ent} (he : getE x.word d.ents = some e) (hx : EntOK x) (hf : x.form = e.form) (hv : x.vol ≤ d.vols.length) : DeskOK { d with ents := putE x d.ents } := by
 obtain ⟨h1, h2⟩ := getE_in he
 have hk := keysE_has he
 refine ⟨by show (keysE (putE x d.ents)).Nodup; rw [keysE_put hk]; exact h.keys, by show (putE x d.ents).length ≤ 40; rw [putE_len hk]; exact h.few, fun y hy => ?_, fun y hy hne => ?_, h.keysa, h.fewa, h.acc, h.shut, h.vol, fun y hy => ?_⟩
 ·rcases putE_mem hy with rfl | hy
  ·exact hx
  ·exact h.ent y hy
 ·have key : ∀ z ∈ d.ents, z.form ≠ [] → leftC z.word z.form = true ∧ ∀ u ∈ putE x d.ents, leftC u.word z.form = true → u.word = z.word := fun z hz hzf => by
   obtain ⟨k1, k2⟩ := h.own z hz hzf
   refine ⟨k1, fun u hu hl => ?_⟩
   rcases putE_mem hu with rfl | hu
   ·rw [← h2]
    exact k2 e h1 (by rw [h2]; exact hl)
   ·exact k2 u hu hl
  rcases putE_mem hy with rfl | hy
  ·have := key e h1 (by rw [← hf]; exact hne)
   rw [h2, ← hf] at this
   exact this
  ·exact key y hy hne
 ·rcases putE_mem hy with rfl | hy
  ·exact hv
  ·exact h.late y hy
theorem word_ok {w : Tx} {d : Desk} (h : DeskOK d) (hw : NameT w) (h0 : (doWord w d).1 = 0) : DeskOK (doWord w d).2 := by
 unfold doWord at h0 ⊢
 cases h1 : getE w d.ents with
 | some e => rw [h1] at h0; cases h0
 | none =>
  rw [h1] at h0
  cases h2 : d.shut w with
  | true => rw [h2] at h0; cases h0
  | false =>
   rw [h2] at h0
   cases h3 : decide (d.ents.length = 40) with
   | true => rw [h3] at h0; cases h0
   | false =>
    rw [h3] at h0
    cases h4 : d.ents.any (fun e => !e.form.isEmpty && leftC w e.form) with
    | true => rw [h4] at h0; cases h0
    | false =>
     have hn := getE_no h1
     have h3' : d.ents.length ≠ 40 := of_decide_eq_false h3
     rw [List.any_eq_false] at h4
     have h4' : ∀ e ∈ d.ents, e.form ≠ [] → leftC w e.form = true → False := fun e he hne hl => h4 e he (by
      rw [hl, Bool.and_true, Bool.not_eq_true']
      cases hf : e.form with
      | nil => exact absurd hf hne
      | cons a l => rfl)
     show DeskOK { d with ents := d.ents ++ [⟨w, [], [], [], 0, 0, 0⟩] }
     refine ⟨?_, by have := h.few; simp; omega, fun y hy => ?_, fun y hy hne => ?_, h.keysa, h.fewa, h.acc, h.shut, h.vol, fun y hy => ?_⟩
     ·show (keysE (d.ents ++ _)).Nodup
      unfold keysE at hn ⊢
      rw [List.map_append, List.nodup_append]
      refine ⟨h.keys, by simp, fun a ha b hb hab => ?_⟩
      simp only [List.map_cons, List.map_nil, List.mem_singleton] at hb
      exact hn (by rw [← hb, ← hab]; exact ha)
     ·rcases List.mem_append.1 hy with hy | hy
      ·exact h.ent y hy
      ·rw [List.mem_singleton.1 hy]
       exact ⟨hw, .inl rfl, .inl rfl, .inl rfl, Nat.zero_le _, Nat.zero_le _⟩
     ·rcases List.mem_append.1 hy with hy | hy
      ·obtain ⟨k1, k2⟩ := h.own y hy hne
       refine ⟨k1, fun u hu hl => ?_⟩
       rcases List.mem_append.1 hu with hu | hu
       ·exact k2 u hu hl
       ·rw [List.mem_singleton.1 hu] at hl
        exact (h4' y hy hne hl).elim
      ·rw [List.mem_singleton.1 hy] at hne
       exact absurd rfl hne
     ·rcases List.mem_append.1 hy with hy | hy
      ·exact h.late y hy
      ·rw [List.mem_singleton.1 hy]; exact Nat.zero_le _
theorem short_ok {w f : Tx} {d : Desk} (h : DeskOK d) (hw : NameT w) (hf : NameT f) (h0 : (doShort w f d).1 = 0) : DeskOK (doShort w f d).2 := by
 unfold doShort at h0 ⊢
 cases h1 : getE w d.ents with
 | none => rw [h1] at h0; cases h0
 | some e =>
  simp only [h1] at h0 ⊢
  cases h2 : !e.form.isEmpty with
  | true => rw [h2] at h0; cases h0
  | false =>
   rw [h2] at h0
   cases h3 : leftC w f with
   | false => rw [h3] at h0; cases h0
   | true =>
    rw [h3] at h0
    cases h4 : d.ents.any (fun x => decide (x.word ≠ w) && leftC x.word f) with
    | true => rw [h4] at h0; cases h0
    | false =>
     obtain ⟨e1, e2⟩ := getE_in h1
     have hk : w ∈ keysE d.ents := keysE_has h1
     rw [List.any_eq_false] at h4
     have h4' : ∀ x ∈ d.ents, leftC x.word f = true → x.word = w := fun x hx hl => Decidable.byContradiction fun hne => h4 x hx (by rw [hl, Bool.and_true]; exact decide_eq_true hne)
     have hfe : e.form = [] := by
      cases hq : e.form with
      | nil => rfl
      | cons a l => rw [hq] at h2; cases h2
     have hk' : ({ e with form := f } : Ent).word ∈ keysE d.ents := by show e.word ∈ _; rw [e2]; exact hk
     show DeskOK { d with ents := putE { e with form := f } d.ents }
     have he := h.ent e e1
     refine ⟨by show (keysE (putE _ d.ents)).Nodup; rw [keysE_put hk']; exact h.keys, by show (putE _ d.ents).length ≤ 40; rw [putE_len hk']; exact h.few, fun y hy => ?_, fun y hy hne => ?_, h.keysa, h.fewa, h.acc, h.shut, h.vol, fun y hy => ?_⟩
     ·rcases putE_mem hy with rfl | hy
      ·exact ⟨he.word, .inr hf, he.see, he.writer, he.asked, he.came⟩
      ·exact h.ent y hy
     ·rcases putE_mem hy with rfl | hy
      ·refine ⟨by show leftC e.word f = true; rw [e2]; exact h3, fun u hu hl => ?_⟩
       rcases putE_mem hu with rfl | hu
       ·rfl
       ·show u.word = e.word
        rw [e2]
        exact h4' u hu hl
      ·obtain ⟨k1, k2⟩ := h.own y hy hne
       refine ⟨k1, fun u hu hl => ?_⟩
       rcases putE_mem hu with rfl | hu
       ·exact k2 e e1 hl
       ·exact k2 u hu hl
     ·rcases putE_mem hy with rfl | hy
      ·exact h.late e e1
      ·exact h.late y hy
theorem give_ok {w p : Tx} {n : Nat} {d : Desk} (h : DeskOK d) (hw : NameT w) (hp : NameT p) (hn : n ≤ 9999) (h0 : (doGive w p n d).1 = 0) : DeskOK (doGive w p n d).2 := by
 unfold doGive at h0 ⊢
 cases h1 : getE w d.ents with
 | none => rw [h1] at h0; cases h0
 | some e =>
  simp only [h1] at h0 ⊢
  obtain ⟨e1, e2⟩ := getE_in h1
  have he := h.ent e e1
  have hput : DeskOK { d with ents := putE { e with writer := p, asked := n } d.ents } :=
   h.put (e := e) (x := { e with writer := p, asked := n }) (by show getE e.word _ = _; rw [e2]; exact h1) ⟨he.word, he.form, he.see, .inr hp, hn, he.came⟩ rfl (h.late e e1)
  cases h2 : !e.writer.isEmpty <;> rw [h2] at h0
  ·cases h3 : !e.see.isEmpty <;> rw [h3] at h0
   ·cases h4 : d.shut w <;> rw [h4] at h0
    ·cases h5 : decide (n = 0) <;> rw [h5] at h0
     ·exact hput
     ·cases h0
    ·cases h0
   ·cases h0
  ·cases h0
theorem come_ok {w : Tx} {n : Nat} {d : Desk} (h : DeskOK d) (hw : NameT w) (hn : n ≤ 9999) (h0 : (doCome w n d).1 = 0) : DeskOK (doCome w n d).2 := by
 unfold doCome at h0 ⊢
 cases h1 : getE w d.ents with
 | none => rw [h1] at h0; cases h0
 | some e =>
  simp only [h1] at h0 ⊢
  obtain ⟨e1, e2⟩ := getE_in h1
  have he := h.ent e e1
  have hput : DeskOK { d with ents := putE { e with came := n } d.ents } :=
   h.put (e := e) (x := { e with came := n }) (by show getE e.word _ = _; rw [e2]; exact h1) ⟨he.word, he.form, he.see, he.writer, he.asked, hn⟩ rfl (h.late e e1)
  cases h2 : e.writer.isEmpty <;> rw [h2] at h0
  ·cases h3 : decide (0 < e.came) <;> rw [h3] at h0
   ·cases h4 : d.shut w <;> rw [h4] at h0
    ·cases h5 : decide (n = 0) <;> rw [h5] at h0
     ·cases h6 : decide (2 * e.asked < n) <;> rw [h6] at h0
      ·exact hput
      ·cases h0
     ·cases h0
    ·cases h0
   ·cases h0
  ·cases h0
theorem see_ok {w o : Tx} {d : Desk} (h : DeskOK d) (hw : NameT w) (ho : NameT o) (h0 : (doSee w o d).1 = 0) : DeskOK (doSee w o d).2 := by
 unfold doSee at h0 ⊢
 cases h1 : getE w d.ents with
 | none => rw [h1] at h0; cases h0
 | some e =>
  cases h1b : getE o d.ents with
  | none => rw [h1, h1b] at h0; cases h0
  | some x =>
   simp only [h1, h1b] at h0 ⊢
   obtain ⟨e1, e2⟩ := getE_in h1
   have he := h.ent e e1
   have hput : DeskOK { d with ents := putE { e with see := o } d.ents } :=
    h.put (e := e) (x := { e with see := o }) (by show getE e.word _ = _; rw [e2]; exact h1) ⟨he.word, he.form, .inr ho, he.writer, he.asked, he.came⟩ rfl (h.late e e1)
   cases h2 : !e.see.isEmpty <;> rw [h2] at h0
   ·cases h3 : !e.writer.isEmpty <;> rw [h3] at h0
    ·cases h4 : d.shut w <;> rw [h4] at h0
     ·cases h5 : (d.way o).contains w <;> rw [h5] at h0
      ·exact hput
      ·cases h0
     ·cases h0
    ·cases h0
   ·cases h0
theorem sumN_le {k : Nat} : ∀ {l : List Nat}, (∀ n ∈ l, n ≤ k) → sumN l ≤ l.length * k
 | [], _ => Nat.zero_le _
 | n :: l, h => by
  have h1 := sumN_le (l := l) fun m hm => h m (List.mem_cons_of_mem _ hm)
  have h2 := h n List.mem_cons_self
  simp only [sumN, List.length_cons, Nat.succ_mul]
  omega
theorem close_ok {c : UInt8} {d : Desk} (h : DeskOK d) (hc : 97 ≤ c.toNat ∧ c.toNat ≤ 122) (h0 : (doClose c d).1 = 0) : DeskOK (doClose c d).2 := by
 unfold doClose at h0 ⊢
 cases h1 : decide (c.toNat ≤ d.closed.toNat) with
 | true => rw [h1] at h0; cases h0
 | false =>
  rw [h1] at h0
  cases h2 : (d.ents.filter (closes c)).isEmpty with
  | true => rw [h2] at h0; cases h0
  | false =>
   have h1' : ¬ c.toNat ≤ d.closed.toNat := of_decide_eq_false h1
   show DeskOK (closeD c d)
   unfold closeD
   have hf : ∀ e : Ent, (match closes c e with | true => { e with vol := d.vols.length + 1 } | false => e).word = e.word ∧ (match closes c e with | true => { e with vol := d.vols.length + 1 } | false => e).form = e.form := fun e => by
    cases closes c e <;> exact ⟨rfl, rfl⟩
   have hmem : ∀ y ∈ d.ents.map (fun e => match closes c e with | true => { e with vol := d.vols.length + 1 } | false => e), ∃ e ∈ d.ents, (match closes c e with | true => { e with vol := d.vols.length + 1 } | false => e) = y := fun y hy => List.mem_map.1 hy
   refine ⟨?_, by simp; exact h.few, fun y hy => ?_, fun y hy hne => ?_, ?_, by simp; exact h.fewa, fun a ha => ?_, ⟨hc.2, .inr ?_⟩, fun v hv => ?_, fun y hy => ?_⟩
   ·have k := keysE_map (l := d.ents) fun e => (hf e).1
    have k2 := h.keys
    rw [← k] at k2
    exact k2
   ·obtain ⟨e, he, rfl⟩ := hmem y hy
    have := h.ent e he
    cases closes c e
    ·exact this
    ·exact ⟨this.word, this.form, this.see, this.writer, this.asked, this.came⟩
   ·obtain ⟨e, he, rfl⟩ := hmem y hy
    rw [(hf e).2] at hne
    obtain ⟨k1, k2⟩ := h.own e he hne
    rw [(hf e).1, (hf e).2]
    refine ⟨k1, fun u hu hl => ?_⟩
    obtain ⟨x, hx, rfl⟩ := hmem u hu
    rw [(hf x).1] at hl ⊢
    exact k2 x hx hl
   ·show (keysA (d.accs.map _)).Nodup
    have : keysA (d.accs.map fun a => match pays a with | true => { a with pence := a.pence - 20, vols := a.vols + 1 } | false => a) = keysA d.accs := by
     unfold keysA
     rw [List.map_map]
     exact List.map_congr_left fun a _ => by
      simp only [Function.comp]
      cases pays a <;> rfl
    have k2 := h.keysa
    rw [← this] at k2
    exact k2
   ·obtain ⟨x, hx, rfl⟩ := List.mem_map.1 ha
    obtain ⟨a1, a2, a3⟩ := h.acc x hx
    cases pays x
    ·exact ⟨a1, a2, by simp; omega⟩
    ·exact ⟨a1, by show x.pence - 20 ≤ 9999; omega, by show x.vols + 1 ≤ _; simp; omega⟩
   ·rcases h.shut.2 with h3 | h3
    ·simp; omega
    ·simp; omega
   ·rcases List.mem_append.1 hv with hv | hv
    ·exact h.vol v hv
    ·rw [List.mem_singleton.1 hv]
     have hlen : (d.ents.filter (closes c)).length ≤ d.ents.length := List.length_filter_le _ _
     have hfew := h.few
     refine ⟨?_, fun w hw => ?_, ?_, ?_, ⟨c, rfl, hc.1, hc.2⟩⟩
     ·show (((d.ents.filter (closes c)).map (·.word)).mergeSort leT).length ≤ 40
      rw [List.length_mergeSort, List.length_map]; omega
     ·have hw' : w ∈ ((d.ents.filter (closes c)).map (·.word)).mergeSort leT := hw
      rw [List.mem_mergeSort] at hw'
      obtain ⟨e, he, rfl⟩ := List.mem_map.1 hw'
      exact (h.ent e (List.mem_filter.1 he).1).word
     ·show sumN ((d.ents.filter (closes c)).map (·.came)) ≤ 399960
      have := sumN_le (k := 9999) (l := (d.ents.filter (closes c)).map (·.came)) (fun n hn => by
       obtain ⟨e, he, rfl⟩ := List.mem_map.1 hn
       exact (h.ent e (List.mem_filter.1 he).1).came)
      rw [List.length_map] at this
      omega
     ·show (d.accs.filter pays).length ≤ 12
      have h4 : (d.accs.filter pays).length ≤ d.accs.length := List.length_filter_le _ _
      have := h.fewa
      omega
   ·obtain ⟨e, he, rfl⟩ := hmem y hy
    have := h.late e he
    cases closes c e
    ·simp; omega
    ·simp
theorem DeskOK.putA {d : Desk} (h : DeskOK d) {x : Acc} (hk : x.who ∈ keysA d.accs) (hx : NameT x.who ∧ x.pence ≤ 9999 ∧ x.vols ≤ d.vols.length) : DeskOK { d with accs := Clerk.putA x d.accs } := by
 have hl : (Clerk.putA x d.accs).length = d.accs.length := by
  have := congrArg List.length (keysA_put hk)
  simpa [keysA] using this
 refine ⟨h.keys, h.few, h.ent, h.own, by show (keysA _).Nodup; rw [keysA_put hk]; exact h.keysa, by show (Clerk.putA x d.accs).length ≤ 12; rw [hl]; exact h.fewa, fun a ha => ?_, h.shut, h.vol, h.late⟩
 rcases putA_mem ha with rfl | ha
 ·exact hx
 ·exact h.acc a ha
theorem pay_ok {p : Tx} {n : Nat} {d : Desk} (h : DeskOK d) (hp : NameT p) (hn : n ≤ 9999) (h0 : (doPay p n d).1 = 0) : DeskOK (doPay p n d).2 := by
 unfold doPay at h0 ⊢
 simp only at h0 ⊢
 cases h1 : decide (n = 0) <;> rw [h1] at h0
 ·cases h2 : (getA p d.accs).isNone && decide (d.accs.length = 12) <;> rw [h2] at h0
  ·cases h3 : decide (9999 < ((getA p d.accs).getD ⟨[], 0, 0, false⟩).pence + n) <;> rw [h3] at h0
   ·have h3' := of_decide_eq_false h3
    show DeskOK { d with accs := Clerk.putA _ d.accs }
    cases h4 : getA p d.accs with
    | some a =>
     rw [h4] at h3'
     obtain ⟨a1, a2⟩ := getA_in h4
     obtain ⟨k1, k2, k3⟩ := h.acc a a1
     exact h.putA (x := ⟨p, a.pence + n, a.vols, false⟩) (keysA_has h4) ⟨hp, by show a.pence + n ≤ 9999; simp at h3'; omega, k3⟩
    | none =>
     rw [h4] at h2 h3'
     have hl : d.accs.length ≠ 12 := by simpa using h2
     have hk := getA_no h4
     simp only [Option.getD_none] at h3' ⊢
     rw [keysA_new (x := ⟨p, 0 + n, 0, false⟩) hk]
     have hfa := h.fewa
     refine ⟨h.keys, h.few, h.ent, h.own, ?_, by simp; omega, fun a ha => ?_, h.shut, h.vol, h.late⟩
     ·show (keysA (d.accs ++ _)).Nodup
      unfold keysA at hk ⊢
      rw [List.map_append, List.nodup_append]
      refine ⟨h.keysa, by simp, fun a ha b hb hab => ?_⟩
      simp only [List.map_cons, List.map_nil, List.mem_singleton] at hb
      exact hk (by rw [← hb, ← hab]; exact ha)
     ·rcases List.mem_append.1 ha with ha | ha
      ·exact h.acc a ha
      ·rw [List.mem_singleton.1 ha]
       exact ⟨hp, by show 0 + n ≤ 9999; omega, Nat.zero_le _⟩
   ·cases h0
  ·cases h0
 ·cases h0
theorem stop_ok {p : Tx} {d : Desk} (h : DeskOK d) (hp : NameT p) (h0 : (doStop p d).1 = 0) : DeskOK (doStop p d).2 := by
 unfold doStop at h0 ⊢
 cases h1 : getA p d.accs with
 | none => rw [h1] at h0; cases h0
 | some a =>
  simp only [h1] at h0 ⊢
  obtain ⟨a1, a2⟩ := getA_in h1
  obtain ⟨k1, k2, k3⟩ := h.acc a a1
  cases h2 : a.stop <;> rw [h2] at h0
  ·exact h.putA (x := { a with stop := true }) (by show a.who ∈ _; rw [a2]; exact keysA_has h1) ⟨k1, k2, k3⟩
  ·cases h0
theorem do_ok {x : Ord} {d : Desk} (h : DeskOK d) (hx : OrdOK x) (h0 : (doO x d).1 = 0) : DeskOK (doO x d).2 := by
 cases x with
 | word w => exact word_ok h hx h0
 | short w f => exact short_ok h hx.1 hx.2 h0
 | give w p n => exact give_ok h hx.1 hx.2.1 hx.2.2 h0
 | come w n => exact come_ok h hx.1 hx.2 h0
 | see w o => exact see_ok h hx.1 hx.2 h0
 | close c => exact close_ok h hx h0
 | pay p n => exact pay_ok h hx.1 hx.2 h0
 | stop p => exact stop_ok h hx h0
structure OffOK (S : Off) : Prop where
 now : DeskOK S.now
 past : ∀ d ∈ S.past, DeskOK d
 len : S.past.length = S.lines.length
 few : S.lines.length ≤ 150
 lines : ∀ l ∈ S.lines, l.length ≤ 100000
theorem OffOK.none : OffOK Off.none := ⟨DeskOK.none, fun _ h => (by cases h), rfl, Nat.zero_le _, fun _ h => (by cases h)⟩
end Go.Clerk
set_option linter.unusedSimpArgs false
set_option linter.unusedVariables false
namespace Go.Proofs.YtjeadhfponlnnaaGreatDoor
open Go.Clerk
theorem mkO_some {r : Nat × Nat} {f : Nat → Option Ord} {x : Ord} (h : mkO r f = (some x, 0)) : ∃ n, r = (n, 0) ∧ f n = some x := by
 obtain ⟨n, e⟩ := r
 cases e with
 | zero => exact ⟨n, rfl, (Prod.mk.inj h).1⟩
 | succ e => cases h
theorem take_named {l : List Tx} {names letters i : Nat} (hl : names ≤ l.length) (h : (l.take names).all (named · letters) = true) (hi : i < names) : named (l.getD i []) letters = true := by
 rw [List.all_eq_true] at h
 refine h _ ?_
 rw [List.getD_eq_getElem?_getD, List.getElem?_eq_getElem (by omega)]
 rw [List.mem_iff_getElem]
 exact ⟨i, by simp; omega, by simp⟩
theorem parseW_ok {first : Tx} {l : List Tx} {x : Ord} (h : parseW first l = (some x, 0)) : OrdOK x := by
 by_cases a1 : first = kWord
 ·subst a1
  rw [parseWord] at h
  obtain ⟨n, h1, h2⟩ := mkO_some h
  obtain ⟨b1, b2, b3⟩ := readW_ok h1
  cases h2
  simp only [Bool.false_eq_true, if_false] at b1
  exact take_named (by omega) b2 (by omega)
 by_cases a2 : first = kShort
 ·subst a2
  rw [parseShort] at h
  obtain ⟨n, h1, h2⟩ := mkO_some h
  obtain ⟨b1, b2, b3⟩ := readW_ok h1
  cases h2
  simp only [Bool.false_eq_true, if_false] at b1
  exact ⟨take_named (by omega) b2 (by omega), take_named (by omega) b2 (by omega)⟩
 by_cases a3 : first = kGive
 ·subst a3
  rw [parseGive] at h
  obtain ⟨n, h1, h2⟩ := mkO_some h
  obtain ⟨b1, b2, b3⟩ := readW_ok h1
  cases h2
  simp only [if_true] at b1
  exact ⟨take_named (by omega) b2 (by omega), take_named (by omega) b2 (by omega), (numb_some (b3 rfl)).1⟩
 by_cases a4 : first = kCome
 ·subst a4
  rw [parseCome] at h
  obtain ⟨n, h1, h2⟩ := mkO_some h
  obtain ⟨b1, b2, b3⟩ := readW_ok h1
  cases h2
  simp only [if_true] at b1
  exact ⟨take_named (by omega) b2 (by omega), (numb_some (b3 rfl)).1⟩
 by_cases a5 : first = kSee
 ·subst a5
  rw [parseSee] at h
  obtain ⟨n, h1, h2⟩ := mkO_some h
  obtain ⟨b1, b2, b3⟩ := readW_ok h1
  cases h2
  simp only [Bool.false_eq_true, if_false] at b1
  exact ⟨take_named (by omega) b2 (by omega), take_named (by omega) b2 (by omega)⟩
 by_cases a6 : first = kClose
 ·subst a6
  rw [parseClose] at h
  obtain ⟨n, h1, h2⟩ := mkO_some h
  obtain ⟨b1, b2, b3⟩ := readW_ok h1
  cases h2
  simp only [Bool.false_eq_true, if_false] at b1
  have := take_named (i := 0) (by omega) b2 (by omega)
  unfold named at this
  simp only [Bool.and_eq_true, Bool.not_eq_true', decide_eq_true_eq, List.all_eq_true] at this
  obtain ⟨⟨c1, c2⟩, c3⟩ := this
  cases hq : l.getD 0 [] with
  | nil => rw [hq] at c1; cases c1
  | cons a r =>
   rw [hq] at c3
   exact c3 a List.mem_cons_self
 by_cases a7 : first = kPay
 ·subst a7
  rw [parsePay] at h
  obtain ⟨n, h1, h2⟩ := mkO_some h
  obtain ⟨b1, b2, b3⟩ := readW_ok h1
  cases h2
  simp only [if_true] at b1
  exact ⟨take_named (by omega) b2 (by omega), (numb_some (b3 rfl)).1⟩
 by_cases a8 : first = kStop
 ·subst a8
  rw [parseStop] at h
  obtain ⟨n, h1, h2⟩ := mkO_some h
  obtain ⟨b1, b2, b3⟩ := readW_ok h1
  cases h2
  simp only [Bool.false_eq_true, if_false] at b1
  exact take_named (by omega) b2 (by omega)
 by_cases a9 : first = kUndo
 ·subst a9
  rw [parseUndo] at h
  obtain ⟨n, h1, h2⟩ := mkO_some h
  cases h2
 ·rw [parse_else a1 a2 a3 a4 a5 a6 a7 a8 a9] at h
  cases h
theorem parse_ok {line : Tx} {x : Ord} (h : parse line = (some x, 0)) : OrdOK x := parseW_ok h
theorem tell_err_eq {S : Off} {line : Tx} {e : Nat} {x : Option Ord} (h : parse line = (x, e + 1)) : tell S line = (e + 1, S) := by
 unfold tell; rw [h]
theorem tell_undo0_eq {S : Off} {line : Tx} (h : parse line = (.none, 0)) (hl : S.lines = []) : tell S line = (4, S) := by
 unfold tell; rw [h, hl]; rfl
theorem tell_undo_eq {S : Off} {line : Tx} (h : parse line = (.none, 0)) (hl : S.lines ≠ []) : tell S line = (0, ⟨S.past.getLastD S.now, S.past.dropLast, S.lines.dropLast⟩) := by
 unfold tell
 rw [h]
 cases hq : S.lines with
 | nil => exact absurd hq hl
 | cons a l => rfl
theorem tell_full_eq {S : Off} {line : Tx} {x : Ord} (h : parse line = (some x, 0)) (hl : S.lines.length = 150) : tell S line = (19, S) := by
 unfold tell
 rw [h, decide_eq_true hl]
theorem tell_refused_eq {S : Off} {line : Tx} {x : Ord} {e : Nat} (h : parse line = (some x, 0)) (hl : S.lines.length ≠ 150) (hd : (doO x S.now).1 = e + 1) : tell S line = (e + 1, S) := by
 unfold tell
 rw [h, decide_eq_false hl]
 rcases hq : doO x S.now with ⟨a, d⟩
 rw [hq] at hd
 simp only at hd
 subst hd
 simp only [hq]
theorem tell_taken_eq {S : Off} {line : Tx} {x : Ord} (h : parse line = (some x, 0)) (hl : S.lines.length ≠ 150) (hd : (doO x S.now).1 = 0) : tell S line = (0, ⟨(doO x S.now).2, S.past ++ [S.now], S.lines ++ [line]⟩) := by
 unfold tell
 rw [h, decide_eq_false hl]
 rcases hq : doO x S.now with ⟨a, d⟩
 rw [hq] at hd
 simp only at hd
 subst hd
 simp only [hq]
theorem tell_ok {S : Off} {line : Tx} (h : OffOK S) (hl : line.length ≤ 100000) : OffOK (tell S line).2 := by
 rcases hp : parse line with ⟨x, e⟩
 cases e with
 | succ e => rw [tell_err_eq hp]; exact h
 | zero =>
  cases x with
  | none =>
   by_cases h0 : S.lines = []
   ·rw [tell_undo0_eq hp h0]; exact h
   ·rw [tell_undo_eq hp h0]
    have hlen := h.len
    have hpos : 0 < S.lines.length := List.length_pos_iff.2 h0
    have hne : S.past ≠ [] := fun e => by rw [e] at hlen; simp at hlen; omega
    refine ⟨?_, fun d hd => h.past d ((List.dropLast_sublist _).subset hd), by simp; omega, by have := h.few; simp; omega, fun l hl => h.lines l ((List.dropLast_sublist _).subset hl)⟩
    show DeskOK (S.past.getLastD S.now)
    rw [List.getLastD_eq_getLast?, List.getLast?_eq_some_getLast hne]
    exact h.past _ (List.getLast_mem hne)
  | some x =>
   by_cases h0 : S.lines.length = 150
   ·rw [tell_full_eq hp h0]; exact h
   ·cases hd : (doO x S.now).1 with
    | succ e => rw [tell_refused_eq hp h0 hd]; exact h
    | zero =>
     rw [tell_taken_eq hp h0 hd]
     have hf := h.few
     refine ⟨do_ok h.now (parse_ok hp) hd, fun d hd => ?_, by simp [h.len], by simp; omega, fun l hl => ?_⟩
     ·rcases List.mem_append.1 hd with hd | hd
      ·exact h.past d hd
      ·rw [List.mem_singleton.1 hd]; exact h.now
     ·rcases List.mem_append.1 hl with hl | hl
      ·exact h.lines l hl
      ·rw [List.mem_singleton.1 hl]; assumption
end Go.Proofs.YtjeadhfponlnnaaGreatDoor
