/-
  ClerkKept, plainly: lines and pence are accounted for.
  ClerkKept, plainly: what a told office shows, and what was counted along its lines.
  ClerkVolumes, plainly: what volumes have, and what is late.
  Conditions: none; definitions and lemmas.
-/
import Derived.Test.YtjeadhfponlnnaaGreatDoorFormsLaw2
import Derived.Test.YtjeadhfponlnnaaGreatDoorVals14
import Derived.Test.YtjeadhfponlnnaaGreatDoorWaysLaw
set_option linter.unusedSimpArgs false
set_option linter.unusedVariables false
namespace Go.Proofs.YtjeadhfponlnnaaGreatDoor
open Go.RowKit Go.Pur Go.Clerk
structure KSt where
 came : Nat
 paid : List (Tx × Nat)
 asked : List (Tx × Tx)
 wr : List (Tx × Nat)
def keptO (K : KSt) : Ord → KSt
 | .give w p _ => { K with asked := kSet w p K.asked, wr := kSet p ((kGet p K.wr).getD 0) K.wr }
 | .come w n => { K with came := K.came + n, wr := kSet ((kGet w K.asked).getD []) ((kGet ((kGet w K.asked).getD []) K.wr).getD 0 + n) K.wr }
 | .pay p n => { K with paid := kSet p ((kGet p K.paid).getD 0 + n) K.paid }
 | _ => K
def keptL (K : KSt) (l : Tx) : KSt := match (parse l).1 with
 | some x => keptO K x
 | none => K
def keptM (ls : List Tx) : KSt := ls.foldl keptL ⟨0, [], [], []⟩
theorem keptM_snoc (ls : List Tx) (l : Tx) : keptM (ls ++ [l]) = keptL (keptM ls) l := by
 unfold keptM
 rw [List.foldl_append]
 rfl
def sumIf (p : Tx) (e : Ent) : Nat := if e.writer = p then e.came else 0
def inVol (e : Ent) : Nat := if 0 < e.vol then e.came else 0
structure KDesk (K : KSt) (d : Desk) : Prop where
 came : K.came = sumN (d.ents.map (·.came))
 asked : ∀ w, (kGet w K.asked).getD [] = ((getE w d.ents).map (·.writer)).getD []
 wr : ∀ p, kGet p K.wr = if p ≠ [] ∧ p ∈ d.ents.map (·.writer) then some (sumN (d.ents.map (sumIf p))) else none
 wrn : (K.wr.map (·.1)).Nodup
 paid : ∀ p, kGet p K.paid = (getA p d.accs).map fun a => a.pence + 20 * a.vols
 paidn : (K.paid.map (·.1)).Nodup
 lines : sumN (d.vols.map (·.lines)) = sumN (d.ents.map inVol)
 sent : sumN (d.vols.map (·.sent)) = sumN (d.accs.map (·.vols))
 free : ∀ e ∈ d.ents, e.came ≠ 0 → e.writer ≠ []
theorem kSet_nodup {V : Type} {k : Tx} {v : V} : ∀ {M : List (Tx × V)}, (M.map (·.1)).Nodup → ((kSet k v M).map (·.1)).Nodup
 | [], _ => by simp [kSet]
 | e :: M, h => by
  rw [List.map_cons, List.nodup_cons] at h
  unfold kSet
  by_cases he : e.1 = k
  ·rw [decide_eq_true he]
   show (k :: M.map (·.1)).Nodup
   rw [List.nodup_cons]
   rw [he] at h
   exact h
  ·rw [decide_eq_false he]
   show (e.1 :: (kSet k v M).map (·.1)).Nodup
   rw [List.nodup_cons]
   refine ⟨fun hm => ?_, kSet_nodup h.2⟩
   obtain ⟨x, hx, hx2⟩ := List.mem_map.1 hm
   rcases kSet_mem hx with rfl | hx
   ·exact he hx2.symm
   ·exact h.1 (List.mem_map.2 ⟨x, hx, hx2⟩)
theorem sum_put {g : Ent → Nat} {x e : Ent} : ∀ {l : List Ent}, getE x.word l = some e → sumN ((putE x l).map g) + g e = sumN (l.map g) + g x
 | [], h => by cases h
 | a :: l, h => by
  unfold getE at h
  unfold putE
  cases hd : decide (a.word = x.word) with
  | true =>
   rw [hd] at h
   obtain rfl : a = e := Option.some.inj h
   show g x + sumN (l.map g) + g a = g a + sumN (l.map g) + g x
   omega
  | false =>
   rw [hd] at h
   have ih := sum_put (g := g) h
   show g a + sumN ((putE x l).map g) + g e = g a + sumN (l.map g) + g x
   omega
theorem getE_put {y : Tx} {x : Ent} : ∀ {l : List Ent}, x.word ∈ keysE l → getE y (putE x l) = if y = x.word then some x else getE y l
 | [], h => by cases h
 | e :: l, h => by
  unfold putE
  by_cases he : e.word = x.word
  ·rw [decide_eq_true he]
   show getE y (x :: l) = _
   unfold getE
   by_cases hy : y = x.word
   ·rw [if_pos hy, decide_eq_true hy.symm]
   ·rw [if_neg hy, decide_eq_false (fun e => hy e.symm), decide_eq_false (fun e2 => hy (by rw [← e2, he]))]
  ·rw [decide_eq_false he]
   show getE y (e :: putE x l) = _
   have ih := getE_put (y := y) (x := x) (l := l) (by
    rcases List.mem_cons.1 (show x.word ∈ e.word :: keysE l from h) with e1 | h
    ·exact absurd e1.symm he
    ·exact h)
   unfold getE
   by_cases hy : e.word = y
   ·rw [decide_eq_true hy, if_neg (fun e1 => he (hy.trans e1))]
   ·rw [decide_eq_false hy]
    exact ih
theorem getE_map {f : Ent → Ent} (hw : ∀ e, (f e).word = e.word) {y : Tx} : ∀ {l : List Ent}, getE y (l.map f) = (getE y l).map f
 | [] => rfl
 | e :: l => by
  have ih := getE_map hw (y := y) (l := l)
  rw [List.map_cons]
  unfold getE
  rw [hw e]
  cases decide (e.word = y)
  ·exact ih
  ·rfl
theorem getA_put {y : Tx} {x : Acc} : ∀ {l : List Acc}, getA y (putA x l) = if y = x.who then some x else getA y l
 | [] => by
  show getA y [x] = _
  unfold getA
  by_cases h : y = x.who
  ·rw [if_pos h, decide_eq_true h.symm]
  ·rw [if_neg h, decide_eq_false (fun e => h e.symm)]; rfl
 | e :: l => by
  unfold putA
  by_cases he : e.who = x.who
  ·rw [decide_eq_true he]
   show getA y (x :: l) = _
   unfold getA
   by_cases hy : y = x.who
   ·rw [if_pos hy, decide_eq_true hy.symm]
   ·rw [if_neg hy, decide_eq_false (fun e => hy e.symm), decide_eq_false (fun e2 => hy (by rw [← e2, he]))]
  ·rw [decide_eq_false he]
   show getA y (e :: putA x l) = _
   have ih := getA_put (y := y) (x := x) (l := l)
   unfold getA
   by_cases hy : e.who = y
   ·rw [decide_eq_true hy, if_neg (fun e1 => he (hy.trans e1))]
   ·rw [decide_eq_false hy]
    exact ih
theorem getA_map {f : Acc → Acc} (hw : ∀ e, (f e).who = e.who) {y : Tx} : ∀ {l : List Acc}, getA y (l.map f) = (getA y l).map f
 | [] => rfl
 | e :: l => by
  have ih := getA_map hw (y := y) (l := l)
  rw [List.map_cons]
  unfold getA
  rw [hw e]
  cases decide (e.who = y)
  ·exact ih
  ·rfl
theorem sum_putA {g : Acc → Nat} {x : Acc} : ∀ {l : List Acc}, sumN ((putA x l).map g) + ((getA x.who l).map g).getD 0 = sumN (l.map g) + g x
 | [] => by show g x + 0 + 0 = 0 + g x; omega
 | a :: l => by
  have ih := sum_putA (g := g) (x := x) (l := l)
  unfold getA putA
  cases hd : decide (a.who = x.who) with
  | true =>
   show g x + sumN (l.map g) + g a = g a + sumN (l.map g) + g x
   omega
  | false =>
   show g a + sumN ((putA x l).map g) + ((getA x.who l).map g).getD 0 = g a + sumN (l.map g) + g x
   omega
theorem put_self {x : Ent} : ∀ {l : List Ent}, x ∈ putE x l
 | [] => List.mem_singleton.2 rfl
 | e :: l => by
  unfold putE
  cases decide (e.word = x.word) with
  | true => exact List.mem_cons_self
  | false => exact List.mem_cons_of_mem _ put_self
theorem mem_writer_put {x e : Ent} {l : List Ent} (hn : (keysE l).Nodup) (he : getE x.word l = some e) (hw : e.writer = [] ∨ e.writer = x.writer) {p : Tx} (hp : p ≠ []) : p ∈ (putE x l).map (·.writer) ↔ p = x.writer ∨ p ∈ l.map (·.writer) := by
 constructor
 ·intro h
  obtain ⟨y, hy, rfl⟩ := List.mem_map.1 h
  rcases putE_mem hy with rfl | hy
  ·exact .inl rfl
  ·exact .inr (List.mem_map_of_mem (f := (·.writer)) hy)
 ·rintro (rfl | h)
  ·exact List.mem_map_of_mem (f := (·.writer)) put_self
  ·obtain ⟨y, hy, rfl⟩ := List.mem_map.1 h
   by_cases hyx : y.word = x.word
   ·have hye : y = e := key_inj (f := fun e : Ent => e.word) (show (l.map fun e => e.word).Nodup from hn) hy (getE_in he).1 (by rw [hyx, (getE_in he).2])
    rcases hw with hw | hw
    ·exact absurd (by rw [hye, hw]) hp
    ·rw [hye, hw]
     exact List.mem_map_of_mem (f := (·.writer)) put_self
   ·exact List.mem_map_of_mem (f := (·.writer)) (putE_old hy hyx)
theorem KDesk.put {K : KSt} {d : Desk} {x e : Ent} (h : KDesk K d) (hD : DeskOK d) (he : getE x.word d.ents = some e) (h1 : x.writer = e.writer) (h2 : x.came = e.came) (h3 : x.vol = e.vol) : KDesk K { d with ents := putE x d.ents } := by
 have hk : x.word ∈ keysE d.ents := keysE_has he
 have hs : ∀ g : Ent → Nat, g x = g e → sumN ((putE x d.ents).map g) = sumN (d.ents.map g) := fun g hg => by
  have := sum_put (g := g) he
  omega
 refine ⟨h.came.trans (hs _ h2).symm, fun w => ?_, fun p => ?_, h.wrn, h.paid, h.paidn, h.lines.trans (hs _ (by unfold inVol; rw [h2, h3])).symm, h.sent, fun y hy => ?_⟩
 ·rw [h.asked w]
  show _ = ((getE w (putE x d.ents)).map (·.writer)).getD []
  rw [getE_put hk]
  split
  ·rename_i hw
   subst hw
   rw [he]
   exact h1.symm
  ·rfl
 ·rw [h.wr p]
  show _ = if p ≠ [] ∧ p ∈ (putE x d.ents).map (·.writer) then some (sumN ((putE x d.ents).map (sumIf p))) else none
  rw [hs (sumIf p) (by unfold sumIf; rw [h1, h2])]
  by_cases hp : p = []
  ·simp [hp]
  ·have := mem_writer_put (p := p) hD.keys he (.inr h1.symm) hp
   have h4 : p = x.writer → p ∈ d.ents.map (·.writer) := fun e1 => by rw [e1, h1]; exact List.mem_map_of_mem (f := (·.writer)) (getE_in he).1
   have h5 : p ∈ (putE x d.ents).map (·.writer) ↔ p ∈ d.ents.map (·.writer) := this.trans ⟨fun h => h.elim h4 id, .inr⟩
   simp only [h5]
 ·rcases putE_mem (show y ∈ putE x d.ents from hy) with rfl | hy
  ·rw [h1, h2]
   exact h.free e (getE_in he).1
  ·exact h.free y hy
theorem sumN_snoc (l : List Nat) (n : Nat) : sumN (l ++ [n]) = sumN l + n := by
 rw [sumN_app]
 rfl
theorem getE_new {y : Tx} {e : Ent} : ∀ {l : List Ent}, getE y (l ++ [e]) = match getE y l with
  | some a => some a
  | none => if e.word = y then some e else none
 | [] => by
  show getE y [e] = _
  unfold getE
  by_cases h : e.word = y
  ·rw [decide_eq_true h, if_pos h]
  ·rw [decide_eq_false h, if_neg h]; rfl
 | a :: l => by
  have ih := getE_new (y := y) (e := e) (l := l)
  rw [List.cons_append]
  unfold getE
  cases decide (a.word = y)
  ·exact ih
  ·rfl
theorem KDesk.word {K : KSt} {d : Desk} {w : Tx} (h : KDesk K d) (hw : getE w d.ents = none) : KDesk K { d with ents := d.ents ++ [⟨w, [], [], [], 0, 0, 0⟩] } := by
 have hs : ∀ g : Ent → Nat, g ⟨w, [], [], [], 0, 0, 0⟩ = 0 → sumN ((d.ents ++ [(⟨w, [], [], [], 0, 0, 0⟩ : Ent)]).map g) = sumN (d.ents.map g) := fun g hg => by
  rw [List.map_append, List.map_singleton, sumN_snoc, hg]
  rfl
 refine ⟨h.came.trans (hs _ rfl).symm, fun y => ?_, fun p => ?_, h.wrn, h.paid, h.paidn, h.lines.trans (hs _ rfl).symm, h.sent, fun y hy => ?_⟩
 ·rw [h.asked y]
  show _ = ((getE y (d.ents ++ [(⟨w, [], [], [], 0, 0, 0⟩ : Ent)])).map (·.writer)).getD []
  rw [getE_new]
  cases getE y d.ents with
  | some a => rfl
  | none =>
   dsimp only
   split <;> rfl
 ·rw [h.wr p]
  show _ = if p ≠ [] ∧ p ∈ (d.ents ++ [(⟨w, [], [], [], 0, 0, 0⟩ : Ent)]).map (·.writer) then some (sumN ((d.ents ++ [(⟨w, [], [], [], 0, 0, 0⟩ : Ent)]).map (sumIf p))) else none
  rw [hs (sumIf p) (by unfold sumIf; split <;> rfl)]
  by_cases hp : p = []
  ·simp [hp]
  ·have h5 : p ∈ (d.ents ++ [(⟨w, [], [], [], 0, 0, 0⟩ : Ent)]).map (·.writer) ↔ p ∈ d.ents.map (·.writer) := by
    rw [List.map_append, List.mem_append]
    exact ⟨fun h => h.elim id fun h => absurd (List.mem_singleton.1 h) hp, .inl⟩
   simp only [h5]
 ·rcases List.mem_append.1 (show y ∈ d.ents ++ _ from hy) with hy | hy
  ·exact h.free y hy
  ·rw [List.mem_singleton.1 hy]
   exact fun e => absurd rfl e
theorem KDesk.give {K : KSt} {d : Desk} {w p : Tx} {n : Nat} {e : Ent} (h : KDesk K d) (hD : DeskOK d) (he : getE w d.ents = some e) (hw : e.writer = []) (hp : p ≠ []) : KDesk (keptO K (.give w p n)) { d with ents := putE { e with writer := p, asked := n } d.ents } := by
 obtain ⟨x, hx⟩ : ∃ x : Ent, { e with writer := p, asked := n } = x := ⟨_, rfl⟩
 have x1 : x.writer = p := by rw [← hx]
 have x2 : x.came = e.came := by rw [← hx]
 have x3 : x.vol = e.vol := by rw [← hx]
 have x4 : x.word = w := by rw [← hx]; exact (getE_in he).2
 rw [hx]
 have he' : getE x.word d.ents = some e := by rw [x4]; exact he
 have hk : x.word ∈ keysE d.ents := keysE_has he'
 have hc0 : e.came = 0 := by
  rcases Nat.eq_zero_or_pos e.came with h0 | h0
  ·exact h0
  ·exact absurd hw (h.free e (getE_in he).1 (by omega))
 have hs : ∀ g : Ent → Nat, g x = g e → sumN ((putE x d.ents).map g) = sumN (d.ents.map g) := fun g hg => by
  have := sum_put (g := g) he'
  omega
 have hsp : ∀ q, sumN ((putE x d.ents).map (sumIf q)) = sumN (d.ents.map (sumIf q)) := fun q => hs _ (by unfold sumIf; rw [x2, hc0]; split <;> split <;> rfl)
 refine ⟨h.came.trans (hs _ x2).symm, fun y => ?_, fun q => ?_, kSet_nodup h.wrn, h.paid, h.paidn, h.lines.trans (hs _ (by unfold inVol; rw [x2, x3])).symm, h.sent, fun y hy => ?_⟩
 ·show (kGet y (kSet w p K.asked)).getD [] = ((getE y (putE x d.ents)).map (·.writer)).getD []
  rw [kGet_setW, getE_put hk, x4]
  split
  ·exact x1.symm
  ·exact h.asked y
 ·show kGet q (kSet p ((kGet p K.wr).getD 0) K.wr) = if q ≠ [] ∧ q ∈ (putE x d.ents).map (·.writer) then some (sumN ((putE x d.ents).map (sumIf q))) else none
  rw [kGet_setW, hsp]
  by_cases hq : q = []
  ·rw [if_neg (fun e => hp (by rw [← e]; exact hq)), if_neg (fun e => e.1 hq), h.wr q, if_neg (fun e => e.1 hq)]
  ·have h5 := mem_writer_put (p := q) hD.keys he' (.inl hw) hq
   rw [x1] at h5
   by_cases hqp : q = p
   ·rw [if_pos hqp, if_pos ⟨hq, h5.2 (.inl hqp)⟩, ← hqp, h.wr q]
    by_cases hin : q ∈ d.ents.map (·.writer)
    ·rw [if_pos ⟨hq, hin⟩]; rfl
    ·rw [if_neg (fun e => hin e.2)]
     have h0 : ∀ l : List Ent, (∀ y ∈ l, y.writer ≠ q) → sumN (l.map (sumIf q)) = 0 := by
      intro l
      induction l with
      | nil => intro _; rfl
      | cons a l ih =>
       intro hl
       show sumIf q a + sumN (l.map (sumIf q)) = 0
       rw [ih fun y hy => hl y (List.mem_cons_of_mem _ hy)]
       unfold sumIf
       rw [if_neg (hl a List.mem_cons_self)]
     rw [h0 d.ents fun y hy e1 => hin (by rw [← e1]; exact List.mem_map_of_mem (f := (·.writer)) hy)]
     rfl
   ·rw [if_neg hqp, h.wr q]
    have h6 : q ∈ (putE x d.ents).map (·.writer) ↔ q ∈ d.ents.map (·.writer) := h5.trans ⟨fun h => h.resolve_left hqp, .inr⟩
    simp only [h6]
 ·rcases putE_mem (show y ∈ putE x d.ents from hy) with rfl | hy
  ·rw [x1]
   exact fun _ => hp
  ·exact h.free y hy
theorem KDesk.come {K : KSt} {d : Desk} {w : Tx} {n : Nat} {e : Ent} (h : KDesk K d) (hD : DeskOK d) (he : getE w d.ents = some e) (hw : e.writer ≠ []) (hc : e.came = 0) (hv : e.vol = 0) : KDesk (keptO K (.come w n)) { d with ents := putE { e with came := n } d.ents } := by
 obtain ⟨x, hx⟩ : ∃ x : Ent, { e with came := n } = x := ⟨_, rfl⟩
 have x1 : x.writer = e.writer := by rw [← hx]
 have x2 : x.came = n := by rw [← hx]
 have x3 : x.vol = e.vol := by rw [← hx]
 have x4 : x.word = w := by rw [← hx]; exact (getE_in he).2
 rw [hx]
 have he' : getE x.word d.ents = some e := by rw [x4]; exact he
 have hk : x.word ∈ keysE d.ents := keysE_has he'
 have hin : e.writer ∈ d.ents.map (·.writer) := List.mem_map_of_mem (f := (·.writer)) (getE_in he).1
 have hask : (kGet w K.asked).getD [] = e.writer := by rw [h.asked w, he]; rfl
 refine ⟨?_, fun y => ?_, fun q => ?_, ?_, h.paid, h.paidn, ?_, h.sent, fun y hy => ?_⟩
 ·show K.came + n = sumN ((putE x d.ents).map (·.came))
  have := sum_put (g := (·.came)) he'
  have := h.came
  omega
 ·show (kGet y K.asked).getD [] = ((getE y (putE x d.ents)).map (·.writer)).getD []
  rw [h.asked y, getE_put hk, x4]
  split
  ·rename_i hy
   rw [hy, he]
   exact x1.symm
  ·rfl
 ·show kGet q (kSet ((kGet w K.asked).getD []) ((kGet ((kGet w K.asked).getD []) K.wr).getD 0 + n) K.wr) = if q ≠ [] ∧ q ∈ (putE x d.ents).map (·.writer) then some (sumN ((putE x d.ents).map (sumIf q))) else none
  rw [hask, kGet_setW]
  have h7 := sum_put (g := sumIf q) he'
  by_cases hq : q = []
  ·rw [if_neg (fun e1 => hw (by rw [← e1]; exact hq)), if_neg (fun e => e.1 hq), h.wr q, if_neg (fun e => e.1 hq)]
  ·have h5 := mem_writer_put (p := q) hD.keys he' (.inr x1.symm) hq
   rw [x1] at h5
   have h6 : q ∈ (putE x d.ents).map (·.writer) ↔ q ∈ d.ents.map (·.writer) := h5.trans ⟨fun h => h.elim (fun e1 => by rw [e1]; exact hin) id, .inr⟩
   unfold sumIf at h7
   rw [x1, x2, hc] at h7
   by_cases hqp : q = e.writer
   ·rw [if_pos hqp, if_pos ⟨hq, h6.2 (by rw [hqp]; exact hin)⟩, h.wr e.writer, if_pos ⟨hw, hin⟩]
    show some (sumN (d.ents.map (sumIf e.writer)) + n) = _
    rw [if_pos hqp.symm, if_pos hqp.symm] at h7
    rw [← hqp]
    congr 1
    exact h7.symm
   ·rw [if_neg hqp, h.wr q]
    rw [if_neg (fun e1 => hqp e1.symm), if_neg (fun e1 => hqp e1.symm)] at h7
    have h8 : sumN ((putE x d.ents).map (sumIf q)) = sumN (d.ents.map (sumIf q)) := h7
    simp only [h6, h8]
 ·show ((kSet _ _ K.wr).map (·.1)).Nodup
  exact kSet_nodup h.wrn
 ·show sumN (d.vols.map (·.lines)) = sumN ((putE x d.ents).map inVol)
  have h7 := sum_put (g := inVol) he'
  have h8 : inVol x = 0 := by unfold inVol; rw [x3, hv]; rfl
  have h9 : inVol e = 0 := by unfold inVol; rw [hv]; rfl
  have := h.lines
  omega
 ·rcases putE_mem (show y ∈ putE x d.ents from hy) with rfl | hy
  ·rw [x1]
   exact fun _ => hw
  ·exact h.free y hy
theorem close_lines {c : UInt8} {k : Nat} : ∀ (l : List Ent), sumN ((l.map fun e => match closes c e with
   | true => { e with vol := k + 1 }
   | false => e).map inVol) = sumN (l.map inVol) + sumN ((l.filter (closes c)).map (·.came))
 | [] => rfl
 | e :: l => by
  have ih := close_lines (c := c) (k := k) l
  rw [List.map_cons, List.map_cons, List.map_cons, List.filter_cons]
  cases hc : closes c e with
  | true =>
   have h0 : e.vol = 0 := by
    unfold closes at hc
    simp only [Bool.and_eq_true, decide_eq_true_eq] at hc
    exact hc.1.2
   have h1 : inVol e = 0 := by unfold inVol; rw [h0]; rfl
   have h2 : inVol { e with vol := k + 1 } = e.came := by unfold inVol; rw [if_pos (Nat.succ_pos k)]
   show inVol { e with vol := k + 1 } + sumN _ = inVol e + sumN (l.map inVol) + (e.came + sumN ((l.filter (closes c)).map (·.came)))
   rw [h1, h2]
   omega
  | false =>
   show inVol e + sumN _ = inVol e + sumN (l.map inVol) + sumN ((l.filter (closes c)).map (·.came))
   omega
theorem close_sent : ∀ (l : List Acc), sumN ((l.map fun a => match pays a with
   | true => { a with pence := a.pence - 20, vols := a.vols + 1 }
   | false => a).map (·.vols)) = sumN (l.map (·.vols)) + (l.filter pays).length
 | [] => rfl
 | a :: l => by
  have ih := close_sent l
  rw [List.map_cons, List.map_cons, List.map_cons, List.filter_cons]
  cases hc : pays a with
  | true =>
   show a.vols + 1 + sumN _ = a.vols + sumN (l.map (·.vols)) + ((l.filter pays).length + 1)
   omega
  | false =>
   show a.vols + sumN _ = a.vols + sumN (l.map (·.vols)) + (l.filter pays).length
   omega
theorem KDesk.close {K : KSt} {d : Desk} {c : UInt8} (h : KDesk K d) : KDesk K (closeD c d) := by
 obtain ⟨f, hf⟩ : ∃ f : Ent → Ent, (fun e => match closes c e with
   | true => { e with vol := d.vols.length + 1 }
   | false => e) = f := ⟨_, rfl⟩
 have f1 : ∀ e, (f e).word = e.word := fun e => by rw [← hf]; dsimp only; split <;> rfl
 have f2 : ∀ e, (f e).writer = e.writer := fun e => by rw [← hf]; dsimp only; split <;> rfl
 have f3 : ∀ e, (f e).came = e.came := fun e => by rw [← hf]; dsimp only; split <;> rfl
 have hE : (closeD c d).ents = d.ents.map f := by rw [← hf]; rfl
 have hL : sumN ((d.ents.map f).map inVol) = sumN (d.ents.map inVol) + sumN ((d.ents.filter (closes c)).map (·.came)) := by rw [← hf]; exact close_lines d.ents
 have m2 : (d.ents.map f).map (·.writer) = d.ents.map (·.writer) := by rw [List.map_map]; exact List.map_congr_left fun e _ => f2 e
 have m3 : (d.ents.map f).map (·.came) = d.ents.map (·.came) := by rw [List.map_map]; exact List.map_congr_left fun e _ => f3 e
 have m4 : ∀ p, (d.ents.map f).map (sumIf p) = d.ents.map (sumIf p) := fun p => by rw [List.map_map]; exact List.map_congr_left fun e _ => by show sumIf p (f e) = _; unfold sumIf; rw [f2, f3]
 refine ⟨?_, fun y => ?_, fun p => ?_, h.wrn, fun p => ?_, h.paidn, ?_, ?_, fun y hy => ?_⟩
 ·rw [hE, m3]; exact h.came
 ·rw [hE, h.asked y, getE_map f1]
  cases getE y d.ents with
  | none => rfl
  | some a => exact (f2 a).symm
 ·rw [hE, m2, m4]; exact h.wr p
 ·rw [h.paid p]
  show _ = (getA p (d.accs.map _)).map _
  rw [getA_map (fun a => by split <;> rfl)]
  cases getA p d.accs with
  | none => rfl
  | some a =>
   show some (a.pence + 20 * a.vols) = some _
   congr 1
   dsimp only
   cases hp : pays a with
   | false => rfl
   | true =>
    unfold pays at hp
    simp only [Bool.and_eq_true, decide_eq_true_eq] at hp
    show a.pence + 20 * a.vols = a.pence - 20 + 20 * (a.vols + 1)
    omega
 ·show sumN ((d.vols ++ [volOf c d]).map (·.lines)) = sumN ((closeD c d).ents.map inVol)
  rw [hE, hL, List.map_append, List.map_singleton, sumN_snoc, h.lines]
  rfl
 ·show sumN ((d.vols ++ [volOf c d]).map (·.sent)) = sumN ((d.accs.map _).map fun a : Clerk.Acc => a.vols)
  refine Eq.trans ?_ (close_sent d.accs).symm
  rw [List.map_append, List.map_singleton, sumN_snoc, h.sent]
  rfl
 ·rw [hE] at hy
  obtain ⟨e, he, rfl⟩ := List.mem_map.1 hy
  rw [f2, f3]
  exact h.free e he
theorem KDesk.acc {K : KSt} {d : Desk} {x : Acc} (h : KDesk K d) (h1 : sumN ((putA x d.accs).map (·.vols)) = sumN (d.accs.map (·.vols))) {v : List (Tx × Nat)} (hv : ∀ p, kGet p v = (getA p (putA x d.accs)).map fun a => a.pence + 20 * a.vols) (hn : (v.map (·.1)).Nodup) : KDesk { K with paid := v } { d with accs := putA x d.accs } :=
 ⟨h.came, h.asked, h.wr, h.wrn, hv, hn, h.lines, h.sent.trans h1.symm, h.free⟩
theorem KDesk.step {K : KSt} {d : Desk} {x : Ord} (h : KDesk K d) (hD : DeskOK d) (hx : OrdOK x) (h0 : (doO x d).1 = 0) (hvol : ∀ e ∈ d.ents, e.came = 0 → e.vol = 0) : KDesk (keptO K x) (doO x d).2 := by
 cases x with
 | word w =>
  replace h0 : (doWord w d).1 = 0 := h0
  show KDesk K (doWord w d).2
  generalize hq : doWord w d = q at h0 ⊢
  unfold doWord at hq
  split at hq <;> subst hq <;> first | exact absurd h0 (Nat.succ_ne_zero _) | (rename_i hg _ _ _; exact h.word hg)
 | short w f =>
  replace h0 : (doShort w f d).1 = 0 := h0
  show KDesk K (doShort w f d).2
  generalize hq : doShort w f d = q at h0 ⊢
  unfold doShort at hq
  split at hq
  ·subst hq; exact absurd h0 (Nat.succ_ne_zero _)
  ·rename_i e he
   split at hq <;> subst hq <;> first | exact absurd h0 (Nat.succ_ne_zero _) | exact h.put (x := { e with form := f }) (e := e) hD (by rw [show ({ e with form := f } : Ent).word = w from (getE_in he).2]; exact he) rfl rfl rfl
 | give w p n =>
  replace h0 : (doGive w p n d).1 = 0 := h0
  show KDesk (keptO K (.give w p n)) (doGive w p n d).2
  generalize hq : doGive w p n d = q at h0 ⊢
  unfold doGive at hq
  split at hq
  ·subst hq; exact absurd h0 (Nat.succ_ne_zero _)
  ·rename_i e he
   split at hq <;> subst hq <;> first | exact absurd h0 (Nat.succ_ne_zero _) | skip
   rename_i h1 h2 h3 h4
   refine h.give hD he ?_ (NameT.spec hx.2.1).1
   cases hs : e.writer with
   | nil => rfl
   | cons a l => rw [hs] at h1; cases h1
 | come w n =>
  replace h0 : (doCome w n d).1 = 0 := h0
  show KDesk (keptO K (.come w n)) (doCome w n d).2
  generalize hq : doCome w n d = q at h0 ⊢
  unfold doCome at hq
  split at hq
  ·subst hq; exact absurd h0 (Nat.succ_ne_zero _)
  ·rename_i e he
   split at hq <;> subst hq <;> first | exact absurd h0 (Nat.succ_ne_zero _) | skip
   rename_i h1 h2 h3 h4 h5
   have hc0 : e.came = 0 := by have := of_decide_eq_false h2; omega
   exact h.come hD he (fun e1 => by rw [e1] at h1; cases h1) hc0 (hvol e (getE_in he).1 hc0)
 | see w o =>
  replace h0 : (doSee w o d).1 = 0 := h0
  show KDesk K (doSee w o d).2
  generalize hq : doSee w o d = q at h0 ⊢
  unfold doSee at hq
  split at hq
  ·rename_i e _ he _
   split at hq <;> subst hq <;> first | exact absurd h0 (Nat.succ_ne_zero _) | exact h.put (x := { e with see := o }) (e := e) hD (by rw [show ({ e with see := o } : Ent).word = w from (getE_in he).2]; exact he) rfl rfl rfl
  ·subst hq; exact absurd h0 (Nat.succ_ne_zero _)
 | close c =>
  replace h0 : (doClose c d).1 = 0 := h0
  show KDesk K (doClose c d).2
  generalize hq : doClose c d = q at h0 ⊢
  unfold doClose at hq
  split at hq <;> subst hq
  ·exact absurd h0 (Nat.succ_ne_zero _)
  ·exact absurd h0 (Nat.succ_ne_zero _)
  ·exact h.close
 | pay p n =>
  replace h0 : (doPay p n d).1 = 0 := h0
  show KDesk (keptO K (.pay p n)) (doPay p n d).2
  generalize hq : doPay p n d = q at h0 ⊢
  unfold doPay at hq
  dsimp only at hq
  split at hq <;> subst hq <;> first | exact absurd h0 (Nat.succ_ne_zero _) | skip
  refine h.acc ?_ (fun y => ?_) (kSet_nodup h.paidn)
  ·have := sum_putA (g := Acc.vols) (x := ⟨p, ((getA p d.accs).getD ⟨[], 0, 0, false⟩).pence + n, ((getA p d.accs).getD ⟨[], 0, 0, false⟩).vols, false⟩) (l := d.accs)
   dsimp only at this
   cases hg : getA p d.accs with
   | none =>
    rw [hg] at this
    exact this
   | some a =>
    rw [hg] at this
    have h9 : ∀ k, k + a.vols = sumN (d.accs.map (·.vols)) + a.vols → k = sumN (d.accs.map (·.vols)) := fun k hk => by omega
    exact h9 _ this
  ·show kGet y (kSet p ((kGet p K.paid).getD 0 + n) K.paid) = _
   rw [kGet_setW, getA_put, h.paid p, h.paid y]
   show (if y = p then _ else _) = Option.map _ (if y = p then _ else _)
   split
   ·cases getA p d.accs with
    | none => show some (0 + n) = some (0 + n + 20 * 0); congr 1
    | some a => show some (a.pence + 20 * a.vols + n) = some (a.pence + n + 20 * a.vols); congr 1; omega
   ·rfl
 | stop p =>
  replace h0 : (doStop p d).1 = 0 := h0
  show KDesk K (doStop p d).2
  generalize hq : doStop p d = q at h0 ⊢
  unfold doStop at hq
  split at hq
  ·subst hq; exact absurd h0 (Nat.succ_ne_zero _)
  ·rename_i a ha
   split at hq <;> subst hq <;> first | exact absurd h0 (Nat.succ_ne_zero _) | skip
   have hw : a.who = p := (getA_in ha).2
   subst hw
   refine h.acc (x := { a with stop := true }) ?_ (fun y => ?_) h.paidn
   ·have := sum_putA (g := Acc.vols) (x := { a with stop := true }) (l := d.accs)
    dsimp only at this
    rw [ha] at this
    have h9 : ∀ k, k + a.vols = sumN (d.accs.map (·.vols)) + a.vols → k = sumN (d.accs.map (·.vols)) := fun k hk => by omega
    exact h9 _ this
   ·rw [h.paid y, getA_put]
    show _ = Option.map _ (if y = a.who then _ else _)
    split
    ·rename_i hy
     rw [hy, ha]
     rfl
    ·rfl
end Go.Proofs.YtjeadhfponlnnaaGreatDoor
set_option linter.unusedSimpArgs false
set_option linter.unusedVariables false
namespace Go.Proofs.YtjeadhfponlnnaaGreatDoor
open Go.RowKit Go.Pur Go.Clerk
theorem ents_keep {Q : Ent → Prop} {x : Ord} {d : Desk} (h : (doO x d).1 = 0) (hQ : ∀ e ∈ d.ents, Q e) (hnew : ∀ w, Q ⟨w, [], [], [], 0, 0, 0⟩) (hform : ∀ e f, Q e → Q { e with form := f }) (hgive : ∀ e p n, Q e → Q { e with writer := p, asked := n })
  (hcome : ∀ e n, n ≠ 0 → Q e → Q { e with came := n }) (hsee : ∀ e o, Q e → Q { e with see := o }) (hclose : ∀ e k c, closes c e = true → Q e → Q { e with vol := k + 1 }) : ∀ e ∈ (doO x d).2.ents, Q e := by
 have put : ∀ {z : Ent}, Q z → ∀ e ∈ putE z d.ents, Q e := fun hz e he => by
  rcases putE_mem he with rfl | he
  ·exact hz
  ·exact hQ e he
 cases x with
 | word w =>
  replace h : (doWord w d).1 = 0 := h
  show ∀ e ∈ (doWord w d).2.ents, _
  generalize hq : doWord w d = q at h ⊢
  unfold doWord at hq
  split at hq <;> subst hq <;> first | exact absurd h (Nat.succ_ne_zero _) | (intro e he; rcases List.mem_append.1 he with he | he; exact hQ e he; rw [List.mem_singleton.1 he]; exact hnew w)
 | short w f =>
  replace h : (doShort w f d).1 = 0 := h
  show ∀ e ∈ (doShort w f d).2.ents, _
  generalize hq : doShort w f d = q at h ⊢
  unfold doShort at hq
  split at hq
  ·subst hq; exact absurd h (Nat.succ_ne_zero _)
  ·rename_i o ho
   split at hq <;> subst hq <;> first | exact absurd h (Nat.succ_ne_zero _) | exact put (hform o f (hQ o (getE_in ho).1))
 | give w p n =>
  replace h : (doGive w p n d).1 = 0 := h
  show ∀ e ∈ (doGive w p n d).2.ents, _
  generalize hq : doGive w p n d = q at h ⊢
  unfold doGive at hq
  split at hq
  ·subst hq; exact absurd h (Nat.succ_ne_zero _)
  ·rename_i o ho
   split at hq <;> subst hq <;> first | exact absurd h (Nat.succ_ne_zero _) | exact put (hgive o p n (hQ o (getE_in ho).1))
 | come w n =>
  replace h : (doCome w n d).1 = 0 := h
  show ∀ e ∈ (doCome w n d).2.ents, _
  generalize hq : doCome w n d = q at h ⊢
  unfold doCome at hq
  split at hq
  ·subst hq; exact absurd h (Nat.succ_ne_zero _)
  ·rename_i o ho
   split at hq <;> subst hq <;> first | exact absurd h (Nat.succ_ne_zero _) | (rename_i h1 h2 h3 h4 h5; exact put (hcome o n (of_decide_eq_false h4) (hQ o (getE_in ho).1)))
 | see w o =>
  replace h : (doSee w o d).1 = 0 := h
  show ∀ e ∈ (doSee w o d).2.ents, _
  generalize hq : doSee w o d = q at h ⊢
  unfold doSee at hq
  split at hq
  ·rename_i e2 _ ho _
   split at hq <;> subst hq <;> first | exact absurd h (Nat.succ_ne_zero _) | exact put (hsee e2 o (hQ e2 (getE_in ho).1))
  ·subst hq; exact absurd h (Nat.succ_ne_zero _)
 | close c =>
  replace h : (doClose c d).1 = 0 := h
  show ∀ e ∈ (doClose c d).2.ents, _
  generalize hq : doClose c d = q at h ⊢
  unfold doClose at hq
  split at hq <;> subst hq
  ·exact absurd h (Nat.succ_ne_zero _)
  ·exact absurd h (Nat.succ_ne_zero _)
  ·intro e he
   obtain ⟨o, ho, rfl⟩ := List.mem_map.1 (show e ∈ d.ents.map _ from he)
   have := hQ o ho
   split
   ·rename_i hc
    exact hclose o _ c hc this
   ·exact this
 | pay p n =>
  replace h : (doPay p n d).1 = 0 := h
  show ∀ e ∈ (doPay p n d).2.ents, _
  generalize hq : doPay p n d = q at h ⊢
  unfold doPay at hq
  dsimp only at hq
  split at hq <;> subst hq <;> exact hQ
 | stop p =>
  replace h : (doStop p d).1 = 0 := h
  show ∀ e ∈ (doStop p d).2.ents, _
  generalize hq : doStop p d = q at h ⊢
  unfold doStop at hq
  split at hq
  ·subst hq; exact absurd h (Nat.succ_ne_zero _)
  ·split at hq <;> subst hq <;> exact hQ
structure KInv (r : Off × List Tx) : Prop where
 ords : ∀ l ∈ r.2, ∃ x, parse l = (some x, 0)
 vol : ∀ e ∈ r.1.now.ents, e.came = 0 → e.vol = 0
 desk : KDesk (keptM r.2) r.1.now
theorem KDesk.none : KDesk ⟨0, [], [], []⟩ Desk.none :=
 ⟨rfl, fun w => rfl, fun p => (by show (Option.none : Option Nat) = _; rw [if_neg (fun h => by cases h.2)]), List.nodup_nil, fun p => rfl, List.nodup_nil, rfl, rfl, fun e h => (by cases h)⟩
theorem kept_inv {ls : List Tx} (hu : ∀ l ∈ ls, parse l ≠ (.none, 0)) : KInv (toldL ls) := by
 refine told_ind2 (Q := KInv) ⟨fun l h => (by cases h), fun e h => (by cases h), KDesk.none⟩ ?_ hu
 intro r l x h hD hp hd
 refine ⟨fun l' hl' => ?_, ents_keep (Q := fun e => e.came = 0 → e.vol = 0) hd h.vol (fun w _ => rfl) (fun e f h => h) (fun e p n h => h) (fun e n hn h e0 => absurd e0 hn) (fun e o h => h) (fun e k c hc h e0 => ?_), ?_⟩
 ·rcases List.mem_append.1 hl' with hl' | hl'
  ·exact h.ords l' hl'
  ·rw [List.mem_singleton.1 hl']
   exact ⟨x, hp⟩
 ·unfold closes at hc
  simp only [Bool.and_eq_true, decide_eq_true_eq] at hc
  have e0 : e.came = 0 := e0
  omega
 ·show KDesk (keptM (r.2 ++ [l])) (doO x r.1.now).2
  rw [keptM_snoc]
  unfold keptL
  rw [hp]
  exact h.desk.step hD (parse_ok hp) hd h.vol
theorem same_len {α : Type} {l m : List α} (h1 : l.Nodup) (h2 : m.Nodup) (h : ∀ x, x ∈ l ↔ x ∈ m) : l.length = m.length :=
 Nat.le_antisymm (nodup_le h1 fun x hx => (h x).1 hx) (nodup_le h2 fun x hx => (h x).2 hx)
theorem kGet_key {V : Type} {k : Tx} : ∀ {M : List (Tx × V)}, (kGet k M).isSome = true ↔ k ∈ M.map (·.1)
 | [] => by simp [kGet]
 | e :: M => by
  have ih := kGet_key (k := k) (M := M)
  unfold kGet
  by_cases he : e.1 = k
  ·rw [decide_eq_true he]
   exact ⟨fun _ => by rw [List.map_cons, he]; exact List.mem_cons_self, fun _ => rfl⟩
  ·rw [decide_eq_false he]
   show (kGet k M).isSome = true ↔ _
   rw [ih, List.map_cons]
   exact ⟨List.mem_cons_of_mem _, fun h => (List.mem_cons.1 h).resolve_left fun e1 => he e1.symm⟩
theorem getA_key {k : Tx} {l : List Acc} : (getA k l).isSome = true ↔ k ∈ keysA l := by
 constructor
 ·intro h
  obtain ⟨a, ha⟩ := Option.isSome_iff_exists.1 h
  exact keysA_has ha
 ·intro h
  cases hq : getA k l with
  | none => exact absurd h (getA_no hq)
  | some a => rfl
theorem paid_len {K : KSt} {d : Desk} (h : KDesk K d) (hD : DeskOK d) : K.paid.length = d.accounts.length := by
 have h1 := same_len (l := K.paid.map (·.1)) (m := keysA d.accs) h.paidn hD.keysa fun k => by
  rw [← kGet_key, ← getA_key, h.paid k]
  cases getA k d.accs <;> simp
 unfold Desk.accounts
 rw [List.length_mergeSort]
 unfold keysA at h1
 simpa using h1
theorem accounts_perm (d : Desk) : d.accounts.Perm d.accs := List.mergeSort_perm _ _
theorem accounts_lt {d : Desk} (hD : DeskOK d) {i : Nat} {a b : Acc} (ha : d.accounts[i]? = some a) (hb : d.accounts[i + 1]? = some b) : ¬ b.who ≤ a.who := by
 have hs : d.accounts.Pairwise fun x y => leA x y = true := List.pairwise_mergeSort (fun x y z => by
  unfold leA
  simp only [decide_eq_true_eq]
  exact List.le_trans) (fun x y => by
  unfold leA
  simp only [Bool.or_eq_true, decide_eq_true_eq]
  exact List.le_total x.who y.who) d.accs
 have hn : (d.accounts.map (·.who)).Nodup := ((accounts_perm d).map _).nodup_iff.2 hD.keysa
 obtain ⟨h1, h2⟩ := List.getElem?_eq_some_iff.1 ha
 obtain ⟨h3, h4⟩ := List.getElem?_eq_some_iff.1 hb
 have h5 : leA a b = true := by
  have := List.pairwise_iff_getElem.1 hs i (i + 1) h1 h3 (by omega)
  rw [h2, h4] at this
  exact this
 have h6 : a.who ≠ b.who := by
  have := List.pairwise_iff_getElem.1 hn i (i + 1) (by simpa using h1) (by simpa using h3) (by omega)
  simp only [List.getElem_map, h2, h4] at this
  exact this
 intro h7
 unfold leA at h5
 exact h6 (List.le_antisymm (of_decide_eq_true h5) h7)
theorem getA_of {a : Acc} : ∀ {l : List Acc}, (keysA l).Nodup → a ∈ l → getA a.who l = some a
 | [], _, h => by cases h
 | e :: l, hn, h => by
  have hn2 : e.who ∉ keysA l ∧ (keysA l).Nodup := List.nodup_cons.1 hn
  unfold getA
  rcases List.mem_cons.1 h with rfl | h
  ·rw [decide_eq_true rfl]
  ·have : e.who ≠ a.who := fun e1 => hn2.1 (by rw [e1]; exact List.mem_map_of_mem (f := (·.who)) h)
   rw [decide_eq_false this]
   exact getA_of hn2.2 h
theorem paid_get {K : KSt} {d : Desk} (h : KDesk K d) (hD : DeskOK d) {a : Acc} (ha : a ∈ d.accounts) : kGet a.who K.paid = some (a.pence + 20 * a.vols) := by
 rw [h.paid, getA_of hD.keysa ((accounts_perm d).mem_iff.1 ha)]
 rfl
def wrs (d : Desk) : List Tx := ((d.ents.filter fun e => !e.writer.isEmpty).map (·.writer)).foldl (fun l w => addT w l) []
theorem wrs_spec (d : Desk) : (wrs d).Nodup ∧ ∀ p, p ∈ wrs d ↔ p ≠ [] ∧ p ∈ d.ents.map (·.writer) := by
 have h := fold_addT (ws := (d.ents.filter fun e => !e.writer.isEmpty).map (·.writer)) (l := []) List.nodup_nil
 refine ⟨h.1, fun p => ?_⟩
 unfold wrs
 rw [h.2 p]
 constructor
 ·rintro (h | h)
  ·obtain ⟨e, he, rfl⟩ := List.mem_map.1 h
   obtain ⟨h1, h2⟩ := List.mem_filter.1 he
   exact ⟨fun e1 => (by rw [e1] at h2; cases h2), List.mem_map_of_mem (f := (·.writer)) h1⟩
  ·cases h
 ·rintro ⟨h1, h2⟩
  obtain ⟨e, he, rfl⟩ := List.mem_map.1 h2
  refine .inl (List.mem_map_of_mem (f := (·.writer)) (List.mem_filter.2 ⟨he, ?_⟩))
  cases hq : e.writer with
  | nil => exact absurd hq h1
  | cons a l => rfl
theorem writers_is (d : Desk) : d.writers = ((wrs d).mergeSort leT).map fun w => (w, sumN ((d.ents.filter fun e => decide (e.writer = w)).map (·.came))) := rfl
theorem wr_len {K : KSt} {d : Desk} (h : KDesk K d) : K.wr.length = d.writers.length := by
 obtain ⟨h1, h2⟩ := wrs_spec d
 have := same_len (l := K.wr.map (·.1)) (m := wrs d) h.wrn h1 fun p => by
  rw [← kGet_key, h.wr p, h2 p]
  by_cases hc : p ≠ [] ∧ p ∈ d.ents.map (·.writer)
  ·rw [if_pos hc]
   exact ⟨fun _ => hc, fun _ => rfl⟩
  ·rw [if_neg hc]
   exact ⟨fun h => absurd h (by decide), fun h => absurd h hc⟩
 rw [writers_is]
 simpa using this
theorem sumIf_eq {p : Tx} : ∀ (l : List Ent), sumN (l.map (sumIf p)) = sumN ((l.filter fun e => decide (e.writer = p)).map (·.came))
 | [] => rfl
 | e :: l => by
  have ih := sumIf_eq (p := p) l
  rw [List.map_cons, List.filter_cons]
  unfold sumIf at ih ⊢
  by_cases he : e.writer = p
  ·rw [if_pos he, if_pos (decide_eq_true he)]
   show e.came + _ = e.came + _
   rw [ih]
  ·rw [if_neg he, if_neg (by rw [decide_eq_false he]; exact Bool.false_ne_true)]
   show 0 + _ = _
   rw [ih, Nat.zero_add]
theorem wr_get {K : KSt} {d : Desk} (h : KDesk K d) {c : Tx × Nat} (hc : c ∈ d.writers) : kGet c.1 K.wr = some c.2 := by
 rw [writers_is] at hc
 obtain ⟨w, hw, rfl⟩ := List.mem_map.1 hc
 have hw2 := (wrs_spec d).2 w |>.1 ((List.mergeSort_perm _ _).mem_iff.1 hw)
 rw [h.wr w, if_pos hw2, sumIf_eq]
theorem writers_lt {d : Desk} {i : Nat} {a b : Tx × Nat} (ha : d.writers[i]? = some a) (hb : d.writers[i + 1]? = some b) : ¬ b.1 ≤ a.1 := by
 rw [writers_is, List.getElem?_map] at ha hb
 have hs : ((wrs d).mergeSort leT).Pairwise fun x y => leT x y = true := List.pairwise_mergeSort (fun x y z => by
  unfold leT
  simp only [decide_eq_true_eq]
  exact List.le_trans) (fun x y => by
  unfold leT
  simp only [Bool.or_eq_true, decide_eq_true_eq]
  exact List.le_total x y) (wrs d)
 have hn : ((wrs d).mergeSort leT).Nodup := (List.mergeSort_perm _ _).nodup_iff.2 (wrs_spec d).1
 generalize (wrs d).mergeSort leT = m at *
 cases ha1 : m[i]? with
 | none => rw [ha1] at ha; cases ha
 | some x =>
  cases hb1 : m[i + 1]? with
  | none => rw [hb1] at hb; cases hb
  | some y =>
   rw [ha1] at ha
   rw [hb1] at hb
   cases ha
   cases hb
   obtain ⟨h1, h2⟩ := List.getElem?_eq_some_iff.1 ha1
   obtain ⟨h3, h4⟩ := List.getElem?_eq_some_iff.1 hb1
   have h5 : leT x y = true := by
    have := List.pairwise_iff_getElem.1 hs i (i + 1) h1 h3 (by omega)
    rw [h2, h4] at this
    exact this
   have h6 : x ≠ y := by
    have := List.pairwise_iff_getElem.1 hn i (i + 1) h1 h3 (by omega)
    rw [h2, h4] at this
    exact this
   intro h7
   unfold leT at h5
   exact h6 (List.le_antisymm (of_decide_eq_true h5) h7)
theorem sum_entries (g : Ent → Nat) (d : Desk) : sumN (d.entries.map g) = sumN (d.ents.map g) := sumN_perm ((entries_perm d).map g)
theorem sum_accounts (g : Acc → Nat) (d : Desk) : sumN (d.accounts.map g) = sumN (d.accs.map g) := sumN_perm ((accounts_perm d).map g)
end Go.Proofs.YtjeadhfponlnnaaGreatDoor
set_option linter.unusedSimpArgs false
set_option linter.unusedVariables false
namespace Go.Proofs.YtjeadhfponlnnaaGreatDoor
open Go.RowKit Go.Pur Go.Clerk
structure VSt where
 came : List (Tx × Nat)
 given : List (Tx × Bool)
 inn : List (Tx × Nat)
def entF (g : Ent → Nat) (w : Tx) (d : Desk) : Nat := ((getE w d.ents).map g).getD 0
structure VolsIn (d : Desk) : Prop where
 each : ∀ (i : Nat) v, d.vols[i]? = some v → ∃ c : UInt8, v.letter = [c] ∧ v.words ≠ [] ∧ v.words.Pairwise (fun a b => ¬ b ≤ a) ∧ (∀ w ∈ v.words, w ≠ [] ∧ (w.headD 0).toNat ≤ c.toNat) ∧ c.toNat ≤ d.closed.toNat
 next : ∀ (i j : Nat) v u, i < j → d.vols[i]? = some v → d.vols[j]? = some u → ∀ w ∈ u.words, (v.letter.headD 0).toNat < (w.headD 0).toNat
structure VDesk (V : VSt) (d : Desk) : Prop where
 came : ∀ w, (kGet w V.came).getD 0 = entF (·.came) w d
 camek : ∀ x ∈ V.came, x.2 ≠ 0
 camen : (V.came.map (·.1)).Nodup
 given : ∀ w, (kGet w V.given).isSome = true ↔ ∃ e, getE w d.ents = some e ∧ e.writer ≠ []
 givenn : (V.given.map (·.1)).Nodup
 inn : ∀ w, (kGet w V.inn).getD 0 = entF (·.vol) w d
 ahead : ∀ e ∈ d.ents, e.came ≠ 0 → e.vol = 0 → d.closed.toNat < (e.word.headD 0).toNat
 vol0 : ∀ e ∈ d.ents, e.came = 0 → e.vol = 0
 vols : VolsIn d
theorem VDesk.none : VDesk ⟨[], [], []⟩ Desk.none :=
 ⟨fun w => rfl, fun x h => (by cases h), List.nodup_nil, fun w => ⟨fun h => (by cases h), fun ⟨e, h, _⟩ => (by cases h)⟩, List.nodup_nil, fun w => rfl, fun e h => (by cases h), fun e h => (by cases h), ⟨fun i v h => (by cases h), fun i j v u _ h => (by cases h)⟩⟩
theorem entF_put {g : Ent → Nat} {x e : Ent} {d : Desk} (he : getE x.word d.ents = some e) (hg : g x = g e) (w : Tx) : entF g w { d with ents := putE x d.ents } = entF g w d := by
 unfold entF
 show ((getE w (putE x d.ents)).map g).getD 0 = _
 rw [getE_put (keysE_has he)]
 split
 ·rename_i hw
  subst hw
  rw [he]
  exact hg
 ·rfl
theorem VDesk.put {V : VSt} {d : Desk} {x e : Ent} (h : VDesk V d) (he : getE x.word d.ents = some e) (h1 : x.writer = e.writer) (h2 : x.came = e.came) (h3 : x.vol = e.vol) : VDesk V { d with ents := putE x d.ents } := by
 have hk : x.word ∈ keysE d.ents := keysE_has he
 refine ⟨fun w => (h.came w).trans (entF_put he h2 w).symm, h.camek, h.camen, fun w => ?_, h.givenn, fun w => (h.inn w).trans (entF_put he h3 w).symm, fun y hy => ?_, fun y hy => ?_, ⟨h.vols.each, h.vols.next⟩⟩
 ·rw [h.given w]
  show _ ↔ ∃ y, getE w (putE x d.ents) = some y ∧ y.writer ≠ []
  rw [getE_put hk]
  split
  ·rename_i hw
   subst hw
   rw [he]
   exact ⟨fun ⟨y, hy, hn⟩ => ⟨x, rfl, by cases hy; rw [h1]; exact hn⟩, fun ⟨y, hy, hn⟩ => ⟨e, rfl, by cases hy; rw [← h1]; exact hn⟩⟩
  ·exact Iff.rfl
 ·rcases putE_mem (show y ∈ putE x d.ents from hy) with rfl | hy
  ·rw [h2, h3]
   intro a b
   rw [← (getE_in he).2]
   exact h.ahead e (getE_in he).1 a b
  ·exact h.ahead y hy
 ·rcases putE_mem (show y ∈ putE x d.ents from hy) with rfl | hy
  ·rw [h2, h3]
   exact h.vol0 e (getE_in he).1
  ·exact h.vol0 y hy
theorem VDesk.word {V : VSt} {d : Desk} {w : Tx} (h : VDesk V d) : VDesk V { d with ents := d.ents ++ [⟨w, [], [], [], 0, 0, 0⟩] } := by
 have hf : ∀ (g : Ent → Nat) (y : Tx), g ⟨w, [], [], [], 0, 0, 0⟩ = 0 → entF g y { d with ents := d.ents ++ [⟨w, [], [], [], 0, 0, 0⟩] } = entF g y d := fun g y hg => by
  unfold entF
  show ((getE y (d.ents ++ _)).map g).getD 0 = _
  rw [getE_new]
  cases getE y d.ents with
  | some a => rfl
  | none =>
   dsimp only
   split
   ·exact hg
   ·rfl
 refine ⟨fun y => (h.came y).trans (hf _ y rfl).symm, h.camek, h.camen, fun y => ?_, h.givenn, fun y => (h.inn y).trans (hf _ y rfl).symm, fun y hy => ?_, fun y hy => ?_, ⟨h.vols.each, h.vols.next⟩⟩
 ·rw [h.given y]
  show _ ↔ ∃ e, getE y (d.ents ++ [⟨w, [], [], [], 0, 0, 0⟩]) = some e ∧ e.writer ≠ []
  rw [getE_new]
  cases getE y d.ents with
  | some a => exact Iff.rfl
  | none =>
   dsimp only
   constructor
   ·rintro ⟨e, he, _⟩; cases he
   ·rintro ⟨e, he, hn⟩
    split at he
    ·cases he; exact absurd rfl hn
    ·cases he
 ·rcases List.mem_append.1 (show y ∈ d.ents ++ _ from hy) with hy | hy
  ·exact h.ahead y hy
  ·rw [List.mem_singleton.1 hy]; exact fun e => absurd rfl e
 ·rcases List.mem_append.1 (show y ∈ d.ents ++ _ from hy) with hy | hy
  ·exact h.vol0 y hy
  ·rw [List.mem_singleton.1 hy]; exact fun _ => rfl
theorem VDesk.give {V : VSt} {d : Desk} {w p : Tx} {n : Nat} {e : Ent} (h : VDesk V d) (he : getE w d.ents = some e) (hp : p ≠ []) : VDesk { V with given := kSet w true V.given } { d with ents := putE { e with writer := p, asked := n } d.ents } := by
 have he' : getE ({ e with writer := p, asked := n } : Ent).word d.ents = some e := by rw [show ({ e with writer := p, asked := n } : Ent).word = w from (getE_in he).2]; exact he
 have hk := keysE_has he'
 refine ⟨fun y => (h.came y).trans (entF_put he' (by rfl) y).symm, h.camek, h.camen, fun y => ?_, kSet_nodup h.givenn, fun y => (h.inn y).trans (entF_put he' (by rfl) y).symm, fun y hy => ?_, fun y hy => ?_, ⟨h.vols.each, h.vols.next⟩⟩
 ·show (kGet y (kSet w true V.given)).isSome = true ↔ ∃ z, getE y (putE { e with writer := p, asked := n } d.ents) = some z ∧ z.writer ≠ []
  rw [kGet_setW, getE_put hk]
  show _ ↔ ∃ z, (if y = e.word then _ else _) = some z ∧ _
  rw [(getE_in he).2]
  split
  ·exact ⟨fun _ => ⟨_, rfl, hp⟩, fun _ => rfl⟩
  ·exact h.given y
 ·rcases putE_mem (show y ∈ putE _ d.ents from hy) with rfl | hy
  ·exact h.ahead e (getE_in he).1
  ·exact h.ahead y hy
 ·rcases putE_mem (show y ∈ putE _ d.ents from hy) with rfl | hy
  ·exact h.vol0 e (getE_in he).1
  ·exact h.vol0 y hy
theorem VDesk.come {V : VSt} {d : Desk} {w : Tx} {n : Nat} {e : Ent} (h : VDesk V d) (he : getE w d.ents = some e) (hn : n ≠ 0) (hs : d.shut w = false) : VDesk { V with came := kSet w n V.came } { d with ents := putE { e with came := n } d.ents } := by
 have he' : getE ({ e with came := n } : Ent).word d.ents = some e := by rw [show ({ e with came := n } : Ent).word = w from (getE_in he).2]; exact he
 have hk := keysE_has he'
 refine ⟨fun y => ?_, fun x hx => ?_, kSet_nodup h.camen, fun y => ?_, h.givenn, fun y => (h.inn y).trans (entF_put he' (by rfl) y).symm, fun y hy => ?_, fun y hy => ?_, ⟨h.vols.each, h.vols.next⟩⟩
 ·show (kGet y (kSet w n V.came)).getD 0 = ((getE y (putE { e with came := n } d.ents)).map (·.came)).getD 0
  rw [kGet_setW, getE_put hk]
  show _ = ((if y = e.word then _ else _ : Option Ent).map (·.came)).getD 0
  rw [(getE_in he).2]
  split
  ·rfl
  ·exact h.came y
 ·rcases kSet_mem (show x ∈ kSet w n V.came from hx) with rfl | hx
  ·exact hn
  ·exact h.camek x hx
 ·rw [h.given y]
  show _ ↔ ∃ z, getE y (putE { e with came := n } d.ents) = some z ∧ z.writer ≠ []
  rw [getE_put hk]
  show _ ↔ ∃ z, (if y = e.word then _ else _) = some z ∧ _
  rw [(getE_in he).2]
  split
  ·rename_i hy
   rw [hy, he]
   exact ⟨fun ⟨z, hz, hw⟩ => ⟨_, rfl, by cases hz; exact hw⟩, fun ⟨z, hz, hw⟩ => ⟨_, rfl, by cases hz; exact hw⟩⟩
  ·exact Iff.rfl
 ·rcases putE_mem (show y ∈ putE _ d.ents from hy) with rfl | hy
  ·intro _ _
   show d.closed.toNat < (e.word.headD 0).toNat
   rw [(getE_in he).2]
   unfold Desk.shut at hs
   have := of_decide_eq_false hs
   omega
  ·exact h.ahead y hy
 ·rcases putE_mem (show y ∈ putE _ d.ents from hy) with rfl | hy
  ·exact fun e0 => absurd e0 hn
  ·exact h.vol0 y hy
def chosen (c : UInt8) (d : Desk) : List Tx := (d.ents.filter (closes c)).map (·.word)
theorem sort_pair {l : List Tx} (hn : l.Nodup) : (l.mergeSort leT).Pairwise fun a b => ¬ b ≤ a := by
 have hs : (l.mergeSort leT).Pairwise fun x y => leT x y = true := List.pairwise_mergeSort (fun x y z => by
  unfold leT
  simp only [decide_eq_true_eq]
  exact List.le_trans) (fun x y => by
  unfold leT
  simp only [Bool.or_eq_true, decide_eq_true_eq]
  exact List.le_total x y) l
 have hn2 : (l.mergeSort leT).Nodup := (List.mergeSort_perm _ _).nodup_iff.2 hn
 refine (hs.and hn2).imp fun {a b} h1 h7 => ?_
 obtain ⟨h5, h6⟩ := h1
 unfold leT at h5
 exact h6 (List.le_antisymm (of_decide_eq_true h5) h7)
theorem chosen_nodup {c : UInt8} {d : Desk} (hD : DeskOK d) : (chosen c d).Nodup := by
 have h1 : (chosen c d).Sublist (keysE d.ents) := (List.filter_sublist (l := d.ents) (p := closes c)).map _
 exact List.Nodup.sublist h1 hD.keys
theorem VDesk.close {V : VSt} {d : Desk} {c : UInt8} {inn : List (Tx × Nat)} (h : VDesk V d) (hD : DeskOK d) (hc : d.closed.toNat < c.toNat) (hne : chosen c d ≠ []) (hi : ∀ w, (kGet w inn).getD 0 = if w ∈ chosen c d then d.vols.length + 1 else (kGet w V.inn).getD 0) : VDesk { V with inn := inn } (closeD c d) := by
 obtain ⟨f, hf⟩ : ∃ f : Ent → Ent, (fun e => match closes c e with
   | true => { e with vol := d.vols.length + 1 }
   | false => e) = f := ⟨_, rfl⟩
 have f1 : ∀ e, (f e).word = e.word := fun e => by rw [← hf]; dsimp only; split <;> rfl
 have f2 : ∀ e, (f e).writer = e.writer := fun e => by rw [← hf]; dsimp only; split <;> rfl
 have f3 : ∀ e, (f e).came = e.came := fun e => by rw [← hf]; dsimp only; split <;> rfl
 have f4 : ∀ e, (f e).vol = if closes c e = true then d.vols.length + 1 else e.vol := fun e => by
  rw [← hf]
  dsimp only
  cases closes c e <;> rfl
 have hE : (closeD c d).ents = d.ents.map f := by rw [← hf]; rfl
 have hW : (volOf c d).words = (chosen c d).mergeSort leT := rfl
 have hmem : ∀ w, w ∈ (volOf c d).words ↔ ∃ e ∈ d.ents, closes c e = true ∧ e.word = w := fun w => by
  rw [hW, (List.mergeSort_perm _ _).mem_iff]
  unfold chosen
  rw [List.mem_map]
  simp only [List.mem_filter]
  exact ⟨fun ⟨e, ⟨a, b⟩, c⟩ => ⟨e, a, b, c⟩, fun ⟨e, a, b, c⟩ => ⟨e, ⟨a, b⟩, c⟩⟩
 have hcl : ∀ e, closes c e = true → e.came ≠ 0 ∧ e.vol = 0 ∧ (e.word.headD 0).toNat ≤ c.toNat := fun e he => by
  unfold closes at he
  simp only [Bool.and_eq_true, decide_eq_true_eq] at he
  omega
 refine ⟨fun w => ?_, h.camek, h.camen, fun w => ?_, h.givenn, fun w => ?_, fun y hy => ?_, fun y hy => ?_, ?_⟩
 ·rw [h.came w]
  unfold entF
  rw [hE, getE_map f1]
  cases getE w d.ents with
  | none => rfl
  | some a => exact (f3 a).symm
 ·rw [h.given w, hE, getE_map f1]
  cases hg : getE w d.ents with
  | none => exact ⟨fun ⟨e, he, _⟩ => (by cases he), fun ⟨e, he, _⟩ => (by cases he)⟩
  | some a => exact ⟨fun ⟨e, he, hn⟩ => ⟨f a, rfl, by cases he; rw [f2]; exact hn⟩, fun ⟨e, he, hn⟩ => ⟨a, rfl, by cases he; rw [f2] at hn; exact hn⟩⟩
 ·show (kGet w inn).getD 0 = _
  rw [hi w, h.inn w]
  unfold entF
  rw [hE, getE_map f1]
  cases hg : getE w d.ents with
  | none =>
   rw [if_neg]
   ·rfl
   ·intro hm
    obtain ⟨e, he, rfl⟩ := List.mem_map.1 hm
    exact getE_no hg (List.mem_map_of_mem (f := (·.word)) (List.mem_filter.1 he).1)
  | some a =>
   show _ = (f a).vol
   rw [f4]
   obtain ⟨ga, gw⟩ := getE_in hg
   have hiff : w ∈ chosen c d ↔ closes c a = true := by
    unfold chosen
    rw [List.mem_map]
    constructor
    ·rintro ⟨e, he, hew⟩
     obtain ⟨h1, h2⟩ := List.mem_filter.1 he
     rw [← key_inj (f := fun e : Ent => e.word) (show (d.ents.map fun e => e.word).Nodup from hD.keys) h1 ga (by rw [hew, gw])]
     exact h2
    ·exact fun h1 => ⟨a, List.mem_filter.2 ⟨ga, h1⟩, gw⟩
   by_cases hca : closes c a = true
   ·rw [if_pos (hiff.2 hca), if_pos hca]
   ·rw [if_neg (fun h => hca (hiff.1 h)), if_neg hca]
    rfl
 ·rw [hE] at hy
  obtain ⟨e, he, rfl⟩ := List.mem_map.1 hy
  rw [f1, f3, f4]
  intro h1 h2
  show c.toNat < _
  by_cases hce : closes c e = true
  ·rw [if_pos hce] at h2
   omega
  ·rw [if_neg hce] at h2
   unfold closes at hce
   simp only [Bool.and_eq_true, decide_eq_true_eq] at hce
   have h3 : e.came ≠ 0 := h1
   omega
 ·rw [hE] at hy
  obtain ⟨e, he, rfl⟩ := List.mem_map.1 hy
  rw [f3, f4]
  intro h1
  rw [if_neg (fun hce => (hcl e hce).1 h1)]
  exact h.vol0 e he h1
 ·have hnew : ∀ w ∈ (volOf c d).words, w ≠ [] ∧ d.closed.toNat < (w.headD 0).toNat ∧ (w.headD 0).toNat ≤ c.toNat := fun w hw => by
   obtain ⟨e, he, hce, rfl⟩ := (hmem w).1 hw
   obtain ⟨a, b, b2⟩ := hcl e hce
   exact ⟨(NameT.spec (hD.ent e he).word).1, h.ahead e he a b, b2⟩
  have hwne : (volOf c d).words ≠ [] := fun e => by
   rw [hW] at e
   have := congrArg List.length e
   rw [List.length_mergeSort] at this
   exact hne (List.eq_nil_of_length_eq_zero this)
  refine ⟨fun i v hv => ?_, fun i j v u hij hv hu => ?_⟩
  ·rw [show (closeD c d).vols = d.vols ++ [volOf c d] from rfl] at hv
   by_cases hi : i < d.vols.length
   ·rw [List.getElem?_append_left hi] at hv
    obtain ⟨c', a1, a2, a3, a4, a5⟩ := h.vols.each i v hv
    exact ⟨c', a1, a2, a3, a4, by show c'.toNat ≤ c.toNat; omega⟩
   ·rw [List.getElem?_append_right (by omega)] at hv
    have hv' : [volOf c d][i - d.vols.length]? = some v := hv
    have : i - d.vols.length = 0 := by
     have := (List.getElem?_eq_some_iff.1 hv').1
     simpa using this
    rw [this] at hv'
    cases hv'
    exact ⟨c, rfl, hwne, by rw [hW]; exact sort_pair (chosen_nodup hD), fun w hw => ⟨(hnew w hw).1, (hnew w hw).2.2⟩, Nat.le_refl _⟩
  ·rw [show (closeD c d).vols = d.vols ++ [volOf c d] from rfl] at hv hu
   have hjl : j < (d.vols ++ [volOf c d]).length := (List.getElem?_eq_some_iff.1 hu).1
   simp at hjl
   rw [List.getElem?_append_left (by omega)] at hv
   by_cases hj : j < d.vols.length
   ·rw [List.getElem?_append_left hj] at hu
    exact h.vols.next i j v u hij hv hu
   ·obtain rfl : j = d.vols.length := by omega
    rw [List.getElem?_append_right (Nat.le_refl _), Nat.sub_self] at hu
    cases hu
    intro w hw
    obtain ⟨c', a1, -, -, -, a5⟩ := h.vols.each i v hv
    rw [a1]
    show c'.toNat < _
    have := (hnew w hw).2.1
    omega
end Go.Proofs.YtjeadhfponlnnaaGreatDoor
