/-
  Operations that leave the state alone: what the pure evaluator says of them, the abstract one does.
  Conditions: none; lemmas.
-/
import Derived.Test.YtcdhajbhpnbdkaaDoorPurRel
set_option linter.unusedSimpArgs false
set_option linter.unusedVariables false
set_option linter.unusedSectionVars false
namespace Go.Pur
open Go.Abs

/-- Related wherever it is put. -/
def VA (C : Ctx) (h : AHeap) (u : PV) (x : Value) : Prop := ∀ d, VR C h (some (.tmp d)) u x

section
variable {C : Ctx} {h : AHeap} {π : Option Pl}

theorem VR.retag {t d : Nat} {v : PV} {x : Value} (hv : VR C h (some (.tmp t)) v x) (ho : isOwn v = false) : VR C h (some (.tmp d)) v x := by
  cases hv with
  | v _ x hp hn => exact .v _ x hp hn
  | un => exact .un _
  | dead => exact .dead _ _
  | nil _ k c => exact .nil _ k c
  | lst _ k c n cs a cap B hb hs hk hn hc hl hv =>
    refine .lst _ _ _ _ _ _ _ B hb hs ?_ hn hc hl hv
    cases k with
    | fz => exact hk
    | bor => exact ⟨hk.1, d, rfl⟩
    | own => simp [isOwn] at ho
    | rf p => exact ⟨hk.1, d, rfl⟩
    | pt p => exact ⟨hk.1, d, rfl⟩
  | r _ k cs a B hb hs hk hi hl hv =>
    refine .r _ _ _ _ B hb hs ?_ hi hl hv
    cases k with
    | fz => exact hk
    | bor => exact ⟨hk.1, d, rfl⟩
    | own => cases hi
    | rf p => cases hi
    | pt p => exact ⟨hk.1, d, rfl⟩
  | p _ b off id hb => exact .p _ _ _ _ hb
  | s _ b off n cap id hb hc hn => exact .s _ _ _ _ _ _ hb hc hn
  | a _ cs l hs hv => exact .a _ _ _ hs hv
  | t _ cs l hs hv => exact .t _ _ _ hs hv
  | f _ g as bs as' bs' ha hb hA hB => exact .f _ _ _ _ _ _ ha hb hA hB
  | i _ ty x x' hx => exact .i _ _ _ _ hx

/-- What lies inside of others may lie anywhere. -/
theorem VR.out {v : PV} {x : Value} (hv : VR C h none v x) (π : Option Pl) : VR C h π v x := by
  cases hv with
  | v _ x hp hn => exact .v _ x hp hn
  | un => exact .un _
  | dead => exact .dead _ _
  | nil _ k c => exact .nil _ k c
  | lst _ k c n cs a cap B hb hs hk hn hc hl hv =>
    refine .lst _ _ _ _ _ _ _ B hb hs ?_ hn hc hl hv
    cases k with
    | fz => exact hk
    | bor => obtain ⟨_, _, h⟩ := hk; cases h
    | own => obtain ⟨_, h, _⟩ := hk; cases h
    | rf p => obtain ⟨_, _, h⟩ := hk; cases h
    | pt p => obtain ⟨_, _, h⟩ := hk; cases h
  | r _ k cs a B hb hs hk hi hl hv =>
    refine .r _ _ _ _ B hb hs ?_ hi hl hv
    cases k with
    | fz => exact hk
    | bor => obtain ⟨_, _, h⟩ := hk; cases h
    | own => cases hi
    | rf p => cases hi
    | pt p => obtain ⟨_, _, h⟩ := hk; cases h
  | p _ b off id hb => exact .p _ _ _ _ hb
  | s _ b off n cap id hb hc hn => exact .s _ _ _ _ _ _ hb hc hn
  | a _ cs l hs hv => exact .a _ _ _ hs hv
  | t _ cs l hs hv => exact .t _ _ _ hs hv
  | f _ g as bs as' bs' ha hb hA hB => exact .f _ _ _ _ _ _ ha hb hA hB
  | i _ ty x x' hx => exact .i _ _ _ _ hx

theorem VR.inv_v {x y : Value} (hv : VR C h π (.v x) y) : y = x ∧ plain x = true ∧ ∀ n c, x ≠ .slice none n c := by
  cases hv with
  | v _ x hp hn => exact ⟨rfl, hp, hn⟩
theorem VR.inv_a {cs : List PV} {y : Value} (hv : VR C h π (.a cs) y) : ∃ l : Array Value, y = .agg l ∧ LR C h none cs l.toList := by
  cases hv with
  | a _ _ l hs hv => exact ⟨l, rfl, lr_of_arr hs hv⟩
theorem VR.inv_t {cs : List PV} {y : Value} (hv : VR C h π (.t cs) y) : ∃ l : Array Value, y = .tuple l ∧ LR C h none cs l.toList := by
  cases hv with
  | t _ _ l hs hv => exact ⟨l, rfl, lr_of_arr hs hv⟩
theorem VR.inv_p {b off : Nat} {y : Value} (hv : VR C h π (.p b off) y) : ∃ id, C.β b = some id ∧ y = .pointer (some ⟨id, off, none⟩) := by
  cases hv with
  | p _ _ _ id hb => exact ⟨id, hb, rfl⟩
theorem VR.inv_s {b off n cap : Nat} {y : Value} (hv : VR C h π (.s b off n cap) y) : ∃ id, C.β b = some id ∧ y = .slice (some ⟨id, off, none⟩) n cap ∧ cap < unkCap ∧ n ≤ cap := by
  cases hv with
  | s _ _ _ _ _ id hb hc hn => exact ⟨id, hb, rfl, hc, hn⟩
theorem VR.inv_r {k : Vl} {cs : List PV} {y : Value} (hv : VR C h π (.r k cs) y) : ∃ (a : Addr) (B : Blk), y = .pointer (some a) ∧ h.get a.block = some B ∧ a.spot = none ∧ LOK C π k a.block ∧ isRef k = false ∧
    a.off + cs.length ≤ B.cells.length ∧ LR C h none cs ((B.cells.drop a.off).take cs.length) := by
  cases hv with
  | r _ _ _ a B hb hs hk hi hl hv => exact ⟨a, B, rfl, hb, hs, hk, hi, hl, lr_of_blk hl hv⟩
/-- A list: nil, or a slice of a block. -/
theorem VR.inv_l {k : Vl} {c : Ck} {n : Nat} {cs : List PV} {y : Value} (hv : VR C h π (.l k c n cs) y) : (n = 0 ∧ cs = [] ∧ y = .slice none 0 0) ∨ ∃ (a : Addr) (cap : Nat) (B : Blk), y = .slice (some a) n cap ∧ h.get a.block = some B ∧ a.spot = none ∧ LOK C π k a.block ∧
    n < unkCap ∧ CapOK C.sz k c n cap a.off B cs ∧ a.off + cs.length ≤ B.cells.length ∧ LR C h none cs ((B.cells.drop a.off).take cs.length) := by
  cases hv with
  | nil => exact .inl ⟨rfl, rfl, rfl⟩
  | lst _ _ _ _ _ a cap B hb hs hk hn hc hl hv => exact .inr ⟨a, cap, B, rfl, hb, hs, hk, hn, hc, hl, lr_of_blk hl hv⟩

theorem VR.lst_of {k : Vl} {c : Ck} {n : Nat} {cs : List PV} {a : Addr} {cap : Nat} {B : Blk} (hb : h.get a.block = some B) (hs : a.spot = none) (hk : LOK C π k a.block) (hn : n < unkCap) (hc : CapOK C.sz k c n cap a.off B cs)
    (hl : a.off + cs.length ≤ B.cells.length) (hv : LR C h none cs ((B.cells.drop a.off).take cs.length)) : VR C h π (.l k c n cs) (.slice (some a) n cap) :=
  .lst _ _ _ _ _ _ _ B hb hs hk hn hc hl (fun i hi => by
    have := hv.2 i hi
    simpa [List.getD_eq_getElem?_getD, List.getElem?_take, hi, List.getElem?_drop] using this)
theorem VR.r_of {k : Vl} {cs : List PV} {a : Addr} {B : Blk} (hb : h.get a.block = some B) (hs : a.spot = none) (hk : LOK C π k a.block) (hi : isRef k = false)
    (hl : a.off + cs.length ≤ B.cells.length) (hv : LR C h none cs ((B.cells.drop a.off).take cs.length)) : VR C h π (.r k cs) (.pointer (some a)) :=
  .r _ _ _ _ B hb hs hk hi hl (fun i hi => by
    have := hv.2 i hi
    simpa [List.getD_eq_getElem?_getD, List.getElem?_take, hi, List.getElem?_drop] using this)

theorem takeP_some : ∀ {n : Nat} {l r : List PV}, takeP n l = some r → r = l.take n ∧ n ≤ l.length
  | 0, l, r, h => by simp [takeP] at h; simp [← h]
  | n + 1, [], r, h => by simp [takeP] at h
  | n + 1, x :: l, r, h => by
    simp only [takeP] at h
    split at h
    · rename_i r' hr
      cases h
      obtain ⟨h1, h2⟩ := takeP_some hr
      exact ⟨by simp [h1], by simpa using h2⟩
    · cases h
theorem takeN_of {n : Nat} {l : List Value} (hn : n ≤ l.length) : takeN n l = some (l.take n) := by
  induction n generalizing l with
  | zero => simp [takeN]
  | succ n ih =>
    cases l with
    | nil => simp at hn
    | cons x l => simp [takeN, ih (by simpa using hn)]

/-! ### Constants -/
theorem pvOf_some {x : Value} {u : PV} (hq : pvOf x = some u) : plain x = true ∧ ∀ (C : Ctx) (h : AHeap) (π : Option Pl), VR C h π u x := by
  unfold pvOf at hq
  split at hq
  · split at hq
    · cases hq; exact ⟨rfl, fun C h π => .nil _ _ _⟩
    · cases hq
  · rename_i hne
    cases hp : plain x with
    | true =>
      simp only [hp] at hq
      cases hq
      exact ⟨rfl, fun C h π => .v _ _ hp (fun n c e => hne n c e)⟩
    | false => simp only [hp] at hq; cases hq

theorem pvOf_plain {x : Value} (hp : plain x = true) (hn : ∀ n c, x ≠ .slice none n c) : pvOf x = some (.v x) := by
  unfold pvOf
  split
  · rename_i n c; exact absurd rfl (hn n c)
  · simp only [hp]

theorem rdv_rel {t d : Nat} {v u : PV} {x : Value} (hv : VR C h (some (.tmp t)) v x) (hq : rdv (.tmp t) v = some u) : VR C h (some (.tmp d)) u x := by
  unfold rdv at hq
  split at hq
  · rename_i c n cs
    cases hq
    rcases hv.inv_l with ⟨rfl, rfl, rfl⟩ | ⟨a, cap, B, rfl, hb, hs, ⟨p, hp, ho⟩, hn, hc, hl, hr⟩
    · exact .nil _ _ _
    · cases hp
      exact .lst_of hb hs ⟨ho, d, rfl⟩ hn ⟨hc.full, hc.nz, hc.le, hc.kind, fun _ => hc.mine rfl, hc.one⟩ hl hr
  · cases hq
  · cases hq
  · rename_i hno _ _
    obtain rfl : v = u := Option.some.inj hq
    refine hv.retag ?_
    clear hv hq
    cases v with
    | l k c n cs =>
      cases k with
      | own => exact (hno c n cs rfl).elim
      | _ => rfl
    | _ => rfl

variable {P : Program} {Y : Pol} {f : FuncId} {σ : St} {tv : Tr Value}

theorem pev_sim (hT : TR Y f C h σ tv) (hG : GR P Y C h) {x : Operand} {u : PV} (hq : pev Y f σ x = some u) : ∃ x', ev P tv x = some x' ∧ VA C h u x' := by
  unfold pev at hq
  split at hq
  · rename_i t
    split at hq
    · rename_i v hv
      refine ⟨tget0 tv t, ?_, fun d => rdv_rel (hT _ _ hv) hq⟩
      unfold tget0 ev
      simp only []
      split <;> simp_all
    · cases hq
  · rename_i y
    obtain ⟨h1, h2⟩ := pvOf_some hq
    exact ⟨y, by simp [ev, h1], fun d => h2 _ _ _⟩
  · rename_i g
    split at hq
    · rename_i cs hg
      cases hq
      obtain ⟨h1, h2, B, h3, h4, h5⟩ := hG _ _ hg
      refine ⟨.pointer (some ⟨g, 0, none⟩), by simp [ev, show Nat.blt g P.globals.size = true from Nat.ble_eq_true_of_le h1], fun d => .r _ _ _ _ B h3 rfl h2 rfl (by simpa using h4) (fun i hi => by simpa using h5 i hi)⟩
    · cases hq
  · cases hq
    exact ⟨_, rfl, fun d => .f _ _ _ _ _ _ rfl rfl (fun i hi => absurd hi (Nat.not_lt_zero _)) (fun i hi => absurd hi (Nat.not_lt_zero _))⟩

theorem evSafe_ev {x : Operand} (hs : evSafe x = true) : ∃ x', ev P tv x = some x' := by
  cases x with
  | tmp t => unfold ev; simp only []; split <;> exact ⟨_, rfl⟩
  | const v => exact ⟨v, by simp only [evSafe] at hs; simp [ev, hs]⟩
  | global g => simp [evSafe] at hs
  | func g => exact ⟨_, rfl⟩

/-- Lists of operands. -/
def LA (C : Ctx) (h : AHeap) : List PV → List Value → Prop
  | [], [] => True
  | u :: us, x :: xs => VA C h u x ∧ LA C h us xs
  | _, _ => False

theorem pevs_sim (hT : TR Y f C h σ tv) (hG : GR P Y C h) : ∀ {l : List Operand} {us : List PV}, pevs Y f σ l = some us → ∃ xs, evs P tv l = some xs ∧ LA C h us xs
  | [], us, hq => by cases hq; exact ⟨[], rfl, trivial⟩
  | x :: l, us, hq => by
    simp only [pevs] at hq
    split at hq
    · rename_i v hv
      split at hq
      · rename_i vs hvs
        cases hq
        obtain ⟨x', h1, h2⟩ := pev_sim hT hG hv
        obtain ⟨xs, h3, h4⟩ := pevs_sim hT hG hvs
        exact ⟨x' :: xs, by simp [evs, h1, h3], h2, h4⟩
      · cases hq
    · cases hq

theorem optPlain_sim (hT : TR Y f C h σ tv) (hG : GR P Y C h) {x : Option Operand} {u : Option Value} (hq : optPlain Y f σ x = some u) : optEv P tv x = some u := by
  unfold optPlain at hq
  split at hq
  · cases hq; rfl
  · split at hq
    · rename_i x v hv
      cases hq
      obtain ⟨x', h1, h2⟩ := pev_sim hT hG hv
      obtain ⟨rfl, hp, _⟩ := (h2 0).inv_v
      simp [optEv, h1, hp]
    · cases hq

theorem toPlain_rel {v : PV} {x y : Value} (hv : VR C h π v x) (hq : toPlain v = some y) : x = y := by
  unfold toPlain at hq
  split at hq
  · cases hq; exact hv.inv_v.1
  · rename_i cs
    split at hq
    · rename_i l hl
      cases hq
      obtain ⟨l', rfl, hr⟩ := hv.inv_a
      have key : ∀ {cs : List PV} {l l' : List Value}, toPlain.go cs = some l → LR C h none cs l' → l' = l := by
        intro cs
        induction cs with
        | nil =>
          intro l l' hg hr
          cases hg
          exact List.eq_nil_of_length_eq_zero (by simpa using hr.1)
        | cons c cs ih =>
          intro l l' hg hr
          rcases hr.ind with ⟨h1, _⟩ | ⟨v, v', r, r', h1, rfl, hv, hr'⟩
          · cases h1
          · cases h1
            cases c with
            | v x =>
              simp only [toPlain.go] at hg
              split at hg
              · rename_i r'' hr''
                cases hg
                rw [hv.inv_v.1, ih hr'' hr']
              · cases hg
            | _ => simp [toPlain.go] at hg
      rw [← key hl hr]
    · cases hq
  · cases hq

theorem prun_bind {α β : Type} (s : Sem α) (k : α → Sem β) {a : α} (hs : prun P s = some a) : prun P (s >>= k) = prun P (k a) := by
  show prun P (s.bind k) = _
  induction s generalizing a with
  | pure x => simp only [prun, Option.some.injEq] at hs; rw [← hs]; rfl
  | program g ih => exact ih P (by simpa [prun] using hs)
  | mark m g ih => exact ih (by simpa [prun] using hs)
  | _ => simp [prun] at hs
theorem prun_und {t : TypeId} {d : TypeDesc} (hu : P.underlying t = some d) : prun P (Go.underlying t) = some d := by
  unfold Go.underlying
  rw [prun_bind (program : Sem Program) _ (a := P) rfl]
  simp only [hu]; rfl

theorem nil_eq_nil {op : BinOp} {t e : TypeId} {x y : Operand} (hu : P.underlying t = some (.slice e)) (ho : op = .eql ∨ op = .neq) : abin P op t x y (.slice none 0 0) (.slice none 0 0) = some (.bool (match op with | .eql => true | _ => false)) := by
  have h1 : prun P (Op.equal t (.slice none 0 0) (.slice none 0 0)) = some true := by
    show prun P (Op.equalIn (9999 + 1) t _ _) = _
    unfold Op.equalIn
    rw [prun_bind _ _ (prun_und hu)]; rfl
  rcases ho with rfl | rfl
  · have h2 : prun P (do eqGuard .eql t x y (.slice none 0 0) (.slice none 0 0); binOp .eql t (.slice none 0 0) (.slice none 0 0)) = some (.bool true) := by
      show prun P (binOp .eql t (.slice none 0 0) (.slice none 0 0)) = _
      show prun P (Op.equal t (.slice none 0 0) (.slice none 0 0) >>= fun b => pure (Value.bool b)) = _
      rw [prun_bind _ _ h1]; rfl
    show abinS P .eql t x y (.slice none 0 0) (.slice none 0 0) = _
    unfold abinS
    simp only [plainV, plain, Bool.and_self, prunP, h2]
  · have h2 : prun P (do eqGuard .neq t x y (.slice none 0 0) (.slice none 0 0); binOp .neq t (.slice none 0 0) (.slice none 0 0)) = some (.bool false) := by
      show prun P (binOp .neq t (.slice none 0 0) (.slice none 0 0)) = _
      show prun P (Op.equal t (.slice none 0 0) (.slice none 0 0) >>= fun b => pure (Value.bool (!b))) = _
      rw [prun_bind _ _ h1]; rfl
    show abinS P .neq t x y (.slice none 0 0) (.slice none 0 0) = _
    unfold abinS
    simp only [plainV, plain, Bool.and_self, prunP, h2]
end
end Go.Pur
