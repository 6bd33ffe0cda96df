/-
  The pure evaluator's values and blocks against the abstract heap.
  Conditions: none; definitions and lemmas.
-/
import Derived.Test.YtcdhajbhpnbdkaaDoorPur
set_option linter.unusedSimpArgs false
set_option linter.unusedVariables false
set_option linter.unusedSectionVars false
namespace Go.Pur
open Go.Abs

/-- How many cells a value of a type has, the blocks that are meant, those that stay for good, those that stay for now, and who owns which. -/
structure Ctx where
  sz : TypeId → Nat
  β : Nat → Option Nat
  fz : Nat → Prop
  fx : Nat → Prop
  ow : Nat → Option Pl

def isRef : Vl → Bool
  | .rf _ => true
  | .own => true
  | _ => false

def LOK (C : Ctx) (π : Option Pl) (k : Vl) (b : Nat) : Prop :=
  match k with
  | .fz => C.fz b
  | .bor => C.fx b ∧ ∃ t, π = some (.tmp t)
  | .own => ∃ p, π = some p ∧ C.ow b = some p
  | .rf p => C.ow b = some p ∧ ∃ t, π = some (.tmp t)
  | .pt p => C.ow b = some p ∧ ∃ t, π = some (.tmp t)

structure CapOK (sz : TypeId → Nat) (k : Vl) (c : Ck) (n cap off : Nat) (B : Blk) (cs : List PV) : Prop where
  full : c = .full → cap ≤ n
  nz : c = .nz → n ≠ 0
  le : cap < unkCap → n ≤ cap
  kind : cap < unkCap ∨ cap = unkCap ∨ cap = roCap
  mine : isRef k = true → off = 0 ∧ cap = unkCap ∧ B.unk = true ∧ B.wr = true ∧ B.cells.length = cs.length ∧ sz B.elem * n = cs.length ∧ n ≠ 0
  one : ∀ v ∈ cs, cellOK v = true

theorem CapOK.re {sz sz' : TypeId → Nat} {k : Vl} {c : Ck} {n cap off : Nat} {B : Blk} {cs : List PV} (h : CapOK sz k c n cap off B cs) (hk : isRef k = false) : CapOK sz' k c n cap off B cs :=
  ⟨h.full, h.nz, h.le, h.kind, fun e => (by rw [hk] at e; cases e), h.one⟩

inductive VR (C : Ctx) (h : AHeap) : Option Pl → PV → Value → Prop where
  | v (π : Option Pl) (x : Value) (hp : plain x = true) (hn : ∀ n c, x ≠ .slice none n c) : VR C h π (.v x) x
  | un (π : Option Pl) : VR C h π .un undef
  | dead (π : Option Pl) (x : Value) : VR C h π .dead x
  | nil (π : Option Pl) (k : Vl) (c : Ck) : VR C h π (.l k c 0 []) (.slice none 0 0)
  | lst (π : Option Pl) (k : Vl) (c : Ck) (n : Nat) (cs : List PV) (a : Addr) (cap : Nat) (B : Blk) (hb : h.get a.block = some B) (hs : a.spot = none) (hk : LOK C π k a.block) (hn : n < unkCap)
      (hc : CapOK C.sz k c n cap a.off B cs) (hl : a.off + cs.length ≤ B.cells.length) (hv : ∀ i, i < cs.length → VR C h none (cs.getD i .dead) (B.cells.getD (a.off + i) undef)) : VR C h π (.l k c n cs) (.slice (some a) n cap)
  | r (π : Option Pl) (k : Vl) (cs : List PV) (a : Addr) (B : Blk) (hb : h.get a.block = some B) (hs : a.spot = none) (hk : LOK C π k a.block) (hi : isRef k = false)
      (hl : a.off + cs.length ≤ B.cells.length) (hv : ∀ i, i < cs.length → VR C h none (cs.getD i .dead) (B.cells.getD (a.off + i) undef)) : VR C h π (.r k cs) (.pointer (some a))
  | p (π : Option Pl) (b off id : Nat) (hβ : C.β b = some id) : VR C h π (.p b off) (.pointer (some ⟨id, off, none⟩))
  | s (π : Option Pl) (b off n cap id : Nat) (hβ : C.β b = some id) (hc : cap < unkCap) (hn : n ≤ cap) : VR C h π (.s b off n cap) (.slice (some ⟨id, off, none⟩) n cap)
  | a (π : Option Pl) (cs : List PV) (l : Array Value) (hs : l.size = cs.length) (hv : ∀ i, i < cs.length → VR C h none (cs.getD i .dead) (l.toList.getD i undef)) : VR C h π (.a cs) (.agg l)
  | t (π : Option Pl) (cs : List PV) (l : Array Value) (hs : l.size = cs.length) (hv : ∀ i, i < cs.length → VR C h none (cs.getD i .dead) (l.toList.getD i undef)) : VR C h π (.t cs) (.tuple l)
  | f (π : Option Pl) (g : FuncId) (as bs : List PV) (as' bs' : Array Value) (ha : as'.size = as.length) (hb : bs'.size = bs.length) (hA : ∀ i, i < as.length → VR C h none (as.getD i .dead) (as'.toList.getD i undef))
      (hB : ∀ i, i < bs.length → VR C h none (bs.getD i .dead) (bs'.toList.getD i undef)) : VR C h π (.f g as bs) (.func (.func g) as' bs')
  | i (π : Option Pl) (ty : TypeId) (x : PV) (x' : Value) (hx : VR C h none x x') : VR C h π (.i ty x) (.iface ty x')

/-! ### Lists of values -/
def LR (C : Ctx) (h : AHeap) (π : Option Pl) (cs : List PV) (l : List Value) : Prop := l.length = cs.length ∧ ∀ i, i < cs.length → VR C h π (cs.getD i .dead) (l.getD i undef)

theorem LR.nil (C : Ctx) (h : AHeap) (π : Option Pl) : LR C h π [] [] := ⟨rfl, fun i hi => absurd hi (Nat.not_lt_zero _)⟩
section
variable {C : Ctx} {h : AHeap} {π : Option Pl}
theorem LR.cons {v : PV} {v' : Value} {cs : List PV} {l : List Value} (hv : VR C h π v v') (hl : LR C h π cs l) : LR C h π (v :: cs) (v' :: l) := by
  refine ⟨by simp [hl.1], fun i hi => ?_⟩
  cases i with
  | zero => simpa using hv
  | succ i => simpa using hl.2 i (by simpa using hi)
theorem LR.get {cs : List PV} {l : List Value} (hl : LR C h π cs l) {i : Nat} {v : PV} (hi : cs[i]? = some v) : ∃ v', l[i]? = some v' ∧ VR C h π v v' := by
  obtain ⟨hlt, he⟩ := List.getElem?_eq_some_iff.1 hi
  have hlt' : i < l.length := hl.1 ▸ hlt
  refine ⟨l[i], by simp [hlt'], ?_⟩
  have := hl.2 i hlt
  simpa only [List.getD_eq_getElem?_getD, List.getElem?_eq_getElem hlt, List.getElem?_eq_getElem hlt', Option.getD_some, he] using this
theorem LR.of_get {cs : List PV} {l : List Value} (hl : l.length = cs.length) (hh : ∀ (i : Nat) v v', cs[i]? = some v → l[i]? = some v' → VR C h π v v') : LR C h π cs l := by
  refine ⟨hl, fun i hi => ?_⟩
  have hi' : i < l.length := hl ▸ hi
  have := hh i cs[i] l[i] (by simp [hi]) (by simp [hi'])
  simpa [List.getD_eq_getElem?_getD, List.getElem?_eq_getElem hi, List.getElem?_eq_getElem hi'] using this
theorem LR.head {v : PV} {v' : Value} {cs : List PV} {l : List Value} (hl : LR C h π (v :: cs) (v' :: l)) : VR C h π v v' := by
  simpa using hl.2 0 (by simp)
theorem LR.tail {v : PV} {v' : Value} {cs : List PV} {l : List Value} (hl : LR C h π (v :: cs) (v' :: l)) : LR C h π cs l :=
  ⟨by simpa using hl.1, fun i hi => by simpa using hl.2 (i + 1) (by simpa using hi)⟩
theorem LR.ind {cs : List PV} {l : List Value} (hl : LR C h π cs l) : (cs = [] ∧ l = []) ∨ ∃ v v' r r', cs = v :: r ∧ l = v' :: r' ∧ VR C h π v v' ∧ LR C h π r r' := by
  cases cs with
  | nil => cases l with
    | nil => exact .inl ⟨rfl, rfl⟩
    | cons => simp [LR] at hl
  | cons v r => cases l with
    | nil => simp [LR] at hl
    | cons v' r' => exact .inr ⟨v, v', r, r', rfl, rfl, hl.head, hl.tail⟩
theorem LR.append {cs ds : List PV} {l k : List Value} (hl : LR C h π cs l) (hk : LR C h π ds k) : LR C h π (cs ++ ds) (l ++ k) := by
  refine LR.of_get (by simp [hl.1, hk.1]) (fun i v v' h1 h2 => ?_)
  by_cases hi : i < cs.length
  · rw [List.getElem?_append_left hi] at h1
    rw [List.getElem?_append_left (by rw [hl.1]; exact hi)] at h2
    obtain ⟨u, hu, hv⟩ := hl.get h1
    rw [hu] at h2; cases h2; exact hv
  · rw [List.getElem?_append_right (by omega)] at h1
    rw [List.getElem?_append_right (by rw [hl.1]; omega), hl.1] at h2
    obtain ⟨u, hu, hv⟩ := hk.get h1
    rw [hu] at h2; cases h2; exact hv
theorem LR.take {cs : List PV} {l : List Value} (hl : LR C h π cs l) (n : Nat) : LR C h π (cs.take n) (l.take n) :=
  LR.of_get (by simp [hl.1]) (fun i v v' h1 h2 => by
    rw [List.getElem?_take] at h1 h2
    split at h1
    · rw [if_pos ‹_›] at h2
      obtain ⟨u, hu, hv⟩ := hl.get h1
      rw [hu] at h2; cases h2; exact hv
    · cases h1)
theorem LR.drop {cs : List PV} {l : List Value} (hl : LR C h π cs l) (n : Nat) : LR C h π (cs.drop n) (l.drop n) :=
  LR.of_get (by simp [hl.1]) (fun i v v' h1 h2 => by
    rw [List.getElem?_drop] at h1 h2
    obtain ⟨u, hu, hv⟩ := hl.get h1
    rw [hu] at h2; cases h2; exact hv)

/-- The cells of a block, from an offset on. -/
theorem lr_of_blk {cs : List PV} {l : List Value} {off : Nat} (hl : off + cs.length ≤ l.length) (hv : ∀ i, i < cs.length → VR C h none (cs.getD i .dead) (l.getD (off + i) undef)) : LR C h none cs ((l.drop off).take cs.length) := by
  refine ⟨by simp; omega, fun i hi => ?_⟩
  have := hv i hi
  simpa [List.getD_eq_getElem?_getD, List.getElem?_take, hi, List.getElem?_drop] using this
theorem blk_of_lr {cs : List PV} {l : List Value} {off : Nat} (hr : LR C h none cs ((l.drop off).take cs.length)) : off + cs.length ≤ l.length ∨ cs = [] := by
  have := hr.1
  simp at this
  by_cases hc : cs = []
  · exact .inr hc
  · have : 0 < cs.length := List.length_pos_iff.2 hc
    omega

theorem VR.agg_of {cs : List PV} {l : List Value} (hl : LR C h none cs l) : VR C h π (.a cs) (.agg l.toArray) := .a _ _ _ (by simpa using hl.1) (by simpa using hl.2)
theorem VR.tuple_of {cs : List PV} {l : List Value} (hl : LR C h none cs l) : VR C h π (.t cs) (.tuple l.toArray) := .t _ _ _ (by simpa using hl.1) (by simpa using hl.2)
theorem lr_of_arr {cs : List PV} {l : Array Value} (hs : l.size = cs.length) (hv : ∀ i, i < cs.length → VR C h none (cs.getD i .dead) (l.toList.getD i undef)) : LR C h none cs l.toList := ⟨by simpa using hs, hv⟩
end

/-! ### From one state to the next -/
/-- Values inside of others. -/
theorem VR.nest {C C' : Ctx} {h h' : AHeap} (hβ : ∀ b id, C.β b = some id → C'.β b = some id) (hf : ∀ id, C.fz id → C'.fz id) (hg : ∀ id, C.fz id → h'.get id = h.get id) {π : Option Pl} {v : PV} {x : Value} (hv : VR C h π v x) (hπ : π = none) : VR C' h' none v x := by
  induction hv with
  | v π x hp hn => exact .v _ x hp hn
  | un => exact .un _
  | dead => exact .dead _ _
  | nil π k c => exact .nil _ k c
  | lst π k c n cs a cap B hb hs hk hn hc hl hv ih =>
    subst hπ
    cases k with
    | fz => exact .lst _ _ _ _ _ _ _ B ((hg _ hk).trans hb) hs (hf _ hk) hn (hc.re rfl) hl (fun i hi => ih i hi rfl)
    | bor => obtain ⟨_, _, h⟩ := hk; cases h
    | own => obtain ⟨_, h, _⟩ := hk; cases h
    | rf p => obtain ⟨_, _, h⟩ := hk; cases h
    | pt p => obtain ⟨_, _, h⟩ := hk; cases h
  | r π k cs a B hb hs hk hi hl hv ih =>
    subst hπ
    cases k with
    | fz => exact .r _ _ _ _ B ((hg _ hk).trans hb) hs (hf _ hk) hi hl (fun i hi => ih i hi rfl)
    | bor => obtain ⟨_, _, h⟩ := hk; cases h
    | own => obtain ⟨_, h, _⟩ := hk; cases h
    | rf p => obtain ⟨_, _, h⟩ := hk; cases h
    | pt p => obtain ⟨_, _, h⟩ := hk; cases h
  | p π b off id hb => exact .p _ _ _ _ (hβ _ _ hb)
  | s π b off n cap id hb hc hn => exact .s _ _ _ _ _ _ (hβ _ _ hb) hc hn
  | a π cs l hs hv ih => exact .a _ _ _ hs (fun i hi => ih i hi rfl)
  | t π cs l hs hv ih => exact .t _ _ _ hs (fun i hi => ih i hi rfl)
  | f π g as bs as' bs' ha hb hA hB iA iB => exact .f _ _ _ _ _ _ ha hb (fun i hi => iA i hi rfl) (fun i hi => iB i hi rfl)
  | i π ty x x' hx ih => exact .i _ _ _ _ (ih rfl)

/-- What a value asks of the list's owner. -/
def keepsP (C C' : Ctx) (h h' : AHeap) (π π' : Option Pl) : PV → Prop
  | .l .own _ _ _ => ∀ id p, π = some p → C.ow id = some p → ∃ q, π' = some q ∧ C'.ow id = some q ∧ h'.get id = h.get id
  | .l (.rf p) _ _ _ => ∀ id, C.ow id = some p → C'.ow id = some p ∧ h'.get id = h.get id
  | .l (.pt p) _ _ _ => ∀ id, C.ow id = some p → C'.ow id = some p ∧ h'.get id = h.get id
  | .r (.pt p) _ => ∀ id, C.ow id = some p → C'.ow id = some p ∧ h'.get id = h.get id
  | _ => True

theorem VR.step {C C' : Ctx} {h h' : AHeap} (hsz : C'.sz = C.sz) (hβ : ∀ b id, C.β b = some id → C'.β b = some id) (hf : ∀ id, C.fz id → C'.fz id) (hfx : ∀ id, C.fx id → C'.fx id) (hsub : ∀ id, C.fz id → C.fx id) (hg : ∀ id, C.fx id → h'.get id = h.get id)
    {π π' : Option Pl} (hπ : ∀ t, π = some (.tmp t) → ∃ t', π' = some (.tmp t')) {v : PV} {x : Value} (hv : VR C h π v x) (hk : keepsP C C' h h' π π' v) : VR C' h' π' v x := by
  have hn : ∀ {v x}, VR C h none v x → VR C' h' none v x := fun h => h.nest hβ hf (fun id hid => hg id (hsub id hid)) rfl
  cases hv with
  | v _ x hp hn => exact .v _ x hp hn
  | un => exact .un _
  | dead => exact .dead _ _
  | nil _ k c => exact .nil _ k c
  | lst _ k c n cs a cap B hb hs ho hn' hc hl hv =>
    cases k with
    | fz => exact .lst _ _ _ _ _ _ _ B ((hg _ (hsub _ ho)).trans hb) hs (hf _ ho) hn' (hc.re rfl) hl (fun i hi => hn (hv i hi))
    | bor =>
      obtain ⟨h1, t, h2⟩ := ho
      exact .lst _ _ _ _ _ _ _ B ((hg _ h1).trans hb) hs ⟨hfx _ h1, hπ t h2⟩ hn' (hc.re rfl) hl (fun i hi => hn (hv i hi))
    | own =>
      obtain ⟨p, h1, h2⟩ := ho
      obtain ⟨q, h3, h4, h5⟩ := hk _ p h1 h2
      exact .lst _ _ _ _ _ _ _ B (h5.trans hb) hs ⟨q, h3, h4⟩ hn' (by rw [hsz]; exact hc) hl (fun i hi => hn (hv i hi))
    | rf p =>
      obtain ⟨h1, t, h2⟩ := ho
      obtain ⟨h3, h4⟩ := hk _ h1
      exact .lst _ _ _ _ _ _ _ B (h4.trans hb) hs ⟨h3, hπ t h2⟩ hn' (by rw [hsz]; exact hc) hl (fun i hi => hn (hv i hi))
    | pt p =>
      obtain ⟨h1, t, h2⟩ := ho
      obtain ⟨h3, h4⟩ := hk _ h1
      exact .lst _ _ _ _ _ _ _ B (h4.trans hb) hs ⟨h3, hπ t h2⟩ hn' (by rw [hsz]; exact hc) hl (fun i hi => hn (hv i hi))
  | r _ k cs a B hb hs ho hi hl hv =>
    cases k with
    | fz => exact .r _ _ _ _ B ((hg _ (hsub _ ho)).trans hb) hs (hf _ ho) hi hl (fun i hi => hn (hv i hi))
    | bor =>
      obtain ⟨h1, t, h2⟩ := ho
      exact .r _ _ _ _ B ((hg _ h1).trans hb) hs ⟨hfx _ h1, hπ t h2⟩ hi hl (fun i hi => hn (hv i hi))
    | own => cases hi
    | rf p => cases hi
    | pt p =>
      obtain ⟨h1, t, h2⟩ := ho
      obtain ⟨h3, h4⟩ := hk _ h1
      exact .r _ _ _ _ B (h4.trans hb) hs ⟨h3, hπ t h2⟩ hi hl (fun i hi => hn (hv i hi))
  | p _ b off id hb => exact .p _ _ _ _ (hβ _ _ hb)
  | s _ b off n cap id hb hc hn => exact .s _ _ _ _ _ _ (hβ _ _ hb) hc hn
  | a _ cs l hs hv => exact .a _ _ _ hs (fun i hi => hn (hv i hi))
  | t _ cs l hs hv => exact .t _ _ _ hs (fun i hi => hn (hv i hi))
  | f _ g as bs as' bs' ha hb hA hB => exact .f _ _ _ _ _ _ ha hb (fun i hi => hn (hA i hi)) (fun i hi => hn (hB i hi))
  | i _ ty x x' hx => exact .i _ _ _ _ (hn hx)

theorem plEq_iff {p q : Pl} : plEq p q = true ↔ p = q := by
  cases p <;> cases q <;> simp [plEq]

/-! ### The state -/
/-- The numbers of a frame: how many blocks were there, and the abstract heap's next block and mark at its start. -/
structure Fr where
  base : Nat
  n0 : Nat
  l0 : Nat

def cleanW (F : Fr) : Option Nat → Prop
  | none => True
  | some w => F.base ≤ w

structure HI (C : Ctx) (h : AHeap) (hp : List (Option (List PV))) : Prop where
  fzx : ∀ id, C.fz id → C.fx id
  fxl : ∀ id, C.fx id → id < h.next ∧ C.ow id = none
  owl : ∀ id p, C.ow id = some p → id < h.next
  βl : ∀ b id, C.β b = some id → id < h.next ∧ ¬ C.fx id ∧ C.ow id = none ∧ b < hp.length
  inj : ∀ b b' id, C.β b = some id → C.β b' = some id → b = b'
  blk : ∀ b cs, hp[b]? = some (some cs) → ∃ id B, C.β b = some id ∧ h.get id = some B ∧ B.wr = true ∧ B.unk = false ∧ B.cells.length = cs.length ∧ ∀ i, i < cs.length → VR C h (some (.cell b i)) (cs.getD i .dead) (B.cells.getD i undef)
  rf : ∀ b cs, hp[b]? = some (some cs) → ∀ v ∈ cs, refsTo b v = true

/-- What is known of the blocks that a frame turns. -/
structure LP (F : Fr) (C : Ctx) (h : AHeap) (hp : List (Option (List PV))) (wl : Option Nat) : Prop where
  n0 : F.n0 ≤ h.next
  base : F.base ≤ hp.length
  low : cleanW F wl → Nat.min F.l0 F.n0 ≤ h.low
  mine : cleanW F wl → ∀ id p, C.ow id = some p → (∀ b i, p = .cell b i → F.base ≤ b) → F.n0 ≤ id
  βm : cleanW F wl → ∀ b id, C.β b = some id → F.base ≤ b → F.n0 ≤ id

/-- What becomes of the heap. -/
structure Ext (C : Ctx) (h : AHeap) (C' : Ctx) (h' : AHeap) : Prop where
  sz : C'.sz = C.sz
  get : ∀ id, C.fx id → h'.get id = h.get id
  next : h.next ≤ h'.next
  fz : ∀ id, C.fz id → C'.fz id
  fx : ∀ id, C.fx id → C'.fx id
  new : ∀ id, C'.fz id → C.fz id ∨ ¬ C.fx id
  β : ∀ b id, C.β b = some id → C'.β b = some id

theorem Ext.refl (C : Ctx) (h : AHeap) : Ext C h C h := ⟨rfl, fun _ _ => rfl, Nat.le_refl _, fun _ h => h, fun _ h => h, fun _ h => .inl h, fun _ _ h => h⟩
theorem Ext.trans {C C1 C2 : Ctx} {h h1 h2 : AHeap} (s : Ext C h C1 h1) (t : Ext C1 h1 C2 h2) : Ext C h C2 h2 :=
  ⟨t.sz.trans s.sz, fun id hid => (t.get id (s.fx id hid)).trans (s.get id hid), Nat.le_trans s.next t.next, fun id hid => t.fz id (s.fz id hid), fun id hid => t.fx id (s.fx id hid),
    fun id hid => (t.new id hid).elim (s.new id) (fun hn => .inr (fun hx => hn (s.fx id hx))), fun b id hb => t.β b id (s.β b id hb)⟩

def tget0 (tv : Tr Value) (t : Nat) : Value :=
  match tv.get t with
  | some v => v
  | none => undef

def TR (Y : Pol) (f : FuncId) (C : Ctx) (h : AHeap) (σ : St) (tv : Tr Value) : Prop := ∀ t v, look Y f σ t = some v → VR C h (some (.tmp t)) v (tget0 tv t)

def GR (P : Program) (Y : Pol) (C : Ctx) (h : AHeap) : Prop := ∀ g cs, Y.glob[g]? = some cs → g < P.globals.size ∧ C.fz g ∧ ∃ B, h.get g = some B ∧ cs.length ≤ B.cells.length ∧ ∀ i, i < cs.length → VR C h none (cs.getD i .dead) (B.cells.getD i undef)

/-- A value that is meant for one region alone. -/
def loose : PV → Bool
  | .l (.rf _) _ _ _ => true
  | .l (.pt _) _ _ _ => true
  | .r (.pt _) _ => true
  | _ => false

structure ST (P : Program) (Y : Pol) (f : FuncId) (C : Ctx) (h : AHeap) (σ : St) (tv : Tr Value) : Prop where
  sz : C.sz = P.cellsOf
  hi : HI C h σ.hp
  tr : TR Y f C h σ tv
  nl : ∀ t v, Y.keep f t = true → σ.ts.get t = some v → loose v = false
  gr : GR P Y C h

theorem GR.ext {P : Program} {Y : Pol} {C C' : Ctx} {h h' : AHeap} (hs : ∀ id, C.fz id → C.fx id) (g : GR P Y C h) (e : Ext C h C' h') : GR P Y C' h' := fun i cs hi => by
  obtain ⟨h1, h2, B, h3, h4, h5⟩ := g i cs hi
  exact ⟨h1, e.fz _ h2, B, (e.get _ (hs _ h2)).trans h3, h4, fun k hk => (h5 k hk).nest e.β e.fz (fun id hid => e.get id (hs id hid)) rfl⟩

/-- The blocks that are spoken of. -/
def Ids (C : Ctx) (id : Nat) : Prop := C.fx id ∨ (∃ p, C.ow id = some p) ∨ ∃ b, C.β b = some id

/-- From one state to the next. -/
structure Step (K : Nat → Bool) (N : Nat → Prop) (C : Ctx) (h : AHeap) (σ : St) (C' : Ctx) (h' : AHeap) (σ' : St) : Prop where
  ext : Ext C h C' h'
  ids : ∀ id, Ids C' id → Ids C id ∨ N id
  len : σ.hp.length ≤ σ'.hp.length
  bnew : ∀ b id, C'.β b = some id → C.β b = some id ∨ σ.hp.length ≤ b
  wlm : ∀ F : Fr, cleanW F σ'.wl → cleanW F σ.wl
  loc : ∀ id t, K t = false → C'.ow id = some (.tmp t) → C.ow id = some (.tmp t) ∨ N id
  lp : ∀ F, (∀ id, N id → F.n0 ≤ id) → LP F C h σ.hp σ.wl → LP F C' h' σ'.hp σ'.wl

theorem Step.refl (K : Nat → Bool) (N : Nat → Prop) (C : Ctx) (h : AHeap) (σ : St) : Step K N C h σ C h σ := ⟨.refl C h, fun _ h => .inl h, Nat.le_refl _, fun _ _ h => .inl h, fun _ h => h, fun _ _ _ h => .inl h, fun _ _ h => h⟩
theorem Step.trans {K : Nat → Bool} {N N1 N2 : Nat → Prop} {C C1 C2 : Ctx} {h h1 h2 : AHeap} {σ σ1 σ2 : St} (s : Step K N1 C h σ C1 h1 σ1) (t : Step K N2 C1 h1 σ1 C2 h2 σ2) (h1' : ∀ id, N1 id → N id) (h2' : ∀ id, N2 id → N id) : Step K N C h σ C2 h2 σ2 :=
  ⟨s.ext.trans t.ext, fun id hid => (t.ids id hid).elim (fun h => (s.ids id h).elim .inl (fun h => .inr (h1' id h))) (fun h => .inr (h2' id h)), Nat.le_trans s.len t.len, fun b id hb => (t.bnew b id hb).elim (s.bnew b id) (fun h => .inr (Nat.le_trans s.len h)), fun F hc => s.wlm F (t.wlm F hc), fun id x hx ho => (t.loc id x hx ho).elim (fun h => (s.loc id x hx h).elim .inl (fun h => .inr (h1' id h))) (fun h => .inr (h2' id h)), fun F hN hF => t.lp F (fun id h => hN id (h2' id h)) (s.lp F (fun id h => hN id (h1' id h)) hF)⟩

end Go.Pur
