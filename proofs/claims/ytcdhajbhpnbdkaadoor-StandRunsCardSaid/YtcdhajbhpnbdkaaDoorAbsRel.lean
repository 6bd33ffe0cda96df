/-
  The abstract heap against the model's memory: values, blocks, worlds, and how they stand to one another before and behind a piece of code.
  Conditions: none; definitions and lemmas.
-/
import Derived.Test.YtcdhajbhpnbdkaaDoorAbs
import Derived.Laws.IdiomCopy
import Derived.Deep.MidRow
set_option linter.unusedSimpArgs false
set_option linter.unusedVariables false
set_option linter.unusedSectionVars false
namespace Go.Abs

/-! ### The tree -/
theorem Tr.get_nil {α : Type} (n : Nat) : (Tr.nil : Tr α).get n = none := rfl
theorem Tr.get_zero {α : Type} (t : Tr α) : t.get 0 = t.val := by cases t <;> rfl
theorem Tr.get_even {α : Type} (t : Tr α) (k : Nat) (h : k % 2 = 0) : t.get (k + 1) = t.left.get (k / 2) := by
  have h' : Nat.mod k 2 = 0 := h
  cases t with
  | nil => rfl
  | node v l r => rw [Tr.get]; simp only [h']; rfl
theorem Tr.get_odd {α : Type} (t : Tr α) (k : Nat) (h : k % 2 = 1) : t.get (k + 1) = t.right.get (k / 2) := by
  have h' : Nat.mod k 2 = 1 := h
  cases t with
  | nil => rfl
  | node v l r => rw [Tr.get]; simp only [h']; rfl
theorem Tr.setF_zero {α : Type} (a : α) (f : Nat) (t : Tr α) : Tr.setF a (f + 1) t 0 = .node (some a) t.left t.right := rfl
theorem Tr.setF_even {α : Type} (a : α) (f : Nat) (t : Tr α) (k : Nat) (h : k % 2 = 0) : Tr.setF a (f + 1) t (k + 1) = .node t.val (Tr.setF a f t.left (k / 2)) t.right := by
  have h' : Nat.mod k 2 = 0 := h
  rw [Tr.setF]; simp only [h']; rfl
theorem Tr.setF_odd {α : Type} (a : α) (f : Nat) (t : Tr α) (k : Nat) (h : k % 2 = 1) : Tr.setF a (f + 1) t (k + 1) = .node t.val t.left (Tr.setF a f t.right (k / 2)) := by
  have h' : Nat.mod k 2 = 1 := h
  rw [Tr.setF]; simp only [h']; rfl

theorem Tr.get_setF {α : Type} (a : α) : ∀ (f : Nat) (t : Tr α) (n k : Nat), n < f → (Tr.setF a f t n).get k = if k = n then some a else t.get k
  | 0, _, _, _, h => absurd h (Nat.not_lt_zero _)
  | f + 1, t, 0, k, _ => by
    rw [Tr.setF_zero]
    cases k with
    | zero => simp [Tr.get_zero, Tr.val]
    | succ k =>
      rcases Nat.mod_two_eq_zero_or_one k with hk | hk
      · rw [Tr.get_even _ _ hk, Tr.get_even _ _ hk, if_neg (by omega)]; rfl
      · rw [Tr.get_odd _ _ hk, Tr.get_odd _ _ hk, if_neg (by omega)]; rfl
  | f + 1, t, n + 1, k, h => by
    have ih := fun (t : Tr α) j => Tr.get_setF a f t (n / 2) j (by omega)
    rcases Nat.mod_two_eq_zero_or_one n with hn | hn
    · rw [Tr.setF_even _ _ _ _ hn]
      cases k with
      | zero => rw [Tr.get_zero, Tr.get_zero, if_neg (by omega)]; rfl
      | succ k =>
        rcases Nat.mod_two_eq_zero_or_one k with hk | hk
        · rw [Tr.get_even _ _ hk, Tr.get_even _ _ hk]
          show (Tr.setF a f t.left (n / 2)).get (k / 2) = _
          rw [ih]
          have : (k / 2 = n / 2) ↔ (k + 1 = n + 1) := by omega
          simp [this]
        · rw [Tr.get_odd _ _ hk, Tr.get_odd _ _ hk, if_neg (by omega)]; rfl
    · rw [Tr.setF_odd _ _ _ _ hn]
      cases k with
      | zero => rw [Tr.get_zero, Tr.get_zero, if_neg (by omega)]; rfl
      | succ k =>
        rcases Nat.mod_two_eq_zero_or_one k with hk | hk
        · rw [Tr.get_even _ _ hk, Tr.get_even _ _ hk, if_neg (by omega)]; rfl
        · rw [Tr.get_odd _ _ hk, Tr.get_odd _ _ hk]
          show (Tr.setF a f t.right (n / 2)).get (k / 2) = _
          rw [ih]
          have : (k / 2 = n / 2) ↔ (k + 1 = n + 1) := by omega
          simp [this]

theorem Tr.get_set {α : Type} (t : Tr α) (n k : Nat) (a : α) : (t.set n a).get k = if k = n then some a else t.get k :=
  Tr.get_setF a (n + 1) t n k (Nat.lt_succ_self n)

theorem AHeap.get_put (h : AHeap) (a k : Nat) (b : Option Blk) : (h.put a b).get k = if k = a then b else h.get k := by
  simp only [AHeap.get, AHeap.put, Tr.get_set]
  split <;> rename_i hh <;> split at hh <;> simp_all

theorem AHeap.get_alloc (h : AHeap) (b : Blk) (k : Nat) : (h.alloc b).get k = if k = h.next then some b else h.get k := by
  simp only [AHeap.get, AHeap.alloc, Tr.get_set]
  split <;> rename_i hh <;> split at hh <;> simp_all

/-! ### Values -/
structure Loc where
  b : Nat
  base : Nat
  cap : Nat

abbrev BMap := Nat → Option Loc

inductive VRel (m : BMap) : Value → Value → Prop where
  | plain (v : Value) (h : plain v = true) : VRel m v v
  | ptr (a : Addr) (L : Loc) (hm : m a.block = some L) (hs : a.spot = none) : VRel m (.pointer (some a)) (.pointer (some ⟨L.b, L.base + a.off, none⟩))
  | slice (a : Addr) (L : Loc) (n c : Nat) (hm : m a.block = some L) (hs : a.spot = none) (hc : c < unkCap) : VRel m (.slice (some a) n c) (.slice (some ⟨L.b, L.base + a.off, none⟩) n c)
  | unk (a : Addr) (L : Loc) (n : Nat) (hm : m a.block = some L) (hs : a.spot = none) (h0 : a.off = 0) (hb : L.base = 0) (hn : n ≤ L.cap) : VRel m (.slice (some a) n unkCap) (.slice (some ⟨L.b, 0, none⟩) n L.cap)
  | ro (a a' : Addr) (n c' : Nat) (hn : n ≤ c') (hs : n ≠ 0 → ∃ L, m a.block = some L ∧ a.spot = none ∧ a' = ⟨L.b, L.base + a.off, none⟩) : VRel m (.slice (some a) n roCap) (.slice (some a') n c')
  | func (fn : Fn) (as as' bs bs' : Array Value) (ha : as.size = as'.size) (hb : bs.size = bs'.size)
      (hA : ∀ i, VRel m (as.getD i undef) (as'.getD i undef)) (hB : ∀ i, VRel m (bs.getD i undef) (bs'.getD i undef)) : VRel m (.func fn as bs) (.func fn as' bs')
  | iface (t : TypeId) (v v' : Value) (h : VRel m v v') : VRel m (.iface t v) (.iface t v')
  | agg (cs cs' : Array Value) (hs : cs.size = cs'.size) (h : ∀ i, i < cs.size → VRel m (cs.getD i undef) (cs'.getD i undef)) : VRel m (.agg cs) (.agg cs')
  | tuple (cs cs' : Array Value) (hs : cs.size = cs'.size) (h : ∀ i, i < cs.size → VRel m (cs.getD i undef) (cs'.getD i undef)) : VRel m (.tuple cs) (.tuple cs')

theorem VRel.undef (m : BMap) : VRel m undef undef := .tuple #[] #[] rfl (fun i hi => absurd hi (Nat.not_lt_zero _))

theorem VRel.mono {m m' : BMap} (hm : ∀ a L, m a = some L → m' a = some L) {v v' : Value} (h : VRel m v v') : VRel m' v v' := by
  induction h with
  | plain v h => exact .plain v h
  | ptr a L hm' hs => exact .ptr a L (hm _ _ hm') hs
  | slice a L n c hm' hs hc => exact .slice a L n c (hm _ _ hm') hs hc
  | unk a L n hm' hs h0 hb hn => exact .unk a L n (hm _ _ hm') hs h0 hb hn
  | ro a a' n c' hn hs => exact .ro a a' n c' hn (fun h => let ⟨L, h1, h2⟩ := hs h; ⟨L, hm _ _ h1, h2⟩)
  | func fn as as' bs bs' ha hb _ _ iA iB => exact .func fn as as' bs bs' ha hb iA iB
  | iface t v v' _ ih => exact .iface t v v' ih
  | agg cs cs' hs _ ih => exact .agg cs cs' hs ih
  | tuple cs cs' hs _ ih => exact .tuple cs cs' hs ih

/-- Lists of values, one by one. -/
def LRel (m : BMap) (l l' : List Value) : Prop := l.length = l'.length ∧ ∀ i, i < l.length → VRel m (l.getD i undef) (l'.getD i undef)

theorem LRel.mono {m m' : BMap} (hm : ∀ a L, m a = some L → m' a = some L) {l l' : List Value} (h : LRel m l l') : LRel m' l l' :=
  ⟨h.1, fun i hi => (h.2 i hi).mono hm⟩

theorem LRel.nil (m : BMap) : LRel m [] [] := ⟨rfl, fun i hi => absurd hi (Nat.not_lt_zero _)⟩

theorem LRel.cons {m : BMap} {v v' : Value} {l l' : List Value} (h : VRel m v v') (hl : LRel m l l') : LRel m (v :: l) (v' :: l') := by
  refine ⟨by simp [hl.1], fun i hi => ?_⟩
  cases i with
  | zero => simpa using h
  | succ i => simpa using hl.2 i (by simpa using hi)

theorem LRel.head {m : BMap} {v v' : Value} {l l' : List Value} (h : LRel m (v :: l) (v' :: l')) : VRel m v v' := by
  simpa using h.2 0 (by simp)

theorem LRel.tail {m : BMap} {v v' : Value} {l l' : List Value} (h : LRel m (v :: l) (v' :: l')) : LRel m l l' := by
  refine ⟨by simpa using h.1, fun i hi => by simpa using h.2 (i + 1) (by simpa using hi)⟩

theorem LRel.ind {m : BMap} {l l' : List Value} (h : LRel m l l') : (l = [] ∧ l' = []) ∨ ∃ v v' r r', l = v :: r ∧ l' = v' :: r' ∧ VRel m v v' ∧ LRel m r r' := by
  cases l with
  | nil => cases l' with
    | nil => exact .inl ⟨rfl, rfl⟩
    | cons => simp [LRel] at h
  | cons v r => cases l' with
    | nil => simp [LRel] at h
    | cons v' r' => exact .inr ⟨v, v', r, r', rfl, rfl, h.head, h.tail⟩

theorem LRel.append {m : BMap} : ∀ {l l' r r' : List Value}, LRel m l l' → LRel m r r' → LRel m (l ++ r) (l' ++ r') := by
  intro l
  induction l with
  | nil => intro l' r r' h hr; rcases h.ind with ⟨_, rfl⟩ | ⟨_, _, _, _, h, _⟩
           · exact hr
           · cases h
  | cons v l ih =>
    intro l' r r' h hr
    rcases h.ind with ⟨h, _⟩ | ⟨v, v', q, q', h1, rfl, hv, hq⟩
    · cases h
    · cases h1; exact LRel.cons hv (ih hq hr)

theorem LRel.get {m : BMap} {l l' : List Value} (h : LRel m l l') {i : Nat} {v : Value} (hi : l[i]? = some v) : ∃ v', l'[i]? = some v' ∧ VRel m v v' := by
  obtain ⟨hlt, he⟩ := List.getElem?_eq_some_iff.1 hi
  have hlt' : i < l'.length := h.1 ▸ hlt
  refine ⟨l'[i], by simp [hlt'], ?_⟩
  have := h.2 i hlt
  simp only [List.getD_eq_getElem?_getD, List.getElem?_eq_getElem hlt, List.getElem?_eq_getElem hlt', Option.getD_some, he] at this
  exact this

theorem LRel.of_get {m : BMap} {l l' : List Value} (hl : l.length = l'.length) (h : ∀ (i : Nat) v v', l[i]? = some v → l'[i]? = some v' → VRel m v v') : LRel m l l' := by
  refine ⟨hl, fun i hi => ?_⟩
  have hi' : i < l'.length := hl ▸ hi
  have := h i l[i] l'[i] (by simp [hi]) (by simp [hi'])
  simpa [List.getD_eq_getElem?_getD, List.getElem?_eq_getElem hi, List.getElem?_eq_getElem hi'] using this

theorem LRel.drop {m : BMap} {l l' : List Value} (h : LRel m l l') (n : Nat) : LRel m (l.drop n) (l'.drop n) :=
  LRel.of_get (by simp [h.1]) (fun i v v' h1 h2 => by
    rw [List.getElem?_drop] at h1 h2
    obtain ⟨u, hu, hr⟩ := h.get h1
    rw [hu] at h2; cases h2; exact hr)

theorem LRel.take {m : BMap} {l l' : List Value} (h : LRel m l l') (n : Nat) : LRel m (l.take n) (l'.take n) :=
  LRel.of_get (by simp [h.1]) (fun i v v' h1 h2 => by
    rw [List.getElem?_take] at h1 h2
    split at h1
    · rw [if_pos ‹_›] at h2
      obtain ⟨u, hu, hr⟩ := h.get h1
      rw [hu] at h2; cases h2; exact hr
    · cases h1)

theorem lrel_of_arr {m : BMap} {cs cs' : Array Value} (hs : cs.size = cs'.size) (h : ∀ i, i < cs.size → VRel m (cs.getD i Go.undef) (cs'.getD i Go.undef)) : LRel m cs.toList cs'.toList := by
  refine ⟨by simpa using hs, fun i hi => ?_⟩
  have hi1 : i < cs.size := by simpa using hi
  have hi2 : i < cs'.size := hs ▸ hi1
  simpa [List.getD_eq_getElem?_getD, Array.getD, hi1, hi2] using h i hi1

theorem arr_of_lrel {m : BMap} {l l' : List Value} (h : LRel m l l') : l.toArray.size = l'.toArray.size ∧ ∀ i, i < l.toArray.size → VRel m (l.toArray.getD i Go.undef) (l'.toArray.getD i Go.undef) := by
  refine ⟨by simpa using h.1, fun i hi => ?_⟩
  have hi1 : i < l.length := by simpa using hi
  have hi2 : i < l'.length := h.1 ▸ hi1
  simpa [List.getD_eq_getElem?_getD, Array.getD, hi1, hi2] using h.2 i hi1

theorem VRel.agg_of {m : BMap} {l l' : List Value} (h : LRel m l l') : VRel m (.agg l.toArray) (.agg l'.toArray) :=
  let ⟨h1, h2⟩ := arr_of_lrel h; .agg _ _ h1 h2
theorem VRel.tuple_of {m : BMap} {l l' : List Value} (h : LRel m l l') : VRel m (.tuple l.toArray) (.tuple l'.toArray) :=
  let ⟨h1, h2⟩ := arr_of_lrel h; .tuple _ _ h1 h2

/-! ### What a related value looks like -/
section inv
variable {m : BMap} {v' : Value}

theorem VRel.inv_plain {v : Value} (h : VRel m v v') (hp : Abs.plain v = true) : v' = v := by
  cases h <;> first | rfl | simp [Abs.plain] at hp

theorem VRel.inv_plainV {v : Value} (h : VRel m v v') (hp : plainV v = true) : v' = v := by
  cases h with
  | agg cs cs' hs hh =>
    congr 1
    apply Array.ext hs.symm
    intro i h1 h2
    have h3 := hh i h2
    have hi : cs[i] ∈ cs.toList := by simp
    have hp1 := List.all_eq_true.1 hp _ hi
    simp only [Array.getD, h2, h1, dif_pos] at h3
    exact h3.inv_plain hp1
  | _ => first | rfl | (simp [plainV, Abs.plain] at hp)

theorem VRel.of_plainV {v : Value} (hp : plainV v = true) : VRel m v v := by
  cases v with
  | agg cs => exact .agg cs cs rfl (fun i hi => by
      have hp1 := List.all_eq_true.1 hp cs[i] (by simp)
      simp only [Array.getD, hi, dif_pos]
      exact .plain _ hp1)
  | _ => exact .plain _ (by simpa [plainV] using hp)

theorem VRel.inv_bool {b : Bool} (h : VRel m (.bool b) v') : v' = .bool b := h.inv_plain rfl
theorem VRel.inv_int {k : IntKind} {n : Int} (h : VRel m (.int k n) v') : v' = .int k n := h.inv_plain rfl
theorem VRel.inv_string {s : ByteArray} (h : VRel m (.string s) v') : v' = .string s := h.inv_plain rfl
theorem VRel.inv_snil {n c : Nat} (h : VRel m (.slice none n c) v') : v' = .slice none n c := h.inv_plain rfl

theorem VRel.inv_ptr {a : Addr} (h : VRel m (.pointer (some a)) v') : ∃ L, m a.block = some L ∧ a.spot = none ∧ v' = .pointer (some ⟨L.b, L.base + a.off, none⟩) := by
  cases h with
  | plain _ h => simp [Abs.plain] at h
  | ptr _ L hm hs => exact ⟨L, hm, hs, rfl⟩

theorem VRel.inv_agg {cs : Array Value} (h : VRel m (.agg cs) v') : ∃ cs', v' = .agg cs' ∧ LRel m cs.toList cs'.toList := by
  cases h with
  | plain _ h => simp [Abs.plain] at h
  | agg _ cs' hs hh => exact ⟨cs', rfl, lrel_of_arr hs hh⟩

theorem VRel.inv_tuple {cs : Array Value} (h : VRel m (.tuple cs) v') : ∃ cs', v' = .tuple cs' ∧ LRel m cs.toList cs'.toList := by
  cases h with
  | plain _ h => simp [Abs.plain] at h
  | tuple _ cs' hs hh => exact ⟨cs', rfl, lrel_of_arr hs hh⟩

/-- A slice that is not nil. -/
theorem VRel.inv_slice {a : Addr} {n c : Nat} (h : VRel m (.slice (some a) n c) v') : ∃ a' c', v' = .slice (some a') n c' ∧
    (n ≠ 0 ∨ c ≠ roCap → ∃ L, m a.block = some L ∧ a.spot = none ∧ a' = ⟨L.b, L.base + a.off, none⟩ ∧ (c = unkCap → a.off = 0 ∧ L.base = 0 ∧ c' = L.cap)) ∧ (c < unkCap → c' = c) ∧ (unkCap ≤ c → (c = unkCap ∨ c = roCap) ∧ n ≤ c') := by
  cases h with
  | plain _ h => simp [Abs.plain] at h
  | slice _ L _ _ hm hs hc => exact ⟨_, _, rfl, fun _ => ⟨L, hm, hs, rfl, fun e => by rw [e] at hc; exact absurd hc (Nat.lt_irrefl _)⟩, fun _ => rfl, fun h => absurd hc (Nat.not_lt.2 h)⟩
  | unk _ L _ hm hs h0 hb hn => exact ⟨_, _, rfl, fun _ => ⟨L, hm, hs, by rw [hb, h0], fun _ => ⟨h0, hb, rfl⟩⟩, fun h => absurd h (Nat.lt_irrefl _), fun _ => ⟨.inl rfl, hn⟩⟩
  | ro _ a' _ c' hn hs => exact ⟨_, _, rfl, fun h => by
      have hn0 : n ≠ 0 := by rcases h with h | h; exact h; exact absurd rfl h
      obtain ⟨L, h1, h2, h3⟩ := hs hn0
      exact ⟨L, h1, h2, h3, fun e => absurd e (by decide)⟩, fun h => absurd h (by decide), fun _ => ⟨.inr rfl, hn⟩⟩

theorem VRel.inv_func {fn : Fn} {as bs : Array Value} (h : VRel m (.func fn as bs) v') : ∃ as' bs', v' = .func fn as' bs' ∧ LRel m as.toList as'.toList ∧ LRel m bs.toList bs'.toList := by
  cases h with
  | plain _ h => simp [Abs.plain] at h
  | func _ _ as' _ bs' ha hb hA hB => exact ⟨as', bs', rfl, lrel_of_arr ha (fun i _ => hA i), lrel_of_arr hb (fun i _ => hB i)⟩

theorem VRel.func_of {fn : Fn} {l l' r r' : List Value} (h : LRel m l l') (hr : LRel m r r') : VRel m (.func fn l.toArray r.toArray) (.func fn l'.toArray r'.toArray) := by
  have one : ∀ {l l' : List Value}, LRel m l l' → ∀ i, VRel m (l.toArray.getD i Go.undef) (l'.toArray.getD i Go.undef) := fun {l l'} h i => by
    by_cases hi : i < l.length
    · exact (arr_of_lrel h).2 i (by simpa using hi)
    · have hi' : ¬ i < l'.length := h.1 ▸ hi
      simp [Array.getD, hi, hi']
      exact VRel.undef m
  exact .func fn _ _ _ _ (by simpa using h.1) (by simpa using hr.1) (one h) (one hr)

theorem VRel.oneCell {v : Value} (h : VRel m v v') : v'.oneCell' = v.oneCell' := by
  cases h <;> rfl

theorem VRel.cells {v : Value} (h : VRel m v v') : LRel m (vcells v) v'.cells.toList := by
  have one : ∀ {u u' : Value}, VRel m u u' → LRel m [u] [u'] := fun h => LRel.cons h (LRel.nil m)
  cases h with
  | agg cs cs' hs hh => exact lrel_of_arr hs hh
  | plain _ h =>
    cases v' <;> first | exact one (.plain _ h) | simp [Abs.plain] at h
  | ptr a L hm hs => exact one (.ptr a L hm hs)
  | slice a L n c hm hs hc => exact one (.slice a L n c hm hs hc)
  | unk a L n hm hs h0 hb hn => exact one (.unk a L n hm hs h0 hb hn)
  | ro a a' n c' hn hs => exact one (.ro a a' n c' hn hs)
  | func fn as as' bs bs' ha hb hA hB => exact one (.func fn as as' bs bs' ha hb hA hB)
  | iface t v v' h => exact one (.iface t v v' h)
  | tuple cs cs' hs hh => exact one (.tuple cs cs' hs hh)
end inv

/-! ### Worlds -/
/-- Block B of the abstract heap lies at L. -/
def BlkRel (P : Program) (m : BMap) (w : World) (B : Blk) (L : Loc) : Prop :=
  ∃ C e fr, w.heap[L.b]? = some (.cells C e fr) ∧ (B.wr = true → fr = (0, 0)) ∧ L.base + B.cells.length ≤ C.size ∧
    (∀ i, i < B.cells.length → VRel m (B.cells.getD i undef) (C.getD (L.base + i) undef)) ∧
    (B.unk = true → B.wr = true ∧ L.base = 0 ∧ C.size = L.cap * P.cellsOf B.elem)

structure Rel (P : Program) (m : BMap) (h : AHeap) (w : World) : Prop where
  lt : ∀ a L, m a = some L → L.b < w.heap.size
  fresh : ∀ a, h.next ≤ a → m a = none
  blk : ∀ a B L, h.get a = some B → m a = some L → BlkRel P m w B L
  inj : ∀ a a' B B' L L', h.get a = some B → h.get a' = some B' → m a = some L → m a' = some L' → L.b = L'.b → a ≠ a' → B.wr = false ∧ B'.wr = false
  glob : ∀ g, g < P.globals.size → m g = some ⟨g, 0, 0⟩
  wf : ∀ a, h.next ≤ a → h.get a = none

structure Sim (m : BMap) (h : AHeap) (w : World) (m' : BMap) (h' : AHeap) (w' : World) : Prop where
  ext : ∀ a L, m a = some L → m' a = some L
  os : w'.os = w.os
  output : w'.output = w.output
  tape : w'.tape = w.tape
  size : w.heap.size ≤ w'.heap.size
  frame : ∀ r, r < w.heap.size → (∀ a B L, h.get a = some B → B.wr = true → m a = some L → h'.low ≤ a → L.b ≠ r) → w'.heap[r]? = w.heap[r]?
  img : ∀ a L, m' a = some L → m a = some L ∨ w.heap.size ≤ L.b ∨ ∃ a0 B0 L0, h.get a0 = some B0 ∧ B0.wr = true ∧ m a0 = some L0 ∧ L0.b = L.b ∧ h'.low ≤ a0
  low : h'.low ≤ h.low
  next : h.next ≤ h'.next
  newm : ∀ a, a < h.next → m' a = m a
  old : ∀ a, a < h.next → a < h'.low → h'.get a = h.get a
  dead : ∀ a, a < h.next → h.get a = none → h'.get a = none
  wrs : ∀ a B', a < h.next → h'.get a = some B' → ∃ B, h.get a = some B ∧ B.wr = B'.wr

theorem Sim.refl (m : BMap) (h : AHeap) (w : World) : Sim m h w m h w where
  ext := fun _ _ h => h
  os := rfl
  output := rfl
  tape := rfl
  size := Nat.le_refl _
  frame := fun _ _ _ => rfl
  img := fun _ _ h => .inl h
  low := Nat.le_refl _
  next := Nat.le_refl _
  newm := fun _ _ => rfl
  old := fun _ _ _ => rfl
  dead := fun _ _ h => h
  wrs := fun _ B' _ h => ⟨B', h, rfl⟩

theorem Sim.trans {P : Program} {m m1 m2 : BMap} {h h1 h2 : AHeap} {w w1 w2 : World} (hr : Rel P m h w) (s1 : Sim m h w m1 h1 w1) (s2 : Sim m1 h1 w1 m2 h2 w2) : Sim m h w m2 h2 w2 where
  ext := fun a L hh => s2.ext a L (s1.ext a L hh)
  os := s2.os.trans s1.os
  output := s2.output.trans s1.output
  tape := s2.tape.trans s1.tape
  size := Nat.le_trans s1.size s2.size
  frame := fun r hlt hno => by
    have hl := s2.low
    rw [s2.frame r (Nat.lt_of_lt_of_le hlt s1.size) (fun a B L hg hw hm ha => ?_), s1.frame r hlt (fun a B L hg hw hm ha => hno a B L hg hw hm (Nat.le_trans hl ha))]
    rcases s1.img a L hm with h0 | h0 | ⟨a0, B0, L0, g0, w0, m0, e0, l0⟩
    · have hn : a < h.next := by
        rcases Nat.lt_or_ge a h.next with h' | h'
        · exact h'
        · rw [hr.fresh a h'] at h0; cases h0
      obtain ⟨B0, hg0, hw0⟩ := s1.wrs a B hn hg
      exact hno a B0 L hg0 (hw0.trans hw) h0 ha
    · intro e; omega
    · rw [← e0]
      exact hno a0 B0 L0 g0 w0 m0 (Nat.le_trans hl l0)
  img := fun a L hh => by
    have hl := s2.low
    rcases s2.img a L hh with h0 | h0 | ⟨a1, B1, L1, g1, w1', m1', e1, l1⟩
    · rcases s1.img a L h0 with h0 | h0 | ⟨a0, B0, L0, g0, w0, m0, e0, l0⟩
      · exact .inl h0
      · exact .inr (.inl h0)
      · exact .inr (.inr ⟨a0, B0, L0, g0, w0, m0, e0, Nat.le_trans hl l0⟩)
    · exact .inr (.inl (Nat.le_trans s1.size h0))
    · rcases s1.img a1 L1 m1' with h0 | h0 | ⟨a0, B0, L0, g0, w0, m0, e0, l0⟩
      · have hn : a1 < h.next := by
          rcases Nat.lt_or_ge a1 h.next with h' | h'
          · exact h'
          · rw [hr.fresh a1 h'] at h0; cases h0
        obtain ⟨B0, hg0, hw0⟩ := s1.wrs a1 B1 hn g1
        exact .inr (.inr ⟨a1, B0, L1, hg0, hw0.trans w1', h0, e1, l1⟩)
      · exact .inr (.inl (e1 ▸ h0))
      · exact .inr (.inr ⟨a0, B0, L0, g0, w0, m0, e0.trans e1, Nat.le_trans hl l0⟩)
  low := Nat.le_trans s2.low s1.low
  next := Nat.le_trans s1.next s2.next
  newm := fun a ha => (s2.newm a (Nat.lt_of_lt_of_le ha s1.next)).trans (s1.newm a ha)
  old := fun a ha hl => (s2.old a (Nat.lt_of_lt_of_le ha s1.next) hl).trans (s1.old a ha (Nat.lt_of_lt_of_le hl s2.low))
  dead := fun a ha hd => s2.dead a (Nat.lt_of_lt_of_le ha s1.next) (s1.dead a ha hd)
  wrs := fun a B' ha hg => by
    obtain ⟨B1, hg1, hw1⟩ := s2.wrs a B' (Nat.lt_of_lt_of_le ha s1.next) hg
    obtain ⟨B0, hg0, hw0⟩ := s1.wrs a B1 ha hg1
    exact ⟨B0, hg0, hw0.trans hw1⟩

/-- The mark 'low' may be set anew ahead of a piece, and the least of the two taken behind it. -/
theorem Sim.relow {m m' : BMap} {h h' : AHeap} {w w' : World} {k : Nat} (s : Sim m { h with low := k } w m' h' w') : Sim m h w m' { h' with low := Nat.min h.low h'.low } w' where
  ext := s.ext
  os := s.os
  output := s.output
  tape := s.tape
  size := s.size
  frame := fun r hlt hno => s.frame r hlt (fun a B L hg hw hm ha => hno a B L hg hw hm (Nat.le_trans (Nat.min_le_right _ _) ha))
  img := fun a L hh => by
    rcases s.img a L hh with h0 | h0 | ⟨a0, B0, L0, g0, w0, m0, e0, l0⟩
    · exact .inl h0
    · exact .inr (.inl h0)
    · exact .inr (.inr ⟨a0, B0, L0, g0, w0, m0, e0, Nat.le_trans (Nat.min_le_right _ _) l0⟩)
  low := Nat.min_le_left _ _
  next := s.next
  newm := s.newm
  old := fun a ha hl => s.old a ha (Nat.lt_of_lt_of_le hl (Nat.min_le_right _ _))
  dead := s.dead
  wrs := s.wrs

theorem Rel.relow {P : Program} {m : BMap} {h : AHeap} {w : World} (k : Nat) (r : Rel P m h w) : Rel P m { h with low := k } w :=
  ⟨r.lt, r.fresh, r.blk, r.inj, r.glob, r.wf⟩

theorem BlkRel.mono {P : Program} {m m' : BMap} (hm : ∀ a L, m a = some L → m' a = some L) {w : World} {B : Blk} {L : Loc} (h : BlkRel P m w B L) : BlkRel P m' w B L :=
  let ⟨C, e, fr, h1, h2, h3, h4, h5⟩ := h; ⟨C, e, fr, h1, h2, h3, fun i hi => (h4 i hi).mono hm, h5⟩

theorem BlkRel.same {P : Program} {m : BMap} {w w' : World} {B : Blk} {L : Loc} (h : BlkRel P m w B L) (hw : w'.heap[L.b]? = w.heap[L.b]?) : BlkRel P m w' B L :=
  let ⟨C, e, fr, h1, h2, h3, h4, h5⟩ := h; ⟨C, e, fr, hw.trans h1, h2, h3, h4, h5⟩

/-- The cells of a block that is there, as a list, from an offset on. -/
theorem BlkRel.cells {P : Program} {m : BMap} {w : World} {B : Blk} {L : Loc} (h : BlkRel P m w B L) : ∃ cs : List Value, LRel m B.cells cs ∧ w.rangeAt L.b L.base cs := by
  obtain ⟨C, e, fr, h1, h2, h3, h4, h5⟩ := h
  refine ⟨(C.extract L.base (L.base + B.cells.length)).toList, LRel.of_get (by simp; omega) (fun i v v' hv hv' => ?_), World.rangeAt_of_block h1 _ _⟩
  obtain ⟨hi, he⟩ := List.getElem?_eq_some_iff.1 hv
  have := h4 i hi
  have hlt : L.base + i < C.size := by omega
  simp only [Array.getElem?_toList, Array.getElem?_extract] at hv'
  split at hv'
  · rw [Array.getElem?_eq_getElem hlt] at hv'
    simp only [List.getD_eq_getElem?_getD, List.getElem?_eq_getElem hi, Option.getD_some, Array.getD, hlt, dif_pos, he] at this
    cases hv'
    exact this
  · cases hv'

theorem takeN_some {n : Nat} {l r : List Value} (h : takeN n l = some r) : r = l.take n ∧ n ≤ l.length := by
  induction n generalizing l r with
  | zero => simp [takeN] at h; simp [← h]
  | succ n ih =>
    cases l with
    | nil => simp [takeN] at h
    | cons x l =>
      simp only [takeN] at h
      split at h
      · rename_i r' hr
        cases h
        obtain ⟨h1, h2⟩ := ih hr
        exact ⟨by simp [h1], by simpa using h2⟩
      · cases h

theorem spliceR_some {n : Nat} {acc vs l r : List Value} (h : spliceR n acc vs l = some r) : n + vs.length ≤ l.length ∧ r = acc.reverse ++ (l.take n ++ (vs ++ l.drop (n + vs.length))) := by
  induction n generalizing acc l with
  | zero =>
    simp only [spliceR] at h
    split at h
    · rename_i hb
      cases h
      exact ⟨by simpa using Nat.le_of_ble_eq_true hb, by simp [List.reverseAux_eq]⟩
    · cases h
  | succ n ih =>
    cases l with
    | nil => simp [spliceR] at h
    | cons x l =>
      obtain ⟨h1, h2⟩ := ih (acc := x :: acc) (by simpa [spliceR] using h)
      refine ⟨by simp; omega, ?_⟩
      rw [h2, show n + 1 + vs.length = (n + vs.length) + 1 by omega]
      simp

theorem splice_some {n : Nat} {vs l r : List Value} (h : splice n vs l = some r) : n + vs.length ≤ l.length ∧ r = l.take n ++ (vs ++ l.drop (n + vs.length)) := by
  simpa using spliceR_some h

end Go.Abs
