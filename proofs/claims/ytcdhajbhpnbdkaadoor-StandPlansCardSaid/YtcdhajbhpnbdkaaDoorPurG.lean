/-
  Plain pieces of what functions compute, and what the walk needs of each; loops whose plain functions take fuel.
  Conditions: none; definitions and lemmas.
-/
import Derived.Test.YtcdhajbhpnbdkaaDoorPurF
set_option linter.unusedSimpArgs false
set_option linter.unusedVariables false
set_option linter.unusedSectionVars false
namespace Go.Pur
open Go.Abs
theorem bind_ok {α β : Type} {x : Option α} {f : α → Option β} {r : β} (h : x.bind f = some r) : ∃ a, x = some a ∧ f a = some r := by
  cases x with
  | none => cases h
  | some a => exact ⟨a, rfl, h⟩
theorem bindT {α β : Type} {a : α} {f : α → Option β} {r : β} (h : (some a).bind f = some r) : ∃ x, a = x ∧ f x = some r := ⟨a, rfl, h⟩
theorem inj_ok {α : Type} {a b : α} (h : some a = some b) : a = b := Option.some.inj h
theorem iv_def {n : Int} : iv n = .v (.int .i64 n) := rfl
abbrev kv (k : IntKind) (z : Int) : PV := .v (.int k z)
def lv (p : Ck × List Int) : PV := .l .fz p.1 p.2.length (p.2.map iv)
def tv (l : List UInt8) : PV := .v (.string (bs l))
def rows (l : List (Int × Int)) : List PV := l.flatMap fun p => [iv p.1, iv p.2]
theorem rows_len : ∀ {l : List (Int × Int)}, (rows l).length = l.length * 2
  | [] => rfl
  | p :: l => by
    have := rows_len (l := l)
    simp only [rows, List.flatMap_cons, List.length_append, List.length_cons, List.length_nil] at this ⊢
    omega
theorem rows_app {l m : List (Int × Int)} : rows (l ++ m) = rows l ++ rows m := List.flatMap_append
theorem rows_nil : rows [] = [] := rfl
theorem rows_cons {p : Int × Int} {l : List (Int × Int)} : rows (p :: l) = iv p.1 :: iv p.2 :: rows l := rfl
section
variable {α : Type} {l l' r x : List α} {v y : α} {i z : Int} {n k : Nat} {f : α → PV}
def gI (l : List α) (i : Int) : Option α := match i with
  | .ofNat k => l[k]?
  | .negSucc _ => none
theorem gI_ok (hn : l.length = n) (h : gI l i = some y) : (∀ k, intIn n (.int k i) = some i.toNat) ∧ i.toNat < n ∧ Nat.ble (i.toNat + 1) n = true ∧ l[i.toNat]? = some y ∧ i = (i.toNat : Int) := by
  cases i with
  | negSucc k => cases h
  | ofNat k =>
    have h1 : k < l.length := (List.getElem?_eq_some_iff.1 h).1
    rw [hn] at h1
    exact ⟨fun _ => intIn_nat h1, h1, ble_true h1, h, rfl⟩
theorem gI_lit (hn : l.length = n) (h : gI l (k : Int) = some y) : (∀ j, intIn n (.int j (k : Int)) = some k) ∧ Nat.ble (k + 1) n = true ∧ l[k]? = some y :=
  have h1 := gI_ok hn h
  ⟨h1.1, h1.2.2.1, h1.2.2.2.1⟩
def sI (l : List α) (i : Int) (v : α) : Option (List α) := match i with
  | .ofNat k => match Nat.blt k l.length with
    | true => some (l.set k v)
    | false => none
  | .negSucc _ => none
theorem splice_set {off : Nat} {v : PV} {cs : List PV} (h : off < cs.length) : spliceP off [v] cs = some (cs.set off v) := by
  unfold spliceP
  rw [show Nat.ble (off + [v].length) cs.length = true from ble_true h]
  simp only []
  rw [List.set_eq_take_append_cons_drop, if_pos h]
  simp
theorem sI_ok (f : α → PV) (hn : l.length = n) (h : sI l i v = some x) : (∀ k, intIn n (.int k i) = some i.toNat) ∧ i.toNat < n ∧ x.length = n ∧ spliceP i.toNat [f v] (l.map f) = some (x.map f) ∧ x = l.set i.toNat v := by
  cases i with
  | negSucc k => cases h
  | ofNat k =>
    unfold sI at h
    cases hb : Nat.blt k l.length with
    | false => simp [hb] at h
    | true =>
      have h1 : k < l.length := Nat.le_of_ble_eq_true hb
      simp [hb] at h
      subst h
      rw [hn] at h1
      refine ⟨fun _ => intIn_nat h1, h1, by simpa using hn, ?_, rfl⟩
      rw [show (Int.ofNat k).toNat = k from rfl, splice_set (by simpa [hn] using h1)]
      simp
def app1 (l : List α) (v : α) : Option (List α) := match Nat.ble l.length 1000000 with
  | true => some (l ++ [v])
  | false => none
theorem app1_ok (f : α → PV) (h : app1 l v = some x) : l.length + 1 = x.length ∧ (∀ k, k ≤ 1000 → Nat.ble (x.length * k) limit = true) ∧ l.map f ++ [f v] = x.map f ∧ x = l ++ [v] := by
  unfold app1 at h
  cases hb : Nat.ble l.length 1000000 with
  | false => simp [hb] at h
  | true =>
    have h1 := Nat.le_of_ble_eq_true hb
    simp [hb] at h
    subst h
    refine ⟨by simp, fun k hk => ble_true ?_, by simp, rfl⟩
    rw [List.length_append, List.length_singleton]
    have : (l.length + 1) * k ≤ 1000001 * 1000 := Nat.mul_le_mul (by omega) hk
    unfold limit; omega
theorem app1_rows {l x : List (Int × Int)} {v : Int × Int} (h : app1 l v = some x) : l.length + 1 = x.length ∧ (∀ k, k ≤ 1000 → Nat.ble (x.length * k) limit = true) ∧ rows l ++ [iv v.1, iv v.2] = rows x ∧ x = l ++ [v] := by
  obtain ⟨h1, h2, _, h4⟩ := app1_ok (fun _ => .dead) h
  subst h4
  exact ⟨h1, h2, by rw [rows_app]; rfl, rfl⟩
def appL (l r : List α) : Option (List α) := match Nat.beq r.length 0, Nat.ble (l.length + r.length) 1000000 with
  | false, true => some (l ++ r)
  | _, _ => none
theorem takeP_self : ∀ {cs : List PV}, takeP cs.length cs = some cs
  | [] => rfl
  | c :: cs => by show takeP (cs.length + 1) _ = _; simp only [takeP, takeP_self]
theorem takeP_map {l : List α} : takeP l.length (l.map f) = some (l.map f) := by
  have := takeP_self (cs := l.map f)
  rwa [List.length_map] at this
theorem appL_ok (f : α → PV) (h : appL l r = some x) : Nat.beq r.length 0 = false ∧ l.length + r.length = x.length ∧ (∀ k, k ≤ 1000 → Nat.ble (x.length * k) limit = true) ∧ l.map f ++ r.map f = x.map f ∧ takeP r.length (r.map f) = some (r.map f) ∧ x = l ++ r := by
  unfold appL at h
  cases ha : Nat.beq r.length 0 with
  | true => simp [ha] at h
  | false =>
    cases hb : Nat.ble (l.length + r.length) 1000000 with
    | false => simp [ha, hb] at h
    | true =>
      have h1 := Nat.le_of_ble_eq_true hb
      simp [ha, hb] at h
      subst h
      refine ⟨rfl, by simp, fun k hk => ble_true ?_, by simp, takeP_map, rfl⟩
      rw [List.length_append]
      have : (l.length + r.length) * k ≤ 1000000 * 1000 := Nat.mul_le_mul (by omega) hk
      unfold limit; omega
def mkN (z : Int) : Option Nat := match z with
  | .ofNat n => match Nat.ble n 1000000 with
    | true => some n
    | false => none
  | .negSucc _ => none
theorem mkN_ok (h : mkN z = some n) : z = (n : Int) ∧ (∀ k, k ≤ 1000 → Nat.ble (n * k) limit = true) ∧ Nat.ble n n = true := by
  cases z with
  | negSucc k => cases h
  | ofNat k =>
    unfold mkN at h
    cases hb : Nat.ble k 1000000 with
    | false => simp [hb] at h
    | true =>
      have h1 := Nat.le_of_ble_eq_true hb
      simp [hb] at h
      subst h
      refine ⟨rfl, fun j hj => ble_true ?_, ble_true (Nat.le_refl _)⟩
      have : k * j ≤ 1000000 * 1000 := Nat.mul_le_mul h1 hj
      unfold limit; omega
theorem reps_rep {v : α} : ∀ {n : Nat}, reps [f v] n = (List.replicate n v).map f
  | 0 => rfl
  | n + 1 => by simp only [reps, reps_rep (n := n), List.replicate_succ]; rfl
theorem rep_len {v : α} {n : Nat} : (List.replicate n v).length = n := List.length_replicate
theorem rows_at {l : List (Int × Int)} {p : Int × Int} {j : Nat} (h : l[j]? = some p) : (rows l).drop (j * 2) = iv p.1 :: iv p.2 :: (rows l).drop (j * 2 + 2) := by
  induction l generalizing j with
  | nil => cases h
  | cons a l ih =>
    cases j with
    | zero => cases h; rfl
    | succ j =>
      have := ih (j := j) (by simpa using h)
      rw [rows_cons, show (j + 1) * 2 = j * 2 + 1 + 1 by omega, List.drop_succ_cons, List.drop_succ_cons, this]
      rfl
theorem rows_ble {j n : Nat} (h : j < n) : Nat.ble ((j + 1) * 2) (n * 2) = true := ble_true (by omega)
def gS (s : List UInt8) (i : Int) : Option Int := match i with
  | .ofNat k => match s[k]? with
    | some c => some (c.toNat : Int)
    | none => none
  | .negSucc _ => none
theorem gS_ok {P : Program} {t : TypeId} {s : List UInt8} {c : Int} {k : IntKind} (ht : P.underlying t = some .string) (hs : shapeOf P t = some .string) (h : gS s i = some c) : pqIndex P t (.v (.string (bs s))) (.int k i) = some (.v (.int .u8 c)) ∧ 0 ≤ c ∧ c < 256 := by
  cases i with
  | negSucc k => cases h
  | ofNat j =>
    unfold gS at h
    cases e : s[j]? with
    | none => simp [e] at h
    | some b =>
      simp [e] at h
      subst h
      have hj : j < (bs s).size := by rw [bs_size]; exact (List.getElem?_eq_some_iff.1 e).1
      have h1 := str_index (P := P) (t := t) ht (s := bs s) (k := k) (i := j) hj
      have h2 : (bs s)[j]'hj = b := by rw [bs_get]; exact (List.getElem?_eq_some_iff.1 e).2
      rw [h2] at h1
      refine ⟨?_, by omega, by have := b.toNat_lt; omega⟩
      unfold pqIndex
      rw [hs]
      show (match prunP P (Instr.index t (.string (bs s)) (.int k (j : Int))) with | some r => pvOf r | none => none) = _
      rw [h1]
      rfl
end
section
variable {α : Type} {l r x : List α} {n k : Nat} {f : α → PV}
def neL (r : List α) : Option Unit := match Nat.beq r.length 0, Nat.ble r.length 1000000 with
  | false, true => some ()
  | _, _ => none
theorem neL_ok (f : α → PV) {u : Unit} (h : neL r = some u) : Nat.beq r.length 0 = false ∧ (∀ k, k ≤ 1000 → Nat.ble (r.length * k) limit = true) ∧ takeP r.length (r.map f) = some (r.map f) := by
  unfold neL at h
  cases ha : Nat.beq r.length 0 with
  | true => simp [ha] at h
  | false =>
    cases hb : Nat.ble r.length 1000000 with
    | false => simp [ha, hb] at h
    | true =>
      have h1 := Nat.le_of_ble_eq_true hb
      refine ⟨rfl, fun k hk => ble_true ?_, takeP_map⟩
      have : r.length * k ≤ 1000000 * 1000 := Nat.mul_le_mul h1 hk
      unfold limit; omega
theorem settle_list {sz : TypeId → Option Nat} {base b cap : Nat} {hp : List (Option (List PV))} {t : TypeId} (f : α → PV) (h1 : base ≤ b) (h2 : sz t = some 1) (h3 : hp[b]? = some (some (l.map f))) (h4 : l.length = n) (h5 : ∀ z, cellOK (f z) = true) :
    settle sz base hp t (.s b 0 n cap) = some (.l .fz .any n (l.map f)) := by
  unfold settle
  simp only [show Nat.ble base b = true from ble_true h1, h2, h3]
  subst h4
  have h6 : (l.map f).all cellOK = true := by
    rw [List.all_eq_true]; intro v hv; obtain ⟨z, _, rfl⟩ := List.mem_map.1 hv; exact h5 z
  have h7 : List.take (l.length * 1) (List.drop 0 (l.map f)) = l.map f := by rw [List.drop_zero, Nat.mul_one]; exact List.take_of_length_le (by simp)
  simp only [h7, h6]
  rw [show Nat.ble (0 + l.length * 1) (l.map f).length = true from ble_true (by simp)]
  rfl
end
def vlOf : Ck → Vl
  | .full => .fz
  | _ => .own
def bytesN (l : List Int) : List UInt8 := l.map fun z => UInt8.ofNat z.toNat
theorem bytesP_kv : ∀ {l : List Int}, bytesP (l.map (kv .u8)) = some l
  | [] => rfl
  | c :: l => by simp [bytesP, bytesP_kv (l := l)]
theorem strOfNums_eq {l : List Int} : strOfNums l = bs (bytesN l) := by
  unfold strOfNums bytesN
  rfl
theorem pbytes_list {P : Program} {Y : Pol} {f : FuncId} {dr : Dr} {src dst e : TypeId} {x : Operand} {σ : St} {b n cap : Nat} {l : List Int} {y : List UInt8} (hs : P.underlying src = some (.slice e)) (he : P.underlying e = some (.int .u8)) (hd : P.underlying dst = some .string)
    (hx : pev Y f σ x = some (.s b 0 n cap)) (hb : σ.hp[b]? = some (some (l.map (kv .u8)))) (hl : l.length = n) (hy : bytesN l = y) (hnil : prunP P (convert src dst (.slice none 0 0)) = some (.string ByteArray.empty)) (hm : mayConv dr = true) :
    pbytes P Y f dr src dst x σ = some (.v (.string (bs y))) := by
  subst hy
  unfold pbytes
  rw [hs, hd, hm]
  simp only []
  rw [he, hx]
  simp only [isList, psrcLen]
  subst hl
  cases l with
  | nil =>
    simp only [List.length_nil, hnil]
    rfl
  | cons c l =>
    have h6 : ((c :: l).map (kv .u8)).all cellOK = true := by
      rw [List.all_eq_true]; intro v hv; obtain ⟨z, _, rfl⟩ := List.mem_map.1 hv; rfl
    have h7 := takeP_map (l := c :: l) (f := kv .u8)
    simp only [List.length_cons] at h7 ⊢
    simp only [psrc, hb, Nat.mul_one, List.drop_zero, h7, h6, bytesP_kv, strOfNums_eq]
theorem bs_eq {l m : List UInt8} : (bs l = bs m) ↔ l = m := ⟨fun h => by simpa using congrArg (fun b : ByteArray => b.data.toList) h, fun h => by rw [h]⟩
theorem bs_app {l m : List UInt8} : bs l ++ bs m = bs (l ++ m) := by
  apply ByteArray.ext
  rw [ByteArray.data_append]
  simp
def sadd (a b : List UInt8) : Option (List UInt8) := match Nat.ble (a.length + b.length) 1000000 with
  | true => some (a ++ b)
  | false => none
theorem sadd_ok {a b x : List UInt8} (h : sadd a b = some x) : (bs a).size + (bs b).size ≤ 9223372036854775807 ∧ bs a ++ bs b = bs x := by
  unfold sadd at h
  cases hb : Nat.ble (a.length + b.length) 1000000 with
  | false => simp [hb] at h
  | true =>
    have h1 := Nat.le_of_ble_eq_true hb
    simp [hb] at h
    subst h
    exact ⟨by rw [bs_size, bs_size]; omega, bs_app⟩
def shlO (k : IntKind) (m n : Int) : Option Int := match n with
  | .ofNat j => some (shlI k m j)
  | .negSucc _ => none
def shrO (k : IntKind) (m n : Int) : Option Int := match n with
  | .ofNat j => some (shrI k m j)
  | .negSucc _ => none
theorem shlO_ok {k : IntKind} {m n z : Int} (h : shlO k m n = some z) : 0 ≤ n ∧ shlI k m n = z := by
  cases n with
  | negSucc j => cases h
  | ofNat j => exact ⟨Int.natCast_nonneg j, Option.some.inj h⟩
theorem shrO_ok {k : IntKind} {m n z : Int} (h : shrO k m n = some z) : 0 ≤ n ∧ shrI k m n = z := by
  cases n with
  | negSucc j => cases h
  | ofNat j => exact ⟨Int.natCast_nonneg j, Option.some.inj h⟩
theorem ble_add {n a b : Nat} : Nat.ble (n + a) (n + b) = decide (a ≤ b) := by rw [nble]; congr 1; simp
theorem ble_add0 {n b : Nat} : Nat.ble n (n + b) = true := ble_true (by omega)
theorem beq_add {n a b : Nat} : Nat.beq (n + a) (n + b) = decide (a = b) := by rw [nbeq]; congr 1; simp
theorem beq_add0 {n b : Nat} : Nat.beq n (n + b) = decide (b = 0) := by rw [nbeq]; congr 1; simp
theorem beq_add1 {n b : Nat} : Nat.beq (n + b) n = decide (b = 0) := by rw [nbeq]; congr 1; simp
theorem take_app1 {α : Type} {l r : List α} {a : α} : List.take (l.length + 1) (l ++ a :: r) = l ++ [a] := by rw [List.take_append, List.take_of_length_le (by omega), Nat.add_sub_cancel_left]; rfl
theorem min_same {n : Nat} : Nat.min n n = n := Nat.min_self n
theorem min_add {n k : Nat} : Nat.min n (n + k) = n := Nat.min_eq_left (by omega)
theorem ble_same {n : Nat} : Nat.ble n n = true := ble_true (Nat.le_refl _)
theorem ak_true : ak true = .bor := rfl
theorem ak_false : ak false = .fz := rfl
theorem argv_s {Y : Pol} {f : FuncId} {b o n c : Nat} {σ : St} : argv Y f (.s b o n c) σ = some (.s b o n c, σ, none) := rfl
theorem intIn2_0 : intIn 2 (.int .i64 0) = some 0 := rfl
theorem intIn2_1 : intIn 2 (.int .i64 1) = some 1 := rfl
theorem ble12 {n : Nat} : Nat.ble 1 (n + 1 + 1) = true := ble_true (by omega)
theorem ble22 {n : Nat} : Nat.ble 2 (n + 1 + 1) = true := ble_true (by omega)
def gN (n : Nat) : Option Unit := match Nat.ble n 1000000 with
  | true => some ()
  | false => none
theorem gN_ok {n : Nat} {u : Unit} (h : gN n = some u) : ∀ k, k ≤ 1000 → Nat.ble (n * k) limit = true := by
  unfold gN at h
  cases hb : Nat.ble n 1000000 with
  | false => simp [hb] at h
  | true =>
    intro k hk
    have h1 := Nat.le_of_ble_eq_true hb
    refine ble_true ?_
    have : n * k ≤ 1000000 * 1000 := Nat.mul_le_mul h1 hk
    unfold limit; omega
theorem max_int {P : Program} {ts : Array TypeId} {t : TypeId} {a b : Int} : prunP P (Builtin.max_ ts t #[.int .i64 a, .int .i64 b]) = some (.int .i64 (max a b)) := by
  unfold prunP Builtin.max_
  simp [Builtin.max2, prun_bnd, prun_pure]
  rw [show (if a < b then b else a) = max a b by rw [Int.max_def]; split <;> split <;> omega]
  rfl
theorem min_int {P : Program} {ts : Array TypeId} {t : TypeId} {a b : Int} : prunP P (Builtin.min_ ts t #[.int .i64 a, .int .i64 b]) = some (.int .i64 (min a b)) := by
  unfold prunP Builtin.min_
  simp [Builtin.min2, prun_bnd, prun_pure]
  rw [show (if b < a then b else a) = min a b by rw [Int.min_def]; split <;> split <;> omega]
  rfl
def gA (s : List UInt8) (k : Nat) : Option Nat := match s[k]? with
  | some c => match Nat.blt c.toNat 128 with
    | true => some c.toNat
    | false => none
  | none => none
theorem gA_ok {s : List UInt8} {k c : Nat} (h : gA s k = some c) : Utf8.decode (bs s) k = (c, 1) := by
  unfold gA at h
  cases e : s[k]? with
  | none => simp [e] at h
  | some b =>
    cases hb : Nat.blt b.toNat 128 with
    | false => simp [e, hb] at h
    | true =>
      simp [e, hb] at h
      subst h
      have h1 : b.toNat < 128 := Nat.le_of_ble_eq_true hb
      have h2 : (bs s).get! k = b := by
        obtain ⟨hk, hk2⟩ := List.getElem?_eq_some_iff.1 e
        subst hk2
        simp [ByteArray.get!, hk]
      unfold Utf8.decode
      simp [h2, h1]
def slC (c : Ck) (b : Bool) : Ck := match c with
  | .full => capK b
  | _ => .any
def takeO {α : Type} (l : List α) (i : Int) : Option (List α) := match i with
  | .ofNat k => match Nat.ble k l.length with
    | true => some (l.take k)
    | false => none
  | .negSucc _ => none
theorem pslice_to {α : Type} {l x : List α} {i : Int} (f : α → PV) {P : Program} {t e : TypeId} {k : Vl} {c : Ck} (hs : shapeOf P t = some (.slice e 1)) (hk : notOwn k = true) (h : takeO l i = some x) :
    pqSlice P t (.l k c l.length (l.map f)) none (some (.int .i64 i)) none = some (.l (prt k) (slC c (Nat.beq i.toNat l.length)) x.length (x.map f)) := by
  cases i with
  | negSucc k => cases h
  | ofNat j =>
    unfold takeO at h
    cases hb : Nat.ble j l.length with
    | false => simp [hb] at h
    | true =>
      have h1 := Nat.le_of_ble_eq_true hb
      simp [hb] at h
      subst h
      unfold pqSlice
      rw [hs]
      simp only []
      unfold pslice
      have e1 : natOfO 0 l.length l.length none = some l.length := rfl
      have e2 : natOfO 0 l.length l.length (some (.int .i64 (Int.ofNat j))) = some j := by simp [natOfO, natOf, hb, h1, show Nat.ble 0 j = true from ble_true (Nat.zero_le _)]
      have e3 : natOfO 0 j 0 none = some 0 := rfl
      simp only [e1, e2, e3]
      rw [show (Nat.ble j l.length && hiOk (some (.int .i64 (Int.ofNat j))) none && notOwn k && Nat.ble (j * 1) (l.map f).length) = true by simp [hb, hk, hiOk, h1]]
      simp only [List.drop_zero, Nat.zero_mul, Nat.sub_zero, Nat.mul_one]
      rw [show slCk none c l.length j l.length = some (slC c (Nat.beq j l.length)) by cases c <;> rfl]
      simp [List.map_take, Nat.min_eq_left h1]
theorem pbytes_l {P : Program} {Y : Pol} {f : FuncId} {dr : Dr} {src dst e : TypeId} {x : Operand} {σ : St} {k : Vl} {c : Ck} {l : List Int} {y : List UInt8} (hs : P.underlying src = some (.slice e)) (he : P.underlying e = some (.int .u8)) (hd : P.underlying dst = some .string)
    (hx : pev Y f σ x = some (.l k c l.length (l.map (kv .u8)))) (hy : bytesN l = y) (hnil : prunP P (convert src dst (.slice none 0 0)) = some (.string ByteArray.empty)) (hm : mayConv dr = true) :
    pbytes P Y f dr src dst x σ = some (.v (.string (bs y))) := by
  subst hy
  unfold pbytes
  rw [hs, hd, hm]
  simp only []
  rw [he, hx]
  simp only [isList, psrcLen]
  cases l with
  | nil =>
    simp only [List.length_nil, hnil]
    rfl
  | cons c l =>
    have h7 := takeP_map (l := c :: l) (f := kv .u8)
    simp only [List.length_cons] at h7 ⊢
    simp only [psrc, Nat.mul_one, h7, bytesP_kv, strOfNums_eq]
def copyO {α : Type} (old r : List α) : Option (List α) := match Nat.beq r.length old.length, Nat.beq r.length 0 with
  | true, false => some r
  | _, _ => none
theorem copy_ok {α : Type} {old r x : List α} {n : Nat} (f : α → PV) (hn : old.length = n) (h : copyO old r = some x) : Nat.min r.length n = n ∧ Nat.beq n 0 = false ∧ takeP n (r.map f) = some (r.map f) ∧ spliceP 0 (r.map f) (old.map f) = some (r.map f) ∧ r.length = n ∧ x = r := by
  unfold copyO at h
  cases ha : Nat.beq r.length old.length with
  | false => simp [ha] at h
  | true =>
    have h1 := Nat.eq_of_beq_eq_true ha
    cases hb : Nat.beq r.length 0 with
    | true => simp [ha, hb] at h
    | false =>
      simp [ha, hb] at h
      rw [hn] at h1
      subst h1
      refine ⟨Nat.min_self _, hb, takeP_map, ?_, rfl, h.symm⟩
      unfold spliceP
      rw [show Nat.ble (0 + (r.map f).length) (old.map f).length = true from ble_true (by simp [hn])]
      simp [hn]
def chkU (ops : Array Oper) (q : Nat) (u : List Nat) : Bool :=
  ops.toList.zipIdx.all fun (o, i) => Nat.beq i q || ordered ops i q || (match o.op with
    | .load _ (.tmp t) => Nat.blt i q && stays ops i q t && u.contains t
    | .load _ _ => false
    | op => !(Nat.beq (kindOf op) 1))
theorem mayStore_of {Y : Pol} {f : FuncId} {σ : St} {b : Nat} {ops : Array Oper} {q n : Nat} (u : List Nat) (h1 : chkU ops q u = true) (h2 : ∀ t ∈ u, ∃ v, pev Y f σ (.tmp t) = some v ∧ apartP b v = true) : mayStore Y f σ b (some ⟨ops, q, n⟩) = true := by
  refine List.all_eq_true.2 fun x hx => ?_
  have h3 := List.all_eq_true.1 h1 x hx
  obtain ⟨o, i⟩ := x
  simp only [Bool.or_eq_true] at h3 ⊢
  rcases h3 with h3 | h3
  · exact .inl h3
  · refine .inr ?_
    split at h3
    · rename_i t e
      simp only [Bool.and_eq_true] at h3
      obtain ⟨v, h4, h5⟩ := h2 t (by simpa using h3.2)
      rw [e]
      simp only [h3.1.1, h3.1.2, h4, h5]
      rfl
    · cases h3
    · rename_i e1 e2
      split
      · rename_i t e; exact absurd e (e1 _ _)
      · rename_i e; exact absurd e (e2 _ _)
      · simp only [Bool.or_eq_true]; exact .inl h3
def wok (base : Nat) (w : Option Nat) : Prop := w = none ∨ ∃ k, w = some k ∧ base ≤ k
theorem wok_none {base : Nat} : wok base none := .inl rfl
theorem wok_low {base b : Nat} {w : Option Nat} (hw : wok base w) (hb : base ≤ b) : wok base (lowB w b) := by
  rcases hw with rfl | ⟨k, rfl, hk⟩
  · exact .inr ⟨b, rfl, hb⟩
  · exact .inr ⟨_, rfl, Nat.le_min.2 ⟨hk, hb⟩⟩
theorem wok_low_iff {base b : Nat} {w : Option Nat} : wok base (lowB w b) ↔ wok base w ∧ base ≤ b := by
  refine ⟨fun h => ?_, fun h => wok_low h.1 h.2⟩
  cases w with
  | none =>
    rcases h with h | ⟨k, h, hk⟩
    · cases h
    · cases h; exact ⟨.inl rfl, hk⟩
  | some a =>
    rcases h with h | ⟨k, h, hk⟩
    · cases h
    · cases h
      exact ⟨.inr ⟨a, rfl, (Nat.le_min.1 hk).1⟩, (Nat.le_min.1 hk).2⟩
theorem lowOf_none {base : Nat} : lowOf base none = none := rfl
theorem lowOf_wok {base : Nat} {w : Option Nat} (hw : wok base w) : lowOf base w = none := by
  rcases hw with rfl | ⟨k, rfl, hk⟩
  · rfl
  · show (match Nat.blt k base with | true => some k | false => none) = none
    rw [show Nat.blt k base = false from by rw [Nat.blt, nble]; exact decide_eq_false (by omega)]
section
variable {P : Program} {Y : Pol} {f : FuncId} {nt : Nat} {k : List Fm}
theorem loopS {V U ρ : Type} {S : (U → Option ρ) → Nat → V → Option ρ} {K : U → Option ρ} {r : ρ} {R : Option (PV × List (Option (List PV)) × Option Nat)} {g : FuncId} {rs : List ResultVar} {tys : List TypeId} {base id : Nat} {b : Code} {σ0 : St}
    (Fact : V → St → Prop) (FactO : U → St → Prop) {n0 : Nat} {v0 : V} (hz : ∀ v, S K 0 v = none) (h : S K n0 v0 = some r) (h0 : Fact v0 σ0)
    (hc : ∀ o σ, FactO o σ → K o = some r → ER P Y g rs tys base (EK P Y f nt k σ) = R)
    (hs : ∀ k' n v σ, Fact v σ → S K (n + 1) v = some r → (∀ v' σ', Fact v' σ' → S K n v' = some r → ER P Y g rs tys base (EK P Y f nt (.lp b :: .blk id :: k') σ') = R) →
      (∀ o σ', FactO o σ' → K o = some r → ER P Y g rs tys base (EK P Y f nt k' σ') = R) → ER P Y g rs tys base (EK P Y f nt (.c b :: .lp b :: .blk id :: k') σ) = R) :
    ER P Y g rs tys base (EK P Y f nt (.lp b :: .blk id :: k) σ0) = R := by
  induction n0 generalizing v0 σ0 with
  | zero => rw [hz] at h; cases h
  | succ n ih =>
    rw [EK_lp]
    exact hs k n v0 σ0 h0 h (fun v' σ' hf hh => ih hh hf) hc
end
end Go.Pur
