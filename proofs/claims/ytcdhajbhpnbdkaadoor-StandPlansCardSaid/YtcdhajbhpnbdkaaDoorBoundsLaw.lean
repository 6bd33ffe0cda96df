/-
  Spans and bounds: what the printed functions compute is the bound of some times.
  Conditions: none; lemmas.
-/
import Derived.Test.YtcdhajbhpnbdkaaDoorWorks4
set_option linter.unusedSimpArgs false
set_option linter.unusedVariables false
namespace Go.Proofs.YtcdhajbhpnbdkaaDoor
open Go.Abs Go.Pur
set_option maxRecDepth 100000
theorem app1_at {α : Type} {l : List α} {v : α} (h : l.length ≤ 1000000) : app1 l v = some (l ++ [v]) := by
  unfold app1
  rw [show Nat.ble l.length 1000000 = true from ble_true h]
theorem gI_at {α : Type} {l : List α} {i : Nat} (h : i < l.length) : gI l (i : Int) = some l[i] := by
  show l[i]? = some l[i]
  rw [List.getElem?_eq_getElem h]
theorem onS_at {α : Type} {l : List Int} {x : α} (h : l.length < 1000000000) : onS l x = some x := by
  unfold onS short
  rw [show Nat.ble (l.length + 1) 1000000000 = true from ble_true h]
theorem onT_at {α : Type} {l : List Int} {t : Nat} {f : Nat → α} (h : l.length < 1000000000) (ht : t ≤ l.length) : onT l (t : Int) f = some (f t) := by
  show (match short l, Nat.ble t l.length with | true, true => some (f t) | _, _ => none) = some (f t)
  unfold short
  rw [show Nat.ble (l.length + 1) 1000000000 = true from ble_true h, show Nat.ble t l.length = true from ble_true ht]
theorem onB_at {α : Type} {s : Nat} {f : Nat → α} (h : s < 4096) : onB (s : Int) f = some (f s) := by
  show (match Nat.ble (s + 1) 4096 with | true => some (f s) | false => none) = some (f s)
  rw [show Nat.ble (s + 1) 4096 = true from ble_true h]
theorem wrapN {z : Int} (h1 : -1000000000000 ≤ z) (h2 : z ≤ 1000000000000) : IntKind.i64.wrap z = z := wrap64 (by omega) (by omega)
def spG (pages : List Int) : Nat → Nat → List (Int × Int)
  | 0, _ => []
  | k + 1, i => if nxt pages (pages.getD i 0) (i + 1) < pages.length then ((i : Int), (nxt pages (pages.getD i 0) (i + 1) : Int)) :: spG pages k (i + 1) else spG pages k (i + 1)
theorem spG_len {pages : List Int} : ∀ {k i : Nat}, (spG pages k i).length ≤ k
  | 0, i => by simp [spG]
  | k + 1, i => by
    have := @spG_len pages k (i + 1)
    simp only [spG]
    split
    · simp; omega
    · omega
theorem spG_range {pages : List Int} : ∀ {k i : Nat}, i + k = pages.length → ∀ x ∈ spG pages k i, (i : Int) ≤ x.1 ∧ x.1 < x.2 ∧ x.2 < pages.length
  | 0, i, _, x, h => by simp [spG] at h
  | k + 1, i, hk, x, h => by
    have ih := @spG_range pages k (i + 1) (by omega)
    simp only [spG] at h
    split at h
    · rename_i hn
      rcases List.mem_cons.1 h with rfl | h
      · have : i + 1 ≤ nxt pages (pages.getD i 0) (i + 1) := by unfold nxt; omega
        exact ⟨Int.le_refl _, by simp only; omega, by simp only; omega⟩
      · have := ih x h; omega
    · have := ih x h; omega
section
variable {pages : List Int} {room : Int} {F : Nat}
theorem getD_at {i : Nat} (h : i < pages.length) : pages.getD i 0 = pages[i] := by simp [List.getD_eq_getElem?_getD, List.getElem?_eq_getElem h]
theorem l85 {K : List (Int × Int) → Option (Ck × List (Int × Int))} (hn : pages.length ≤ 1000) : ∀ (k i m : Nat) (v : List (Int × Int)), i + k = pages.length → k < m → v.length ≤ i → f85_L0 F pages K m (v, (i : Int)) = K (v ++ spG pages k i)
  | k, i, 0, v, _, h, _ => by omega
  | 0, i, m + 1, v, hk, _, _ => by
    rw [f85_L0]
    have h1 : decide ((i : Int) < (pages.length : Int)) = false := decide_eq_false (by omega)
    simp only [Option.bind_some, h1, spG, List.append_nil]
  | k + 1, i, m + 1, v, hk, hm, hv => by
    rw [f85_L0]
    have h1 : decide ((i : Int) < (pages.length : Int)) = true := decide_eq_true (by omega)
    have hi : i < pages.length := by omega
    have w : IntKind.i64.wrap ((i : Int) + 1) = ((i + 1 : Nat) : Int) := wrap_nat (by omega)
    simp only [Option.bind_some, h1, gI_at hi, w, onT_at (l := pages) (t := i + 1) (by omega) (by omega)]
    simp only [spG, getD_at hi]
    by_cases hx : nxt pages pages[i] (i + 1) < pages.length
    · have h2 : decide ((nxt pages pages[i] (i + 1) : Int) < (pages.length : Int)) = true := decide_eq_true (by omega)
      simp only [h2, app1_at (l := v) (by omega), Option.bind_some]
      rw [l85 hn k (i + 1) m _ (by omega) (by omega) (by simp; omega), if_pos hx, List.append_assoc]
      rfl
    · have h2 : decide ((nxt pages pages[i] (i + 1) : Int) < (pages.length : Int)) = false := decide_eq_false (by omega)
      simp only [h2]
      rw [l85 hn k (i + 1) m _ (by omega) (by omega) (by omega), if_neg hx]
theorem aft_cases {p : Int} {t : Nat} (ht : t ≤ pages.length) : (aft pages p t = nxt pages p t ∧ nxt pages p t < pages.length) ∨ (aft pages p t = 12 ∧ nxt pages p t = pages.length) := by
  unfold aft nxt
  have e : (fun y => decide (p = y)) = fun y => decide (y = p) := by funext y; simp [eq_comm]
  rw [e]
  generalize (fun y : Int => decide (y = p)) = q
  unfold ixOf
  cases hf : (pages.drop t).findIdx? q with
  | none =>
    right
    rw [List.findIdx?_eq_none_iff_findIdx_eq] at hf
    rw [hf]
    simp; omega
  | some i =>
    left
    rw [List.findIdx?_eq_some_iff_findIdx_eq] at hf
    obtain ⟨h1, h2⟩ := hf
    rw [h2]
    simp at h1
    simp; omega
theorem l84 {K : List (Int × Int) → Option (Ck × List (Int × Int))} (hn : pages.length ≤ 12) : ∀ (k i m : Nat) (v : List (Int × Int)), i + k = pages.length → k < m → v.length ≤ i → f84_L0 F pages (pages.length : Int) K m (v, (i : Int)) = K (v ++ spG pages k i)
  | k, i, 0, v, _, h, _ => by omega
  | 0, i, m + 1, v, hk, _, _ => by
    rw [f84_L0]
    have h1 : decide ((i : Int) < (pages.length : Int)) = false := decide_eq_false (by omega)
    simp only [Option.bind_some, h1, spG, List.append_nil]
  | k + 1, i, m + 1, v, hk, hm, hv => by
    rw [f84_L0]
    have h1 : decide ((i : Int) < (pages.length : Int)) = true := decide_eq_true (by omega)
    have hi : i < pages.length := by omega
    have w : IntKind.i64.wrap ((i : Int) + 1) = ((i + 1 : Nat) : Int) := wrap_nat (by omega)
    simp only [Option.bind_some, h1, gI_at hi, w, onT_at (l := pages) (t := i + 1) (by omega) (by omega)]
    simp only [spG, getD_at hi]
    rcases @aft_cases pages pages[i] (i + 1) (by omega) with ⟨ha, hx⟩ | ⟨ha, hx⟩
    · have h2 : decide ((nxt pages pages[i] (i + 1) : Int) < 12) = true := decide_eq_true (by omega)
      simp only [ha, h2, app1_at (l := v) (by omega), Option.bind_some]
      rw [l84 hn k (i + 1) m _ (by omega) (by omega) (by simp; omega), if_pos hx, List.append_assoc]
      rfl
    · have h2 : decide ((12 : Int) < 12) = false := rfl
      simp only [ha, h2]
      rw [l84 hn k (i + 1) m _ (by omega) (by omega) (by omega), if_neg (by omega)]
theorem f85_eq (hn : pages.length ≤ 1000) (hF : pages.length < F) : f85S F room pages = some (.nz, spG pages pages.length 0) := by
  unfold f85S
  rw [show (0 : Int) = ((0 : Nat) : Int) from rfl, l85 hn pages.length 0 F [] (by omega) hF (by simp)]
  rfl
theorem f84_eq (hn : pages.length ≤ 12) (hF : pages.length < F) : f84S F room pages = some (.nz, spG pages pages.length 0) := by
  unfold f84S
  rw [Option.bind_some, show (0 : Int) = ((0 : Nat) : Int) from rfl, l84 hn pages.length 0 F [] (by omega) hF (by simp)]
  rfl
def bare (T : List Int) (x : Int × Int) : Bool := !T.any fun t => decide (x.1 < t) && decide (t < x.2)
theorem l89b {T : List Int} {L : List (Int × Int)} {v : Nat} {K : Bool → Option Int} (hT : T.length ≤ 1000) (hv : v < L.length) : ∀ (k j m : Nat) (b : Bool), j + k = T.length → k < m → f89_L1 F T L (v : Int) K m (b, (j : Int)) = K (b || (T.drop j).any fun t => decide (L[v].1 < t) && decide (t < L[v].2))
  | k, j, 0, b, _, h => by omega
  | 0, j, m + 1, b, hk, _ => by
    rw [f89_L1.eq_def]
    have h1 : decide ((j : Int) < (T.length : Int)) = false := decide_eq_false (by omega)
    dsimp only
    simp only [Option.bind_some, h1, List.drop_of_length_le (show T.length ≤ j by omega), List.any_nil, Bool.or_false]
  | k + 1, j, m + 1, b, hk, hm => by
    rw [f89_L1.eq_def]
    have h1 : decide ((j : Int) < (T.length : Int)) = true := decide_eq_true (by omega)
    have hj : j < T.length := by omega
    have w : IntKind.i64.wrap ((j : Int) + 1) = ((j + 1 : Nat) : Int) := wrap_nat (by omega)
    have ih := fun b => l89b (K := K) hT hv k (j + 1) m b (by omega) (by omega)
    dsimp only
    simp only [Option.bind_some, h1]
    rw [List.drop_eq_getElem_cons hj, List.any_cons]
    cases b with
    | true => simp only [w, Option.bind_some, ih, Bool.true_or]
    | false =>
      simp only [gI_at hj, gI_at hv, Option.bind_some, w, ih]
      by_cases h2 : L[v].1 < T[j]
      · simp only [decide_eq_true h2, Option.bind_some, Bool.true_and, Bool.false_or]
      · simp only [decide_eq_false h2, Bool.false_and, Bool.false_or]
theorem l89 {T : List Int} {L : List (Int × Int)} {K : Int → Option Int} (hT : T.length ≤ 1000) (hL : L.length ≤ 1000) (hF : T.length < F) : ∀ (k j m : Nat) (z : Int), j + k = L.length → k < m → -100000000 ≤ z - k → z ≤ 100000000 → f89_L0 F T L K m (z, (j : Int)) = K (z - ((L.drop j).countP (bare T) : Nat))
  | k, j, 0, z, _, h, _, _ => by omega
  | 0, j, m + 1, z, hk, _, _, _ => by
    rw [f89_L0]
    have h1 : decide ((j : Int) < (L.length : Int)) = false := decide_eq_false (by omega)
    simp only [Option.bind_some, h1, List.drop_of_length_le (show L.length ≤ j by omega), List.countP_nil]
    simp
  | k + 1, j, m + 1, z, hk, hm, hz1, hz2 => by
    rw [f89_L0]
    have h1 : decide ((j : Int) < (L.length : Int)) = true := decide_eq_true (by omega)
    have hj : j < L.length := by omega
    have w : IntKind.i64.wrap ((j : Int) + 1) = ((j + 1 : Nat) : Int) := wrap_nat (by omega)
    have w2 : IntKind.i64.wrap (z - 1) = z - 1 := wrapN (by omega) (by omega)
    simp only [Option.bind_some, h1]
    rw [show (0 : Int) = ((0 : Nat) : Int) from rfl, l89b hT hj T.length 0 F false (by omega) hF, List.drop_eq_getElem_cons hj, List.countP_cons]
    simp only [List.drop_zero, Bool.false_or]
    have hb : bare T L[j] = !(T.any fun t => decide (L[j].1 < t) && decide (t < L[j].2)) := rfl
    rw [hb]
    cases (T.any fun t => decide (L[j].1 < t) && decide (t < L[j].2)) with
    | true =>
      simp only [Option.bind_some, w]
      rw [l89 hT hL hF k (j + 1) m z (by omega) (by omega) (by omega) (by omega)]
      simp
    | false =>
      simp only [Option.bind_some, w, w2]
      rw [l89 hT hL hF k (j + 1) m (z - 1) (by omega) (by omega) (by omega) (by omega)]
      congr 1
      simp
      omega
def bndT (room : Int) (pages T : List Int) : Int := max 0 ((pages.length : Int) - (room - 1) * T.length - ((spG pages pages.length 0).countP (bare T) : Nat))
theorem mul_small {a b : Int} (h1 : 0 ≤ a) (h2 : a ≤ 5) (h3 : 0 ≤ b) (h4 : b ≤ 1000) : 0 ≤ a * b ∧ a * b ≤ 5000 :=
  ⟨Int.mul_nonneg h1 h3, Int.le_trans (Int.mul_le_mul_of_nonneg_right h2 h3) (by omega)⟩
theorem f89_eq {T : List Int} (hr1 : 1 ≤ room) (hr2 : room ≤ 5) (hn : pages.length ≤ 12) (hT : T.length ≤ 1000) (hF : 1000 < F) : f89S F room pages T = some (bndT room pages T) := by
  unfold f89S
  have hm := @mul_small (room - 1) T.length (by omega) (by omega) (by omega) (by omega)
  have w1 : IntKind.i64.wrap (room - 1) = room - 1 := wrapN (by omega) (by omega)
  have w2 : mulI .i64 (room - 1) (T.length : Int) = (room - 1) * T.length := wrapN (by omega) (by omega)
  have w3 : IntKind.i64.wrap ((pages.length : Int) - (room - 1) * T.length) = (pages.length : Int) - (room - 1) * T.length := wrapN (by omega) (by omega)
  have hsl := @spG_len pages pages.length 0
  simp only [Option.bind_some, w1, w2, w3, f85_eq (room := room) (F := F) (pages := pages) (by omega) (by omega)]
  rw [show (0 : Int) = ((0 : Nat) : Int) from rfl, l89 hT (by omega) (by omega) _ 0 F _ (Nat.zero_add _) (by omega) (by omega) (by omega)]
  rfl
end
end Go.Proofs.YtcdhajbhpnbdkaaDoor
