/-
  What the functions compute: how many parts.
  Conditions: none; lemmas.
-/
import Derived.Test.YtmnmfmghmenkkaaMathC
import Derived.Test.YtmnmfmghmenkkaaLaw5b
import Derived.Test.YtmnmfmghmenkkaaCount1
set_option linter.unusedSimpArgs false
set_option linter.unusedVariables false
namespace Go.Proofs.Ytmnmfmghmenkkaa
open Go.Abs Go.Pur
set_option maxRecDepth 100000
theorem mGet_set {K V : Type} [DecidableEq K] {c : Nat} {k k' : K} {v : V} : ∀ {l : Mp K V}, mGet k (mSet c k' v l) = if k' = k then some v else mGet k l
 | [] => by
  simp only [mSet, mGet]
  by_cases h : k' = k
  ·rw [decide_eq_true h, if_pos h]
  ·rw [decide_eq_false h, if_neg h]
 | e :: l => by
  rw [mSet]
  by_cases h1 : e.1 = k'
  ·rw [decide_eq_true h1]
   simp only [mGet]
   by_cases h : k' = k
   ·rw [decide_eq_true h, if_pos h]
   ·rw [decide_eq_false h, if_neg h, decide_eq_false (show ¬ e.1 = k by rw [h1]; exact h)]
  ·rw [decide_eq_false h1]
   simp only [mGet, mGet_set (l := l)]
   by_cases h : k' = k
   ·subst h
    rw [decide_eq_false h1]
   ·rw [if_neg h, if_neg h]
theorem dlb_cons {w : List UInt8} {c x : UInt8} : dlb (c :: w) x = if c = x then dl w else dlb w x := by
 unfold dlb
 rw [bhd]
 by_cases h : c = x
 ·rw [if_pos h, if_pos h]
 ·rw [if_neg h, if_neg h]
theorem f29_run {w : List UInt8} {F : Nat} (hw : w.length ≤ 10) (hl : ∀ c ∈ w, c.toNat < 103) : ∀ (n i : Nat) (m : Mp Int Int) (c : Nat), w.length + 1 ≤ n + i → i ≤ w.length → (∀ x : UInt8, mGetD 0 (x.toNat : Int) m = (dlb (w.take i).reverse x : Int)) →
  f29_L0 F w (fun v => some (v, 0)) n ((dl (w.take i).reverse : Int), m, c, i) = some ((dl w : Int), 0)
 | 0, i, m, c, h, hi, hm => absurd h (by omega)
 | n + 1, i, m, c, h, hi, hm => by
  unfold f29_L0
  simp only [Option.bind_some]
  by_cases hi' : i < w.length
  ·rw [ble_lt hi', gA_at hi' (hl _ (List.getElem_mem hi'))]
   simp only [Option.bind_some]
   have ht : (w.take (i + 1)).reverse = w[i] :: (w.take i).reverse := by
    rw [List.take_add_one, List.getElem?_eq_getElem hi', Option.toList_some, List.reverse_append]
    rfl
   have h1 := dl_cons (c := w[i]) (w := (w.take i).reverse)
   have h2 := dl_pow (w := (w.take i).reverse)
   have h3 : 2 ^ (w.take i).reverse.length ≤ 2 ^ 10 := Nat.pow_le_pow_right (by omega) (by simp; omega)
   have h4 := dl_pos (w := w[i] :: (w.take i).reverse)
   have he : IntKind.i64.wrap (mulI .i64 2 (dl (w.take i).reverse : Int) - mGetD 0 ((w[i].toNat : Nat) : Int) m) = (dl (w.take (i + 1)).reverse : Int) := by
    rw [hm, ht]
    unfold mulI
    rw [wrap64 (z := 2 * _) (by omega) (by omega), wrap64 (by omega) (by omega)]
    omega
   rw [he]
   refine f29_run hw hl n (i + 1) _ _ (by omega) (by omega) fun x => ?_
   unfold mGetD
   rw [mGet_set, ht, dlb_cons]
   by_cases hx : w[i] = x
   ·rw [if_pos (by rw [hx]), if_pos hx]; rfl
   ·rw [if_neg (fun e => hx (UInt8.toNat_inj.1 (by omega))), if_neg hx]
    exact hm x
  ·rw [ble_ge (by omega), List.take_of_length_le (by omega), dl_rev]
theorem f29_law {w : List UInt8} {F : Nat} (h : checkW w = 0) (hF : 12 ≤ F) : f29S F w = some ((dl w : Int), 0) := by
 obtain ⟨h1, h2⟩ := checkW_all h
 unfold f29S
 rw [h]
 simp only [Option.bind_some, decide_true]
 exact f29_run h1 (fun c hc => (h2 c hc).2) F 0 [] 0 (by omega) (by omega) fun x => rfl
end Go.Proofs.Ytmnmfmghmenkkaa
