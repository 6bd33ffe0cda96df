/-
  ShortMore: a letter more, and parts of parts.
  Conditions: none; lemmas.
-/
import Derived.Test.YtmnmfmghmenkkaaMade1
import Derived.Test.YtmnmfmghmenkkaaMore12
set_option linter.unusedSimpArgs false
set_option linter.unusedVariables false
namespace Go.Proofs.Ytmnmfmghmenkkaa
open Go.Abs Go.Pur
set_option maxRecDepth 100000
theorem byte_wrap {z : Int} (h : byteI z) : IntKind.i64.wrap z = z := wrap64 (by have := h.1; omega) (by have := h.2; omega)
theorem f12_law {l : List Int} (hl : l.length = 11) {a b c d e f g h i j k : Int} (he : l = [a, b, c, d, e, f, g, h, i, j, k]) (hb : ∀ z ∈ l, byteI z) {p q s t : Int} (hp : byteI p) (hq : byteI q) {F : Nat} (hF : 101 ≤ F) : f12S F a b c d e f g h i j k p q s t = some true := by
 obtain ⟨w, hw, hwl, hwm⟩ := made_law hl hb (n := 9) (k := 3) (by omega) (by omega) (by omega)
 unfold f12S
 rw [← he, show (9 : Int) = ((9 : Nat) : Int) from rfl, show (3 : Int) = ((3 : Nat) : Int) from rfl, hw]
 obtain ⟨Q, rfl⟩ : ∃ Q : Nat, q = Q := ⟨q.toNat, (Int.toNat_of_nonneg hq.1).symm⟩
 obtain ⟨R, rfl⟩ : ∃ R : Nat, p = R := ⟨p.toNat, (Int.toNat_of_nonneg hp.1).symm⟩
 simp only [Option.bind_some]
 rw [byte_wrap hp, byte_wrap hq, wrap_nat (by omega)]
 unfold remO
 rw [decide_eq_false (show ¬ ((w.length + 1 : Nat) : Int) = 0 by omega), tmod_nat, tmod_nat]
 simp only [Option.bind_some]
 obtain ⟨n, hn, hnw⟩ : ∃ n, Q % (w.length + 1) = n ∧ n ≤ w.length := ⟨_, rfl, by have := Nat.mod_lt Q (show 0 < w.length + 1 by omega); omega⟩
 obtain ⟨r, hr, hr3⟩ : ∃ r, R % 3 = r ∧ r < 3 := ⟨_, rfl, Nat.mod_lt _ (by omega)⟩
 rw [hn, hr, subT_at hnw, subF_at hnw, wrap_nat (by omega)]
 simp only [Option.bind_some]
 rw [show ([97, 98, 99] : List UInt8) = lets 3 from rfl, sub_one (w := lets 3) (i := r) (by rw [lets_len]; exact hr3)]
 simp only [Option.bind_some]
 obtain ⟨x, hx, hxm⟩ : ∃ x, (lets 3)[r]'(by rw [lets_len]; exact hr3) = x ∧ x ∈ lets 3 := ⟨_, rfl, List.getElem_mem _⟩
 have htl : (w.take n).length ≤ 9 := by simp; omega
 have hdl : (w.drop n).length ≤ 9 := by simp; omega
 rw [hx, sadd_at (by simp; omega)]
 simp only [Option.bind_some]
 rw [sadd_at (by simp; omega)]
 simp only [Option.bind_some]
 obtain ⟨v, hv⟩ : ∃ v, w.take n ++ [x] ++ w.drop n = v := ⟨_, rfl⟩
 rw [hv]
 have hsub : w.Sublist v := by
  rw [← hv, List.append_assoc]
  have h1 : w = w.take n ++ w.drop n := (List.take_append_drop n w).symm
  conv => lhs; rw [h1]
  exact List.Sublist.append (List.Sublist.refl _) (List.sublist_cons_self _ _)
 have hvl : v.length = w.length + 1 := by
  rw [← hv]
  simp only [List.length_append, List.length_take, List.length_drop, List.length_cons, List.length_nil]
  omega
 have hvm : ∀ c ∈ v, c ∈ lets 3 := by
  intro c hc
  rw [← hv] at hc
  simp only [List.mem_append, List.mem_singleton] at hc
  rcases hc with (hc | rfl) | hc
  ·exact hwm c (List.mem_of_mem_take hc)
  ·exact hxm
  ·exact hwm c (List.mem_of_mem_drop hc)
 obtain ⟨y, hy, hys⟩ := taken_law (w := w) (by omega) (IntKind.i64.wrap s)
 obtain ⟨u, hu, hus⟩ := taken_law (w := y) (by have := hys.length_le; omega) (IntKind.i64.wrap t)
 rw [hy]
 simp only [Option.bind_some]
 rw [hu]
 simp only [Option.bind_some]
 have hyl := hys.length_le
 rw [leftO_at (by omega), leftO_at (by omega), leftO_at (by omega), leftO_at (by omega), leftO_at (by omega), leftW_sub.2 hys, leftW_sub.2 (hys.trans hsub), leftW_sub.2 hus, leftW_sub.2 (hus.trans hys), leftW_sub.2 hsub]
 simp only [Option.bind_some]
 rw [f29_law (checkW_ok (by omega) fun c hc => lets_up (by omega) (hwm c hc)) (by omega), f29_law (checkW_ok (by omega) fun c hc => lets_up (by omega) (hvm c hc)) (by omega), f36_law hF (by omega) (by omega) (by omega) hwm, f36_law hF (by omega) (by omega) (by omega) hvm]
 have h1 := dl_lt hsub (by omega)
 have h2 : (archI 3 w).length ≤ (archI 3 v).length := by
  rw [archI_len (by omega) hwm, archI_len (by omega) hvm, ← hv]
  conv => lhs; rw [← List.take_append_drop n w]
  rw [List.append_assoc]
  exact arN_more
 simp only [Option.bind_some, decide_true]
 rw [decide_eq_true (show (dl w : Int) < (dl v : Int) by omega), decide_eq_true (show ((archI 3 w).length : Int) ≤ ((archI 3 v).length : Int) by omega)]
end Go.Proofs.Ytmnmfmghmenkkaa
