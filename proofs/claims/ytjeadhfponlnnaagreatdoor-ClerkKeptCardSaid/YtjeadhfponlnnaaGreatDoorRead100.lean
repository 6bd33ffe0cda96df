/-
  The words behind the first one of a line.
  Conditions: none; lemmas.
-/
import Derived.Test.YtjeadhfponlnnaaGreatDoorCounted77
import Derived.Test.YtjeadhfponlnnaaGreatDoorSee242
set_option linter.unusedSimpArgs false
set_option linter.unusedVariables false
namespace Go.Proofs.YtjeadhfponlnnaaGreatDoor
open Go.RowKit Go.Pur Go.Clerk
open Go.Abs
set_option maxRecDepth 1000000
set_option maxHeartbeats 8000000
def TxO (W : World) (g off : Nat) (l : List Tx) : Prop := ∀ (i : Nat) t, l[i]? = some t → W.cell? ⟨g, off + i, none⟩ = some (sV t)
theorem TxO.below {W W' : World} {g off n : Nat} {l : List Tx} (h : TxO W g off l) (hb : Below n W W') (hn : W.heap.size ≤ n) : TxO W' g off l := fun i t ht => by
 have h1 := h i t ht
 have hg : g < W.heap.size := World.block_lt_of_cell? W _ h1
 exact (hb.cell (p := ⟨g, off + i, none⟩) (Nat.lt_of_lt_of_le hg hn)).trans h1
theorem containsO_calls (W : World) (g off cap : Nat) (l : List Tx) (x : Tx) (h : TxO W g off l) (hl : l.length ≤ 1000000) : Calls Tryz.prog 46 #[.slice (some ⟨g, off, none⟩) l.length cap, sV x] W fun e W' => e = .returned (.bool (l.contains x)) ∧ W' = W := by
 refine (Tryz.slices_Contains_string g off l.length cap (l.map bs) (bs x) W (by simp) (by omega) (fun j hj => ?_)).mono ?_
 ·have hj' : j < l.length := by simpa using hj
  have e2 : (l.map bs).getD j ByteArray.empty = bs l[j] := by
   rw [List.getD_eq_getElem?_getD, List.getElem?_map, List.getElem?_eq_getElem hj']
   rfl
  rw [e2]
  exact h j _ (List.getElem?_eq_getElem hj')
 ·rintro e W' ⟨rfl, rfl⟩
  rw [show (l.map bs).take l.length = l.map bs from List.take_of_length_le (by simp), containsS_eq]
  exact ⟨rfl, rfl⟩
def RdP (w : World) (r : Nat × Nat) (e : Ending) (w' : World) : Prop := e = .returned (.tuple #[nV r.1, nV r.2]) ∧ Below w.heap.size w w'
theorem readW_len {l : List Tx} {names letters : Nat} {num : Bool} (h : l.length ≠ names + (if num then 1 else 0)) : readW l names letters num = (0, 10) := by
 unfold readW
 rw [decide_eq_true h]
 rfl
theorem readW_emp {l : List Tx} {names letters : Nat} {num : Bool} (h : l.contains [] = true) : readW l names letters num = (0, 10) := by
 unfold readW
 rw [h, Bool.or_true]
def readR (all num : Bool) (nb : Option Nat) : Nat × Nat := match all, num, nb with
 | false, _, _ => (0, 8)
 | true, false, _ => (0, 0)
 | true, true, some n => (n, 0)
 | true, true, .none => (0, 10)
theorem readW_rest {l : List Tx} {names letters : Nat} {num : Bool} (h : l.length = names + (if num then 1 else 0)) (h2 : l.contains [] = false) : readW l names letters num = readR ((l.take names).all (named · letters)) num (numb (l.getD names [])) := by
 unfold readW
 rw [h2, decide_eq_false (by simpa using h)]
 cases (l.take names).all (named · letters) <;> cases num <;> cases numb (l.getD names []) <;> rfl
theorem read_f (g off cap names letters : Nat) (l : List Tx) (w : World) (h : TxO w g off l) (hcap : l.length ≤ cap) (hl : l.length ≤ 1000000) (hE : Env w) (hlen : ∀ x ∈ l, x.length ≤ 1000000) (hn : names ≤ 1000) (hlt : letters ≤ 1000) (hoff : off ≤ 1000) :
  Calls Tryz.prog 100 #[.slice (some ⟨g, off, none⟩) l.length cap, nV names, nV letters, .bool false] w fun e w' => RdP w (readW l names letters false) e w' := by
 have mixed : Tryz.prog.follows .mixedOrders = true := by kernel_rfl
 have H := hidC h
 have HE := hidC hE
 have Hlen := hidC hlen
 have HC := hidC (containsO_calls w g off cap l [] h hl)
 clear h hE hlen
 obtain ⟨R, hRR⟩ : ∃ R, readW l names letters false = R := ⟨_, rfl⟩
 by_cases hne : l.length = names
 ·have h1 : ((l.length : Int) != (names : Int)) = false := by
   have : (l.length : Int) = (names : Int) := by omega
   rw [this]; simp
  cases hc : l.contains [] with
  | true =>
   rw [hc] at HC
   have hR : R = (0, 10) := hRR.symm.trans (readW_emp hc)
   rw [hRR]
   have HR := hidC hR
   have Hne := hidC hne
   clear hR hRR hne hc
   go_enter Tryz.func100, Tryz.ntmps100
   go_wp2_with (go_at_call 46; refine HC.out.mono ?_; rintro e wa ⟨rfl, rfl⟩)
   go_ret2
   exact ⟨by rw [HR.out]; rfl, Below.refl _ _⟩
  | false =>
   rw [hc] at HC
   have hR := readW_rest (letters := letters) (num := false) hne hc
   rw [hRR] at hR ⊢
   have HR := hidC hR
   have hnl : names ≤ l.length := by omega
   have hnc : names ≤ cap := by omega
   have hnci : (names : Int) ≤ (cap : Int) := by omega
   have Hne := hidC hne
   clear hR hRR hne hc
   go_enter Tryz.func100, Tryz.ntmps100
   go_wp2_with (go_at_call 46; refine HC.out.mono ?_; rintro e wa ⟨rfl, hw⟩; obtain rfl := hw.symm)
   go_loopg [12, 31] (names + 1) (fun gk s12 s31 wx => ∃ (i : Nat), s31 = .int .i64 i ∧ i ≤ names ∧ names < i + gk ∧ Below w.heap.size w wx ∧ (l.take i).all (named · letters) = true)
   case atStart => exact ⟨0, rfl, by omega, by omega, Below.refl _ _, rfl⟩
   case round =>
    obtain ⟨i, rfl, hi, hig, hb, hall⟩ := hrel
    by_cases him : i < names
    ·obtain ⟨g', rfl⟩ : ∃ g', gk = g' + 1 := ⟨gk - 1, by omega⟩
     have hil : i < l.length := by omega
     have hcx := (H.out.below hb (Nat.le_refl _)) i _ (List.getElem?_eq_getElem hil)
     obtain ⟨x, hx⟩ : ∃ x, l[i] = x := ⟨_, rfl⟩
     have hxl : x.length ≤ 1000000 := by rw [← hx]; exact Hlen.out _ (List.getElem_mem hil)
     rw [hx] at hcx
     have HN := hidC (named_calls x letters)
     have htake : l.take (i + 1) = l.take i ++ [x] := by rw [List.take_succ_eq_append_getElem hil, hx]
     have himi : decide ((i : Int) < (names : Int)) = true := decide_eq_true (by omega)
     have himj : (i : Int) < (names : Int) := by omega
     have hii : ((i + 1 : Nat) : Int) = (i : Int) + 1 := by omega
     have Hii := hidC hii
     have HB := hidC hb
     cases hnm : named x letters with
     | false =>
      rw [hnm] at HN
      have hr : R = (0, 8) := by
       rw [HR.out]
       have : (l.take names).all (named · letters) = false := by
        rw [List.all_eq_false]
        refine ⟨x, ?_, by rw [hnm]; simp⟩
        rw [← hx]
        exact List.mem_take_iff_getElem.2 ⟨i, by omega, rfl⟩
       rw [this]
       rfl
      have Hr := hidC hr
      clear hr hall htake hii hb hx hnm
      go_wp2_with (go_at_call 148; refine (HN.out _ hxl).mono ?_; rintro e wb ⟨rfl, hB2⟩)
      go_ret2
      exact ⟨by rw [Hr.out]; rfl, HB.out.trans (hB2.mono HB.out.size)⟩
     | true =>
      rw [hnm] at HN
      have hall2 : (l.take (i + 1)).all (named · letters) = true := by
       rw [htake, List.all_append, hall]
       simp [hnm]
      have Hall2 := hidC hall2
      clear hall hall2 htake hii hb hx hnm
      go_wp2_with (go_at_call 148; refine (HN.out _ hxl).mono ?_; rintro e wb ⟨rfl, hB2⟩)
      go_roundg g'
      case measure => omega
      case rel => exact ⟨i + 1, by rw [Hii.out], by omega, by omega, HB.out.trans (hB2.mono HB.out.size), Hall2.out⟩
    ·have himi : decide ((i : Int) < (names : Int)) = false := decide_eq_false (by omega)
     obtain rfl : i = names := by omega
     have HB := hidC hb
     have hr := HR.out
     rw [hall] at hr
     have Hr := hidC hr
     clear hr hall hb
     go_wp2_with fail
     go_ret2
     exact ⟨by rw [Hr.out]; rfl, HB.out⟩
 ·have h1 : ((l.length : Int) != (names : Int)) = true := by
   rw [bne_iff_ne]
   omega
  have hR : R = (0, 10) := hRR.symm.trans (readW_len (by simpa using hne))
  rw [hRR]
  have HR := hidC hR
  have Hne := hidC hne
  clear hR hRR hne
  go_enter Tryz.func100, Tryz.ntmps100
  go_wp2_with fail
  go_ret2
  exact ⟨by rw [HR.out]; rfl, Below.refl _ _⟩
theorem read_t (g off cap names letters : Nat) (l : List Tx) (w : World) (h : TxO w g off l) (hcap : l.length ≤ cap) (hl : l.length ≤ 1000000) (hE : Env w) (hlen : ∀ x ∈ l, x.length ≤ 1000000) (hn : names ≤ 1000) (hlt : letters ≤ 1000) (hoff : off ≤ 1000) :
  Calls Tryz.prog 100 #[.slice (some ⟨g, off, none⟩) l.length cap, nV names, nV letters, .bool true] w fun e w' => RdP w (readW l names letters true) e w' := by
 have mixed : Tryz.prog.follows .mixedOrders = true := by kernel_rfl
 have H := hidC h
 have HE := hidC hE
 have Hlen := hidC hlen
 have HC := hidC (containsO_calls w g off cap l [] h hl)
 clear h hE hlen
 obtain ⟨R, hRR⟩ : ∃ R, readW l names letters true = R := ⟨_, rfl⟩
 by_cases hne : l.length = names + 1
 ·have h1 : ((l.length : Int) != ((names : Int) + 1)) = false := by
   have : (l.length : Int) = ((names : Int) + 1) := by omega
   rw [this]; simp
  cases hc : l.contains [] with
  | true =>
   rw [hc] at HC
   have hR : R = (0, 10) := hRR.symm.trans (readW_emp hc)
   rw [hRR]
   have HR := hidC hR
   have Hne := hidC hne
   clear hR hRR hne hc
   go_enter Tryz.func100, Tryz.ntmps100
   go_wp2_with (go_at_call 46; refine HC.out.mono ?_; rintro e wa ⟨rfl, rfl⟩)
   go_ret2
   exact ⟨by rw [HR.out]; rfl, Below.refl _ _⟩
  | false =>
   rw [hc] at HC
   have hR := readW_rest (letters := letters) (num := true) hne hc
   rw [hRR] at hR ⊢
   have HR := hidC hR
   have hnl : names ≤ l.length := by omega
   have hnc : names ≤ cap := by omega
   have hnci : (names : Int) ≤ (cap : Int) := by omega
   have Hne := hidC hne
   clear hR hRR hne hc
   go_enter Tryz.func100, Tryz.ntmps100
   go_wp2_with (go_at_call 46; refine HC.out.mono ?_; rintro e wa ⟨rfl, hw⟩; obtain rfl := hw.symm)
   go_loopg [12, 31] (names + 1) (fun gk s12 s31 wx => ∃ (i : Nat), s31 = .int .i64 i ∧ i ≤ names ∧ names < i + gk ∧ Below w.heap.size w wx ∧ (l.take i).all (named · letters) = true)
   case atStart => exact ⟨0, rfl, by omega, by omega, Below.refl _ _, rfl⟩
   case round =>
    obtain ⟨i, rfl, hi, hig, hb, hall⟩ := hrel
    by_cases him : i < names
    ·obtain ⟨g', rfl⟩ : ∃ g', gk = g' + 1 := ⟨gk - 1, by omega⟩
     have hil : i < l.length := by omega
     have hcx := (H.out.below hb (Nat.le_refl _)) i _ (List.getElem?_eq_getElem hil)
     obtain ⟨x, hx⟩ : ∃ x, l[i] = x := ⟨_, rfl⟩
     have hxl : x.length ≤ 1000000 := by rw [← hx]; exact Hlen.out _ (List.getElem_mem hil)
     rw [hx] at hcx
     have HN := hidC (named_calls x letters)
     have htake : l.take (i + 1) = l.take i ++ [x] := by rw [List.take_succ_eq_append_getElem hil, hx]
     have himi : decide ((i : Int) < (names : Int)) = true := decide_eq_true (by omega)
     have himj : (i : Int) < (names : Int) := by omega
     have hii : ((i + 1 : Nat) : Int) = (i : Int) + 1 := by omega
     have Hii := hidC hii
     have HB := hidC hb
     cases hnm : named x letters with
     | false =>
      rw [hnm] at HN
      have hr : R = (0, 8) := by
       rw [HR.out]
       have : (l.take names).all (named · letters) = false := by
        rw [List.all_eq_false]
        refine ⟨x, ?_, by rw [hnm]; simp⟩
        rw [← hx]
        exact List.mem_take_iff_getElem.2 ⟨i, by omega, rfl⟩
       rw [this]
       rfl
      have Hr := hidC hr
      clear hr hall htake hii hb hx hnm
      go_wp2_with (go_at_call 148; refine (HN.out _ hxl).mono ?_; rintro e wb ⟨rfl, hB2⟩)
      go_ret2
      exact ⟨by rw [Hr.out]; rfl, HB.out.trans (hB2.mono HB.out.size)⟩
     | true =>
      rw [hnm] at HN
      have hall2 : (l.take (i + 1)).all (named · letters) = true := by
       rw [htake, List.all_append, hall]
       simp [hnm]
      have Hall2 := hidC hall2
      clear hall hall2 htake hii hb hx hnm
      go_wp2_with (go_at_call 148; refine (HN.out _ hxl).mono ?_; rintro e wb ⟨rfl, hB2⟩)
      go_roundg g'
      case measure => omega
      case rel => exact ⟨i + 1, by rw [Hii.out], by omega, by omega, HB.out.trans (hB2.mono HB.out.size), Hall2.out⟩
    ·have himi : decide ((i : Int) < (names : Int)) = false := decide_eq_false (by omega)
     obtain rfl : i = names := by omega
     have HB := hidC hb
     have hr := HR.out
     rw [hall] at hr
     have Hr := hidC hr
     have hil : i < l.length := by rw [Hne.out]; simp
     have hcx := (H.out.below hb (Nat.le_refl _)) i _ (List.getElem?_eq_getElem hil)
     obtain ⟨x, hx⟩ : ∃ x, l[i] = x := ⟨_, rfl⟩
     have hxl : x.length ≤ 1000000 := by rw [← hx]; exact Hlen.out _ (List.getElem_mem hil)
     have hxd : l.getD i [] = x := by rw [List.getD_eq_getElem?_getD, List.getElem?_eq_getElem hil, hx]; rfl
     rw [hx] at hcx
     rw [hxd] at Hr
     have HK := hidC (counted_calls x wr (HE.out.below hb HE.out.size) hxl)
     have hli : (i : Int) < (l.length : Int) := by omega
     cases hnb : numb x with
     | some n =>
      rw [hnb] at HK Hr
      clear hr hall hb hx hnb hxd
      go_wp2_with (go_at_call 77; refine HK.out.mono ?_; rintro e wb ⟨z, rfl, hz, hB2⟩; obtain rfl := hz _ rfl; clear hz)
      go_ret2
      exact ⟨by rw [Hr.out]; rfl, HB.out.trans (hB2.mono HB.out.size)⟩
     | none =>
      rw [hnb] at HK Hr
      clear hr hall hb hx hnb hxd
      go_wp2_with (go_at_call 77; refine HK.out.mono ?_; rintro e wb ⟨z, rfl, hz, hB2⟩; clear hz)
      go_ret2
      exact ⟨by rw [Hr.out]; rfl, HB.out.trans (hB2.mono HB.out.size)⟩
 ·have h1 : ((l.length : Int) != ((names : Int) + 1)) = true := by
   rw [bne_iff_ne]
   omega
  have hR : R = (0, 10) := hRR.symm.trans (readW_len (by simpa using hne))
  rw [hRR]
  have HR := hidC hR
  have Hne := hidC hne
  clear hR hRR hne
  go_enter Tryz.func100, Tryz.ntmps100
  go_wp2_with fail
  go_ret2
  exact ⟨by rw [HR.out]; rfl, Below.refl _ _⟩
end Go.Proofs.YtjeadhfponlnnaaGreatDoor
