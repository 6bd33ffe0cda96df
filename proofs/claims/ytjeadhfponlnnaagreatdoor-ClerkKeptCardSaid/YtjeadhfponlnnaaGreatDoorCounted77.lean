/-
  Names and numbers in the program.
  The number that a word is.
  Conditions: none; definitions and lemmas.
-/
import Derived.Test.YtjeadhfponlnnaaGreatDoorLeft238
import Derived.Test.YtjeadhfponlnnaaGreatDoorShelf14
import Derived.Test.YtjeadhfponlnnaaGreatDoorNumb14
import Derived.Shelf.Strings.SlTrimAscii
set_option linter.unusedSimpArgs false
set_option linter.unusedVariables false
namespace Go.Proofs.YtjeadhfponlnnaaGreatDoor
open Go.RowKit Go.Pur Go.Clerk
open Go.Abs
set_option maxRecDepth 1000000
set_option maxHeartbeats 8000000
def RP (w : World) (v : Value) (e : Ending) (w' : World) : Prop := e = .returned v ∧ Below w.heap.size w w'
theorem trim_calls (wd : Tx) (w : World) (hl : wd.length ≤ 1000000) : Calls Tryz.prog 177 #[sV wd, sV alpha] w fun e w' => e = .returned (sV (Lib.trimS wd alpha)) ∧ Below w.heap.size w w' := by
 refine (Any.strings_Trim_laid Tryz.lays160 (by kernel_rfl) (bs wd) (bs alpha) w (by rw [bs_size]; omega) (by rw [bs_size]; decide) (ascii_of_all (by decide))).mono ?_
 rintro e w' ⟨rfl, h⟩
 exact ⟨rfl, h⟩
theorem named_calls (wd : Tx) (m : Nat) (w : World) (hl : wd.length ≤ 1000000) : Calls Tryz.prog 148 #[sV wd, nV m] w fun e w' => RP w (.bool (named wd m)) e w' := by
 have hR := named_trim (w := wd) (m := m)
 have HT := hidC (trim_calls wd)
 obtain ⟨T, hT⟩ : ∃ T, Lib.trimS wd alpha = T := ⟨_, rfl⟩
 rw [hT] at hR HT
 obtain ⟨b, hb⟩ : ∃ b, named wd m = b := ⟨_, rfl⟩
 rw [hb] at hR ⊢
 have HR := hidC hR
 clear hR hT hb
 cases wd with
 | nil =>
  have hb : b = false := HR.out
  subst hb
  go_enter Tryz.func148, Tryz.ntmps148
  go_wp2
  go_ret
  exact ⟨rfl, Below.refl _ _⟩
 | cons c l =>
  by_cases hle : (c :: l).length ≤ m
  ·have hlei : decide ((c :: l).length ≤ m) = true := decide_eq_true hle
   have hlej : decide (l.length + 1 ≤ m) = true := hlei
   have hlek : decide (((l.length : Int) + 1) ≤ (m : Int)) = true := decide_eq_true (by simp at hle; omega)
   have hb : b = decide (T = []) := by
    rw [HR.out, hlei]
    simp
   have Hb := hidC hb
   clear hb hle
   cases T with
   | nil =>
    go_enter Tryz.func148, Tryz.ntmps148
    go_wp2_with (go_at_call 177; refine (HT.out _ hl).mono ?_; rintro e wa ⟨rfl, hB⟩)
    go_ret
    exact ⟨by rw [Hb.out]; rfl, hB⟩
   | cons t1 t2 =>
    go_enter Tryz.func148, Tryz.ntmps148
    go_wp2_with (go_at_call 177; refine (HT.out _ hl).mono ?_; rintro e wa ⟨rfl, hB⟩)
    go_ret
    exact ⟨by rw [Hb.out]; rfl, hB⟩
  ·have hlei : decide ((c :: l).length ≤ m) = false := decide_eq_false hle
   have hlej : decide (l.length + 1 ≤ m) = false := hlei
   have hlek : decide (((l.length : Int) + 1) ≤ (m : Int)) = false := decide_eq_false (by simp at hle; omega)
   have hb : b = false := by
    rw [HR.out, hlei]
    simp
   subst hb
   clear hle
   go_enter Tryz.func148, Tryz.ntmps148
   go_wp2
   go_ret
   exact ⟨rfl, Below.refl _ _⟩
end Go.Proofs.YtjeadhfponlnnaaGreatDoor
set_option linter.unusedSimpArgs false
set_option linter.unusedVariables false
namespace Go.Proofs.YtjeadhfponlnnaaGreatDoor
open Go.RowKit Go.Pur Go.Clerk
open Go.Abs
set_option maxRecDepth 1000000
set_option maxHeartbeats 8000000
structure Env (W : World) : Prop where
 size : 16 ≤ W.heap.size
 maxlen : ∃ m, W.cell? ⟨2, 0, none⟩ = some (.int .i64 m)
 esyn : ∃ ev, W.cell? ⟨3, 0, none⟩ = some ev ∧ (ev = .nilIface ∨ ∃ te pe, ev = .iface te pe)
 erng : ∃ ev, W.cell? ⟨4, 0, none⟩ = some ev ∧ (ev = .nilIface ∨ ∃ te pe, ev = .iface te pe)
 pow : Lib.TabIs Tryz.prog W "internal/strconv.uint64pow10" .u64 Lib.pow10Tab
theorem tabIs_of {W W' : World} {name : String} {k : IntKind} {zs : List Int} {g : Nat} (hg : Tryz.prog.globalNamed name = some g) (h : Lib.TabIs Tryz.prog W name k zs) (e : W'.heap[g]? = W.heap[g]?) : Lib.TabIs Tryz.prog W' name k zs := by
 unfold Lib.TabIs World.var? at *
 rw [hg] at h ⊢
 simp only [Option.bind_some] at h ⊢
 rw [e]
 exact h
theorem Env.of {W W' : World} (h : Env W) (hs : W.heap.size ≤ W'.heap.size) (e : ∀ k, k < 16 → W'.heap[k]? = W.heap[k]?) : Env W' := by
 have hc : ∀ k, k < 16 → W'.cell? ⟨k, 0, none⟩ = W.cell? ⟨k, 0, none⟩ := fun k hk => World.cell?_of_block (a := ⟨k, 0, none⟩) (e k hk)
 exact ⟨Nat.le_trans h.size hs, by rw [hc 2 (by decide)]; exact h.maxlen, by rw [hc 3 (by decide)]; exact h.esyn, by rw [hc 4 (by decide)]; exact h.erng, tabIs_of (g := 5) (by kernel_rfl) h.pow (e 5 (by decide))⟩
theorem Env.below {W W' : World} {n : Nat} (h : Env W) (hb : Below n W W') (hn : 16 ≤ n) : Env W' := h.of hb.size fun k hk => hb.block k (by omega)
theorem grow_below {W : World} {n k : Nat} {os : Array Obj} (hn : n ≤ W.heap.size) : Below n W (Go.Sort.grow (W.drewN k) os) := by
 refine ⟨rfl, rfl, rfl, ?_, fun j hj => ?_⟩
 ·show W.heap.size ≤ (W.heap ++ os).size
  simp
 ·show (W.heap ++ os)[j]? = _
  rw [Array.getElem?_append_left (by omega)]
theorem itoa_calls (z : Int) (h0 : -9223372036854775808 ≤ z) (h1 : z ≤ 9223372036854775807) (w : World) (hE : Env w) : Calls Tryz.prog 27 #[.int .i64 z] w fun e w' => RP w (sV (Lib.itoa z)) e w' := by
 refine (Tryz.strconv_Itoa z h0 h1 w hE.pow).mono ?_
 rintro e w' ⟨rfl, k, os, rfl⟩
 exact ⟨rfl, grow_below (Nat.le_refl _)⟩
def AtP (w : World) (r : Lib.NumEnd Int) (e : Ending) (w' : World) : Prop := Below w.heap.size w w' ∧ match r with
 | .ok v => e = .returned (.tuple #[.int .i64 v, .nilIface])
 | _ => ∃ z t q, e = .returned (.tuple #[.int .i64 z, .iface t (.pointer (some q))])
theorem atoi_calls (wd : Tx) (w : World) (hE : Env w) (hl : wd.length ≤ 1000000) : Calls Tryz.prog 43 #[sV wd] w fun e w' => AtP w (Lib.atoiAll wd) e w' := by
 cases hr : Lib.atoiAll wd with
 | ok v =>
  refine (Tryz.strconv_Atoi_ok (bs wd) (by rw [bs_size]; omega) v hr w).mono ?_
  rintro e w' ⟨rfl, rfl | ⟨t, rfl⟩⟩
  ·exact ⟨Below.refl _ _, rfl⟩
  ·exact ⟨Lib.bytesWorld_below _ _ _, rfl⟩
 | range =>
  obtain ⟨ev, h1, h2⟩ := hE.erng
  refine (Tryz.strconv_Atoi_range (bs wd) (by rw [bs_size]; omega) hr ev w h1 h2).mono ?_
  rintro e w' ⟨N, rfl, _, _, hb⟩
  exact ⟨hb, _, _, _, rfl⟩
 | _ =>
  obtain ⟨ev, h1, h2⟩ := hE.esyn
  refine (Tryz.strconv_Atoi_syntax (bs wd) (by rw [bs_size]; omega) hr ev w h1 h2).mono ?_
  rintro e w' ⟨N, rfl, _, _, hb⟩
  exact ⟨hb, _, _, _, rfl⟩
def CtP (w : World) (r : Option Nat) (e : Ending) (w' : World) : Prop := ∃ z, e = .returned (.tuple #[.int .i64 z, .bool r.isSome]) ∧ (∀ n, r = some n → z = (n : Int)) ∧ Below w.heap.size w w'
theorem counted_calls (wd : Tx) (w : World) (hE : Env w) (hl : wd.length ≤ 1000000) : Calls Tryz.prog 77 #[sV wd] w fun e w' => CtP w (numb wd) e w' := by
 have hs := numb_spec (w := wd)
 have hA := hidC (atoi_calls wd w hE hl)
 have HE := hidC hE
 obtain ⟨r, hr⟩ : ∃ r, numb wd = r := ⟨_, rfl⟩
 rw [hr] at hs ⊢
 cases ha : Lib.atoiAll wd with
 | ok v =>
  rw [ha] at hA hs
  simp only [] at hs
  have HS := hidC hs
  clear hs hr ha hE
  by_cases h0 : 0 ≤ v
  ·have h0i : decide (0 ≤ v) = true := decide_eq_true h0
   by_cases h9 : v ≤ 9999
   ·have h9i : decide (v ≤ 9999) = true := decide_eq_true h9
    have HI : Hid (∀ W, Below w.heap.size w W → Calls Tryz.prog 27 #[.int .i64 v] W fun e w' => RP W (sV (Lib.itoa v)) e w') := hidC fun W hW => itoa_calls v (by omega) (by omega) W (HE.out.below hW HE.out.size)
    obtain ⟨q, hq⟩ : ∃ q, Lib.itoa v = q := ⟨_, rfl⟩
    rw [hq] at HI HS
    by_cases hqw : q = wd
    ·have hbi : (q == wd) = true := by rw [hqw]; simp
     have hr : r = some v.toNat := by rw [HS.out, if_pos ⟨h0, h9, hqw⟩]
     have Hr := hidC hr
     have H0 := hidC h0
     clear hr hqw hq
     go_enter Tryz.func77, Tryz.ntmps77
     go_wp2_with (first | (go_at_call 43; refine hA.out.mono ?_; rintro e wa ⟨hB, rfl⟩; have HB := hidC hB; clear hB) | (go_at_call 27; refine (HI.out _ HB.out).mono ?_; rintro e wb ⟨rfl, hB2⟩; have HB2 := hidC hB2; clear hB2))
     go_ret2
     refine ⟨v, by rw [Hr.out]; rfl, fun n hn => ?_, HB.out.trans (HB2.out.mono HB.out.size)⟩
     rw [Hr.out] at hn
     have := Option.some.inj hn
     have := H0.out
     omega
    ·have hbi : (q == wd) = false := beq_eq_false_iff_ne.2 hqw
     have hr : r = none := by rw [HS.out, if_neg (fun h => hqw h.2.2)]
     have Hr := hidC hr
     clear hr hqw hq
     go_enter Tryz.func77, Tryz.ntmps77
     go_wp2_with (first | (go_at_call 43; refine hA.out.mono ?_; rintro e wa ⟨hB, rfl⟩; have HB := hidC hB; clear hB) | (go_at_call 27; refine (HI.out _ HB.out).mono ?_; rintro e wb ⟨rfl, hB2⟩; have HB2 := hidC hB2; clear hB2))
     go_ret2
     exact ⟨v, by rw [Hr.out]; rfl, (fun n hn => by rw [Hr.out] at hn; cases hn), HB.out.trans (HB2.out.mono HB.out.size)⟩
   ·have h9i : decide (v ≤ 9999) = false := decide_eq_false h9
    have hr : r = none := by rw [HS.out, if_neg (fun h => h9 h.2.1)]
    have Hr := hidC hr
    clear hr h9
    go_enter Tryz.func77, Tryz.ntmps77
    go_wp2_with (go_at_call 43; refine hA.out.mono ?_; rintro e wa ⟨hB, rfl⟩; have HB := hidC hB; clear hB)
    go_ret2
    exact ⟨v, by rw [Hr.out]; rfl, (fun n hn => by rw [Hr.out] at hn; cases hn), HB.out⟩
  ·have h0i : decide (0 ≤ v) = false := decide_eq_false h0
   have hr : r = none := by rw [HS.out, if_neg (fun h => h0 h.1)]
   have Hr := hidC hr
   clear hr h0
   go_enter Tryz.func77, Tryz.ntmps77
   go_wp2_with (go_at_call 43; refine hA.out.mono ?_; rintro e wa ⟨hB, rfl⟩; have HB := hidC hB; clear hB)
   go_ret2
   exact ⟨v, by rw [Hr.out]; rfl, (fun n hn => by rw [Hr.out] at hn; cases hn), HB.out⟩
 | range =>
  rw [ha] at hA hs
  have HS := hidC (show r = none from hs)
  clear hs hr ha hE
  go_enter Tryz.func77, Tryz.ntmps77
  go_wp2_with (go_at_call 43; refine hA.out.mono ?_; rintro e wa ⟨hB, z, t, q, rfl⟩; have HB := hidC hB; clear hB)
  go_ret2
  exact ⟨z, by rw [HS.out]; rfl, (fun n hn => by rw [HS.out] at hn; cases hn), HB.out⟩
 | _ =>
  rw [ha] at hA hs
  have HS := hidC (show r = none from hs)
  clear hs hr ha hE
  go_enter Tryz.func77, Tryz.ntmps77
  go_wp2_with (go_at_call 43; refine hA.out.mono ?_; rintro e wa ⟨hB, z, t, q, rfl⟩; have HB := hidC hB; clear hB)
  go_ret2
  exact ⟨z, by rw [HS.out]; rfl, (fun n hn => by rw [HS.out] at hn; cases hn), HB.out⟩
end Go.Proofs.YtjeadhfponlnnaaGreatDoor
