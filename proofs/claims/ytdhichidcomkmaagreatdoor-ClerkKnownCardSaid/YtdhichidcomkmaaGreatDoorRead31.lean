/-
  Read: the office of a text.
  Conditions: none; definitions and lemmas.
-/
import Derived.Test.YtdhichidcomkmaaGreatDoorNoOff
set_option linter.unusedSimpArgs false
set_option linter.unusedVariables false
namespace Go.Proofs.YtdhichidcomkmaaGreatDoor
open Go.RowKit Go.Pur Go.Clerk
open Go.Abs
set_option maxRecDepth 1000000
set_option maxHeartbeats 8000000
def tellR : List Tx → Off → Option Off
 | [], S => some S
 | l :: r, S => match decide (l = kUndo), tell S l with
  | true, _ => none
  | false, (0, S') => tellR r S'
  | false, (_ + 1, _) => none
theorem tellR_snoc : ∀ (l m : List Tx) (S : Off), tellR (l ++ m) S = (tellR l S).bind fun S' => tellR m S'
 | [], m, S => rfl
 | a :: l, m, S => by
  rw [List.cons_append]
  simp only [tellR]
  cases decide (a = kUndo) with
  | true => rfl
  | false =>
   rcases hq : tell S a with ⟨_ | e, S'⟩
   ·simp only []
    exact tellR_snoc l m S'
   ·rfl
theorem tellR_undo {S : Off} : tellR [kUndo] S = none := by simp only [tellR, decide_true]
theorem tellR_one {S S' : Off} {x : Tx} (h : x ≠ kUndo) (ht : tell S x = (0, S')) : tellR [x] S = some S' := by
 simp only [tellR, decide_eq_false h, ht]
theorem tellR_bad {S S' : Off} {x : Tx} {e : Nat} (h : x ≠ kUndo) (ht : tell S x = (e + 1, S')) : tellR [x] S = none := by
 simp only [tellR, decide_eq_false h, ht]
def readI (t : Tx) : Int := Lib.lastIndexByte (bs (Lib.trimSuffix t [10])) 10
def readEnd (s : Tx) (a : Nat) : Option Nat := if Lib.hasPrefix (s.drop (a + 1)) kEnd then numb (Lib.trimPrefix (s.drop (a + 1)) kEnd) else none
def readL (s : Tx) (a : Nat) : Option Off × Nat := match tellR ((splitC 10 (s.take a)).tail) Off.none with
 | some S => (some S, 0)
 | none => (none, 14)
def readS (s : Tx) (a : Nat) : Option Off × Nat := match readEnd s a with
 | none => (none, 9)
 | some n => if n = check (s.take (a + 1)) then readL s a else (none, 18)
def readT (t : Tx) : Option Off × Nat :=
 if 16000 < t.length then (none, 19)
 else if Lib.hasSuffix t [10] = false ∨ readI t < 0 ∨ Lib.hasPrefix (Lib.trimSuffix t [10]) kHead = false then (none, 9)
 else readS (Lib.trimSuffix t [10]) (readI t).toNat
def RdO (w : World) (r : Option Off × Nat) (e : Ending) (w' : World) : Prop := Below w.heap.size w w' ∧ match r.1 with
 | some S => ∃ o, e = .returned (.tuple #[ptrV o, nV r.2]) ∧ OffAt w' o S ∧ OffOK S ∧ w.heap.size ≤ o
 | none => e = .returned (.tuple #[.pointer none, nV r.2])
theorem rd_none {w w' : World} {n : Nat} (hb : Below w.heap.size w w') : RdO w (none, n) (.returned (.tuple #[.pointer none, nV n])) w' := ⟨hb, rfl⟩
theorem split10_calls (s : Tx) (w : World) (hE : Env w) (hl : s.length ≤ 1000000) : Calls Tryz.prog 79 #[sV s, .string ⟨#[10]⟩] w fun e w' => e = .returned (.slice (some ⟨w.heap.size, 0, none⟩) (splitC 10 s).length (splitC 10 s).length) ∧ w' = w.alloc (.cells ((splitC 10 s).map sV).toArray 9) := by
 obtain ⟨m, hm⟩ := hE.maxlen
 refine (Tryz.strings_Split (bs s) ⟨#[10]⟩ m w (by rw [bs_size]; omega) hm (by decide)).mono ?_
 rintro e w' ⟨rfl, rfl⟩
 have h1 : Lib.countB (bs s) ⟨#[10]⟩ + 1 = (splitC 10 s).length := splitC_len.symm
 have h2 : (Lib.splitB ⟨#[10]⟩ 0 (Lib.countB (bs s) ⟨#[10]⟩) (bs s)).map Value.string = (splitC 10 s).map sV := by
  have h3 := splitB_C (c := 10) (l := s)
  rw [← h3, List.map_map]
  refine List.map_congr_left fun x _ => ?_
  show Value.string x = sV x.data.toList
  congr 1
 rw [h1, h2]
 exact ⟨rfl, rfl⟩
theorem cutS_calls (t : Tx) (w : World) (hl : t.length ≤ 1000000) : Calls Tryz.prog 73 #[sV t, .string ⟨#[10]⟩] w fun e w' => e = .returned (.tuple #[sV (Lib.trimSuffix t [10]), .bool (Lib.hasSuffix t [10])]) ∧ w' = w := by
 have h := Tryz.strings_CutSuffix (bs t) ⟨#[10]⟩ w (by rw [bs_size]; omega)
 exact h
theorem cutP_calls (t : Tx) (w : World) : Calls Tryz.prog 76 #[sV t, .string ⟨#[101, 110, 100, 32]⟩] w fun e w' => e = .returned (.tuple #[sV (Lib.trimPrefix t kEnd), .bool (Lib.hasPrefix t kEnd)]) ∧ w' = w := Tryz.strings_CutPrefix (bs t) ⟨#[101, 110, 100, 32]⟩ w
theorem hasP_calls (t : Tx) (w : World) : Calls Tryz.prog 75 #[sV t, .string ⟨#[104, 101, 97, 100, 119, 111, 114, 100, 10]⟩] w fun e w' => e = .returned (.bool (Lib.hasPrefix t kHead)) ∧ w' = w := Tryz.strings_HasPrefix (bs t) ⟨#[104, 101, 97, 100, 119, 111, 114, 100, 10]⟩ w
theorem last_calls (t : Tx) (w : World) (hl : t.length ≤ 1000000) : Calls Tryz.prog 74 #[sV t, .int .u8 10] w fun e w' => e = .returned (.int .i64 (Lib.lastIndexByte (bs t) 10)) ∧ w' = w := Tryz.strings_LastIndexByte (bs t) 10 (by rw [bs_size]; omega) w
theorem read_long (t : Tx) (w : World) (hl : 16000 < t.length) (hl2 : t.length ≤ 1000000000) : Calls Tryz.prog 31 #[sV t] w fun e w' => RdO w (readT t) e w' := by
 have mixed : Tryz.prog.follows .mixedOrders = true := by kernel_rfl
 have hR : readT t = (none, 19) := by unfold readT; rw [if_pos hl]
 rw [hR]
 have hz : (bs t).size = t.length := bs_size
 have h1 : decide ((t.length : Int) > 16000) = true := decide_eq_true (by omega)
 have h2 : ((16000 : Int) < (t.length : Int)) := by omega
 go_enter Tryz.func31, Tryz.ntmps31
 go_wp2_with fail
 go_ret2
 exact rd_none (Below.refl _ _)
theorem read_text (t : Tx) (w : World) (hl : t.length ≤ 16000) (h : Lib.hasSuffix t [10] = false ∨ readI t < 0 ∨ Lib.hasPrefix (Lib.trimSuffix t [10]) kHead = false) : Calls Tryz.prog 31 #[sV t] w fun e w' => RdO w (readT t) e w' := by
 have mixed : Tryz.prog.follows .mixedOrders = true := by kernel_rfl
 have hR : readT t = (none, 9) := by unfold readT; rw [if_neg (by omega), if_pos h]
 rw [hR]
 have hz : (bs t).size = t.length := bs_size
 have h2 : ¬ ((16000 : Int) < (t.length : Int)) := by omega
 have hs : (Lib.trimSuffix t [10]).length ≤ t.length := by unfold Lib.trimSuffix; split <;> simp
 have HC := hidC (cutS_calls t w (by omega))
 have HL := hidC (last_calls (Lib.trimSuffix t [10]) w (by omega))
 have HP := hidC (hasP_calls (Lib.trimSuffix t [10]) w)
 have hi : Lib.lastIndexByte (bs (Lib.trimSuffix t [10])) 10 = readI t := rfl
 rw [hi] at HL
 obtain ⟨s, hse⟩ : ∃ s, Lib.trimSuffix t [10] = s := ⟨_, rfl⟩
 obtain ⟨b, hbe⟩ : ∃ b, Lib.hasSuffix t [10] = b := ⟨_, rfl⟩
 obtain ⟨i, hie⟩ : ∃ i, readI t = i := ⟨_, rfl⟩
 rw [hse, hbe] at HC
 rw [hse, hie] at HL
 rw [hse] at HP
 rw [hbe, hie, hse] at h
 obtain ⟨q, hq⟩ : ∃ q, Lib.hasPrefix s kHead = q := ⟨_, rfl⟩
 rw [hq] at HP h
 clear hse hbe hie hi hs hq hR
 cases b with
 | false =>
  clear h
  go_enter Tryz.func31, Tryz.ntmps31
  go_wp2_with (first
   | (go_at_call 73; refine HC.out.mono ?_; rintro e wa ⟨rfl, hwa⟩; subst wa)
   | (go_at_call 74; refine HL.out.mono ?_; rintro e wa ⟨rfl, hwa⟩; subst wa))
  go_ret2
  exact rd_none (Below.refl _ _)
 | true =>
  by_cases hneg : i < 0
  ·clear h
   go_enter Tryz.func31, Tryz.ntmps31
   go_wp2_with (first
    | (go_at_call 73; refine HC.out.mono ?_; rintro e wa ⟨rfl, hwa⟩; subst wa)
    | (go_at_call 74; refine HL.out.mono ?_; rintro e wa ⟨rfl, hwa⟩; subst wa))
   go_ret2
   exact rd_none (Below.refl _ _)
  ·have hq : q = false := by
    rcases h with h | h | h
    ·cases h
    ·exact absurd h hneg
    ·exact h
   subst hq
   clear h
   go_enter Tryz.func31, Tryz.ntmps31
   go_wp2_with (first
    | (go_at_call 73; refine HC.out.mono ?_; rintro e wa ⟨rfl, hwa⟩; subst wa)
    | (go_at_call 74; refine HL.out.mono ?_; rintro e wa ⟨rfl, hwa⟩; subst wa)
    | (go_at_call 75; refine HP.out.mono ?_; rintro e wa ⟨rfl, hwa⟩; subst wa))
   go_ret2
   exact rd_none (Below.refl _ _)
theorem readI_at {t : Tx} (h : ¬ readI t < 0) : ∃ a : Nat, readI t = (a : Int) ∧ a < (Lib.trimSuffix t [10]).length := by
 rcases Lib.lastIndexByte_spec (bs (Lib.trimSuffix t [10])) 10 with ⟨h1, _⟩ | ⟨i, h1, h2, _⟩
 ·exact absurd (show readI t < 0 by unfold readI; rw [h1]; decide) h
 ·exact ⟨i, h2, by rw [bs_size] at h1; exact h1⟩
theorem read_rest (t : Tx) (w : World) (hE : Env w) (hl : t.length ≤ 16000) (s : Tx) (a : Nat) (hs : Lib.trimSuffix t [10] = s) (h1 : Lib.hasSuffix t [10] = true) (h2 : readI t = (a : Int)) (ha : a < s.length) (h3 : Lib.hasPrefix s kHead = true) :
  Calls Tryz.prog 31 #[sV t] w fun e w' => RdO w (readS s a) e w' := by
 have mixed : Tryz.prog.follows .mixedOrders = true := by kernel_rfl
 have hz : (bs t).size = t.length := bs_size
 have hzs : (bs s).size = s.length := bs_size
 have h16 : ¬ ((16000 : Int) < (t.length : Int)) := by omega
 have hsl : s.length ≤ t.length := by rw [← hs]; unfold Lib.trimSuffix; split <;> simp
 have HC := hidC (cutS_calls t w (by omega))
 rw [hs, h1] at HC
 have HL := hidC (last_calls (Lib.trimSuffix t [10]) w (by rw [hs]; omega))
 have hi : Lib.lastIndexByte (bs (Lib.trimSuffix t [10])) 10 = readI t := rfl
 rw [hi, hs, h2] at HL
 have HP := hidC (hasP_calls s w)
 rw [h3] at HP
 have HQ := hidC (cutP_calls (s.drop (a + 1)) w)
 obtain ⟨q, hq⟩ : ∃ q, Lib.hasPrefix (s.drop (a + 1)) kEnd = q := ⟨_, rfl⟩
 obtain ⟨x, hx⟩ : ∃ x, Lib.trimPrefix (s.drop (a + 1)) kEnd = x := ⟨_, rfl⟩
 rw [hq, hx] at HQ
 have hxl : x.length ≤ 16000 := by
  rw [← hx]; unfold Lib.trimPrefix
  split <;> simp <;> omega
 have hre : readEnd s a = if q then numb x else none := by unfold readEnd; rw [hq, hx]
 have HN := hidC (counted_calls x w hE (by omega))
 have hxt : ∀ k, (bs s).extract 0 k = bs (s.take k) := fun k => by
  apply ByteArray.ext
  apply Array.ext'
  simp [bs, ByteArray.data_extract]
 have hxd : (bs s).extract (a + 1) s.length = bs (s.drop (a + 1)) := by
  apply ByteArray.ext
  apply Array.ext'
  simp [bs, ByteArray.data_extract]
  exact List.take_of_length_le (by simp)
 have hx1 := hxt (a + 1)
 have hx0 := hxt a
 have ha1 : (a : Int) + 1 ≤ (s.length : Int) := by omega
 have ha2 : a + 1 ≤ s.length := by omega
 have ha3 : ¬ (a : Int) < 0 := by omega
 have hcl : (s.take (a + 1)).length ≤ 100000000 := by rw [List.length_take]; omega
 have HCk : Hid (∀ W, Calls Tryz.prog 78 #[sV (s.take (a + 1))] W fun e w' => e = .returned (nV (check (s.take (a + 1)))) ∧ Below W.heap.size W w') := hidC fun W => check_calls _ W hcl
 have HNw := hidC new_calls
 have HSp : Hid (∀ W, Below w.heap.size w W → Calls Tryz.prog 79 #[sV (s.take a), .string ⟨#[10]⟩] W fun e w' => e = .returned (.slice (some ⟨W.heap.size, 0, none⟩) (splitC 10 (s.take a)).length (splitC 10 (s.take a)).length) ∧ w' = W.alloc (.cells ((splitC 10 (s.take a)).map sV).toArray 9)) := hidC fun W hW => split10_calls _ W (hE.below hW hE.size) (by rw [List.length_take]; omega)
 have HE := hidC hE
 have hrS : readS s a = match readEnd s a with
  | none => (none, 9)
  | some n => if n = check (s.take (a + 1)) then readL s a else (none, 18) := rfl
 have Hsl := hidC hsl
 have Hl := hidC hl
 clear hs h1 h2 h3 hi hq hx hxt hE hcl
 obtain ⟨r, hr⟩ : ∃ r, numb x = r := ⟨_, rfl⟩
 rw [hr] at HN hre
 clear hr
 cases q with
 | false =>
  have hR : readS s a = (none, 9) := by rw [hrS, hre]; rfl
  rw [hR]
  clear hrS hre hR
  go_enter Tryz.func31, Tryz.ntmps31
  go_wp2_with (first
   | (go_at_call 73; refine HC.out.mono ?_; rintro e wa ⟨rfl, hwa⟩; subst wa)
   | (go_at_call 74; refine HL.out.mono ?_; rintro e wa ⟨rfl, hwa⟩; subst wa)
   | (go_at_call 75; refine HP.out.mono ?_; rintro e wa ⟨rfl, hwa⟩; subst wa)
   | (go_at_call 76; refine HQ.out.mono ?_; rintro e wa ⟨rfl, hwa⟩; subst wa)
   | (go_at_call 77; refine HN.out.mono ?_; rintro e wb ⟨z, rfl, hz1, hb⟩; have Hz1 := hidC hz1; have Hb := hidC hb; clear hz1 hb))
  go_ret2
  exact rd_none Hb.out
 | true =>
  cases r with
  | none =>
   have hR : readS s a = (none, 9) := by rw [hrS, hre]; rfl
   rw [hR]
   clear hrS hre hR
   go_enter Tryz.func31, Tryz.ntmps31
   go_wp2_with (first
    | (go_at_call 73; refine HC.out.mono ?_; rintro e wa ⟨rfl, hwa⟩; subst wa)
    | (go_at_call 74; refine HL.out.mono ?_; rintro e wa ⟨rfl, hwa⟩; subst wa)
    | (go_at_call 75; refine HP.out.mono ?_; rintro e wa ⟨rfl, hwa⟩; subst wa)
    | (go_at_call 76; refine HQ.out.mono ?_; rintro e wa ⟨rfl, hwa⟩; subst wa)
    | (go_at_call 77; refine HN.out.mono ?_; rintro e wb ⟨z, rfl, hz1, hb⟩; have Hz1 := hidC hz1; have Hb := hidC hb; clear hz1 hb))
   go_ret2
   exact rd_none Hb.out
  | some n =>
   rw [hre] at hrS
   have hrS2 : readS s a = if n = check (s.take (a + 1)) then readL s a else (none, 18) := hrS
   obtain ⟨c, hc⟩ : ∃ c, check (s.take (a + 1)) = c := ⟨_, rfl⟩
   rw [hc] at hrS2 HCk
   clear hrS hre hc
   by_cases hnc : n = c
   ·rw [if_pos hnc] at hrS2
    rw [hrS2]
    subst hnc
    have hne : ((n : Int) != (n : Int)) = false := bne_eq_false_iff_eq.2 rfl
    clear hrS2
    obtain ⟨p0, ps, hps⟩ := List.exists_cons_of_ne_nil (splitC_ne (c := 10) (l := s.take a))
    have hpl : ∀ l ∈ ps, l.length ≤ 100000 := fun l hl => by
     have := (splitC_bound (c := 10) (l := s.take a)).2 l (by rw [hps]; exact List.mem_cons_of_mem _ hl)
     have h4 : (s.take a).length ≤ s.length := by rw [List.length_take]; omega
     have := Hsl.out
     have := Hl.out
     omega
    have hpn : ps.length ≤ 16001 := by
     have := (splitC_bound (c := 10) (l := s.take a)).1
     rw [hps] at this
     have h4 : (s.take a).length ≤ s.length := by rw [List.length_take]; omega
     have := Hsl.out
     have := Hl.out
     simp at *
     omega
    have hRL : readL s a = match tellR ps Off.none with
     | some S => (some S, 0)
     | none => (none, 14) := by unfold readL; rw [hps]; rfl
    obtain ⟨R, hRe⟩ : ∃ R, readL s a = R := ⟨_, rfl⟩
    rw [hRe] at hRL ⊢
    have HRL := hidC hRL
    rw [hps] at HSp
    have Hpl := hidC hpl
    obtain ⟨N, hN⟩ : ∃ N, ps.length = N := ⟨_, rfl⟩
    rw [show (p0 :: ps).length = N + 1 by simp [hN]] at HSp
    rw [hN] at hpn
    clear hpl hps hRL hRe
    rcases Nat.eq_zero_or_pos N with hN0 | hN0
    ·subst hN0
     have hps0 : ps = [] := List.eq_nil_of_length_eq_zero hN
     subst hps0
     go_enter Tryz.func31, Tryz.ntmps31
     go_wp2_with (first
      | (go_at_call 73; refine HC.out.mono ?_; rintro e wa ⟨rfl, hwa⟩; subst wa)
      | (go_at_call 74; refine HL.out.mono ?_; rintro e wa ⟨rfl, hwa⟩; subst wa)
      | (go_at_call 75; refine HP.out.mono ?_; rintro e wa ⟨rfl, hwa⟩; subst wa)
      | (go_at_call 76; refine HQ.out.mono ?_; rintro e wa ⟨rfl, hwa⟩; subst wa)
      | (go_at_call 77; refine HN.out.mono ?_; rintro e wb ⟨z, rfl, hz1, hb⟩; obtain rfl := hz1 n rfl; have Hb := hidC hb; clear hz1 hb)
      | (go_at_call 78; refine (HCk.out _).mono ?_; rintro e wc ⟨rfl, hbc⟩; have Hbc := hidC (Hb.out.trans (hbc.mono Hb.out.size)); clear hbc)
      | (go_at_call 16; refine (HNw.out _).mono ?_; rintro e wd ⟨o, rfl, ho, hoW, hbd⟩; have Ho := hidC ho; have HoW := hidC (Nat.le_trans Hbc.out.size hoW); have Hbd := hidC (Hbc.out.trans (hbd.mono Hbc.out.size)); clear ho hoW hbd)
      | (go_at_call 79; refine (HSp.out _ Hbd.out).mono ?_; rintro e we ⟨rfl, hwe⟩; have Hwe := hidC hwe; clear hwe))
     go_loopg [13, 70] 2 (fun gk s13 s70 wx => s70 = .int .i64 0 ∧ 1 ≤ gk ∧ wx = we)
     case atStart => exact ⟨rfl, by omega, rfl⟩
     case round =>
      obtain ⟨rfl, hg, rfl⟩ := hrel
      go_wp2_with fail
      go_ret2
      have hb9 : Below wd.heap.size wd wr := by rw [Hwe.out]; exact (Below.refl _ _).alloc (Nat.le_refl _) _
      have eR : R = (some Off.none, 0) := HRL.out
      rw [eR]
      exact ⟨Hbd.out.trans (hb9.mono Hbd.out.size), o, rfl, Ho.out.below hb9, OffOK.none, HoW.out⟩
    ·obtain ⟨M, rfl⟩ : ∃ M, N = M + 1 := ⟨N - 1, by omega⟩
     have hN1 : (1 : Int) ≤ ((M + 1 + 1 : Nat) : Int) := by omega
     go_enter Tryz.func31, Tryz.ntmps31
     go_wp2_with (first
      | (go_at_call 73; refine HC.out.mono ?_; rintro e wa ⟨rfl, hwa⟩; subst wa)
      | (go_at_call 74; refine HL.out.mono ?_; rintro e wa ⟨rfl, hwa⟩; subst wa)
      | (go_at_call 75; refine HP.out.mono ?_; rintro e wa ⟨rfl, hwa⟩; subst wa)
      | (go_at_call 76; refine HQ.out.mono ?_; rintro e wa ⟨rfl, hwa⟩; subst wa)
      | (go_at_call 77; refine HN.out.mono ?_; rintro e wb ⟨z, rfl, hz1, hb⟩; obtain rfl := hz1 n rfl; have Hb := hidC hb; clear hz1 hb)
      | (go_at_call 78; refine (HCk.out _).mono ?_; rintro e wc ⟨rfl, hbc⟩; have Hbc := hidC (Hb.out.trans (hbc.mono Hb.out.size)); clear hbc)
      | (go_at_call 16; refine (HNw.out _).mono ?_; rintro e wd ⟨o, rfl, ho, hoW, hbd⟩; have Ho := hidC ho; have HoW := hidC (Nat.le_trans Hbc.out.size hoW); have Hbd := hidC (Hbc.out.trans (hbd.mono Hbc.out.size)); clear ho hoW hbd)
      | (go_at_call 79; refine (HSp.out _ Hbd.out).mono ?_; rintro e we ⟨rfl, hwe⟩; have Hwe := hidC hwe; clear hwe))
     have hb9 : Below wd.heap.size wd we := by rw [Hwe.out]; exact (Below.refl _ _).alloc (Nat.le_refl _) _
     have Hcell : Hid (∀ i x, ps[i]? = some x → we.cell? ⟨wd.heap.size, i + 1, none⟩ = some (sV x)) := hidC fun i x hx => by
      have h9 := txO_alloc (w := wd) (l := p0 :: ps) (i + 1) x hx
      rw [Nat.zero_add] at h9
      rw [Hwe.out]
      exact h9
     have Hbe := hidC (Hbd.out.trans (hb9.mono Hbd.out.size))
     have Hoe := hidC (Ho.out.below hb9)
     have Hgl := hidC (show wd.heap.size < we.heap.size by rw [Hwe.out]; simp)
     have Hge := hidC Hbd.out.size
     clear hb9 Hwe
     have ho16 : Hid (16 ≤ o) := hidC (by have := HoW.out; have := HE.out.size; omega)
     go_loopg [13, 70] (M + 2) (fun gk s13 s70 wx => ∃ (i : Nat) (S : Off), s70 = .int .i64 (i : Int) ∧ i ≤ M + 1 ∧ M + 1 < i + gk ∧ OffAt wx o S ∧ OffOK S ∧ tellR (ps.take i) Off.none = some S ∧ But (· = o) we.heap.size we wx)
     case atStart => exact ⟨0, Off.none, rfl, by omega, by omega, Hoe.out, OffOK.none, rfl, But.refl _ _ _⟩
     case round =>
      obtain ⟨i, S, rfl, hi, hg, ho, hok, ht, hb⟩ := hrel
      have hbw : Below w.heap.size w wr := Hbe.out.trans (hb.below Hbe.out.size (fun k hk => by have := HoW.out; omega))
      by_cases hlt : i < M + 1
      ·obtain ⟨g', rfl⟩ : ∃ g', gk = g' + 1 := ⟨gk - 1, by omega⟩
       obtain ⟨x, hx⟩ : ∃ x, ps[i]? = some x := ⟨_, List.getElem?_eq_getElem (by omega)⟩
       have hod : o ≠ wd.heap.size := by have := Ho.out.lt; omega
       have k1 : wr.cell? ⟨wd.heap.size, i + 1, none⟩ = some (sV x) := by
        have h9 := Hcell.out i x hx
        unfold World.cell? at h9 ⊢
        rw [hb.block wd.heap.size Hgl.out (fun e => hod e.symm)]
        exact h9
       have k1' : wr.cell? ⟨wd.heap.size, 1 + i, none⟩ = some (sV x) := by rw [Nat.add_comm]; exact k1
       have hi1 : (0 : Int) ≤ (i : Int) := by omega
       have hi2 : (i : Int) < ((M + 1 : Nat) : Int) := by omega
       have hi3 : (i : Int) < (M : Int) + 1 := by omega
       have hxl := Hpl.out x (List.mem_of_getElem? hx)
       have hsn : tellR (ps.take (i + 1)) Off.none = tellR [x] S := by
        rw [List.take_add_one, hx]
        show tellR (ps.take i ++ [x]) _ = _
        rw [tellR_snoc, ht]
        rfl
       have hend : tellR (ps.take (i + 1)) Off.none = none → tellR ps Off.none = none := fun h => by
        have h2 := tellR_snoc (ps.take (i + 1)) (ps.drop (i + 1)) Off.none
        rw [List.take_append_drop, h] at h2
        exact h2
       by_cases hu : x = kUndo
       ·subst hu
        rw [tellR_undo] at hsn
        have HR := hidC (hend hsn)
        have hub : ((kUndo : Tx) == [117, 110, 100, 111]) = true := rfl
        have Hbw := hidC hbw
        clear hend hsn ho hok ht hb hbw
        go_wp2_with fail
        go_ret2
        have eR : R = (none, 14) := by rw [HRL.out, HR.out]
        rw [eR]
        exact rd_none Hbw.out
       ·have hub : (x == [117, 110, 100, 111]) = false := beq_eq_false_iff_ne.2 hu
        have HT := hidC (tell_calls o S x wr ho (HE.out.below hbw HE.out.size) ho16.out hxl hok)
        have hok2 := hidC (tell_ok (line := x) hok hxl)
        have Hb9 := hidC hb
        have Hbw := hidC hbw
        rcases hq : tell S x with ⟨_ | e', S'⟩
        ·rw [hq] at HT hok2
         rw [tellR_one hu hq] at hsn
         have Hsn := hidC hsn
         clear hend hsn ho hok ht hb hbw hq hu
         go_wp2_with (go_at_call 18; refine HT.out.mono ?_; rintro e wz ⟨rfl, hz1, hz2⟩; have Hz1 := hidC hz1; have Hz2 := hidC hz2; clear hz1 hz2)
         go_roundg g'
         case measure => omega
         case rel => exact ⟨i + 1, S', by simp, by omega, by omega, Hz1.out, hok2.out, Hsn.out, Hb9.out.trans (Hz2.out.mono Hb9.out.size (fun k _ h => h))⟩
        ·rw [hq] at HT
         rw [tellR_bad hu hq] at hsn
         have HR := hidC (hend hsn)
         have he' : (((e' + 1 : Nat) : Int) != 0) = true := bne_iff_ne.2 (by omega)
         clear hend hsn ho hok ht hb hbw hq hu
         go_wp2_with (go_at_call 18; refine HT.out.mono ?_; rintro e wz ⟨rfl, hz1, hz2⟩; have Hz2 := hidC hz2; clear hz1 hz2)
         go_ret2
         have eR : R = (none, 14) := by rw [HRL.out, HR.out]
         rw [eR]
         exact rd_none (Hbw.out.trans (Hz2.out.below Hbw.out.size (fun k hk => by have := HoW.out; omega)))
      ·obtain rfl : i = M + 1 := by omega
       rw [List.take_of_length_le (by omega)] at ht
       have Hr : Hid (RdO w R (.returned (.tuple #[ptrV o, nV 0])) wr) := hidC (by
        have eR : R = (some S, 0) := by rw [HRL.out, ht]
        rw [eR]
        exact ⟨hbw, o, rfl, ho, hok, HoW.out⟩)
       clear ho hok ht hb hbw
       go_wp2_with fail
       go_ret2
       exact Hr.out
   ·rw [if_neg hnc] at hrS2
    rw [hrS2]
    have hne : ((n : Int) != (c : Int)) = true := bne_iff_ne.2 (by omega)
    clear hrS2
    go_enter Tryz.func31, Tryz.ntmps31
    go_wp2_with (first
     | (go_at_call 73; refine HC.out.mono ?_; rintro e wa ⟨rfl, hwa⟩; subst wa)
     | (go_at_call 74; refine HL.out.mono ?_; rintro e wa ⟨rfl, hwa⟩; subst wa)
     | (go_at_call 75; refine HP.out.mono ?_; rintro e wa ⟨rfl, hwa⟩; subst wa)
     | (go_at_call 76; refine HQ.out.mono ?_; rintro e wa ⟨rfl, hwa⟩; subst wa)
     | (go_at_call 77; refine HN.out.mono ?_; rintro e wb ⟨z, rfl, hz1, hb⟩; obtain rfl := hz1 n rfl; have Hb := hidC hb; clear hz1 hb)
     | (go_at_call 78; refine (HCk.out _).mono ?_; rintro e wc ⟨rfl, hbc⟩; have Hbc := hidC (Hb.out.trans (hbc.mono Hb.out.size)); clear hbc))
    go_ret2
    exact rd_none Hbc.out
theorem read_calls (t : Tx) (w : World) (hE : Env w) (hl : t.length ≤ 1000000000) : Calls Tryz.prog 31 #[sV t] w fun e w' => RdO w (readT t) e w' := by
 by_cases h1 : 16000 < t.length
 ·exact read_long t w h1 hl
 ·by_cases h2 : Lib.hasSuffix t [10] = false ∨ readI t < 0 ∨ Lib.hasPrefix (Lib.trimSuffix t [10]) kHead = false
  ·exact read_text t w (by omega) h2
  ·have hs : Lib.hasSuffix t [10] = true := by
    cases h : Lib.hasSuffix t [10] with
    | true => rfl
    | false => exact absurd (.inl h) h2
   obtain ⟨a, ha, hal⟩ := readI_at (t := t) (fun h => h2 (.inr (.inl h)))
   have hp : Lib.hasPrefix (Lib.trimSuffix t [10]) kHead = true := by
    cases h : Lib.hasPrefix (Lib.trimSuffix t [10]) kHead with
    | true => rfl
    | false => exact absurd (.inr (.inr h)) h2
   have hR : readT t = readS (Lib.trimSuffix t [10]) a := by
    unfold readT
    rw [if_neg h1, if_neg h2, ha]
    rfl
   rw [hR]
   exact read_rest t w hE (by omega) _ a rfl hs ha hal hp
end Go.Proofs.YtdhichidcomkmaaGreatDoor
