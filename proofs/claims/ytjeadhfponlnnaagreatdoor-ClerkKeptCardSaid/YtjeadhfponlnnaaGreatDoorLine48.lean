/-
  The line of an act: chosen, line.
  Conditions: none; lemmas.
-/
import Derived.Test.YtjeadhfponlnnaaGreatDoorCounted77
import Derived.Test.YtjeadhfponlnnaaGreatDoorShelf14c
set_option linter.unusedSimpArgs false
set_option linter.unusedVariables false
namespace Go.Proofs.YtjeadhfponlnnaaGreatDoor
open Go.RowKit Go.Pur Go.Clerk
open Go.Abs
set_option maxRecDepth 1000000
set_option maxHeartbeats 8000000
structure EnvS (W : World) : Prop where
 env : Env W
 sp : Lib.TabIs Tryz.prog W "strings.asciiSpace" .u8 Lib.asciiSpaceTab
theorem EnvS.below {W W' : World} {n : Nat} (h : EnvS W) (hb : Below n W W') (hn : 16 ≤ n) : EnvS W' := ⟨h.env.below hb hn, tabIs_of (g := 0) (by kernel_rfl) h.sp (hb.block 0 (by omega))⟩
theorem fields_calls (wd : Tx) (w : World) (hE : EnvS w) (hl : wd.length ≤ 100000) (ha : wd.all (fun b => decide (b.toNat < 128)) = true) (l : List Tx) (hf : Lib.fields wd = l) :
  Calls Tryz.prog 42 #[sV wd] w fun e w' => e = .returned (.slice (some ⟨w.heap.size, 0, none⟩) l.length l.length) ∧ w' = w.alloc (.cells (l.map sV).toArray 9) := by
 have h := Tryz.strings_Fields (bs wd) w (by rw [bs_size]; omega) (fun j b hb => of_decide_eq_true (List.all_eq_true.1 ha b (List.mem_of_getElem? hb))) hE.sp
 have e1 : (bs wd).data.toList = wd := rfl
 rw [e1, hf] at h
 exact h
theorem chosen_calls (wd : Tx) (k : Nat) (w : World) (hE : EnvS w) (hk : k < 256) (hl : wd.length ≤ 100000) (ha : wd.all (fun b => decide (b.toNat < 128)) = true) (l : List Tx) (hf : Lib.fields wd = l) (hn : l ≠ []) (hn2 : l.length ≤ 1000) :
  Calls Tryz.prog 99 #[sV wd, .int .u8 k] w fun e w' => RP w (sV (l.getD (k % l.length) [])) e w' := by
 have mixed : Tryz.prog.follows .mixedOrders = true := by kernel_rfl
 have HF := hidC (fields_calls wd w hE hl ha l hf)
 clear hE ha hf
 obtain ⟨N, hN⟩ : ∃ N, l.length = N := ⟨_, rfl⟩
 have hN0 : 0 < N := by have := List.length_pos_iff.2 hn; omega
 rw [hN] at hn2 ⊢
 have hlt : k % N < N := Nat.mod_lt _ hN0
 obtain ⟨x, hx⟩ : ∃ x, l[k % N]? = some x := ⟨_, List.getElem?_eq_getElem (by omega)⟩
 have hg : l.getD (k % N) [] = x := by rw [List.getD_eq_getElem?_getD, hx]; rfl
 rw [hg]
 rw [hN] at HF
 have hc : (w.alloc (.cells (l.map sV).toArray 9)).cell? ⟨w.heap.size, k % N, none⟩ = some (sV x) := by
  have e := heap_alloc_new w (.cells (l.map sV).toArray 9)
  unfold World.cell?
  rw [show ((⟨w.heap.size, k % N, none⟩ : Addr)).block = w.heap.size from rfl, e]
  show (l.map sV).toArray[k % N]? = _
  rw [List.getElem?_toArray, List.getElem?_map, hx]
  rfl
 have HC := hidC hc
 have hnz : ((N : Int) == 0) = false := beq_eq_false_iff_ne.2 (by omega)
 have hrem : Int.tmod (k : Int) (N : Int) = ((k % N : Nat) : Int) := by rw [Int.tmod_eq_emod_of_nonneg (by omega)]; rfl
 clear hc hg hx
 go_enter Tryz.func99, Tryz.ntmps99
 go_wp2_with (go_at_call 42; refine HF.out.mono ?_; rintro e wb ⟨rfl, rfl⟩; have hc := HC.out)
 go_ret
 exact ⟨rfl, (Below.refl _ _).alloc (Nat.le_refl _) _⟩
structure ActT where
 kind : Nat
 word : Nat
 other : Nat
 many : Nat
 deriving DecidableEq
def tNames : Tx := [97, 112, 101, 32, 97, 114, 116, 32, 98, 101, 101, 32, 98, 101, 101, 116, 32, 99, 97, 116, 32, 99, 111, 97, 116, 32, 109, 97, 112, 32, 109, 97, 115, 116, 32, 110, 97, 112, 32, 110, 101, 116, 32, 111, 97, 107, 32, 111, 97, 116]
def lNames : List Tx := [[97, 112, 101], [97, 114, 116], [98, 101, 101], [98, 101, 101, 116], [99, 97, 116], [99, 111, 97, 116], [109, 97, 112], [109, 97, 115, 116], [110, 97, 112], [110, 101, 116], [111, 97, 107], [111, 97, 116]]
def tForms : Tx := [97, 112, 32, 97, 116, 32, 98, 101, 32, 98, 116, 32, 99, 116, 32, 99, 97, 32, 109, 112, 32, 109, 116, 32, 110, 112, 32, 110, 32, 111, 107, 32, 116]
def lForms : List Tx := [[97, 112], [97, 116], [98, 101], [98, 116], [99, 116], [99, 97], [109, 112], [109, 116], [110, 112], [110], [111, 107], [116]]
def tPers : Tx := [97, 110, 110, 32, 98, 101, 110, 32, 99, 111, 108, 32, 100, 111, 116]
def lPers : List Tx := [[97, 110, 110], [98, 101, 110], [99, 111, 108], [100, 111, 116]]
def tLet : Tx := [97, 32, 98, 32, 99, 32, 109, 32, 110, 32, 111]
def lLet : List Tx := [[97], [98], [99], [109], [110], [111]]
def nth (l : List Tx) (k : Nat) : Tx := l.getD (k % l.length) []
def actV (a : ActT) : Value := .agg #[.int .u8 a.kind, .int .u8 a.word, .int .u8 a.other, .int .u8 a.many]
def ActT.ok (a : ActT) : Prop := a.kind < 256 ∧ a.word < 256 ∧ a.other < 256 ∧ a.many < 256
def ActT.line (a : ActT) : Tx := match a.kind % 9 with
 | 0 => [119, 111, 114, 100, 32] ++ nth lNames a.word
 | 1 => [119, 111, 114, 100, 32] ++ nth lNames a.word
 | 2 => [115, 104, 111, 114, 116, 32] ++ nth lNames a.word ++ [32] ++ nth lForms a.other
 | 3 => [103, 105, 118, 101, 32] ++ nth lNames a.word ++ [32] ++ nth lPers a.other ++ [32] ++ Lib.itoa ((a.many % 45 : Nat) : Int)
 | 4 => [99, 111, 109, 101, 32] ++ nth lNames a.word ++ [32] ++ Lib.itoa ((a.many % 45 : Nat) : Int)
 | 5 => [115, 101, 101, 32] ++ nth lNames a.word ++ [32] ++ nth lNames a.other
 | 6 => [99, 108, 111, 115, 101, 32] ++ nth lLet a.word
 | 7 => [112, 97, 121, 32] ++ nth lPers a.other ++ [32] ++ Lib.itoa ((a.many % 45 : Nat) : Int)
 | _ => [115, 116, 111, 112, 32] ++ nth lPers a.other
theorem names_calls (k : Nat) (w : World) (hE : EnvS w) (hk : k < 256) : Calls Tryz.prog 99 #[sV tNames, .int .u8 k] w fun e w' => RP w (sV (nth lNames k)) e w' := chosen_calls tNames k w hE hk (by decide) (by decide) lNames (by decide +kernel) (by decide) (by decide)
theorem forms_calls (k : Nat) (w : World) (hE : EnvS w) (hk : k < 256) : Calls Tryz.prog 99 #[sV tForms, .int .u8 k] w fun e w' => RP w (sV (nth lForms k)) e w' := chosen_calls tForms k w hE hk (by decide) (by decide) lForms (by decide +kernel) (by decide) (by decide)
theorem pers_calls (k : Nat) (w : World) (hE : EnvS w) (hk : k < 256) : Calls Tryz.prog 99 #[sV tPers, .int .u8 k] w fun e w' => RP w (sV (nth lPers k)) e w' := chosen_calls tPers k w hE hk (by decide) (by decide) lPers (by decide +kernel) (by decide) (by decide)
theorem lets_calls (k : Nat) (w : World) (hE : EnvS w) (hk : k < 256) : Calls Tryz.prog 99 #[sV tLet, .int .u8 k] w fun e w' => RP w (sV (nth lLet k)) e w' := chosen_calls tLet k w hE hk (by decide) (by decide) lLet (by decide +kernel) (by decide) (by decide)
def ActAt (b : Nat) (a : ActT) (w : World) : Prop := w.cell? ⟨b, 0, none⟩ = some (.int .u8 a.kind) ∧ w.cell? ⟨b, 1, none⟩ = some (.int .u8 a.word) ∧ w.cell? ⟨b, 2, none⟩ = some (.int .u8 a.other) ∧ w.cell? ⟨b, 3, none⟩ = some (.int .u8 a.many)
theorem bs_app (a b : Tx) : bs (a ++ b) = bs a ++ bs b := by
 apply ByteArray.ext
 apply Array.ext'
 rw [ByteArray.data_append, Array.toList_append]
theorem nth_len {l : List Tx} (h : l.all (fun x => decide (x.length ≤ 10)) = true) (k : Nat) : (nth l k).length ≤ 10 := by
 unfold nth
 rw [List.getD_eq_getElem?_getD]
 rcases hx : l[k % l.length]? with _ | x
 ·exact Nat.zero_le _
 ·exact of_decide_eq_true (List.all_eq_true.1 h x (List.mem_of_getElem? hx))
theorem itoa_len (m : Nat) : (Lib.itoa ((m % 45 : Nat) : Int)).length ≤ 10 := by
 have h : (List.range 45).all (fun i => decide ((Lib.itoa (i : Int)).length ≤ 10)) = true := by decide +kernel
 exact of_decide_eq_true (List.all_eq_true.1 h _ (List.mem_range.2 (Nat.mod_lt _ (by decide))))
theorem act_keep {b : Nat} {a : ActT} {w w' : World} (h : ActAt b a w) (hb : Below w.heap.size w w') (hs : b < w.heap.size) : ActAt b a w' := by
 have e : ∀ k, w'.cell? ⟨b, k, none⟩ = w.cell? ⟨b, k, none⟩ := fun k => hb.cell (p := ⟨b, k, none⟩) hs
 unfold ActAt
 rw [e, e, e, e]
 exact h
theorem line_word0 (a : ActT) (w : World) (hE : EnvS w) (ha : a.ok) (hk : a.kind % 9 = 0) : Calls Tryz.prog 48 #[actV a] w fun e w' => RP w (sV a.line) e w' := by
 have mixed : Tryz.prog.follows .mixedOrders = true := by kernel_rfl
 unfold ActT.line
 rw [hk]
 obtain ⟨k, x, o, m⟩ := a
 obtain ⟨h1, h2, h3, h4⟩ := ha
 dsimp only at hk h1 h2 h3 h4 ⊢
 have hkz : (k : Int) % 9 = 0 := by omega
 have HE : Hid (∀ w', Below w.heap.size w w' → EnvS w') := hidC fun w' h => hE.below h hE.env.size
 have H1 : Hid (∀ w', Below w.heap.size w w' → Calls Tryz.prog 99 #[sV tNames, .int .u8 x] w' fun e w'' => RP w' (sV (nth lNames x)) e w'') := hidC fun w' h => names_calls x w' (HE.out w' h) h2
 have HI : Hid (∀ w', Below w.heap.size w w' → Calls Tryz.prog 27 #[.int .i64 ((IntKind.i64.wrap (m : Int)).tmod 45)] w' fun e w'' => RP w' (sV (Lib.itoa ((m % 45 : Nat) : Int))) e w'') := hidC fun w' h => by
  have hc : (IntKind.i64.wrap (m : Int)).tmod 45 = ((m % 45 : Nat) : Int) := by rw [IntWalk.i64_in _ (by omega), Int.tmod_eq_emod_of_nonneg (by omega)]; rfl
  rw [hc]
  exact itoa_calls _ (by omega) (by omega) w' (HE.out w' h).env
 skip
 have hX : (nth lNames x).length ≤ 10 := nth_len (by decide) x
 have hN : (Lib.itoa ((m % 45 : Nat) : Int)).length ≤ 10 := itoa_len m
 skip
 clear hE hk
 generalize nth lNames x = X at *
 generalize Lib.itoa ((m % 45 : Nat) : Int) = N at *
 skip
 unfold actV
 go_enter Tryz.func48, Tryz.ntmps48
 go_wp2_with fail
 have hb0 : Below w.heap.size w (w.alloc (Obj.cells #[Value.int IntKind.u8 ↑k, Value.int IntKind.u8 ↑x, Value.int IntKind.u8 ↑o, Value.int IntKind.u8 ↑m] 91)) := (Below.refl _ _).alloc (Nat.le_refl _) _
 have ha0 : ActAt w.heap.size ⟨k, x, o, m⟩ (w.alloc (Obj.cells #[Value.int IntKind.u8 ↑k, Value.int IntKind.u8 ↑x, Value.int IntKind.u8 ↑o, Value.int IntKind.u8 ↑m] 91)) := by
  have e := heap_alloc_new w (.cells #[Value.int IntKind.u8 ↑k, Value.int IntKind.u8 ↑x, Value.int IntKind.u8 ↑o, Value.int IntKind.u8 ↑m] 91)
  refine ⟨?_, ?_, ?_, ?_⟩ <;> · unfold World.cell?; simp only [e]; rfl
 have hs0 : w.heap.size < (w.alloc (Obj.cells #[Value.int IntKind.u8 ↑k, Value.int IntKind.u8 ↑x, Value.int IntKind.u8 ↑o, Value.int IntKind.u8 ↑m] 91)).heap.size := by show w.heap.size < (w.heap.push _).size; simp
 generalize w.alloc (Obj.cells #[Value.int IntKind.u8 ↑k, Value.int IntKind.u8 ↑x, Value.int IntKind.u8 ↑o, Value.int IntKind.u8 ↑m] 91) = w0 at *
 have Hb0 := hidC hb0
 have HA : Hid (∀ w', Below w0.heap.size w0 w' → ActAt w.heap.size ⟨k, x, o, m⟩ w') := hidC fun w' h => act_keep ha0 h hs0
 obtain ⟨q0, q1, q2, q3⟩ := ha0
 dsimp only at q0 q1 q2 q3
 have Hs0 := hidC hs0
 clear hb0 hs0
 have HK : Hid (∀ w', Below w0.heap.size w0 w' → w'.cell? ⟨w.heap.size, 1, none⟩ = some (.int .u8 x) ∧ w'.cell? ⟨w.heap.size, 3, none⟩ = some (.int .u8 m)) := hidC fun w' h => ⟨(HA.out w' h).2.1, (HA.out w' h).2.2.2⟩
 go_region_held3 (fun w' => w'.cell? ⟨w.heap.size, 1, none⟩ = some (.int .u8 x) ∧ w'.cell? ⟨w.heap.size, 3, none⟩ = some (.int .u8 m))
  (first | exact HK.out _ (by assumption) | exact HK.out _ (Below.refl _ _).drew | exact HK.out _ (Below.drew (by assumption)) | go_keep)
  (first
   | (go_at_call 27; refine (HI.out _ (Below.trans Hb0.out ((by first | exact hz1.drew | exact hz1 : Below w0.heap.size w0 _).mono Hb0.out.size))).mono ?_; rintro e w2 ⟨rfl, hb2⟩; have hz2 : Below w0.heap.size w0 w2 := (by first | exact hz1.drew | exact hz1 : Below w0.heap.size w0 _).trans (hb2.mono (by first | exact hz1.drew.size | exact hz1.size)); clear hb2)
   | (go_at_call 99; refine (H1.out _ (Below.trans Hb0.out ((by first | exact (Below.refl _ _).drew | exact Below.refl _ _ : Below w0.heap.size w0 _).mono Hb0.out.size))).mono ?_; rintro e w1 ⟨rfl, hb1⟩; have hz1 : Below w0.heap.size w0 w1 := (by first | exact (Below.refl _ _).drew | exact Below.refl _ _ : Below w0.heap.size w0 _).trans (hb1.mono (by first | exact (Below.refl _ _).drew.size | exact Nat.le_refl _)); clear hb1))
 obtain ⟨q0, q1, q2, q3⟩ := HA.out w2 hz2
 dsimp only at q0 q1 q2 q3
 have Hb2 : Hid (Below w.heap.size w w2) := hidC (Hb0.out.trans (hz2.mono Hb0.out.size))
 clear HA HK HI H1 Hs0 hz1
 try clear hz2
 go_wp2_with fail
 go_ret
 refine ⟨?_, Hb2.out⟩
 simp only [sV, bs_app]
 rfl
theorem line_word1 (a : ActT) (w : World) (hE : EnvS w) (ha : a.ok) (hk : a.kind % 9 = 1) : Calls Tryz.prog 48 #[actV a] w fun e w' => RP w (sV a.line) e w' := by
 have mixed : Tryz.prog.follows .mixedOrders = true := by kernel_rfl
 unfold ActT.line
 rw [hk]
 obtain ⟨k, x, o, m⟩ := a
 obtain ⟨h1, h2, h3, h4⟩ := ha
 dsimp only at hk h1 h2 h3 h4 ⊢
 have hkz : (k : Int) % 9 = 1 := by omega
 have HE : Hid (∀ w', Below w.heap.size w w' → EnvS w') := hidC fun w' h => hE.below h hE.env.size
 have H1 : Hid (∀ w', Below w.heap.size w w' → Calls Tryz.prog 99 #[sV tNames, .int .u8 x] w' fun e w'' => RP w' (sV (nth lNames x)) e w'') := hidC fun w' h => names_calls x w' (HE.out w' h) h2
 have HI : Hid (∀ w', Below w.heap.size w w' → Calls Tryz.prog 27 #[.int .i64 ((IntKind.i64.wrap (m : Int)).tmod 45)] w' fun e w'' => RP w' (sV (Lib.itoa ((m % 45 : Nat) : Int))) e w'') := hidC fun w' h => by
  have hc : (IntKind.i64.wrap (m : Int)).tmod 45 = ((m % 45 : Nat) : Int) := by rw [IntWalk.i64_in _ (by omega), Int.tmod_eq_emod_of_nonneg (by omega)]; rfl
  rw [hc]
  exact itoa_calls _ (by omega) (by omega) w' (HE.out w' h).env
 skip
 have hX : (nth lNames x).length ≤ 10 := nth_len (by decide) x
 have hN : (Lib.itoa ((m % 45 : Nat) : Int)).length ≤ 10 := itoa_len m
 skip
 clear hE hk
 generalize nth lNames x = X at *
 generalize Lib.itoa ((m % 45 : Nat) : Int) = N at *
 skip
 unfold actV
 go_enter Tryz.func48, Tryz.ntmps48
 go_wp2_with fail
 have hb0 : Below w.heap.size w (w.alloc (Obj.cells #[Value.int IntKind.u8 ↑k, Value.int IntKind.u8 ↑x, Value.int IntKind.u8 ↑o, Value.int IntKind.u8 ↑m] 91)) := (Below.refl _ _).alloc (Nat.le_refl _) _
 have ha0 : ActAt w.heap.size ⟨k, x, o, m⟩ (w.alloc (Obj.cells #[Value.int IntKind.u8 ↑k, Value.int IntKind.u8 ↑x, Value.int IntKind.u8 ↑o, Value.int IntKind.u8 ↑m] 91)) := by
  have e := heap_alloc_new w (.cells #[Value.int IntKind.u8 ↑k, Value.int IntKind.u8 ↑x, Value.int IntKind.u8 ↑o, Value.int IntKind.u8 ↑m] 91)
  refine ⟨?_, ?_, ?_, ?_⟩ <;> · unfold World.cell?; simp only [e]; rfl
 have hs0 : w.heap.size < (w.alloc (Obj.cells #[Value.int IntKind.u8 ↑k, Value.int IntKind.u8 ↑x, Value.int IntKind.u8 ↑o, Value.int IntKind.u8 ↑m] 91)).heap.size := by show w.heap.size < (w.heap.push _).size; simp
 generalize w.alloc (Obj.cells #[Value.int IntKind.u8 ↑k, Value.int IntKind.u8 ↑x, Value.int IntKind.u8 ↑o, Value.int IntKind.u8 ↑m] 91) = w0 at *
 have Hb0 := hidC hb0
 have HA : Hid (∀ w', Below w0.heap.size w0 w' → ActAt w.heap.size ⟨k, x, o, m⟩ w') := hidC fun w' h => act_keep ha0 h hs0
 obtain ⟨q0, q1, q2, q3⟩ := ha0
 dsimp only at q0 q1 q2 q3
 have Hs0 := hidC hs0
 clear hb0 hs0
 have HK : Hid (∀ w', Below w0.heap.size w0 w' → w'.cell? ⟨w.heap.size, 1, none⟩ = some (.int .u8 x) ∧ w'.cell? ⟨w.heap.size, 3, none⟩ = some (.int .u8 m)) := hidC fun w' h => ⟨(HA.out w' h).2.1, (HA.out w' h).2.2.2⟩
 go_region_held3 (fun w' => w'.cell? ⟨w.heap.size, 1, none⟩ = some (.int .u8 x) ∧ w'.cell? ⟨w.heap.size, 3, none⟩ = some (.int .u8 m))
  (first | exact HK.out _ (by assumption) | exact HK.out _ (Below.refl _ _).drew | exact HK.out _ (Below.drew (by assumption)) | go_keep)
  (first
   | (go_at_call 27; refine (HI.out _ (Below.trans Hb0.out ((by first | exact hz1.drew | exact hz1 : Below w0.heap.size w0 _).mono Hb0.out.size))).mono ?_; rintro e w2 ⟨rfl, hb2⟩; have hz2 : Below w0.heap.size w0 w2 := (by first | exact hz1.drew | exact hz1 : Below w0.heap.size w0 _).trans (hb2.mono (by first | exact hz1.drew.size | exact hz1.size)); clear hb2)
   | (go_at_call 99; refine (H1.out _ (Below.trans Hb0.out ((by first | exact (Below.refl _ _).drew | exact Below.refl _ _ : Below w0.heap.size w0 _).mono Hb0.out.size))).mono ?_; rintro e w1 ⟨rfl, hb1⟩; have hz1 : Below w0.heap.size w0 w1 := (by first | exact (Below.refl _ _).drew | exact Below.refl _ _ : Below w0.heap.size w0 _).trans (hb1.mono (by first | exact (Below.refl _ _).drew.size | exact Nat.le_refl _)); clear hb1))
 obtain ⟨q0, q1, q2, q3⟩ := HA.out w2 hz2
 dsimp only at q0 q1 q2 q3
 have Hb2 : Hid (Below w.heap.size w w2) := hidC (Hb0.out.trans (hz2.mono Hb0.out.size))
 clear HA HK HI H1 Hs0 hz1
 try clear hz2
 go_wp2_with fail
 go_ret
 refine ⟨?_, Hb2.out⟩
 simp only [sV, bs_app]
 rfl
theorem line_short (a : ActT) (w : World) (hE : EnvS w) (ha : a.ok) (hk : a.kind % 9 = 2) : Calls Tryz.prog 48 #[actV a] w fun e w' => RP w (sV a.line) e w' := by
 have mixed : Tryz.prog.follows .mixedOrders = true := by kernel_rfl
 unfold ActT.line
 rw [hk]
 obtain ⟨k, x, o, m⟩ := a
 obtain ⟨h1, h2, h3, h4⟩ := ha
 dsimp only at hk h1 h2 h3 h4 ⊢
 have hkz : (k : Int) % 9 = 2 := by omega
 have HE : Hid (∀ w', Below w.heap.size w w' → EnvS w') := hidC fun w' h => hE.below h hE.env.size
 have H1 : Hid (∀ w', Below w.heap.size w w' → Calls Tryz.prog 99 #[sV tNames, .int .u8 x] w' fun e w'' => RP w' (sV (nth lNames x)) e w'') := hidC fun w' h => names_calls x w' (HE.out w' h) h2
 have HI : Hid (∀ w', Below w.heap.size w w' → Calls Tryz.prog 27 #[.int .i64 ((IntKind.i64.wrap (m : Int)).tmod 45)] w' fun e w'' => RP w' (sV (Lib.itoa ((m % 45 : Nat) : Int))) e w'') := hidC fun w' h => by
  have hc : (IntKind.i64.wrap (m : Int)).tmod 45 = ((m % 45 : Nat) : Int) := by rw [IntWalk.i64_in _ (by omega), Int.tmod_eq_emod_of_nonneg (by omega)]; rfl
  rw [hc]
  exact itoa_calls _ (by omega) (by omega) w' (HE.out w' h).env
 have H2 : Hid (∀ w', Below w.heap.size w w' → Calls Tryz.prog 99 #[sV tForms, .int .u8 o] w' fun e w'' => RP w' (sV (nth lForms o)) e w'') := hidC fun w' h => forms_calls o w' (HE.out w' h) h3
 have hX : (nth lNames x).length ≤ 10 := nth_len (by decide) x
 have hN : (Lib.itoa ((m % 45 : Nat) : Int)).length ≤ 10 := itoa_len m
 have hO : (nth lForms o).length ≤ 10 := nth_len (by decide) o
 clear hE hk
 generalize nth lNames x = X at *
 generalize Lib.itoa ((m % 45 : Nat) : Int) = N at *
 generalize nth lForms o = O at *
 unfold actV
 go_enter Tryz.func48, Tryz.ntmps48
 go_wp2_with fail
 have hb0 : Below w.heap.size w (w.alloc (Obj.cells #[Value.int IntKind.u8 ↑k, Value.int IntKind.u8 ↑x, Value.int IntKind.u8 ↑o, Value.int IntKind.u8 ↑m] 91)) := (Below.refl _ _).alloc (Nat.le_refl _) _
 have ha0 : ActAt w.heap.size ⟨k, x, o, m⟩ (w.alloc (Obj.cells #[Value.int IntKind.u8 ↑k, Value.int IntKind.u8 ↑x, Value.int IntKind.u8 ↑o, Value.int IntKind.u8 ↑m] 91)) := by
  have e := heap_alloc_new w (.cells #[Value.int IntKind.u8 ↑k, Value.int IntKind.u8 ↑x, Value.int IntKind.u8 ↑o, Value.int IntKind.u8 ↑m] 91)
  refine ⟨?_, ?_, ?_, ?_⟩ <;> · unfold World.cell?; simp only [e]; rfl
 have hs0 : w.heap.size < (w.alloc (Obj.cells #[Value.int IntKind.u8 ↑k, Value.int IntKind.u8 ↑x, Value.int IntKind.u8 ↑o, Value.int IntKind.u8 ↑m] 91)).heap.size := by show w.heap.size < (w.heap.push _).size; simp
 generalize w.alloc (Obj.cells #[Value.int IntKind.u8 ↑k, Value.int IntKind.u8 ↑x, Value.int IntKind.u8 ↑o, Value.int IntKind.u8 ↑m] 91) = w0 at *
 have Hb0 := hidC hb0
 have HA : Hid (∀ w', Below w0.heap.size w0 w' → ActAt w.heap.size ⟨k, x, o, m⟩ w') := hidC fun w' h => act_keep ha0 h hs0
 obtain ⟨q0, q1, q2, q3⟩ := ha0
 dsimp only at q0 q1 q2 q3
 have Hs0 := hidC hs0
 clear hb0 hs0
 have HK : Hid (∀ w', Below w0.heap.size w0 w' → w'.cell? ⟨w.heap.size, 1, none⟩ = some (.int .u8 x) ∧ w'.cell? ⟨w.heap.size, 3, none⟩ = some (.int .u8 m)) := hidC fun w' h => ⟨(HA.out w' h).2.1, (HA.out w' h).2.2.2⟩
 go_region_held3 (fun w' => w'.cell? ⟨w.heap.size, 1, none⟩ = some (.int .u8 x) ∧ w'.cell? ⟨w.heap.size, 3, none⟩ = some (.int .u8 m))
  (first | exact HK.out _ (by assumption) | exact HK.out _ (Below.refl _ _).drew | exact HK.out _ (Below.drew (by assumption)) | go_keep)
  (first
   | (go_at_call 27; refine (HI.out _ (Below.trans Hb0.out ((by first | exact hz1.drew | exact hz1 : Below w0.heap.size w0 _).mono Hb0.out.size))).mono ?_; rintro e w2 ⟨rfl, hb2⟩; have hz2 : Below w0.heap.size w0 w2 := (by first | exact hz1.drew | exact hz1 : Below w0.heap.size w0 _).trans (hb2.mono (by first | exact hz1.drew.size | exact hz1.size)); clear hb2)
   | (go_at_call 99; refine (H1.out _ (Below.trans Hb0.out ((by first | exact (Below.refl _ _).drew | exact Below.refl _ _ : Below w0.heap.size w0 _).mono Hb0.out.size))).mono ?_; rintro e w1 ⟨rfl, hb1⟩; have hz1 : Below w0.heap.size w0 w1 := (by first | exact (Below.refl _ _).drew | exact Below.refl _ _ : Below w0.heap.size w0 _).trans (hb1.mono (by first | exact (Below.refl _ _).drew.size | exact Nat.le_refl _)); clear hb1))
 obtain ⟨q0, q1, q2, q3⟩ := HA.out w2 hz2
 dsimp only at q0 q1 q2 q3
 have Hb2 : Hid (Below w.heap.size w w2) := hidC (Hb0.out.trans (hz2.mono Hb0.out.size))
 clear HA HK HI H1 Hs0 hz1
 try clear hz2
 go_wp2_with (first | (go_at_call 99; refine (H2.out _ Hb2.out).mono ?_; rintro e w3 ⟨rfl, hb3⟩; have Hb3 := hidC (Hb2.out.trans (hb3.mono Hb2.out.size)); clear hb3))
 go_ret
 refine ⟨?_, Hb3.out⟩
 simp only [sV, bs_app]
 rfl
theorem line_give (a : ActT) (w : World) (hE : EnvS w) (ha : a.ok) (hk : a.kind % 9 = 3) : Calls Tryz.prog 48 #[actV a] w fun e w' => RP w (sV a.line) e w' := by
 have mixed : Tryz.prog.follows .mixedOrders = true := by kernel_rfl
 unfold ActT.line
 rw [hk]
 obtain ⟨k, x, o, m⟩ := a
 obtain ⟨h1, h2, h3, h4⟩ := ha
 dsimp only at hk h1 h2 h3 h4 ⊢
 have hkz : (k : Int) % 9 = 3 := by omega
 have HE : Hid (∀ w', Below w.heap.size w w' → EnvS w') := hidC fun w' h => hE.below h hE.env.size
 have H1 : Hid (∀ w', Below w.heap.size w w' → Calls Tryz.prog 99 #[sV tNames, .int .u8 x] w' fun e w'' => RP w' (sV (nth lNames x)) e w'') := hidC fun w' h => names_calls x w' (HE.out w' h) h2
 have HI : Hid (∀ w', Below w.heap.size w w' → Calls Tryz.prog 27 #[.int .i64 ((IntKind.i64.wrap (m : Int)).tmod 45)] w' fun e w'' => RP w' (sV (Lib.itoa ((m % 45 : Nat) : Int))) e w'') := hidC fun w' h => by
  have hc : (IntKind.i64.wrap (m : Int)).tmod 45 = ((m % 45 : Nat) : Int) := by rw [IntWalk.i64_in _ (by omega), Int.tmod_eq_emod_of_nonneg (by omega)]; rfl
  rw [hc]
  exact itoa_calls _ (by omega) (by omega) w' (HE.out w' h).env
 have H2 : Hid (∀ w', Below w.heap.size w w' → Calls Tryz.prog 99 #[sV tPers, .int .u8 o] w' fun e w'' => RP w' (sV (nth lPers o)) e w'') := hidC fun w' h => pers_calls o w' (HE.out w' h) h3
 have hX : (nth lNames x).length ≤ 10 := nth_len (by decide) x
 have hN : (Lib.itoa ((m % 45 : Nat) : Int)).length ≤ 10 := itoa_len m
 have hO : (nth lPers o).length ≤ 10 := nth_len (by decide) o
 clear hE hk
 generalize nth lNames x = X at *
 generalize Lib.itoa ((m % 45 : Nat) : Int) = N at *
 generalize nth lPers o = O at *
 unfold actV
 go_enter Tryz.func48, Tryz.ntmps48
 go_wp2_with fail
 have hb0 : Below w.heap.size w (w.alloc (Obj.cells #[Value.int IntKind.u8 ↑k, Value.int IntKind.u8 ↑x, Value.int IntKind.u8 ↑o, Value.int IntKind.u8 ↑m] 91)) := (Below.refl _ _).alloc (Nat.le_refl _) _
 have ha0 : ActAt w.heap.size ⟨k, x, o, m⟩ (w.alloc (Obj.cells #[Value.int IntKind.u8 ↑k, Value.int IntKind.u8 ↑x, Value.int IntKind.u8 ↑o, Value.int IntKind.u8 ↑m] 91)) := by
  have e := heap_alloc_new w (.cells #[Value.int IntKind.u8 ↑k, Value.int IntKind.u8 ↑x, Value.int IntKind.u8 ↑o, Value.int IntKind.u8 ↑m] 91)
  refine ⟨?_, ?_, ?_, ?_⟩ <;> · unfold World.cell?; simp only [e]; rfl
 have hs0 : w.heap.size < (w.alloc (Obj.cells #[Value.int IntKind.u8 ↑k, Value.int IntKind.u8 ↑x, Value.int IntKind.u8 ↑o, Value.int IntKind.u8 ↑m] 91)).heap.size := by show w.heap.size < (w.heap.push _).size; simp
 generalize w.alloc (Obj.cells #[Value.int IntKind.u8 ↑k, Value.int IntKind.u8 ↑x, Value.int IntKind.u8 ↑o, Value.int IntKind.u8 ↑m] 91) = w0 at *
 have Hb0 := hidC hb0
 have HA : Hid (∀ w', Below w0.heap.size w0 w' → ActAt w.heap.size ⟨k, x, o, m⟩ w') := hidC fun w' h => act_keep ha0 h hs0
 obtain ⟨q0, q1, q2, q3⟩ := ha0
 dsimp only at q0 q1 q2 q3
 have Hs0 := hidC hs0
 clear hb0 hs0
 have HK : Hid (∀ w', Below w0.heap.size w0 w' → w'.cell? ⟨w.heap.size, 1, none⟩ = some (.int .u8 x) ∧ w'.cell? ⟨w.heap.size, 3, none⟩ = some (.int .u8 m)) := hidC fun w' h => ⟨(HA.out w' h).2.1, (HA.out w' h).2.2.2⟩
 go_region_held3 (fun w' => w'.cell? ⟨w.heap.size, 1, none⟩ = some (.int .u8 x) ∧ w'.cell? ⟨w.heap.size, 3, none⟩ = some (.int .u8 m))
  (first | exact HK.out _ (by assumption) | exact HK.out _ (Below.refl _ _).drew | exact HK.out _ (Below.drew (by assumption)) | go_keep)
  (first
   | (go_at_call 27; refine (HI.out _ (Below.trans Hb0.out ((by first | exact hz1.drew | exact hz1 : Below w0.heap.size w0 _).mono Hb0.out.size))).mono ?_; rintro e w2 ⟨rfl, hb2⟩; have hz2 : Below w0.heap.size w0 w2 := (by first | exact hz1.drew | exact hz1 : Below w0.heap.size w0 _).trans (hb2.mono (by first | exact hz1.drew.size | exact hz1.size)); clear hb2)
   | (go_at_call 99; refine (H1.out _ (Below.trans Hb0.out ((by first | exact (Below.refl _ _).drew | exact Below.refl _ _ : Below w0.heap.size w0 _).mono Hb0.out.size))).mono ?_; rintro e w1 ⟨rfl, hb1⟩; have hz1 : Below w0.heap.size w0 w1 := (by first | exact (Below.refl _ _).drew | exact Below.refl _ _ : Below w0.heap.size w0 _).trans (hb1.mono (by first | exact (Below.refl _ _).drew.size | exact Nat.le_refl _)); clear hb1))
 obtain ⟨q0, q1, q2, q3⟩ := HA.out w2 hz2
 dsimp only at q0 q1 q2 q3
 have Hb2 : Hid (Below w.heap.size w w2) := hidC (Hb0.out.trans (hz2.mono Hb0.out.size))
 clear HA HK HI H1 Hs0 hz1
 try clear hz2
 go_wp2_with (first | (go_at_call 99; refine (H2.out _ Hb2.out).mono ?_; rintro e w3 ⟨rfl, hb3⟩; have Hb3 := hidC (Hb2.out.trans (hb3.mono Hb2.out.size)); clear hb3))
 go_ret
 refine ⟨?_, Hb3.out⟩
 simp only [sV, bs_app]
 rfl
theorem line_come (a : ActT) (w : World) (hE : EnvS w) (ha : a.ok) (hk : a.kind % 9 = 4) : Calls Tryz.prog 48 #[actV a] w fun e w' => RP w (sV a.line) e w' := by
 have mixed : Tryz.prog.follows .mixedOrders = true := by kernel_rfl
 unfold ActT.line
 rw [hk]
 obtain ⟨k, x, o, m⟩ := a
 obtain ⟨h1, h2, h3, h4⟩ := ha
 dsimp only at hk h1 h2 h3 h4 ⊢
 have hkz : (k : Int) % 9 = 4 := by omega
 have HE : Hid (∀ w', Below w.heap.size w w' → EnvS w') := hidC fun w' h => hE.below h hE.env.size
 have H1 : Hid (∀ w', Below w.heap.size w w' → Calls Tryz.prog 99 #[sV tNames, .int .u8 x] w' fun e w'' => RP w' (sV (nth lNames x)) e w'') := hidC fun w' h => names_calls x w' (HE.out w' h) h2
 have HI : Hid (∀ w', Below w.heap.size w w' → Calls Tryz.prog 27 #[.int .i64 ((IntKind.i64.wrap (m : Int)).tmod 45)] w' fun e w'' => RP w' (sV (Lib.itoa ((m % 45 : Nat) : Int))) e w'') := hidC fun w' h => by
  have hc : (IntKind.i64.wrap (m : Int)).tmod 45 = ((m % 45 : Nat) : Int) := by rw [IntWalk.i64_in _ (by omega), Int.tmod_eq_emod_of_nonneg (by omega)]; rfl
  rw [hc]
  exact itoa_calls _ (by omega) (by omega) w' (HE.out w' h).env
 skip
 have hX : (nth lNames x).length ≤ 10 := nth_len (by decide) x
 have hN : (Lib.itoa ((m % 45 : Nat) : Int)).length ≤ 10 := itoa_len m
 skip
 clear hE hk
 generalize nth lNames x = X at *
 generalize Lib.itoa ((m % 45 : Nat) : Int) = N at *
 skip
 unfold actV
 go_enter Tryz.func48, Tryz.ntmps48
 go_wp2_with fail
 have hb0 : Below w.heap.size w (w.alloc (Obj.cells #[Value.int IntKind.u8 ↑k, Value.int IntKind.u8 ↑x, Value.int IntKind.u8 ↑o, Value.int IntKind.u8 ↑m] 91)) := (Below.refl _ _).alloc (Nat.le_refl _) _
 have ha0 : ActAt w.heap.size ⟨k, x, o, m⟩ (w.alloc (Obj.cells #[Value.int IntKind.u8 ↑k, Value.int IntKind.u8 ↑x, Value.int IntKind.u8 ↑o, Value.int IntKind.u8 ↑m] 91)) := by
  have e := heap_alloc_new w (.cells #[Value.int IntKind.u8 ↑k, Value.int IntKind.u8 ↑x, Value.int IntKind.u8 ↑o, Value.int IntKind.u8 ↑m] 91)
  refine ⟨?_, ?_, ?_, ?_⟩ <;> · unfold World.cell?; simp only [e]; rfl
 have hs0 : w.heap.size < (w.alloc (Obj.cells #[Value.int IntKind.u8 ↑k, Value.int IntKind.u8 ↑x, Value.int IntKind.u8 ↑o, Value.int IntKind.u8 ↑m] 91)).heap.size := by show w.heap.size < (w.heap.push _).size; simp
 generalize w.alloc (Obj.cells #[Value.int IntKind.u8 ↑k, Value.int IntKind.u8 ↑x, Value.int IntKind.u8 ↑o, Value.int IntKind.u8 ↑m] 91) = w0 at *
 have Hb0 := hidC hb0
 have HA : Hid (∀ w', Below w0.heap.size w0 w' → ActAt w.heap.size ⟨k, x, o, m⟩ w') := hidC fun w' h => act_keep ha0 h hs0
 obtain ⟨q0, q1, q2, q3⟩ := ha0
 dsimp only at q0 q1 q2 q3
 have Hs0 := hidC hs0
 clear hb0 hs0
 have HK : Hid (∀ w', Below w0.heap.size w0 w' → w'.cell? ⟨w.heap.size, 1, none⟩ = some (.int .u8 x) ∧ w'.cell? ⟨w.heap.size, 3, none⟩ = some (.int .u8 m)) := hidC fun w' h => ⟨(HA.out w' h).2.1, (HA.out w' h).2.2.2⟩
 go_region_held3 (fun w' => w'.cell? ⟨w.heap.size, 1, none⟩ = some (.int .u8 x) ∧ w'.cell? ⟨w.heap.size, 3, none⟩ = some (.int .u8 m))
  (first | exact HK.out _ (by assumption) | exact HK.out _ (Below.refl _ _).drew | exact HK.out _ (Below.drew (by assumption)) | go_keep)
  (first
   | (go_at_call 27; refine (HI.out _ (Below.trans Hb0.out ((by first | exact hz1.drew | exact hz1 : Below w0.heap.size w0 _).mono Hb0.out.size))).mono ?_; rintro e w2 ⟨rfl, hb2⟩; have hz2 : Below w0.heap.size w0 w2 := (by first | exact hz1.drew | exact hz1 : Below w0.heap.size w0 _).trans (hb2.mono (by first | exact hz1.drew.size | exact hz1.size)); clear hb2)
   | (go_at_call 99; refine (H1.out _ (Below.trans Hb0.out ((by first | exact (Below.refl _ _).drew | exact Below.refl _ _ : Below w0.heap.size w0 _).mono Hb0.out.size))).mono ?_; rintro e w1 ⟨rfl, hb1⟩; have hz1 : Below w0.heap.size w0 w1 := (by first | exact (Below.refl _ _).drew | exact Below.refl _ _ : Below w0.heap.size w0 _).trans (hb1.mono (by first | exact (Below.refl _ _).drew.size | exact Nat.le_refl _)); clear hb1))
 obtain ⟨q0, q1, q2, q3⟩ := HA.out w2 hz2
 dsimp only at q0 q1 q2 q3
 have Hb2 : Hid (Below w.heap.size w w2) := hidC (Hb0.out.trans (hz2.mono Hb0.out.size))
 clear HA HK HI H1 Hs0 hz1
 try clear hz2
 go_wp2_with fail
 go_ret
 refine ⟨?_, Hb2.out⟩
 simp only [sV, bs_app]
 rfl
theorem line_see (a : ActT) (w : World) (hE : EnvS w) (ha : a.ok) (hk : a.kind % 9 = 5) : Calls Tryz.prog 48 #[actV a] w fun e w' => RP w (sV a.line) e w' := by
 have mixed : Tryz.prog.follows .mixedOrders = true := by kernel_rfl
 unfold ActT.line
 rw [hk]
 obtain ⟨k, x, o, m⟩ := a
 obtain ⟨h1, h2, h3, h4⟩ := ha
 dsimp only at hk h1 h2 h3 h4 ⊢
 have hkz : (k : Int) % 9 = 5 := by omega
 have HE : Hid (∀ w', Below w.heap.size w w' → EnvS w') := hidC fun w' h => hE.below h hE.env.size
 have H1 : Hid (∀ w', Below w.heap.size w w' → Calls Tryz.prog 99 #[sV tNames, .int .u8 x] w' fun e w'' => RP w' (sV (nth lNames x)) e w'') := hidC fun w' h => names_calls x w' (HE.out w' h) h2
 have HI : Hid (∀ w', Below w.heap.size w w' → Calls Tryz.prog 27 #[.int .i64 ((IntKind.i64.wrap (m : Int)).tmod 45)] w' fun e w'' => RP w' (sV (Lib.itoa ((m % 45 : Nat) : Int))) e w'') := hidC fun w' h => by
  have hc : (IntKind.i64.wrap (m : Int)).tmod 45 = ((m % 45 : Nat) : Int) := by rw [IntWalk.i64_in _ (by omega), Int.tmod_eq_emod_of_nonneg (by omega)]; rfl
  rw [hc]
  exact itoa_calls _ (by omega) (by omega) w' (HE.out w' h).env
 have H2 : Hid (∀ w', Below w.heap.size w w' → Calls Tryz.prog 99 #[sV tNames, .int .u8 o] w' fun e w'' => RP w' (sV (nth lNames o)) e w'') := hidC fun w' h => names_calls o w' (HE.out w' h) h3
 have hX : (nth lNames x).length ≤ 10 := nth_len (by decide) x
 have hN : (Lib.itoa ((m % 45 : Nat) : Int)).length ≤ 10 := itoa_len m
 have hO : (nth lNames o).length ≤ 10 := nth_len (by decide) o
 clear hE hk
 generalize nth lNames x = X at *
 generalize Lib.itoa ((m % 45 : Nat) : Int) = N at *
 generalize nth lNames o = O at *
 unfold actV
 go_enter Tryz.func48, Tryz.ntmps48
 go_wp2_with fail
 have hb0 : Below w.heap.size w (w.alloc (Obj.cells #[Value.int IntKind.u8 ↑k, Value.int IntKind.u8 ↑x, Value.int IntKind.u8 ↑o, Value.int IntKind.u8 ↑m] 91)) := (Below.refl _ _).alloc (Nat.le_refl _) _
 have ha0 : ActAt w.heap.size ⟨k, x, o, m⟩ (w.alloc (Obj.cells #[Value.int IntKind.u8 ↑k, Value.int IntKind.u8 ↑x, Value.int IntKind.u8 ↑o, Value.int IntKind.u8 ↑m] 91)) := by
  have e := heap_alloc_new w (.cells #[Value.int IntKind.u8 ↑k, Value.int IntKind.u8 ↑x, Value.int IntKind.u8 ↑o, Value.int IntKind.u8 ↑m] 91)
  refine ⟨?_, ?_, ?_, ?_⟩ <;> · unfold World.cell?; simp only [e]; rfl
 have hs0 : w.heap.size < (w.alloc (Obj.cells #[Value.int IntKind.u8 ↑k, Value.int IntKind.u8 ↑x, Value.int IntKind.u8 ↑o, Value.int IntKind.u8 ↑m] 91)).heap.size := by show w.heap.size < (w.heap.push _).size; simp
 generalize w.alloc (Obj.cells #[Value.int IntKind.u8 ↑k, Value.int IntKind.u8 ↑x, Value.int IntKind.u8 ↑o, Value.int IntKind.u8 ↑m] 91) = w0 at *
 have Hb0 := hidC hb0
 have HA : Hid (∀ w', Below w0.heap.size w0 w' → ActAt w.heap.size ⟨k, x, o, m⟩ w') := hidC fun w' h => act_keep ha0 h hs0
 obtain ⟨q0, q1, q2, q3⟩ := ha0
 dsimp only at q0 q1 q2 q3
 have Hs0 := hidC hs0
 clear hb0 hs0
 have HK : Hid (∀ w', Below w0.heap.size w0 w' → w'.cell? ⟨w.heap.size, 1, none⟩ = some (.int .u8 x) ∧ w'.cell? ⟨w.heap.size, 3, none⟩ = some (.int .u8 m)) := hidC fun w' h => ⟨(HA.out w' h).2.1, (HA.out w' h).2.2.2⟩
 go_region_held3 (fun w' => w'.cell? ⟨w.heap.size, 1, none⟩ = some (.int .u8 x) ∧ w'.cell? ⟨w.heap.size, 3, none⟩ = some (.int .u8 m))
  (first | exact HK.out _ (by assumption) | exact HK.out _ (Below.refl _ _).drew | exact HK.out _ (Below.drew (by assumption)) | go_keep)
  (first
   | (go_at_call 27; refine (HI.out _ (Below.trans Hb0.out ((by first | exact hz1.drew | exact hz1 : Below w0.heap.size w0 _).mono Hb0.out.size))).mono ?_; rintro e w2 ⟨rfl, hb2⟩; have hz2 : Below w0.heap.size w0 w2 := (by first | exact hz1.drew | exact hz1 : Below w0.heap.size w0 _).trans (hb2.mono (by first | exact hz1.drew.size | exact hz1.size)); clear hb2)
   | (go_at_call 99; refine (H1.out _ (Below.trans Hb0.out ((by first | exact (Below.refl _ _).drew | exact Below.refl _ _ : Below w0.heap.size w0 _).mono Hb0.out.size))).mono ?_; rintro e w1 ⟨rfl, hb1⟩; have hz1 : Below w0.heap.size w0 w1 := (by first | exact (Below.refl _ _).drew | exact Below.refl _ _ : Below w0.heap.size w0 _).trans (hb1.mono (by first | exact (Below.refl _ _).drew.size | exact Nat.le_refl _)); clear hb1))
 obtain ⟨q0, q1, q2, q3⟩ := HA.out w2 hz2
 dsimp only at q0 q1 q2 q3
 have Hb2 : Hid (Below w.heap.size w w2) := hidC (Hb0.out.trans (hz2.mono Hb0.out.size))
 clear HA HK HI H1 Hs0 hz1
 try clear hz2
 go_wp2_with (first | (go_at_call 99; refine (H2.out _ Hb2.out).mono ?_; rintro e w3 ⟨rfl, hb3⟩; have Hb3 := hidC (Hb2.out.trans (hb3.mono Hb2.out.size)); clear hb3))
 go_ret
 refine ⟨?_, Hb3.out⟩
 simp only [sV, bs_app]
 rfl
theorem line_close (a : ActT) (w : World) (hE : EnvS w) (ha : a.ok) (hk : a.kind % 9 = 6) : Calls Tryz.prog 48 #[actV a] w fun e w' => RP w (sV a.line) e w' := by
 have mixed : Tryz.prog.follows .mixedOrders = true := by kernel_rfl
 unfold ActT.line
 rw [hk]
 obtain ⟨k, x, o, m⟩ := a
 obtain ⟨h1, h2, h3, h4⟩ := ha
 dsimp only at hk h1 h2 h3 h4 ⊢
 have hkz : (k : Int) % 9 = 6 := by omega
 have HE : Hid (∀ w', Below w.heap.size w w' → EnvS w') := hidC fun w' h => hE.below h hE.env.size
 have H1 : Hid (∀ w', Below w.heap.size w w' → Calls Tryz.prog 99 #[sV tNames, .int .u8 x] w' fun e w'' => RP w' (sV (nth lNames x)) e w'') := hidC fun w' h => names_calls x w' (HE.out w' h) h2
 have HI : Hid (∀ w', Below w.heap.size w w' → Calls Tryz.prog 27 #[.int .i64 ((IntKind.i64.wrap (m : Int)).tmod 45)] w' fun e w'' => RP w' (sV (Lib.itoa ((m % 45 : Nat) : Int))) e w'') := hidC fun w' h => by
  have hc : (IntKind.i64.wrap (m : Int)).tmod 45 = ((m % 45 : Nat) : Int) := by rw [IntWalk.i64_in _ (by omega), Int.tmod_eq_emod_of_nonneg (by omega)]; rfl
  rw [hc]
  exact itoa_calls _ (by omega) (by omega) w' (HE.out w' h).env
 have H2 : Hid (∀ w', Below w.heap.size w w' → Calls Tryz.prog 99 #[sV tLet, .int .u8 x] w' fun e w'' => RP w' (sV (nth lLet x)) e w'') := hidC fun w' h => lets_calls x w' (HE.out w' h) h2
 have hX : (nth lNames x).length ≤ 10 := nth_len (by decide) x
 have hN : (Lib.itoa ((m % 45 : Nat) : Int)).length ≤ 10 := itoa_len m
 have hO : (nth lLet x).length ≤ 10 := nth_len (by decide) x
 clear hE hk
 generalize nth lNames x = X at *
 generalize Lib.itoa ((m % 45 : Nat) : Int) = N at *
 generalize nth lLet x = O at *
 unfold actV
 go_enter Tryz.func48, Tryz.ntmps48
 go_wp2_with fail
 have hb0 : Below w.heap.size w (w.alloc (Obj.cells #[Value.int IntKind.u8 ↑k, Value.int IntKind.u8 ↑x, Value.int IntKind.u8 ↑o, Value.int IntKind.u8 ↑m] 91)) := (Below.refl _ _).alloc (Nat.le_refl _) _
 have ha0 : ActAt w.heap.size ⟨k, x, o, m⟩ (w.alloc (Obj.cells #[Value.int IntKind.u8 ↑k, Value.int IntKind.u8 ↑x, Value.int IntKind.u8 ↑o, Value.int IntKind.u8 ↑m] 91)) := by
  have e := heap_alloc_new w (.cells #[Value.int IntKind.u8 ↑k, Value.int IntKind.u8 ↑x, Value.int IntKind.u8 ↑o, Value.int IntKind.u8 ↑m] 91)
  refine ⟨?_, ?_, ?_, ?_⟩ <;> · unfold World.cell?; simp only [e]; rfl
 have hs0 : w.heap.size < (w.alloc (Obj.cells #[Value.int IntKind.u8 ↑k, Value.int IntKind.u8 ↑x, Value.int IntKind.u8 ↑o, Value.int IntKind.u8 ↑m] 91)).heap.size := by show w.heap.size < (w.heap.push _).size; simp
 generalize w.alloc (Obj.cells #[Value.int IntKind.u8 ↑k, Value.int IntKind.u8 ↑x, Value.int IntKind.u8 ↑o, Value.int IntKind.u8 ↑m] 91) = w0 at *
 have Hb0 := hidC hb0
 have HA : Hid (∀ w', Below w0.heap.size w0 w' → ActAt w.heap.size ⟨k, x, o, m⟩ w') := hidC fun w' h => act_keep ha0 h hs0
 obtain ⟨q0, q1, q2, q3⟩ := ha0
 dsimp only at q0 q1 q2 q3
 have Hs0 := hidC hs0
 clear hb0 hs0
 have HK : Hid (∀ w', Below w0.heap.size w0 w' → w'.cell? ⟨w.heap.size, 1, none⟩ = some (.int .u8 x) ∧ w'.cell? ⟨w.heap.size, 3, none⟩ = some (.int .u8 m)) := hidC fun w' h => ⟨(HA.out w' h).2.1, (HA.out w' h).2.2.2⟩
 go_region_held3 (fun w' => w'.cell? ⟨w.heap.size, 1, none⟩ = some (.int .u8 x) ∧ w'.cell? ⟨w.heap.size, 3, none⟩ = some (.int .u8 m))
  (first | exact HK.out _ (by assumption) | exact HK.out _ (Below.refl _ _).drew | exact HK.out _ (Below.drew (by assumption)) | go_keep)
  (first
   | (go_at_call 27; refine (HI.out _ (Below.trans Hb0.out ((by first | exact hz1.drew | exact hz1 : Below w0.heap.size w0 _).mono Hb0.out.size))).mono ?_; rintro e w2 ⟨rfl, hb2⟩; have hz2 : Below w0.heap.size w0 w2 := (by first | exact hz1.drew | exact hz1 : Below w0.heap.size w0 _).trans (hb2.mono (by first | exact hz1.drew.size | exact hz1.size)); clear hb2)
   | (go_at_call 99; refine (H1.out _ (Below.trans Hb0.out ((by first | exact (Below.refl _ _).drew | exact Below.refl _ _ : Below w0.heap.size w0 _).mono Hb0.out.size))).mono ?_; rintro e w1 ⟨rfl, hb1⟩; have hz1 : Below w0.heap.size w0 w1 := (by first | exact (Below.refl _ _).drew | exact Below.refl _ _ : Below w0.heap.size w0 _).trans (hb1.mono (by first | exact (Below.refl _ _).drew.size | exact Nat.le_refl _)); clear hb1))
 obtain ⟨q0, q1, q2, q3⟩ := HA.out w2 hz2
 dsimp only at q0 q1 q2 q3
 have Hb2 : Hid (Below w.heap.size w w2) := hidC (Hb0.out.trans (hz2.mono Hb0.out.size))
 clear HA HK HI H1 Hs0 hz1
 try clear hz2
 go_wp2_with (first | (go_at_call 99; refine (H2.out _ Hb2.out).mono ?_; rintro e w3 ⟨rfl, hb3⟩; have Hb3 := hidC (Hb2.out.trans (hb3.mono Hb2.out.size)); clear hb3))
 go_ret
 refine ⟨?_, Hb3.out⟩
 simp only [sV, bs_app]
 rfl
theorem line_pay (a : ActT) (w : World) (hE : EnvS w) (ha : a.ok) (hk : a.kind % 9 = 7) : Calls Tryz.prog 48 #[actV a] w fun e w' => RP w (sV a.line) e w' := by
 have mixed : Tryz.prog.follows .mixedOrders = true := by kernel_rfl
 unfold ActT.line
 rw [hk]
 obtain ⟨k, x, o, m⟩ := a
 obtain ⟨h1, h2, h3, h4⟩ := ha
 dsimp only at hk h1 h2 h3 h4 ⊢
 have hkz : (k : Int) % 9 = 7 := by omega
 have HE : Hid (∀ w', Below w.heap.size w w' → EnvS w') := hidC fun w' h => hE.below h hE.env.size
 have H1 : Hid (∀ w', Below w.heap.size w w' → Calls Tryz.prog 99 #[sV tNames, .int .u8 x] w' fun e w'' => RP w' (sV (nth lNames x)) e w'') := hidC fun w' h => names_calls x w' (HE.out w' h) h2
 have HI : Hid (∀ w', Below w.heap.size w w' → Calls Tryz.prog 27 #[.int .i64 ((IntKind.i64.wrap (m : Int)).tmod 45)] w' fun e w'' => RP w' (sV (Lib.itoa ((m % 45 : Nat) : Int))) e w'') := hidC fun w' h => by
  have hc : (IntKind.i64.wrap (m : Int)).tmod 45 = ((m % 45 : Nat) : Int) := by rw [IntWalk.i64_in _ (by omega), Int.tmod_eq_emod_of_nonneg (by omega)]; rfl
  rw [hc]
  exact itoa_calls _ (by omega) (by omega) w' (HE.out w' h).env
 have H2 : Hid (∀ w', Below w.heap.size w w' → Calls Tryz.prog 99 #[sV tPers, .int .u8 o] w' fun e w'' => RP w' (sV (nth lPers o)) e w'') := hidC fun w' h => pers_calls o w' (HE.out w' h) h3
 have hX : (nth lNames x).length ≤ 10 := nth_len (by decide) x
 have hN : (Lib.itoa ((m % 45 : Nat) : Int)).length ≤ 10 := itoa_len m
 have hO : (nth lPers o).length ≤ 10 := nth_len (by decide) o
 clear hE hk
 generalize nth lNames x = X at *
 generalize Lib.itoa ((m % 45 : Nat) : Int) = N at *
 generalize nth lPers o = O at *
 unfold actV
 go_enter Tryz.func48, Tryz.ntmps48
 go_wp2_with fail
 have hb0 : Below w.heap.size w (w.alloc (Obj.cells #[Value.int IntKind.u8 ↑k, Value.int IntKind.u8 ↑x, Value.int IntKind.u8 ↑o, Value.int IntKind.u8 ↑m] 91)) := (Below.refl _ _).alloc (Nat.le_refl _) _
 have ha0 : ActAt w.heap.size ⟨k, x, o, m⟩ (w.alloc (Obj.cells #[Value.int IntKind.u8 ↑k, Value.int IntKind.u8 ↑x, Value.int IntKind.u8 ↑o, Value.int IntKind.u8 ↑m] 91)) := by
  have e := heap_alloc_new w (.cells #[Value.int IntKind.u8 ↑k, Value.int IntKind.u8 ↑x, Value.int IntKind.u8 ↑o, Value.int IntKind.u8 ↑m] 91)
  refine ⟨?_, ?_, ?_, ?_⟩ <;> · unfold World.cell?; simp only [e]; rfl
 have hs0 : w.heap.size < (w.alloc (Obj.cells #[Value.int IntKind.u8 ↑k, Value.int IntKind.u8 ↑x, Value.int IntKind.u8 ↑o, Value.int IntKind.u8 ↑m] 91)).heap.size := by show w.heap.size < (w.heap.push _).size; simp
 generalize w.alloc (Obj.cells #[Value.int IntKind.u8 ↑k, Value.int IntKind.u8 ↑x, Value.int IntKind.u8 ↑o, Value.int IntKind.u8 ↑m] 91) = w0 at *
 have Hb0 := hidC hb0
 have HA : Hid (∀ w', Below w0.heap.size w0 w' → ActAt w.heap.size ⟨k, x, o, m⟩ w') := hidC fun w' h => act_keep ha0 h hs0
 obtain ⟨q0, q1, q2, q3⟩ := ha0
 dsimp only at q0 q1 q2 q3
 have Hs0 := hidC hs0
 clear hb0 hs0
 have HK : Hid (∀ w', Below w0.heap.size w0 w' → w'.cell? ⟨w.heap.size, 1, none⟩ = some (.int .u8 x) ∧ w'.cell? ⟨w.heap.size, 3, none⟩ = some (.int .u8 m)) := hidC fun w' h => ⟨(HA.out w' h).2.1, (HA.out w' h).2.2.2⟩
 go_region_held3 (fun w' => w'.cell? ⟨w.heap.size, 1, none⟩ = some (.int .u8 x) ∧ w'.cell? ⟨w.heap.size, 3, none⟩ = some (.int .u8 m))
  (first | exact HK.out _ (by assumption) | exact HK.out _ (Below.refl _ _).drew | exact HK.out _ (Below.drew (by assumption)) | go_keep)
  (first
   | (go_at_call 27; refine (HI.out _ (Below.trans Hb0.out ((by first | exact hz1.drew | exact hz1 : Below w0.heap.size w0 _).mono Hb0.out.size))).mono ?_; rintro e w2 ⟨rfl, hb2⟩; have hz2 : Below w0.heap.size w0 w2 := (by first | exact hz1.drew | exact hz1 : Below w0.heap.size w0 _).trans (hb2.mono (by first | exact hz1.drew.size | exact hz1.size)); clear hb2)
   | (go_at_call 99; refine (H1.out _ (Below.trans Hb0.out ((by first | exact (Below.refl _ _).drew | exact Below.refl _ _ : Below w0.heap.size w0 _).mono Hb0.out.size))).mono ?_; rintro e w1 ⟨rfl, hb1⟩; have hz1 : Below w0.heap.size w0 w1 := (by first | exact (Below.refl _ _).drew | exact Below.refl _ _ : Below w0.heap.size w0 _).trans (hb1.mono (by first | exact (Below.refl _ _).drew.size | exact Nat.le_refl _)); clear hb1))
 obtain ⟨q0, q1, q2, q3⟩ := HA.out w2 hz2
 dsimp only at q0 q1 q2 q3
 have Hb2 : Hid (Below w.heap.size w w2) := hidC (Hb0.out.trans (hz2.mono Hb0.out.size))
 clear HA HK HI H1 Hs0 hz1
 try clear hz2
 go_wp2_with (first | (go_at_call 99; refine (H2.out _ Hb2.out).mono ?_; rintro e w3 ⟨rfl, hb3⟩; have Hb3 := hidC (Hb2.out.trans (hb3.mono Hb2.out.size)); clear hb3))
 go_ret
 refine ⟨?_, Hb3.out⟩
 simp only [sV, bs_app]
 rfl
theorem line_stop (a : ActT) (w : World) (hE : EnvS w) (ha : a.ok) (hk : a.kind % 9 = 8) : Calls Tryz.prog 48 #[actV a] w fun e w' => RP w (sV a.line) e w' := by
 have mixed : Tryz.prog.follows .mixedOrders = true := by kernel_rfl
 unfold ActT.line
 rw [hk]
 obtain ⟨k, x, o, m⟩ := a
 obtain ⟨h1, h2, h3, h4⟩ := ha
 dsimp only at hk h1 h2 h3 h4 ⊢
 have hkz : (k : Int) % 9 = 8 := by omega
 have HE : Hid (∀ w', Below w.heap.size w w' → EnvS w') := hidC fun w' h => hE.below h hE.env.size
 have H1 : Hid (∀ w', Below w.heap.size w w' → Calls Tryz.prog 99 #[sV tNames, .int .u8 x] w' fun e w'' => RP w' (sV (nth lNames x)) e w'') := hidC fun w' h => names_calls x w' (HE.out w' h) h2
 have HI : Hid (∀ w', Below w.heap.size w w' → Calls Tryz.prog 27 #[.int .i64 ((IntKind.i64.wrap (m : Int)).tmod 45)] w' fun e w'' => RP w' (sV (Lib.itoa ((m % 45 : Nat) : Int))) e w'') := hidC fun w' h => by
  have hc : (IntKind.i64.wrap (m : Int)).tmod 45 = ((m % 45 : Nat) : Int) := by rw [IntWalk.i64_in _ (by omega), Int.tmod_eq_emod_of_nonneg (by omega)]; rfl
  rw [hc]
  exact itoa_calls _ (by omega) (by omega) w' (HE.out w' h).env
 have H2 : Hid (∀ w', Below w.heap.size w w' → Calls Tryz.prog 99 #[sV tPers, .int .u8 o] w' fun e w'' => RP w' (sV (nth lPers o)) e w'') := hidC fun w' h => pers_calls o w' (HE.out w' h) h3
 have hX : (nth lNames x).length ≤ 10 := nth_len (by decide) x
 have hN : (Lib.itoa ((m % 45 : Nat) : Int)).length ≤ 10 := itoa_len m
 have hO : (nth lPers o).length ≤ 10 := nth_len (by decide) o
 clear hE hk
 generalize nth lNames x = X at *
 generalize Lib.itoa ((m % 45 : Nat) : Int) = N at *
 generalize nth lPers o = O at *
 unfold actV
 go_enter Tryz.func48, Tryz.ntmps48
 go_wp2_with fail
 have hb0 : Below w.heap.size w (w.alloc (Obj.cells #[Value.int IntKind.u8 ↑k, Value.int IntKind.u8 ↑x, Value.int IntKind.u8 ↑o, Value.int IntKind.u8 ↑m] 91)) := (Below.refl _ _).alloc (Nat.le_refl _) _
 have ha0 : ActAt w.heap.size ⟨k, x, o, m⟩ (w.alloc (Obj.cells #[Value.int IntKind.u8 ↑k, Value.int IntKind.u8 ↑x, Value.int IntKind.u8 ↑o, Value.int IntKind.u8 ↑m] 91)) := by
  have e := heap_alloc_new w (.cells #[Value.int IntKind.u8 ↑k, Value.int IntKind.u8 ↑x, Value.int IntKind.u8 ↑o, Value.int IntKind.u8 ↑m] 91)
  refine ⟨?_, ?_, ?_, ?_⟩ <;> · unfold World.cell?; simp only [e]; rfl
 have hs0 : w.heap.size < (w.alloc (Obj.cells #[Value.int IntKind.u8 ↑k, Value.int IntKind.u8 ↑x, Value.int IntKind.u8 ↑o, Value.int IntKind.u8 ↑m] 91)).heap.size := by show w.heap.size < (w.heap.push _).size; simp
 generalize w.alloc (Obj.cells #[Value.int IntKind.u8 ↑k, Value.int IntKind.u8 ↑x, Value.int IntKind.u8 ↑o, Value.int IntKind.u8 ↑m] 91) = w0 at *
 have Hb0 := hidC hb0
 have HA : Hid (∀ w', Below w0.heap.size w0 w' → ActAt w.heap.size ⟨k, x, o, m⟩ w') := hidC fun w' h => act_keep ha0 h hs0
 obtain ⟨q0, q1, q2, q3⟩ := ha0
 dsimp only at q0 q1 q2 q3
 have Hs0 := hidC hs0
 clear hb0 hs0
 have HK : Hid (∀ w', Below w0.heap.size w0 w' → w'.cell? ⟨w.heap.size, 1, none⟩ = some (.int .u8 x) ∧ w'.cell? ⟨w.heap.size, 3, none⟩ = some (.int .u8 m)) := hidC fun w' h => ⟨(HA.out w' h).2.1, (HA.out w' h).2.2.2⟩
 go_region_held3 (fun w' => w'.cell? ⟨w.heap.size, 1, none⟩ = some (.int .u8 x) ∧ w'.cell? ⟨w.heap.size, 3, none⟩ = some (.int .u8 m))
  (first | exact HK.out _ (by assumption) | exact HK.out _ (Below.refl _ _).drew | exact HK.out _ (Below.drew (by assumption)) | go_keep)
  (first
   | (go_at_call 27; refine (HI.out _ (Below.trans Hb0.out ((by first | exact hz1.drew | exact hz1 : Below w0.heap.size w0 _).mono Hb0.out.size))).mono ?_; rintro e w2 ⟨rfl, hb2⟩; have hz2 : Below w0.heap.size w0 w2 := (by first | exact hz1.drew | exact hz1 : Below w0.heap.size w0 _).trans (hb2.mono (by first | exact hz1.drew.size | exact hz1.size)); clear hb2)
   | (go_at_call 99; refine (H1.out _ (Below.trans Hb0.out ((by first | exact (Below.refl _ _).drew | exact Below.refl _ _ : Below w0.heap.size w0 _).mono Hb0.out.size))).mono ?_; rintro e w1 ⟨rfl, hb1⟩; have hz1 : Below w0.heap.size w0 w1 := (by first | exact (Below.refl _ _).drew | exact Below.refl _ _ : Below w0.heap.size w0 _).trans (hb1.mono (by first | exact (Below.refl _ _).drew.size | exact Nat.le_refl _)); clear hb1))
 obtain ⟨q0, q1, q2, q3⟩ := HA.out w2 hz2
 dsimp only at q0 q1 q2 q3
 have Hb2 : Hid (Below w.heap.size w w2) := hidC (Hb0.out.trans (hz2.mono Hb0.out.size))
 clear HA HK HI H1 Hs0 hz1
 try clear hz2
 go_wp2_with (first | (go_at_call 99; refine (H2.out _ Hb2.out).mono ?_; rintro e w3 ⟨rfl, hb3⟩; have Hb3 := hidC (Hb2.out.trans (hb3.mono Hb2.out.size)); clear hb3))
 go_ret
 refine ⟨?_, Hb3.out⟩
 simp only [sV, bs_app]
 rfl
theorem line_calls (a : ActT) (w : World) (hE : EnvS w) (ha : a.ok) : Calls Tryz.prog 48 #[actV a] w fun e w' => RP w (sV a.line) e w' := by
 have h : a.kind % 9 < 9 := Nat.mod_lt _ (by decide)
 match hk : a.kind % 9, h with
 | 0, _ => exact line_word0 a w hE ha hk
 | 1, _ => exact line_word1 a w hE ha hk
 | 2, _ => exact line_short a w hE ha hk
 | 3, _ => exact line_give a w hE ha hk
 | 4, _ => exact line_come a w hE ha hk
 | 5, _ => exact line_see a w hE ha hk
 | 6, _ => exact line_close a w hE ha hk
 | 7, _ => exact line_pay a w hE ha hk
 | 8, _ => exact line_stop a w hE ha hk
 | n + 9, h => omega
end Go.Proofs.YtjeadhfponlnnaaGreatDoor
