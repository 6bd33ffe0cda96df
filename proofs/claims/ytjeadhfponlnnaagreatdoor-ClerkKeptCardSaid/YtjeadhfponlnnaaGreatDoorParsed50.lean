/-
  The orders of volumes and subscribers.
  The order of a line.
  Conditions: none; definitions and lemmas.
-/
import Derived.Test.YtjeadhfponlnnaaGreatDoorRead100
import Derived.Test.YtjeadhfponlnnaaGreatDoorSplitC14
set_option linter.unusedSimpArgs false
set_option linter.unusedVariables false
namespace Go.Proofs.YtjeadhfponlnnaaGreatDoor
open Go.RowKit Go.Pur Go.Clerk
open Go.Abs
set_option maxRecDepth 1000000
set_option maxHeartbeats 8000000
def ordV : Option Ord → Value
 | .none => .nilIface
 | some (.word w) => .iface 159 (.agg #[sV w])
 | some (.short w f) => .iface 161 (.agg #[sV w, sV f])
 | some (.give w p n) => .iface 163 (.agg #[sV w, sV p, nV n])
 | some (.come w n) => .iface 165 (.agg #[sV w, nV n])
 | some (.see w o) => .iface 167 (.agg #[sV w, sV o])
 | some (.close c) => .iface 212 (.agg #[.int .u8 c.toNat])
 | some (.pay p n) => .iface 214 (.agg #[sV p, nV n])
 | some (.stop p) => .iface 216 (.agg #[sV p])
def OrP (w : World) (r : Option Ord × Nat) (e : Ending) (w' : World) : Prop := e = .returned (.tuple #[ordV r.1, nV r.2]) ∧ Below w.heap.size w w'
theorem readW_ok {l : List Tx} {names letters n : Nat} {num : Bool} (h : readW l names letters num = (n, 0)) : l.length = names + (if num then 1 else 0) ∧ (l.take names).all (named · letters) = true ∧ (num = true → numb (l.getD names []) = some n) := by
 by_cases h1 : l.length = names + (if num then 1 else 0)
 ·cases h2 : l.contains [] with
  | true => rw [readW_emp h2] at h; cases h
  | false =>
   rw [readW_rest h1 h2] at h
   unfold readR at h
   cases h3 : (l.take names).all (named · letters) with
   | false => rw [h3] at h; cases h
   | true =>
    refine ⟨h1, rfl, fun hn => ?_⟩
    rw [h3, hn] at h
    cases h4 : numb (l.getD names []) with
    | none => rw [h4] at h; cases h
    | some m => rw [h4] at h; cases h; rfl
 ·rw [readW_len h1] at h; cases h
theorem read_any {g off cap names letters : Nat} {num : Bool} {l : List Tx} {w : World} (h : TxO w g off l) (hcap : l.length ≤ cap) (hl : l.length ≤ 1000000) (hE : Env w) (hlen : ∀ x ∈ l, x.length ≤ 1000000) (hn : names ≤ 1000) (hlt : letters ≤ 1000) (hoff : off ≤ 1000) :
  Calls Tryz.prog 100 #[.slice (some ⟨g, off, none⟩) l.length cap, .int .i64 names, .int .i64 letters, .bool num] w fun e w' => RdP w (readW l names letters num) e w' := by
 cases num with
 | false => exact read_f g off cap names letters l w h hcap hl hE hlen hn hlt hoff
 | true => exact read_t g off cap names letters l w h hcap hl hE hlen hn hlt hoff
def mkO (x : Nat × Nat) (o : Nat → Option Ord) : Option Ord × Nat := match x with
 | (n, 0) => (o n, 0)
 | (_, e + 1) => (.none, e + 1)
theorem parseWord {l : List Tx} : parseW kWord l = mkO (readW l 1 10 false) (fun n => some (.word (l.getD 0 []))) := by
 unfold parseW
 simp only []
 rw [if_pos trivial]
 rcases readW l 1 10 false with ⟨n, _ | e⟩ <;> rfl
theorem parseShort {l : List Tx} : parseW kShort l = mkO (readW l 2 10 false) (fun n => some (.short (l.getD 0 []) (l.getD 1 []))) := by
 unfold parseW
 simp only []
 rw [if_neg (by decide), if_pos trivial]
 rcases readW l 2 10 false with ⟨n, _ | e⟩ <;> rfl
theorem parseGive {l : List Tx} : parseW kGive l = mkO (readW l 2 10 true) (fun n => some (.give (l.getD 0 []) (l.getD 1 []) n)) := by
 unfold parseW
 simp only []
 rw [if_neg (by decide), if_neg (by decide), if_pos trivial]
 rcases readW l 2 10 true with ⟨n, _ | e⟩ <;> rfl
theorem parseCome {l : List Tx} : parseW kCome l = mkO (readW l 1 10 true) (fun n => some (.come (l.getD 0 []) n)) := by
 unfold parseW
 simp only []
 rw [if_neg (by decide), if_neg (by decide), if_neg (by decide), if_pos trivial]
 rcases readW l 1 10 true with ⟨n, _ | e⟩ <;> rfl
theorem parseSee {l : List Tx} : parseW kSee l = mkO (readW l 2 10 false) (fun n => some (.see (l.getD 0 []) (l.getD 1 []))) := by
 unfold parseW
 simp only []
 rw [if_neg (by decide), if_neg (by decide), if_neg (by decide), if_neg (by decide), if_pos trivial]
 rcases readW l 2 10 false with ⟨n, _ | e⟩ <;> rfl
theorem parseClose {l : List Tx} : parseW kClose l = mkO (readW l 1 1 false) (fun n => some (.close ((l.getD 0 []).headD 0))) := by
 unfold parseW
 simp only []
 rw [if_neg (by decide), if_neg (by decide), if_neg (by decide), if_neg (by decide), if_neg (by decide), if_pos trivial]
 rcases readW l 1 1 false with ⟨n, _ | e⟩ <;> rfl
theorem parsePay {l : List Tx} : parseW kPay l = mkO (readW l 1 10 true) (fun n => some (.pay (l.getD 0 []) n)) := by
 unfold parseW
 simp only []
 rw [if_neg (by decide), if_neg (by decide), if_neg (by decide), if_neg (by decide), if_neg (by decide), if_neg (by decide), if_pos trivial]
 rcases readW l 1 10 true with ⟨n, _ | e⟩ <;> rfl
theorem parseStop {l : List Tx} : parseW kStop l = mkO (readW l 1 10 false) (fun n => some (.stop (l.getD 0 []))) := by
 unfold parseW
 simp only []
 rw [if_neg (by decide), if_neg (by decide), if_neg (by decide), if_neg (by decide), if_neg (by decide), if_neg (by decide), if_neg (by decide), if_pos trivial]
 rcases readW l 1 10 false with ⟨n, _ | e⟩ <;> rfl
theorem parseUndo {l : List Tx} : parseW kUndo l = mkO (readW l 0 0 false) (fun n => .none) := by
 unfold parseW
 simp only []
 rw [if_neg (by decide), if_neg (by decide), if_neg (by decide), if_neg (by decide), if_neg (by decide), if_neg (by decide), if_neg (by decide), if_neg (by decide), if_pos trivial]
 rcases readW l 0 0 false with ⟨n, _ | e⟩ <;> rfl
theorem others_close (g off cap : Nat) (l : List Tx) (w : World) (h : TxO w g off l) (hcap : l.length ≤ cap) (hl : l.length ≤ 1000000) (hE : Env w) (hlen : ∀ x ∈ l, x.length ≤ 1000000) (hoff : off ≤ 1000) :
  Calls Tryz.prog 101 #[sV kClose, .slice (some ⟨g, off, none⟩) l.length cap] w fun e w' => OrP w (parseW kClose l) e w' := by
 have mixed : Tryz.prog.follows .mixedOrders = true := by kernel_rfl
 have HC := hidC (read_any (names := 1) (letters := 1) (num := false) h hcap hl hE hlen (by decide) (by decide) hoff)
 obtain ⟨z, er, hr⟩ : ∃ z er, readW l 1 1 false = (z, er) := ⟨_, _, rfl⟩
 rw [hr] at HC
 have hP := parseClose (l := l)
 rw [hr] at hP
 cases er with
 | succ e =>
  have HP := hidC hP
  have hne : (((e + 1 : Nat) : Int) != 0) = true := by rw [bne_iff_ne]; omega
  clear hP hr h hE hlen
  go_enter Tryz.func101, Tryz.ntmps101
  go_wp2_with (go_at_call 100; refine HC.out.mono ?_; rintro e1 wa ⟨rfl, hB⟩)
  go_ret2
  exact ⟨by rw [HP.out]; rfl, hB⟩
 | zero =>
  obtain ⟨k1, k2, k3⟩ := readW_ok hr
  have hl1 : 0 < l.length := by rw [k1]; decide
  have hl1i : (0 : Int) < (l.length : Int) := by omega
  obtain ⟨a, ha⟩ : ∃ a, l[0] = a := ⟨_, rfl⟩
  have hc0 := h 0 _ (List.getElem?_eq_getElem hl1)
  rw [ha] at hc0
  have hga : l.getD 0 [] = a := by rw [List.getD_eq_getElem?_getD, List.getElem?_eq_getElem hl1, ha]; rfl
  rw [hga] at hP
  have hga2 : l.take 1 = [a] := by rw [← ha]; match l, hl1 with | x :: l', _ => rfl
  rw [hga2] at k2
  have hbc : ∀ w', Below w.heap.size w w' → w'.cell? ⟨g, off, none⟩ = some (sV a) := fun w' hb => (hb.cell (p := ⟨g, off + 0, none⟩) (World.block_lt_of_cell? w _ hc0)).trans hc0
  have Hbc := hidC hbc
  have HP := hidC hP
  simp only [List.all_cons, List.all_nil, Bool.and_true] at k2
  obtain ⟨c, rfl⟩ : ∃ c, a = [c] := by
   unfold named at k2
   simp only [Bool.and_eq_true, decide_eq_true_eq, Bool.not_eq_true', List.isEmpty_eq_false_iff] at k2
   obtain ⟨⟨h1, h2⟩, _⟩ := k2
   match a, h1, h2 with
   | [c], _, _ => exact ⟨c, rfl⟩
   | _ :: _ :: _, _, h2 => simp at h2
  have hx1 := bs_at (l := [c]) (i := 0) (by simp) (by rw [bs_size]; simp)
  rw [List.getElem_cons_zero] at hx1
  clear hbc hc0 ha hP hr h hE hlen k1 k3 hga hga2
  go_enter Tryz.func101, Tryz.ntmps101
  go_wp2_with (go_at_call 100; refine HC.out.mono ?_; rintro e1 wa ⟨rfl, hB⟩; have hcx := Hbc.out _ hB)
  go_ret2
  exact ⟨by rw [HP.out]; rfl, hB⟩
theorem others_pay (g off cap : Nat) (l : List Tx) (w : World) (h : TxO w g off l) (hcap : l.length ≤ cap) (hl : l.length ≤ 1000000) (hE : Env w) (hlen : ∀ x ∈ l, x.length ≤ 1000000) (hoff : off ≤ 1000) :
  Calls Tryz.prog 101 #[sV kPay, .slice (some ⟨g, off, none⟩) l.length cap] w fun e w' => OrP w (parseW kPay l) e w' := by
 have mixed : Tryz.prog.follows .mixedOrders = true := by kernel_rfl
 have HC := hidC (read_any (names := 1) (letters := 10) (num := true) h hcap hl hE hlen (by decide) (by decide) hoff)
 obtain ⟨z, er, hr⟩ : ∃ z er, readW l 1 10 true = (z, er) := ⟨_, _, rfl⟩
 rw [hr] at HC
 have hP := parsePay (l := l)
 rw [hr] at hP
 cases er with
 | succ e =>
  have HP := hidC hP
  have hne : (((e + 1 : Nat) : Int) != 0) = true := by rw [bne_iff_ne]; omega
  clear hP hr h hE hlen
  go_enter Tryz.func101, Tryz.ntmps101
  go_wp2_with (go_at_call 100; refine HC.out.mono ?_; rintro e1 wa ⟨rfl, hB⟩)
  go_ret2
  exact ⟨by rw [HP.out]; rfl, hB⟩
 | zero =>
  obtain ⟨k1, k2, k3⟩ := readW_ok hr
  have hl1 : 0 < l.length := by rw [k1]; decide
  have hl1i : (0 : Int) < (l.length : Int) := by omega
  obtain ⟨a, ha⟩ : ∃ a, l[0] = a := ⟨_, rfl⟩
  have hc0 := h 0 _ (List.getElem?_eq_getElem hl1)
  rw [ha] at hc0
  have hga : l.getD 0 [] = a := by rw [List.getD_eq_getElem?_getD, List.getElem?_eq_getElem hl1, ha]; rfl
  rw [hga] at hP
  have hga2 : l.take 1 = [a] := by rw [← ha]; match l, hl1 with | x :: l', _ => rfl
  rw [hga2] at k2
  have hbc : ∀ w', Below w.heap.size w w' → w'.cell? ⟨g, off, none⟩ = some (sV a) := fun w' hb => (hb.cell (p := ⟨g, off + 0, none⟩) (World.block_lt_of_cell? w _ hc0)).trans hc0
  have Hbc := hidC hbc
  have HP := hidC hP
  clear hbc hc0 ha hP hr h hE hlen k1 k3 hga hga2
  go_enter Tryz.func101, Tryz.ntmps101
  go_wp2_with (go_at_call 100; refine HC.out.mono ?_; rintro e1 wa ⟨rfl, hB⟩; have hcx := Hbc.out _ hB)
  go_ret2
  exact ⟨by rw [HP.out]; rfl, hB⟩
theorem others_stop (g off cap : Nat) (l : List Tx) (w : World) (h : TxO w g off l) (hcap : l.length ≤ cap) (hl : l.length ≤ 1000000) (hE : Env w) (hlen : ∀ x ∈ l, x.length ≤ 1000000) (hoff : off ≤ 1000) :
  Calls Tryz.prog 101 #[sV kStop, .slice (some ⟨g, off, none⟩) l.length cap] w fun e w' => OrP w (parseW kStop l) e w' := by
 have mixed : Tryz.prog.follows .mixedOrders = true := by kernel_rfl
 have HC := hidC (read_any (names := 1) (letters := 10) (num := false) h hcap hl hE hlen (by decide) (by decide) hoff)
 obtain ⟨z, er, hr⟩ : ∃ z er, readW l 1 10 false = (z, er) := ⟨_, _, rfl⟩
 rw [hr] at HC
 have hP := parseStop (l := l)
 rw [hr] at hP
 cases er with
 | succ e =>
  have HP := hidC hP
  have hne : (((e + 1 : Nat) : Int) != 0) = true := by rw [bne_iff_ne]; omega
  clear hP hr h hE hlen
  go_enter Tryz.func101, Tryz.ntmps101
  go_wp2_with (go_at_call 100; refine HC.out.mono ?_; rintro e1 wa ⟨rfl, hB⟩)
  go_ret2
  exact ⟨by rw [HP.out]; rfl, hB⟩
 | zero =>
  obtain ⟨k1, k2, k3⟩ := readW_ok hr
  have hl1 : 0 < l.length := by rw [k1]; decide
  have hl1i : (0 : Int) < (l.length : Int) := by omega
  obtain ⟨a, ha⟩ : ∃ a, l[0] = a := ⟨_, rfl⟩
  have hc0 := h 0 _ (List.getElem?_eq_getElem hl1)
  rw [ha] at hc0
  have hga : l.getD 0 [] = a := by rw [List.getD_eq_getElem?_getD, List.getElem?_eq_getElem hl1, ha]; rfl
  rw [hga] at hP
  have hga2 : l.take 1 = [a] := by rw [← ha]; match l, hl1 with | x :: l', _ => rfl
  rw [hga2] at k2
  have hbc : ∀ w', Below w.heap.size w w' → w'.cell? ⟨g, off, none⟩ = some (sV a) := fun w' hb => (hb.cell (p := ⟨g, off + 0, none⟩) (World.block_lt_of_cell? w _ hc0)).trans hc0
  have Hbc := hidC hbc
  have HP := hidC hP
  clear hbc hc0 ha hP hr h hE hlen k1 k3 hga hga2
  go_enter Tryz.func101, Tryz.ntmps101
  go_wp2_with (go_at_call 100; refine HC.out.mono ?_; rintro e1 wa ⟨rfl, hB⟩; have hcx := Hbc.out _ hB)
  go_ret2
  exact ⟨by rw [HP.out]; rfl, hB⟩
theorem others_undo (g off cap : Nat) (l : List Tx) (w : World) (h : TxO w g off l) (hcap : l.length ≤ cap) (hl : l.length ≤ 1000000) (hE : Env w) (hlen : ∀ x ∈ l, x.length ≤ 1000000) (hoff : off ≤ 1000) :
  Calls Tryz.prog 101 #[sV kUndo, .slice (some ⟨g, off, none⟩) l.length cap] w fun e w' => OrP w (parseW kUndo l) e w' := by
 have mixed : Tryz.prog.follows .mixedOrders = true := by kernel_rfl
 have HC := hidC (read_any (names := 0) (letters := 0) (num := false) h hcap hl hE hlen (by decide) (by decide) hoff)
 obtain ⟨z, er, hr⟩ : ∃ z er, readW l 0 0 false = (z, er) := ⟨_, _, rfl⟩
 rw [hr] at HC
 have hP := parseUndo (l := l)
 rw [hr] at hP
 cases er with
 | succ e =>
  have HP := hidC hP
  have hne : (((e + 1 : Nat) : Int) != 0) = true := by rw [bne_iff_ne]; omega
  clear hP hr h hE hlen
  go_enter Tryz.func101, Tryz.ntmps101
  go_wp2_with (go_at_call 100; refine HC.out.mono ?_; rintro e1 wa ⟨rfl, hB⟩)
  go_ret2
  exact ⟨by rw [HP.out]; rfl, hB⟩
 | zero =>
  have HP := hidC hP
  clear hP hr h hE hlen
  go_enter Tryz.func101, Tryz.ntmps101
  go_wp2_with (go_at_call 100; refine HC.out.mono ?_; rintro e1 wa ⟨rfl, hB⟩)
  go_ret2
  exact ⟨by rw [HP.out]; rfl, hB⟩
theorem others_none (first : Tx) (v : Value) (w : World) (h1 : first ≠ kClose) (h2 : first ≠ kPay) (h3 : first ≠ kStop) (h4 : first ≠ kUndo) :
  Calls Tryz.prog 101 #[sV first, v] w fun e w' => OrP w (.none, 10) e w' := by
 have e1 : (first == [99, 108, 111, 115, 101]) = false := beq_eq_false_iff_ne.2 h1
 have e2 : (first == [112, 97, 121]) = false := beq_eq_false_iff_ne.2 h2
 have e3 : (first == [115, 116, 111, 112]) = false := beq_eq_false_iff_ne.2 h3
 have e4 : (first == [117, 110, 100, 111]) = false := beq_eq_false_iff_ne.2 h4
 clear h1 h2 h3 h4
 go_enter Tryz.func101, Tryz.ntmps101
 go_wp2_with fail
 go_ret2
 exact ⟨rfl, Below.refl _ _⟩
theorem parse_else {first : Tx} {l : List Tx} (a1 : first ≠ kWord) (a2 : first ≠ kShort) (a3 : first ≠ kGive) (a4 : first ≠ kCome) (a5 : first ≠ kSee) (h1 : first ≠ kClose) (h2 : first ≠ kPay) (h3 : first ≠ kStop) (h4 : first ≠ kUndo) : parseW first l = (.none, 10) := by
 unfold parseW
 simp only [if_neg a1, if_neg a2, if_neg a3, if_neg a4, if_neg a5, if_neg h1, if_neg h2, if_neg h3, if_neg h4]
theorem others_calls {first : Tx} {g off cap : Nat} {l : List Tx} {w : World} (a1 : first ≠ kWord) (a2 : first ≠ kShort) (a3 : first ≠ kGive) (a4 : first ≠ kCome) (a5 : first ≠ kSee) (h : TxO w g off l) (hcap : l.length ≤ cap) (hl : l.length ≤ 1000000) (hE : Env w) (hlen : ∀ x ∈ l, x.length ≤ 1000000) (hoff : off ≤ 1000) :
  Calls Tryz.prog 101 #[sV first, .slice (some ⟨g, off, none⟩) l.length cap] w fun e w' => OrP w (parseW first l) e w' := by
 by_cases h1 : first = kClose
 ·subst h1; exact others_close g off cap l w h hcap hl hE hlen hoff
 by_cases h2 : first = kPay
 ·subst h2; exact others_pay g off cap l w h hcap hl hE hlen hoff
 by_cases h3 : first = kStop
 ·subst h3; exact others_stop g off cap l w h hcap hl hE hlen hoff
 by_cases h4 : first = kUndo
 ·subst h4; exact others_undo g off cap l w h hcap hl hE hlen hoff
 rw [parse_else a1 a2 a3 a4 a5 h1 h2 h3 h4]
 exact others_none first _ w h1 h2 h3 h4
end Go.Proofs.YtjeadhfponlnnaaGreatDoor
set_option linter.unusedSimpArgs false
set_option linter.unusedVariables false
namespace Go.Proofs.YtjeadhfponlnnaaGreatDoor
open Go.RowKit Go.Pur Go.Clerk
open Go.Abs
set_option maxRecDepth 1000000
set_option maxHeartbeats 8000000
theorem split_calls (line : Tx) (w : World) (hE : Env w) (hl : line.length ≤ 1000000) : Calls Tryz.prog 79 #[sV line, sV [32]] w fun e w' => e = .returned (.slice (some ⟨w.heap.size, 0, none⟩) (splitC 32 line).length (splitC 32 line).length) ∧ w' = w.alloc (.cells ((splitC 32 line).map sV).toArray 9) := by
 obtain ⟨m, hm⟩ := hE.maxlen
 refine (Tryz.strings_Split (bs line) ⟨#[32]⟩ m w (by rw [bs_size]; omega) hm (by decide)).mono ?_
 rintro e w' ⟨rfl, rfl⟩
 have h1 : Lib.countB (bs line) ⟨#[32]⟩ + 1 = (splitC 32 line).length := splitC_len.symm
 have h2 : (Lib.splitB ⟨#[32]⟩ 0 (Lib.countB (bs line) ⟨#[32]⟩) (bs line)).map Value.string = (splitC 32 line).map sV := by
  have h3 := splitB_C (c := 32) (l := line)
  rw [← h3, List.map_map]
  refine List.map_congr_left fun x _ => ?_
  show Value.string x = sV x.data.toList
  congr 1
 rw [h1, h2]
 exact ⟨rfl, rfl⟩
def SpP (w : World) (first : Tx) (l : List Tx) (s4 s5 : Value) (wx : World) : Prop := ∃ off, off ≤ 1 ∧ s4 = .slice (some ⟨w.heap.size, off, none⟩) l.length l.length ∧ s5 = sV first ∧ Below w.heap.size w wx ∧ TxO wx w.heap.size off l
theorem txO_alloc {w : World} {l : List Tx} : TxO (w.alloc (.cells (l.map sV).toArray 9)) w.heap.size 0 l := fun i t ht => by
 simp only [World.cell?, heap_alloc_new, Nat.zero_add]
 show (l.map sV).toArray[i]? = _
 simp [ht]
theorem parsed_calls (line : Tx) (w : World) (hE : Env w) (hl : line.length ≤ 100000) : Calls Tryz.prog 50 #[sV line] w fun e w' => OrP w (parse line) e w' := by
 have mixed : Tryz.prog.follows .mixedOrders = true := by kernel_rfl
 have HS := hidC (split_calls line w hE (by omega))
 have hbd := splitC_bound (c := 32) (l := line)
 obtain ⟨first, l, hfl⟩ := List.exists_cons_of_ne_nil (splitC_ne (c := 32) (l := line))
 have hpar : parse line = parseW first l := by
  unfold parse
  simp only [hfl]
  rfl
 rw [hfl] at HS hbd
 rw [hpar]
 obtain ⟨R, hR⟩ : ∃ R, parseW first l = R := ⟨_, rfl⟩
 have HE := hidC hE
 have hll : l.length ≤ 1000000 := by have := hbd.1; simp at this; omega
 have Hlen := hidC (fun x hx => Nat.le_trans (hbd.2 x (List.mem_cons_of_mem _ hx)) (by omega) : ∀ x ∈ l, x.length ≤ 1000000)
 have hto := txO_alloc (w := w) (l := first :: l)
 have hcf := hto 0 first rfl
 have Hto := hidC hto
 have hBa : Below w.heap.size w (w.alloc (.cells ((first :: l).map sV).toArray 9)) := (Below.refl _ _).alloc (Nat.le_refl _) _
 obtain ⟨w1, hw1⟩ : ∃ w1, w.alloc (.cells ((first :: l).map sV).toArray 9) = w1 := ⟨_, rfl⟩
 rw [hw1] at HS hcf Hto hBa
 have HBa := hidC hBa
 clear hE hbd hfl hpar hto hBa hw1
 have hlen1 : (0 : Int) < ((first :: l).length : Int) := by rw [List.length_cons]; omega
 have hlen2 : (1 : Int) ≤ ((first :: l).length : Int) := by rw [List.length_cons]; omega
 rw [hR]
 have HR := hidC hR
 clear hR
 have hcut1 : SpP w first l (.slice (some ⟨w.heap.size, if l = [] then 0 else 1, none⟩) l.length l.length) (sV first) w1.drew := by
  refine ⟨if l = [] then 0 else 1, by split <;> omega, rfl, rfl, HBa.out.drew, fun i t ht => ?_⟩
  have hne : l ≠ [] := fun e => by rw [e] at ht; cases ht
  rw [if_neg hne, Nat.add_comm 1 i]
  have h9 := Hto.out (i + 1) t ht
  rw [Nat.zero_add] at h9
  exact h9
 have HC := hidC hcut1
 clear hcut1
 obtain ⟨nn, hnn⟩ : ∃ nn, (first :: l).length = nn := ⟨_, rfl⟩
 have hnl : nn = l.length + 1 := by rw [← hnn]; rfl
 rw [hnn] at HS hlen1 hlen2
 have Hnl := hidC hnl
 clear hnn hnl
 go_enter Tryz.func50, Tryz.ntmps50
 go_upto_region 2 with (go_at_call 79; refine HS.out.mono ?_; rintro e wa ⟨rfl, hw⟩; obtain rfl := hw)
 go_cut [4, 5] (fun s4 s5 wx => SpP w first l s4 s5 wx)
 case first =>
  cases l with
  | nil =>
   obtain rfl : nn = 1 := Hnl.out
   go_region
   all_goals go_wp2_with fail
   all_goals go_meet
   all_goals exact HC.out
  | cons x l =>
   obtain rfl : nn = l.length + 1 + 1 := Hnl.out
   go_region
   all_goals go_wp2_with fail
   all_goals go_meet
   all_goals exact HC.out
 case rest =>
  obtain ⟨off, hoff, rfl, rfl, hB, htx⟩ := hcut
  have HB := hidC hB
  have Htx := hidC htx
  have HE2 := hidC (HE.out.below hB HE.out.size)
  clear hB htx hcf hlen1 hlen2
  obtain ⟨w2, rfl⟩ : ∃ w2, w2 = wc := ⟨_, rfl⟩
  by_cases aWord : first = kWord
  ·subst aWord
   have HC1 := hidC (read_any (names := 1) (letters := 10) (num := false) Htx.out (Nat.le_refl _) hll HE2.out Hlen.out (by decide) (by decide) (by omega))
   obtain ⟨z, er, hr⟩ : ∃ z er, readW l 1 10 false = (z, er) := ⟨_, _, rfl⟩
   rw [hr] at HC1
   have hP := (parseWord (l := l)).symm.trans HR.out
   rw [hr] at hP
   cases er with
   | succ e =>
    have HP := hidC hP
    have hne : (((e + 1 : Nat) : Int) != 0) = true := by rw [bne_iff_ne]; omega
    clear hP hr
    go_wp2_with (go_at_call 100; refine HC1.out.mono ?_; rintro e1 wa ⟨rfl, hB1⟩)
    go_ret2
    exact ⟨by rw [← HP.out]; rfl, HB.out.trans (hB1.mono HB.out.size)⟩
   | zero =>
    obtain ⟨k1, k2, k3⟩ := readW_ok hr
    have hl0 : 0 < l.length := by rw [k1]; decide
    have hl0i : (0 : Int) < (l.length : Int) := by omega
    obtain ⟨x0, hx0⟩ : ∃ x, l[0] = x := ⟨_, rfl⟩
    have hc0 := Htx.out 0 _ (List.getElem?_eq_getElem hl0)
    rw [hx0] at hc0
    have hg0 : l.getD 0 [] = x0 := by rw [List.getD_eq_getElem?_getD, List.getElem?_eq_getElem hl0, hx0]; rfl
    rw [hg0] at hP
    have hb0 : ∀ w', Below w2.heap.size w2 w' → w'.cell? ⟨w.heap.size, off, none⟩ = some (sV x0) := fun w' hb => (hb.cell (p := ⟨w.heap.size, off + 0, none⟩) (World.block_lt_of_cell? w2 _ hc0)).trans hc0
    have Hb0 := hidC hb0
    have HP := hidC hP
    clear hb0 hc0 hx0 hg0 hP hr k1 k2 k3
    go_wp2_with (go_at_call 100; refine HC1.out.mono ?_; rintro e1 wa ⟨rfl, hB1⟩; have hy0 := Hb0.out _ hB1)
    go_ret2
    exact ⟨by rw [← HP.out]; rfl, HB.out.trans ((hB1).mono HB.out.size)⟩
  have eWord : (first == [119, 111, 114, 100]) = false := beq_eq_false_iff_ne.2 aWord
  have AWord := hidC aWord
  clear aWord
  by_cases aShort : first = kShort
  ·subst aShort
   have HC1 := hidC (read_any (names := 2) (letters := 10) (num := false) Htx.out (Nat.le_refl _) hll HE2.out Hlen.out (by decide) (by decide) (by omega))
   obtain ⟨z, er, hr⟩ : ∃ z er, readW l 2 10 false = (z, er) := ⟨_, _, rfl⟩
   rw [hr] at HC1
   have hP := (parseShort (l := l)).symm.trans HR.out
   rw [hr] at hP
   cases er with
   | succ e =>
    have HP := hidC hP
    have hne : (((e + 1 : Nat) : Int) != 0) = true := by rw [bne_iff_ne]; omega
    clear hP hr
    go_wp2_with (go_at_call 100; refine HC1.out.mono ?_; rintro e1 wa ⟨rfl, hB1⟩)
    go_ret2
    exact ⟨by rw [← HP.out]; rfl, HB.out.trans (hB1.mono HB.out.size)⟩
   | zero =>
    obtain ⟨k1, k2, k3⟩ := readW_ok hr
    have hl0 : 0 < l.length := by rw [k1]; decide
    have hl0i : (0 : Int) < (l.length : Int) := by omega
    obtain ⟨x0, hx0⟩ : ∃ x, l[0] = x := ⟨_, rfl⟩
    have hc0 := Htx.out 0 _ (List.getElem?_eq_getElem hl0)
    rw [hx0] at hc0
    have hg0 : l.getD 0 [] = x0 := by rw [List.getD_eq_getElem?_getD, List.getElem?_eq_getElem hl0, hx0]; rfl
    rw [hg0] at hP
    have hb0 : ∀ w', Below w2.heap.size w2 w' → w'.cell? ⟨w.heap.size, off, none⟩ = some (sV x0) := fun w' hb => (hb.cell (p := ⟨w.heap.size, off + 0, none⟩) (World.block_lt_of_cell? w2 _ hc0)).trans hc0
    have Hb0 := hidC hb0
    have hl1 : 1 < l.length := by rw [k1]; decide
    have hl1i : (1 : Int) < (l.length : Int) := by omega
    obtain ⟨x1, hx1⟩ : ∃ x, l[1] = x := ⟨_, rfl⟩
    have hc1 := Htx.out 1 _ (List.getElem?_eq_getElem hl1)
    rw [hx1] at hc1
    have hg1 : l.getD 1 [] = x1 := by rw [List.getD_eq_getElem?_getD, List.getElem?_eq_getElem hl1, hx1]; rfl
    rw [hg1] at hP
    have hb1 : ∀ w', Below w2.heap.size w2 w' → w'.cell? ⟨w.heap.size, off + 1, none⟩ = some (sV x1) := fun w' hb => (hb.cell (p := ⟨w.heap.size, off + 1, none⟩) (World.block_lt_of_cell? w2 _ hc1)).trans hc1
    have Hb1 := hidC hb1
    have HP := hidC hP
    clear hb0 hc0 hx0 hg0 hb1 hc1 hx1 hg1 hP hr k1 k2 k3
    go_wp2_with (go_at_call 100; refine HC1.out.mono ?_; rintro e1 wa ⟨rfl, hB1⟩; have hy0 := Hb0.out _ hB1; have hy1 := Hb1.out _ hB1)
    go_region
    go_wp2_with fail
    go_ret2
    exact ⟨by rw [← HP.out]; rfl, HB.out.trans ((hB1.drew).mono HB.out.size)⟩
  have eShort : (first == [115, 104, 111, 114, 116]) = false := beq_eq_false_iff_ne.2 aShort
  have AShort := hidC aShort
  clear aShort
  by_cases aGive : first = kGive
  ·subst aGive
   have HC1 := hidC (read_any (names := 2) (letters := 10) (num := true) Htx.out (Nat.le_refl _) hll HE2.out Hlen.out (by decide) (by decide) (by omega))
   obtain ⟨z, er, hr⟩ : ∃ z er, readW l 2 10 true = (z, er) := ⟨_, _, rfl⟩
   rw [hr] at HC1
   have hP := (parseGive (l := l)).symm.trans HR.out
   rw [hr] at hP
   cases er with
   | succ e =>
    have HP := hidC hP
    have hne : (((e + 1 : Nat) : Int) != 0) = true := by rw [bne_iff_ne]; omega
    clear hP hr
    go_wp2_with (go_at_call 100; refine HC1.out.mono ?_; rintro e1 wa ⟨rfl, hB1⟩)
    go_ret2
    exact ⟨by rw [← HP.out]; rfl, HB.out.trans (hB1.mono HB.out.size)⟩
   | zero =>
    obtain ⟨k1, k2, k3⟩ := readW_ok hr
    have hl0 : 0 < l.length := by rw [k1]; decide
    have hl0i : (0 : Int) < (l.length : Int) := by omega
    obtain ⟨x0, hx0⟩ : ∃ x, l[0] = x := ⟨_, rfl⟩
    have hc0 := Htx.out 0 _ (List.getElem?_eq_getElem hl0)
    rw [hx0] at hc0
    have hg0 : l.getD 0 [] = x0 := by rw [List.getD_eq_getElem?_getD, List.getElem?_eq_getElem hl0, hx0]; rfl
    rw [hg0] at hP
    have hb0 : ∀ w', Below w2.heap.size w2 w' → w'.cell? ⟨w.heap.size, off, none⟩ = some (sV x0) := fun w' hb => (hb.cell (p := ⟨w.heap.size, off + 0, none⟩) (World.block_lt_of_cell? w2 _ hc0)).trans hc0
    have Hb0 := hidC hb0
    have hl1 : 1 < l.length := by rw [k1]; decide
    have hl1i : (1 : Int) < (l.length : Int) := by omega
    obtain ⟨x1, hx1⟩ : ∃ x, l[1] = x := ⟨_, rfl⟩
    have hc1 := Htx.out 1 _ (List.getElem?_eq_getElem hl1)
    rw [hx1] at hc1
    have hg1 : l.getD 1 [] = x1 := by rw [List.getD_eq_getElem?_getD, List.getElem?_eq_getElem hl1, hx1]; rfl
    rw [hg1] at hP
    have hb1 : ∀ w', Below w2.heap.size w2 w' → w'.cell? ⟨w.heap.size, off + 1, none⟩ = some (sV x1) := fun w' hb => (hb.cell (p := ⟨w.heap.size, off + 1, none⟩) (World.block_lt_of_cell? w2 _ hc1)).trans hc1
    have Hb1 := hidC hb1
    have HP := hidC hP
    clear hb0 hc0 hx0 hg0 hb1 hc1 hx1 hg1 hP hr k1 k2 k3
    go_wp2_with (go_at_call 100; refine HC1.out.mono ?_; rintro e1 wa ⟨rfl, hB1⟩; have hy0 := Hb0.out _ hB1; have hy1 := Hb1.out _ hB1)
    go_region
    go_wp2_with fail
    go_ret2
    exact ⟨by rw [← HP.out]; rfl, HB.out.trans ((hB1.drew).mono HB.out.size)⟩
  have eGive : (first == [103, 105, 118, 101]) = false := beq_eq_false_iff_ne.2 aGive
  have AGive := hidC aGive
  clear aGive
  by_cases aCome : first = kCome
  ·subst aCome
   have HC1 := hidC (read_any (names := 1) (letters := 10) (num := true) Htx.out (Nat.le_refl _) hll HE2.out Hlen.out (by decide) (by decide) (by omega))
   obtain ⟨z, er, hr⟩ : ∃ z er, readW l 1 10 true = (z, er) := ⟨_, _, rfl⟩
   rw [hr] at HC1
   have hP := (parseCome (l := l)).symm.trans HR.out
   rw [hr] at hP
   cases er with
   | succ e =>
    have HP := hidC hP
    have hne : (((e + 1 : Nat) : Int) != 0) = true := by rw [bne_iff_ne]; omega
    clear hP hr
    go_wp2_with (go_at_call 100; refine HC1.out.mono ?_; rintro e1 wa ⟨rfl, hB1⟩)
    go_ret2
    exact ⟨by rw [← HP.out]; rfl, HB.out.trans (hB1.mono HB.out.size)⟩
   | zero =>
    obtain ⟨k1, k2, k3⟩ := readW_ok hr
    have hl0 : 0 < l.length := by rw [k1]; decide
    have hl0i : (0 : Int) < (l.length : Int) := by omega
    obtain ⟨x0, hx0⟩ : ∃ x, l[0] = x := ⟨_, rfl⟩
    have hc0 := Htx.out 0 _ (List.getElem?_eq_getElem hl0)
    rw [hx0] at hc0
    have hg0 : l.getD 0 [] = x0 := by rw [List.getD_eq_getElem?_getD, List.getElem?_eq_getElem hl0, hx0]; rfl
    rw [hg0] at hP
    have hb0 : ∀ w', Below w2.heap.size w2 w' → w'.cell? ⟨w.heap.size, off, none⟩ = some (sV x0) := fun w' hb => (hb.cell (p := ⟨w.heap.size, off + 0, none⟩) (World.block_lt_of_cell? w2 _ hc0)).trans hc0
    have Hb0 := hidC hb0
    have HP := hidC hP
    clear hb0 hc0 hx0 hg0 hP hr k1 k2 k3
    go_wp2_with (go_at_call 100; refine HC1.out.mono ?_; rintro e1 wa ⟨rfl, hB1⟩; have hy0 := Hb0.out _ hB1)
    go_ret2
    exact ⟨by rw [← HP.out]; rfl, HB.out.trans ((hB1).mono HB.out.size)⟩
  have eCome : (first == [99, 111, 109, 101]) = false := beq_eq_false_iff_ne.2 aCome
  have ACome := hidC aCome
  clear aCome
  by_cases aSee : first = kSee
  ·subst aSee
   have HC1 := hidC (read_any (names := 2) (letters := 10) (num := false) Htx.out (Nat.le_refl _) hll HE2.out Hlen.out (by decide) (by decide) (by omega))
   obtain ⟨z, er, hr⟩ : ∃ z er, readW l 2 10 false = (z, er) := ⟨_, _, rfl⟩
   rw [hr] at HC1
   have hP := (parseSee (l := l)).symm.trans HR.out
   rw [hr] at hP
   cases er with
   | succ e =>
    have HP := hidC hP
    have hne : (((e + 1 : Nat) : Int) != 0) = true := by rw [bne_iff_ne]; omega
    clear hP hr
    go_wp2_with (go_at_call 100; refine HC1.out.mono ?_; rintro e1 wa ⟨rfl, hB1⟩)
    go_ret2
    exact ⟨by rw [← HP.out]; rfl, HB.out.trans (hB1.mono HB.out.size)⟩
   | zero =>
    obtain ⟨k1, k2, k3⟩ := readW_ok hr
    have hl0 : 0 < l.length := by rw [k1]; decide
    have hl0i : (0 : Int) < (l.length : Int) := by omega
    obtain ⟨x0, hx0⟩ : ∃ x, l[0] = x := ⟨_, rfl⟩
    have hc0 := Htx.out 0 _ (List.getElem?_eq_getElem hl0)
    rw [hx0] at hc0
    have hg0 : l.getD 0 [] = x0 := by rw [List.getD_eq_getElem?_getD, List.getElem?_eq_getElem hl0, hx0]; rfl
    rw [hg0] at hP
    have hb0 : ∀ w', Below w2.heap.size w2 w' → w'.cell? ⟨w.heap.size, off, none⟩ = some (sV x0) := fun w' hb => (hb.cell (p := ⟨w.heap.size, off + 0, none⟩) (World.block_lt_of_cell? w2 _ hc0)).trans hc0
    have Hb0 := hidC hb0
    have hl1 : 1 < l.length := by rw [k1]; decide
    have hl1i : (1 : Int) < (l.length : Int) := by omega
    obtain ⟨x1, hx1⟩ : ∃ x, l[1] = x := ⟨_, rfl⟩
    have hc1 := Htx.out 1 _ (List.getElem?_eq_getElem hl1)
    rw [hx1] at hc1
    have hg1 : l.getD 1 [] = x1 := by rw [List.getD_eq_getElem?_getD, List.getElem?_eq_getElem hl1, hx1]; rfl
    rw [hg1] at hP
    have hb1 : ∀ w', Below w2.heap.size w2 w' → w'.cell? ⟨w.heap.size, off + 1, none⟩ = some (sV x1) := fun w' hb => (hb.cell (p := ⟨w.heap.size, off + 1, none⟩) (World.block_lt_of_cell? w2 _ hc1)).trans hc1
    have Hb1 := hidC hb1
    have HP := hidC hP
    clear hb0 hc0 hx0 hg0 hb1 hc1 hx1 hg1 hP hr k1 k2 k3
    go_wp2_with (go_at_call 100; refine HC1.out.mono ?_; rintro e1 wa ⟨rfl, hB1⟩; have hy0 := Hb0.out _ hB1; have hy1 := Hb1.out _ hB1)
    go_region
    go_wp2_with fail
    go_ret2
    exact ⟨by rw [← HP.out]; rfl, HB.out.trans ((hB1.drew).mono HB.out.size)⟩
  have eSee : (first == [115, 101, 101]) = false := beq_eq_false_iff_ne.2 aSee
  have ASee := hidC aSee
  clear aSee
  have HO := hidC (others_calls AWord.out AShort.out AGive.out ACome.out ASee.out Htx.out (Nat.le_refl _) hll HE2.out Hlen.out (by omega))
  rw [HR.out] at HO
  obtain ⟨r1, r2⟩ := R
  go_wp2_with (go_at_call 101; refine HO.out.mono ?_; rintro e1 wa ⟨rfl, hB1⟩)
  go_ret2
  exact ⟨rfl, HB.out.trans (hB1.mono HB.out.size)⟩
end Go.Proofs.YtjeadhfponlnnaaGreatDoor
