/-
  The orders of volumes and subscribers.
  Conditions: none; lemmas.
-/
import Derived.Test.YtdhichidcomkmaaGreatDoorRead100
import Derived.Test.YtdhichidcomkmaaGreatDoorSplitC14
set_option linter.unusedSimpArgs false
set_option linter.unusedVariables false
namespace Go.Proofs.YtdhichidcomkmaaGreatDoor
open Go.RowKit Go.Pur Go.Clerk
open Go.Abs
set_option maxRecDepth 1000000
set_option maxHeartbeats 8000000
def ordV : Option Ord → Value
 | .none => .nilIface
 | some (.word w) => .iface 159 (.agg #[sV w])
 | some (.short w f) => .iface 161 (.agg #[sV w, sV f])
 | some (.give w p n) => .iface 163 (.agg #[sV w, sV p, nV n])
 | some (.come w n) => .iface 165 (.agg #[sV w, nV n])
 | some (.see w o) => .iface 167 (.agg #[sV w, sV o])
 | some (.close c) => .iface 212 (.agg #[.int .u8 c.toNat])
 | some (.pay p n) => .iface 214 (.agg #[sV p, nV n])
 | some (.stop p) => .iface 216 (.agg #[sV p])
def OrP (w : World) (r : Option Ord × Nat) (e : Ending) (w' : World) : Prop := e = .returned (.tuple #[ordV r.1, nV r.2]) ∧ Below w.heap.size w w'
theorem readW_ok {l : List Tx} {names letters n : Nat} {num : Bool} (h : readW l names letters num = (n, 0)) : l.length = names + (if num then 1 else 0) ∧ (l.take names).all (named · letters) = true ∧ (num = true → numb (l.getD names []) = some n) := by
 by_cases h1 : l.length = names + (if num then 1 else 0)
 ·cases h2 : l.contains [] with
  | true => rw [readW_emp h2] at h; cases h
  | false =>
   rw [readW_rest h1 h2] at h
   unfold readR at h
   cases h3 : (l.take names).all (named · letters) with
   | false => rw [h3] at h; cases h
   | true =>
    refine ⟨h1, rfl, fun hn => ?_⟩
    rw [h3, hn] at h
    cases h4 : numb (l.getD names []) with
    | none => rw [h4] at h; cases h
    | some m => rw [h4] at h; cases h; rfl
 ·rw [readW_len h1] at h; cases h
theorem read_any {g off cap names letters : Nat} {num : Bool} {l : List Tx} {w : World} (h : TxO w g off l) (hcap : l.length ≤ cap) (hl : l.length ≤ 1000000) (hE : Env w) (hlen : ∀ x ∈ l, x.length ≤ 1000000) (hn : names ≤ 1000) (hlt : letters ≤ 1000) (hoff : off ≤ 1000) :
  Calls Tryz.prog 100 #[.slice (some ⟨g, off, none⟩) l.length cap, .int .i64 names, .int .i64 letters, .bool num] w fun e w' => RdP w (readW l names letters num) e w' := by
 cases num with
 | false => exact read_f g off cap names letters l w h hcap hl hE hlen hn hlt hoff
 | true => exact read_t g off cap names letters l w h hcap hl hE hlen hn hlt hoff
def mkO (x : Nat × Nat) (o : Nat → Option Ord) : Option Ord × Nat := match x with
 | (n, 0) => (o n, 0)
 | (_, e + 1) => (.none, e + 1)
theorem parseWord {l : List Tx} : parseW kWord l = mkO (readW l 1 10 false) (fun n => some (.word (l.getD 0 []))) := by
 unfold parseW
 simp only []
 rw [if_pos trivial]
 rcases readW l 1 10 false with ⟨n, _ | e⟩ <;> rfl
theorem parseShort {l : List Tx} : parseW kShort l = mkO (readW l 2 10 false) (fun n => some (.short (l.getD 0 []) (l.getD 1 []))) := by
 unfold parseW
 simp only []
 rw [if_neg (by decide), if_pos trivial]
 rcases readW l 2 10 false with ⟨n, _ | e⟩ <;> rfl
theorem parseGive {l : List Tx} : parseW kGive l = mkO (readW l 2 10 true) (fun n => some (.give (l.getD 0 []) (l.getD 1 []) n)) := by
 unfold parseW
 simp only []
 rw [if_neg (by decide), if_neg (by decide), if_pos trivial]
 rcases readW l 2 10 true with ⟨n, _ | e⟩ <;> rfl
theorem parseCome {l : List Tx} : parseW kCome l = mkO (readW l 1 10 true) (fun n => some (.come (l.getD 0 []) n)) := by
 unfold parseW
 simp only []
 rw [if_neg (by decide), if_neg (by decide), if_neg (by decide), if_pos trivial]
 rcases readW l 1 10 true with ⟨n, _ | e⟩ <;> rfl
theorem parseSee {l : List Tx} : parseW kSee l = mkO (readW l 2 10 false) (fun n => some (.see (l.getD 0 []) (l.getD 1 []))) := by
 unfold parseW
 simp only []
 rw [if_neg (by decide), if_neg (by decide), if_neg (by decide), if_neg (by decide), if_pos trivial]
 rcases readW l 2 10 false with ⟨n, _ | e⟩ <;> rfl
theorem parseClose {l : List Tx} : parseW kClose l = mkO (readW l 1 1 false) (fun n => some (.close ((l.getD 0 []).headD 0))) := by
 unfold parseW
 simp only []
 rw [if_neg (by decide), if_neg (by decide), if_neg (by decide), if_neg (by decide), if_neg (by decide), if_pos trivial]
 rcases readW l 1 1 false with ⟨n, _ | e⟩ <;> rfl
theorem parsePay {l : List Tx} : parseW kPay l = mkO (readW l 1 10 true) (fun n => some (.pay (l.getD 0 []) n)) := by
 unfold parseW
 simp only []
 rw [if_neg (by decide), if_neg (by decide), if_neg (by decide), if_neg (by decide), if_neg (by decide), if_neg (by decide), if_pos trivial]
 rcases readW l 1 10 true with ⟨n, _ | e⟩ <;> rfl
theorem parseStop {l : List Tx} : parseW kStop l = mkO (readW l 1 10 false) (fun n => some (.stop (l.getD 0 []))) := by
 unfold parseW
 simp only []
 rw [if_neg (by decide), if_neg (by decide), if_neg (by decide), if_neg (by decide), if_neg (by decide), if_neg (by decide), if_neg (by decide), if_pos trivial]
 rcases readW l 1 10 false with ⟨n, _ | e⟩ <;> rfl
theorem parseUndo {l : List Tx} : parseW kUndo l = mkO (readW l 0 0 false) (fun n => .none) := by
 unfold parseW
 simp only []
 rw [if_neg (by decide), if_neg (by decide), if_neg (by decide), if_neg (by decide), if_neg (by decide), if_neg (by decide), if_neg (by decide), if_neg (by decide), if_pos trivial]
 rcases readW l 0 0 false with ⟨n, _ | e⟩ <;> rfl
theorem others_close (g off cap : Nat) (l : List Tx) (w : World) (h : TxO w g off l) (hcap : l.length ≤ cap) (hl : l.length ≤ 1000000) (hE : Env w) (hlen : ∀ x ∈ l, x.length ≤ 1000000) (hoff : off ≤ 1000) :
  Calls Tryz.prog 101 #[sV kClose, .slice (some ⟨g, off, none⟩) l.length cap] w fun e w' => OrP w (parseW kClose l) e w' := by
 have mixed : Tryz.prog.follows .mixedOrders = true := by kernel_rfl
 have HC := hidC (read_any (names := 1) (letters := 1) (num := false) h hcap hl hE hlen (by decide) (by decide) hoff)
 obtain ⟨z, er, hr⟩ : ∃ z er, readW l 1 1 false = (z, er) := ⟨_, _, rfl⟩
 rw [hr] at HC
 have hP := parseClose (l := l)
 rw [hr] at hP
 cases er with
 | succ e =>
  have HP := hidC hP
  have hne : (((e + 1 : Nat) : Int) != 0) = true := by rw [bne_iff_ne]; omega
  clear hP hr h hE hlen
  go_enter Tryz.func101, Tryz.ntmps101
  go_wp2_with (go_at_call 100; refine HC.out.mono ?_; rintro e1 wa ⟨rfl, hB⟩)
  go_ret2
  exact ⟨by rw [HP.out]; rfl, hB⟩
 | zero =>
  obtain ⟨k1, k2, k3⟩ := readW_ok hr
  have hl1 : 0 < l.length := by rw [k1]; decide
  have hl1i : (0 : Int) < (l.length : Int) := by omega
  obtain ⟨a, ha⟩ : ∃ a, l[0] = a := ⟨_, rfl⟩
  have hc0 := h 0 _ (List.getElem?_eq_getElem hl1)
  rw [ha] at hc0
  have hga : l.getD 0 [] = a := by rw [List.getD_eq_getElem?_getD, List.getElem?_eq_getElem hl1, ha]; rfl
  rw [hga] at hP
  have hga2 : l.take 1 = [a] := by rw [← ha]; match l, hl1 with | x :: l', _ => rfl
  rw [hga2] at k2
  have hbc : ∀ w', Below w.heap.size w w' → w'.cell? ⟨g, off, none⟩ = some (sV a) := fun w' hb => (hb.cell (p := ⟨g, off + 0, none⟩) (World.block_lt_of_cell? w _ hc0)).trans hc0
  have Hbc := hidC hbc
  have HP := hidC hP
  simp only [List.all_cons, List.all_nil, Bool.and_true] at k2
  obtain ⟨c, rfl⟩ : ∃ c, a = [c] := by
   unfold named at k2
   simp only [Bool.and_eq_true, decide_eq_true_eq, Bool.not_eq_true', List.isEmpty_eq_false_iff] at k2
   obtain ⟨⟨h1, h2⟩, _⟩ := k2
   match a, h1, h2 with
   | [c], _, _ => exact ⟨c, rfl⟩
   | _ :: _ :: _, _, h2 => simp at h2
  have hx1 := bs_at (l := [c]) (i := 0) (by simp) (by rw [bs_size]; simp)
  rw [List.getElem_cons_zero] at hx1
  clear hbc hc0 ha hP hr h hE hlen k1 k3 hga hga2
  go_enter Tryz.func101, Tryz.ntmps101
  go_wp2_with (go_at_call 100; refine HC.out.mono ?_; rintro e1 wa ⟨rfl, hB⟩; have hcx := Hbc.out _ hB)
  go_ret2
  exact ⟨by rw [HP.out]; rfl, hB⟩
theorem others_pay (g off cap : Nat) (l : List Tx) (w : World) (h : TxO w g off l) (hcap : l.length ≤ cap) (hl : l.length ≤ 1000000) (hE : Env w) (hlen : ∀ x ∈ l, x.length ≤ 1000000) (hoff : off ≤ 1000) :
  Calls Tryz.prog 101 #[sV kPay, .slice (some ⟨g, off, none⟩) l.length cap] w fun e w' => OrP w (parseW kPay l) e w' := by
 have mixed : Tryz.prog.follows .mixedOrders = true := by kernel_rfl
 have HC := hidC (read_any (names := 1) (letters := 10) (num := true) h hcap hl hE hlen (by decide) (by decide) hoff)
 obtain ⟨z, er, hr⟩ : ∃ z er, readW l 1 10 true = (z, er) := ⟨_, _, rfl⟩
 rw [hr] at HC
 have hP := parsePay (l := l)
 rw [hr] at hP
 cases er with
 | succ e =>
  have HP := hidC hP
  have hne : (((e + 1 : Nat) : Int) != 0) = true := by rw [bne_iff_ne]; omega
  clear hP hr h hE hlen
  go_enter Tryz.func101, Tryz.ntmps101
  go_wp2_with (go_at_call 100; refine HC.out.mono ?_; rintro e1 wa ⟨rfl, hB⟩)
  go_ret2
  exact ⟨by rw [HP.out]; rfl, hB⟩
 | zero =>
  obtain ⟨k1, k2, k3⟩ := readW_ok hr
  have hl1 : 0 < l.length := by rw [k1]; decide
  have hl1i : (0 : Int) < (l.length : Int) := by omega
  obtain ⟨a, ha⟩ : ∃ a, l[0] = a := ⟨_, rfl⟩
  have hc0 := h 0 _ (List.getElem?_eq_getElem hl1)
  rw [ha] at hc0
  have hga : l.getD 0 [] = a := by rw [List.getD_eq_getElem?_getD, List.getElem?_eq_getElem hl1, ha]; rfl
  rw [hga] at hP
  have hga2 : l.take 1 = [a] := by rw [← ha]; match l, hl1 with | x :: l', _ => rfl
  rw [hga2] at k2
  have hbc : ∀ w', Below w.heap.size w w' → w'.cell? ⟨g, off, none⟩ = some (sV a) := fun w' hb => (hb.cell (p := ⟨g, off + 0, none⟩) (World.block_lt_of_cell? w _ hc0)).trans hc0
  have Hbc := hidC hbc
  have HP := hidC hP
  clear hbc hc0 ha hP hr h hE hlen k1 k3 hga hga2
  go_enter Tryz.func101, Tryz.ntmps101
  go_wp2_with (go_at_call 100; refine HC.out.mono ?_; rintro e1 wa ⟨rfl, hB⟩; have hcx := Hbc.out _ hB)
  go_ret2
  exact ⟨by rw [HP.out]; rfl, hB⟩
theorem others_stop (g off cap : Nat) (l : List Tx) (w : World) (h : TxO w g off l) (hcap : l.length ≤ cap) (hl : l.length ≤ 1000000) (hE : Env w) (hlen : ∀ x ∈ l, x.length ≤ 1000000) (hoff : off ≤ 1000) :
  Calls Tryz.prog 101 #[sV kStop, .slice (some ⟨g, off, none⟩) l.length cap] w fun e w' => OrP w (parseW kStop l) e w' := by
 have mixed : Tryz.prog.follows .mixedOrders = true := by kernel_rfl
 have HC := hidC (read_any (names := 1) (letters := 10) (num := false) h hcap hl hE hlen (by decide) (by decide) hoff)
 obtain ⟨z, er, hr⟩ : ∃ z er, readW l 1 10 false = (z, er) := ⟨_, _, rfl⟩
 rw [hr] at HC
 have hP := parseStop (l := l)
 rw [hr] at hP
 cases er with
 | succ e =>
  have HP := hidC hP
  have hne : (((e + 1 : Nat) : Int) != 0) = true := by rw [bne_iff_ne]; omega
  clear hP hr h hE hlen
  go_enter Tryz.func101, Tryz.ntmps101
  go_wp2_with (go_at_call 100; refine HC.out.mono ?_; rintro e1 wa ⟨rfl, hB⟩)
  go_ret2
  exact ⟨by rw [HP.out]; rfl, hB⟩
 | zero =>
  obtain ⟨k1, k2, k3⟩ := readW_ok hr
  have hl1 : 0 < l.length := by rw [k1]; decide
  have hl1i : (0 : Int) < (l.length : Int) := by omega
  obtain ⟨a, ha⟩ : ∃ a, l[0] = a := ⟨_, rfl⟩
  have hc0 := h 0 _ (List.getElem?_eq_getElem hl1)
  rw [ha] at hc0
  have hga : l.getD 0 [] = a := by rw [List.getD_eq_getElem?_getD, List.getElem?_eq_getElem hl1, ha]; rfl
  rw [hga] at hP
  have hga2 : l.take 1 = [a] := by rw [← ha]; match l, hl1 with | x :: l', _ => rfl
  rw [hga2] at k2
  have hbc : ∀ w', Below w.heap.size w w' → w'.cell? ⟨g, off, none⟩ = some (sV a) := fun w' hb => (hb.cell (p := ⟨g, off + 0, none⟩) (World.block_lt_of_cell? w _ hc0)).trans hc0
  have Hbc := hidC hbc
  have HP := hidC hP
  clear hbc hc0 ha hP hr h hE hlen k1 k3 hga hga2
  go_enter Tryz.func101, Tryz.ntmps101
  go_wp2_with (go_at_call 100; refine HC.out.mono ?_; rintro e1 wa ⟨rfl, hB⟩; have hcx := Hbc.out _ hB)
  go_ret2
  exact ⟨by rw [HP.out]; rfl, hB⟩
theorem others_undo (g off cap : Nat) (l : List Tx) (w : World) (h : TxO w g off l) (hcap : l.length ≤ cap) (hl : l.length ≤ 1000000) (hE : Env w) (hlen : ∀ x ∈ l, x.length ≤ 1000000) (hoff : off ≤ 1000) :
  Calls Tryz.prog 101 #[sV kUndo, .slice (some ⟨g, off, none⟩) l.length cap] w fun e w' => OrP w (parseW kUndo l) e w' := by
 have mixed : Tryz.prog.follows .mixedOrders = true := by kernel_rfl
 have HC := hidC (read_any (names := 0) (letters := 0) (num := false) h hcap hl hE hlen (by decide) (by decide) hoff)
 obtain ⟨z, er, hr⟩ : ∃ z er, readW l 0 0 false = (z, er) := ⟨_, _, rfl⟩
 rw [hr] at HC
 have hP := parseUndo (l := l)
 rw [hr] at hP
 cases er with
 | succ e =>
  have HP := hidC hP
  have hne : (((e + 1 : Nat) : Int) != 0) = true := by rw [bne_iff_ne]; omega
  clear hP hr h hE hlen
  go_enter Tryz.func101, Tryz.ntmps101
  go_wp2_with (go_at_call 100; refine HC.out.mono ?_; rintro e1 wa ⟨rfl, hB⟩)
  go_ret2
  exact ⟨by rw [HP.out]; rfl, hB⟩
 | zero =>
  have HP := hidC hP
  clear hP hr h hE hlen
  go_enter Tryz.func101, Tryz.ntmps101
  go_wp2_with (go_at_call 100; refine HC.out.mono ?_; rintro e1 wa ⟨rfl, hB⟩)
  go_ret2
  exact ⟨by rw [HP.out]; rfl, hB⟩
theorem others_none (first : Tx) (v : Value) (w : World) (h1 : first ≠ kClose) (h2 : first ≠ kPay) (h3 : first ≠ kStop) (h4 : first ≠ kUndo) :
  Calls Tryz.prog 101 #[sV first, v] w fun e w' => OrP w (.none, 10) e w' := by
 have e1 : (first == [99, 108, 111, 115, 101]) = false := beq_eq_false_iff_ne.2 h1
 have e2 : (first == [112, 97, 121]) = false := beq_eq_false_iff_ne.2 h2
 have e3 : (first == [115, 116, 111, 112]) = false := beq_eq_false_iff_ne.2 h3
 have e4 : (first == [117, 110, 100, 111]) = false := beq_eq_false_iff_ne.2 h4
 clear h1 h2 h3 h4
 go_enter Tryz.func101, Tryz.ntmps101
 go_wp2_with fail
 go_ret2
 exact ⟨rfl, Below.refl _ _⟩
theorem parse_else {first : Tx} {l : List Tx} (a1 : first ≠ kWord) (a2 : first ≠ kShort) (a3 : first ≠ kGive) (a4 : first ≠ kCome) (a5 : first ≠ kSee) (h1 : first ≠ kClose) (h2 : first ≠ kPay) (h3 : first ≠ kStop) (h4 : first ≠ kUndo) : parseW first l = (.none, 10) := by
 unfold parseW
 simp only [if_neg a1, if_neg a2, if_neg a3, if_neg a4, if_neg a5, if_neg h1, if_neg h2, if_neg h3, if_neg h4]
theorem others_calls {first : Tx} {g off cap : Nat} {l : List Tx} {w : World} (a1 : first ≠ kWord) (a2 : first ≠ kShort) (a3 : first ≠ kGive) (a4 : first ≠ kCome) (a5 : first ≠ kSee) (h : TxO w g off l) (hcap : l.length ≤ cap) (hl : l.length ≤ 1000000) (hE : Env w) (hlen : ∀ x ∈ l, x.length ≤ 1000000) (hoff : off ≤ 1000) :
  Calls Tryz.prog 101 #[sV first, .slice (some ⟨g, off, none⟩) l.length cap] w fun e w' => OrP w (parseW first l) e w' := by
 by_cases h1 : first = kClose
 ·subst h1; exact others_close g off cap l w h hcap hl hE hlen hoff
 by_cases h2 : first = kPay
 ·subst h2; exact others_pay g off cap l w h hcap hl hE hlen hoff
 by_cases h3 : first = kStop
 ·subst h3; exact others_stop g off cap l w h hcap hl hE hlen hoff
 by_cases h4 : first = kUndo
 ·subst h4; exact others_undo g off cap l w h hcap hl hE hlen hoff
 rw [parse_else a1 a2 a3 a4 a5 h1 h2 h3 h4]
 exact others_none first _ w h1 h2 h3 h4
end Go.Proofs.YtdhichidcomkmaaGreatDoor
