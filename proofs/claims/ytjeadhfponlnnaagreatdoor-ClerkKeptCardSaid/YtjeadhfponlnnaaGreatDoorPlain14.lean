/-
  The clerk's book, plainly: lines, orders, what is known behind them.
  A volume closes: word by word, subscriber by subscriber; plainly.
  Conditions: none; definitions and lemmas.
-/
import Derived.Lib.ItoaNum
import Derived.Lib.AtoiAll
set_option linter.unusedSimpArgs false
set_option linter.unusedVariables false
namespace Go.Clerk
abbrev Tx := List UInt8
structure Ent where
  word : Tx
  form : Tx
  see : Tx
  writer : Tx
  asked : Nat
  came : Nat
  vol : Nat
structure Vol where
  letter : Tx
  words : List Tx
  lines : Nat
  sent : Nat
structure Acc where
  who : Tx
  pence : Nat
  vols : Nat
  stop : Bool
structure Desk where
  ents : List Ent
  accs : List Acc
  vols : List Vol
  closed : UInt8
inductive Ord where
  | word (w : Tx)
  | short (w f : Tx)
  | give (w p : Tx) (n : Nat)
  | come (w : Tx) (n : Nat)
  | see (w o : Tx)
  | close (c : UInt8)
  | pay (p : Tx) (n : Nat)
  | stop (p : Tx)
def Desk.none : Desk := ⟨[], [], [], 0⟩
def splitC (c : UInt8) : Tx → List Tx
  | [] => [[]]
  | x :: l => match decide (x = c), splitC c l with
    | true, r => [] :: r
    | false, [] => [[x]]
    | false, a :: r => (x :: a) :: r
def named (w : Tx) (most : Nat) : Bool := !w.isEmpty && decide (w.length ≤ most) && w.all fun c => decide (97 ≤ c.toNat) && decide (c.toNat ≤ 122)
def dig (n : Nat) : UInt8 := UInt8.ofNat (48 + n)
def itoaN (n : Nat) : Tx :=
  if n < 10 then [dig n] else if n < 100 then [dig (n / 10), dig (n % 10)] else if n < 1000 then [dig (n / 100), dig (n / 10 % 10), dig (n % 10)]
  else [dig (n / 1000), dig (n / 100 % 10), dig (n / 10 % 10), dig (n % 10)]
def valN : Tx → Nat → Nat
  | [], n => n
  | c :: l, n => valN l (10 * n + (c.toNat - 48))
def isDig (c : UInt8) : Bool := decide (48 ≤ c.toNat) && decide (c.toNat ≤ 57)
def numb (s : Tx) : Option Nat :=
  match !s.isEmpty && decide (s.length ≤ 4) && s.all isDig && (decide (s.length = 1) || decide (s.headD 0 ≠ 48)) with
  | true => some (valN s 0)
  | false => .none
def readW (w : List Tx) (names letters : Nat) (num : Bool) : Nat × Nat :=
  match decide (w.length ≠ names + (if num then 1 else 0)) || w.contains [], (w.take names).all (named · letters), num, numb (w.getD names []) with
  | true, _, _, _ => (0, 10)
  | false, false, _, _ => (0, 8)
  | false, true, false, _ => (0, 0)
  | false, true, true, some n => (n, 0)
  | false, true, true, .none => (0, 10)
def kWord : Tx := [119, 111, 114, 100]
def kShort : Tx := [115, 104, 111, 114, 116]
def kGive : Tx := [103, 105, 118, 101]
def kCome : Tx := [99, 111, 109, 101]
def kSee : Tx := [115, 101, 101]
def kClose : Tx := [99, 108, 111, 115, 101]
def kPay : Tx := [112, 97, 121]
def kStop : Tx := [115, 116, 111, 112]
def kUndo : Tx := [117, 110, 100, 111]
def parseW (first : Tx) (w : List Tx) : Option Ord × Nat :=
  let a := w.getD 0 []
  let b := w.getD 1 []
  let mk (x : Nat × Nat) (o : Nat → Option Ord) : Option Ord × Nat := match x with
    | (n, 0) => (o n, 0)
    | (_, e + 1) => (.none, e + 1)
  if first = kWord then mk (readW w 1 10 false) fun _ => some (.word a)
  else if first = kShort then mk (readW w 2 10 false) fun _ => some (.short a b)
  else if first = kGive then mk (readW w 2 10 true) fun n => some (.give a b n)
  else if first = kCome then mk (readW w 1 10 true) fun n => some (.come a n)
  else if first = kSee then mk (readW w 2 10 false) fun _ => some (.see a b)
  else if first = kClose then mk (readW w 1 1 false) fun _ => some (.close (a.headD 0))
  else if first = kPay then mk (readW w 1 10 true) fun n => some (.pay a n)
  else if first = kStop then mk (readW w 1 10 false) fun _ => some (.stop a)
  else if first = kUndo then mk (readW w 0 0 false) fun _ => .none
  else (.none, 10)
def parse (line : Tx) : Option Ord × Nat := let l := splitC 32 line; parseW (l.headD []) l.tail
def leftC : Tx → Tx → Bool
  | _, [] => true
  | [], _ :: _ => false
  | x :: w, c :: p => match decide (x = c) with
    | true => leftC w p
    | false => leftC w (c :: p)
def getE (w : Tx) : List Ent → Option Ent
  | [] => .none
  | e :: l => match decide (e.word = w) with
    | true => some e
    | false => getE w l
def putE (x : Ent) : List Ent → List Ent
  | [] => [x]
  | e :: l => match decide (e.word = x.word) with
    | true => x :: l
    | false => e :: putE x l
def getA (w : Tx) : List Acc → Option Acc
  | [] => .none
  | e :: l => match decide (e.who = w) with
    | true => some e
    | false => getA w l
def putA (x : Acc) : List Acc → List Acc
  | [] => [x]
  | e :: l => match decide (e.who = x.who) with
    | true => x :: l
    | false => e :: putA x l
def Desk.shut (d : Desk) (w : Tx) : Bool := decide ((w.headD 0).toNat ≤ d.closed.toNat)
def seeOf (w : Tx) (l : List Ent) : Tx := match getE w l with
  | some e => e.see
  | .none => []
def wayN (l : List Ent) : Nat → Tx → List Tx
  | 0, _ => []
  | n + 1, w => match seeOf w l with
    | [] => [w]
    | s => w :: wayN l n s
def Desk.way (d : Desk) (w : Tx) : List Tx := wayN d.ents d.ents.length w
def leT (x y : Tx) : Bool := decide (x ≤ y)
def closes (c : UInt8) (e : Ent) : Bool := decide (0 < e.came) && decide (e.vol = 0) && decide ((e.word.headD 0).toNat ≤ c.toNat)
def pays (a : Acc) : Bool := !a.stop && decide (20 ≤ a.pence)
def sumN : List Nat → Nat
  | [] => 0
  | n :: l => n + sumN l
def volOf (c : UInt8) (d : Desk) : Vol :=
  ⟨[c], ((d.ents.filter (closes c)).map (·.word)).mergeSort leT, sumN ((d.ents.filter (closes c)).map (·.came)), (d.accs.filter pays).length⟩
def closeD (c : UInt8) (d : Desk) : Desk :=
  ⟨d.ents.map fun e => match closes c e with
      | true => { e with vol := d.vols.length + 1 }
      | false => e,
   d.accs.map fun a => match pays a with
      | true => { a with pence := a.pence - 20, vols := a.vols + 1 }
      | false => a,
   d.vols ++ [volOf c d], c⟩
def doWord (w : Tx) (d : Desk) : Nat × Desk :=
  match getE w d.ents, d.shut w, decide (d.ents.length = 40), d.ents.any (fun e => !e.form.isEmpty && leftC w e.form) with
  | some _, _, _, _ => (6, d)
  | .none, true, _, _ => (20, d)
  | .none, false, true, _ => (16, d)
  | .none, false, false, true => (13, d)
  | .none, false, false, false => (0, { d with ents := d.ents ++ [⟨w, [], [], [], 0, 0, 0⟩] })
def doShort (w f : Tx) (d : Desk) : Nat × Desk :=
  match getE w d.ents with
  | .none => (2, d)
  | some e => match !e.form.isEmpty, leftC w f, d.ents.any (fun x => decide (x.word ≠ w) && leftC x.word f) with
    | true, _, _ => (6, d)
    | false, false, _ => (14, d)
    | false, true, true => (13, d)
    | false, true, false => (0, { d with ents := putE { e with form := f } d.ents })
def doGive (w p : Tx) (n : Nat) (d : Desk) : Nat × Desk :=
  match getE w d.ents with
  | .none => (2, d)
  | some e => match !e.writer.isEmpty, !e.see.isEmpty, d.shut w, decide (n = 0) with
    | true, _, _, _ => (6, d)
    | false, true, _, _ => (13, d)
    | false, false, true, _ => (20, d)
    | false, false, false, true => (1, d)
    | false, false, false, false => (0, { d with ents := putE { e with writer := p, asked := n } d.ents })
def doCome (w : Tx) (n : Nat) (d : Desk) : Nat × Desk :=
  match getE w d.ents with
  | .none => (2, d)
  | some e => match e.writer.isEmpty, decide (0 < e.came), d.shut w, decide (n = 0), decide (2 * e.asked < n) with
    | true, _, _, _, _ => (21, d)
    | false, true, _, _, _ => (6, d)
    | false, false, true, _, _ => (20, d)
    | false, false, false, true, _ => (1, d)
    | false, false, false, false, true => (15, d)
    | false, false, false, false, false => (0, { d with ents := putE { e with came := n } d.ents })
def doSee (w o : Tx) (d : Desk) : Nat × Desk :=
  match getE w d.ents, getE o d.ents with
  | some e, some _ => match !e.see.isEmpty, !e.writer.isEmpty, d.shut w, (d.way o).contains w with
    | true, _, _, _ => (6, d)
    | false, true, _, _ => (16, d)
    | false, false, true, _ => (20, d)
    | false, false, false, true => (13, d)
    | false, false, false, false => (0, { d with ents := putE { e with see := o } d.ents })
  | _, _ => (2, d)
def doClose (c : UInt8) (d : Desk) : Nat × Desk :=
  match decide (c.toNat ≤ d.closed.toNat), (d.ents.filter (closes c)).isEmpty with
  | true, _ => (7, d)
  | false, true => (4, d)
  | false, false => (0, closeD c d)
def doPay (p : Tx) (n : Nat) (d : Desk) : Nat × Desk :=
  let a := (getA p d.accs).getD ⟨[], 0, 0, false⟩
  match decide (n = 0), (getA p d.accs).isNone && decide (d.accs.length = 12), decide (9999 < a.pence + n) with
  | true, _, _ => (1, d)
  | false, true, _ => (3, d)
  | false, false, true => (16, d)
  | false, false, false => (0, { d with accs := putA ⟨p, a.pence + n, a.vols, false⟩ d.accs })
def doStop (p : Tx) (d : Desk) : Nat × Desk :=
  match getA p d.accs with
  | .none => (2, d)
  | some a => match a.stop with
    | true => (6, d)
    | false => (0, { d with accs := putA { a with stop := true } d.accs })
def doO : Ord → Desk → Nat × Desk
  | .word w, d => doWord w d
  | .short w f, d => doShort w f d
  | .give w p n, d => doGive w p n d
  | .come w n, d => doCome w n d
  | .see w o, d => doSee w o d
  | .close c, d => doClose c d
  | .pay p n, d => doPay p n d
  | .stop p, d => doStop p d
structure Off where
  now : Desk
  past : List Desk
  lines : List Tx
def Off.none : Off := ⟨.none, [], []⟩
def tell (o : Off) (line : Tx) : Nat × Off :=
  match parse line with
  | (_, e + 1) => (e + 1, o)
  | (.none, 0) => match o.lines.isEmpty with
    | true => (4, o)
    | false => (0, ⟨o.past.getLastD o.now, o.past.dropLast, o.lines.dropLast⟩)
  | (some x, 0) => match decide (o.lines.length = 150), doO x o.now with
    | true, _ => (19, o)
    | false, (0, d) => (0, ⟨d, o.past ++ [o.now], o.lines ++ [line]⟩)
    | false, (e + 1, _) => (e + 1, o)
def check (s : Tx) : Nat := s.foldl (fun n b => (n * 29 + b.toNat) % 9941) 0
def kHead : Tx := [104, 101, 97, 100, 119, 111, 114, 100, 10]
def kEnd : Tx := [101, 110, 100, 32]
def bodyOf (lines : List Tx) : Tx := kHead ++ lines.flatMap (· ++ [10])
def textOf (lines : List Tx) : Tx := bodyOf lines ++ kEnd ++ itoaN (check (bodyOf lines)) ++ [10]
def leE (x y : Ent) : Bool := decide (x.word ≤ y.word)
def leA (x y : Acc) : Bool := decide (x.who ≤ y.who)
def Desk.entries (d : Desk) : List Ent := d.ents.mergeSort leE
def Desk.accounts (d : Desk) : List Acc := d.accs.mergeSort leA
def addT (w : Tx) : List Tx → List Tx
  | [] => [w]
  | x :: l => match decide (x = w) with
    | true => x :: l
    | false => x :: addT w l
def Desk.writers (d : Desk) : List (Tx × Nat) :=
  ((((d.ents.filter fun e => !e.writer.isEmpty).map (·.writer)).foldl (fun l w => addT w l) []).mergeSort leT).map fun w => (w, sumN ((d.ents.filter fun e => decide (e.writer = w)).map (·.came)))
def Desk.late (d : Desk) : List Tx := ((d.ents.filter fun e => !e.writer.isEmpty && decide (e.came = 0) && d.shut e.word).map (·.word)).mergeSort leT
def Desk.find (d : Desk) (form : Tx) : Tx × Nat :=
  match getE form d.ents with
  | some e => (e.word, 0)
  | .none => match d.ents.find? (fun e => !form.isEmpty && decide (e.form = form)) with
    | some e => (e.word, 0)
    | .none => ([], 2)
def Desk.wayOf (d : Desk) (w : Tx) : List Tx × Nat := match getE w d.ents with
  | some _ => (d.way w, 0)
  | .none => ([], 2)
end Go.Clerk
set_option linter.unusedSimpArgs false
set_option linter.unusedVariables false
namespace Go.Clerk
def zeroE : Ent := ⟨[], [], [], [], 0, 0, 0⟩
theorem key_inj {α β : Type} {f : α → β} : ∀ {l : List α} {a b : α}, (l.map f).Nodup → a ∈ l → b ∈ l → f a = f b → a = b
  | [], _, _, _, h, _, _ => by cases h
  | z :: l, a, b, hn, ha, hb, hab => by
    have hn' := List.nodup_cons.1 (show (f z :: l.map f).Nodup from hn)
    rcases List.mem_cons.1 ha with rfl | ha'
    · rcases List.mem_cons.1 hb with rfl | hb'
      · rfl
      · exact absurd (List.mem_map_of_mem (f := f) hb') (by rw [← hab]; exact hn'.1)
    · rcases List.mem_cons.1 hb with rfl | hb'
      · exact absurd (List.mem_map_of_mem (f := f) ha') (by rw [hab]; exact hn'.1)
      · exact key_inj hn'.2 ha' hb' hab
def volE (n : Nat) (l : List Ent) (w : Tx) : List Ent := putE { (getE w l).getD zeroE with vol := n } l
def keysE (l : List Ent) : List Tx := l.map (·.word)
theorem getE_some {w : Tx} : ∀ {l : List Ent}, w ∈ keysE l → ∃ e, getE w l = some e ∧ e ∈ l ∧ e.word = w
  | [], h => by cases h
  | e :: l, h => by
    unfold getE
    by_cases he : e.word = w
    · rw [decide_eq_true he]
      exact ⟨e, rfl, List.mem_cons_self, he⟩
    · rw [decide_eq_false he]
      rcases List.mem_cons.1 h with h | h
      · exact absurd h.symm he
      · obtain ⟨x, h1, h2, h3⟩ := getE_some h
        exact ⟨x, h1, List.mem_cons_of_mem _ h2, h3⟩
theorem getE_none {w : Tx} : ∀ {l : List Ent}, w ∉ keysE l → getE w l = none
  | [], _ => rfl
  | e :: l, h => by
    unfold getE
    have he : ¬ e.word = w := fun h' => h (by rw [← h']; exact List.mem_cons_self)
    rw [decide_eq_false he]
    exact getE_none fun h' => h (List.mem_cons_of_mem _ h')
theorem putE_map {x : Ent} : ∀ {l : List Ent}, (keysE l).Nodup → x.word ∈ keysE l → putE x l = l.map fun e => if e.word = x.word then x else e
  | [], _, h => by cases h
  | e :: l, hn, h => by
    unfold putE
    have hn' := List.nodup_cons.1 (show (e.word :: keysE l).Nodup from hn)
    by_cases he : e.word = x.word
    · rw [decide_eq_true he]
      have : l.map (fun e => if e.word = x.word then x else e) = l := by
        conv => rhs; rw [← List.map_id l]
        refine List.map_congr_left fun y hy => ?_
        rw [if_neg (fun h' => hn'.1 (by rw [he, ← h']; exact List.mem_map_of_mem hy))]
        rfl
      show x :: l = _
      rw [List.map_cons, if_pos he, this]
    · rw [decide_eq_false he]
      rcases List.mem_cons.1 h with h | h
      · exact absurd h.symm he
      · show e :: putE x l = _
        rw [putE_map hn'.2 h, List.map_cons, if_neg he]
theorem keysE_map {l : List Ent} {f : Ent → Ent} (h : ∀ e, (f e).word = e.word) : keysE (l.map f) = keysE l := by
  unfold keysE
  rw [List.map_map]
  exact List.map_congr_left fun e _ => h e
theorem volE_map {n : Nat} {l : List Ent} {w : Tx} (hn : (keysE l).Nodup) (hw : w ∈ keysE l) : volE n l w = l.map fun e => if e.word = w then { e with vol := n } else e := by
  obtain ⟨e, h1, h2, h3⟩ := getE_some hw
  unfold volE
  rw [h1]
  show putE { e with vol := n } l = _
  rw [putE_map hn (by show e.word ∈ _; rw [h3]; exact hw)]
  refine List.map_congr_left fun y hy => ?_
  show (if y.word = e.word then { e with vol := n } else y) = _
  rw [h3]
  by_cases hy2 : y.word = w
  · rw [if_pos hy2, if_pos hy2]
    have : y = e := key_inj hn hy h2 (by rw [hy2, h3])
    rw [this]
    simp [h3]
  · rw [if_neg hy2, if_neg hy2]
theorem fold_vol {n : Nat} : ∀ {ws : List Tx} {l : List Ent}, (keysE l).Nodup → (∀ w ∈ ws, w ∈ keysE l) → ws.foldl (volE n) l = l.map fun e => if e.word ∈ ws then { e with vol := n } else e
  | [], l, _, _ => by simp
  | w :: ws, l, hn, hw => by
    have h1 := volE_map (n := n) hn (hw w List.mem_cons_self)
    have hk : keysE (volE n l w) = keysE l := by
      rw [h1]
      exact keysE_map fun e => by split <;> rfl
    rw [List.foldl_cons, fold_vol (by rw [hk]; exact hn) (fun x hx => by rw [hk]; exact hw x (List.mem_cons_of_mem _ hx)), h1, List.map_map]
    refine List.map_congr_left fun e _ => ?_
    simp only [Function.comp]
    by_cases he : e.word = w
    · rw [if_pos he]
      simp only [List.mem_cons, he, true_or, if_true]
      split <;> rfl
    · rw [if_neg he]
      simp only [List.mem_cons, he, false_or]
def volsOf (c : UInt8) (d : Desk) : List Ent := d.ents.map fun e => match closes c e with
  | true => { e with vol := d.vols.length + 1 }
  | false => e
theorem fold_closes {c : UInt8} {d : Desk} {ws : List Tx} (hn : (keysE d.ents).Nodup) (hp : ws.Perm ((d.ents.filter (closes c)).map (·.word))) : ws.foldl (volE (d.vols.length + 1)) d.ents = volsOf c d := by
  have hmem : ∀ w, w ∈ ws ↔ ∃ e ∈ d.ents, closes c e = true ∧ e.word = w := fun w => by
    rw [hp.mem_iff, List.mem_map]
    simp only [List.mem_filter]
    constructor
    · rintro ⟨e, ⟨h1, h2⟩, h3⟩; exact ⟨e, h1, h2, h3⟩
    · rintro ⟨e, h1, h2, h3⟩; exact ⟨e, ⟨h1, h2⟩, h3⟩
  rw [fold_vol hn (fun w hw => by
    obtain ⟨e, h1, _, h3⟩ := (hmem w).1 hw
    rw [← h3]
    exact List.mem_map_of_mem h1)]
  unfold volsOf
  refine List.map_congr_left fun e he => ?_
  by_cases hc : closes c e = true
  · rw [if_pos ((hmem _).2 ⟨e, he, hc, rfl⟩), hc]
  · have : e.word ∉ ws := fun h => by
      obtain ⟨x, h1, h2, h3⟩ := (hmem _).1 h
      exact hc (key_inj hn h1 he h3 ▸ h2)
    have hcf : closes c e = false := by simpa using hc
    rw [if_neg this, hcf]
def keysA (l : List Acc) : List Tx := l.map (·.who)
def pay1 (a : Acc) : Acc := match pays a with
  | true => { a with pence := a.pence - 20, vols := a.vols + 1 }
  | false => a
theorem pay1_who (a : Acc) : (pay1 a).who = a.who := by unfold pay1; split <;> rfl
theorem putA_map {x : Acc} : ∀ {l : List Acc}, (keysA l).Nodup → x.who ∈ keysA l → putA x l = l.map fun e => if e.who = x.who then x else e
  | [], _, h => by cases h
  | e :: l, hn, h => by
    unfold putA
    have hn' := List.nodup_cons.1 (show (e.who :: keysA l).Nodup from hn)
    by_cases he : e.who = x.who
    · rw [decide_eq_true he]
      have : l.map (fun e => if e.who = x.who then x else e) = l := by
        conv => rhs; rw [← List.map_id l]
        refine List.map_congr_left fun y hy => ?_
        rw [if_neg (fun h' => hn'.1 (by rw [he, ← h']; exact List.mem_map_of_mem hy))]
        rfl
      show x :: l = _
      rw [List.map_cons, if_pos he, this]
    · rw [decide_eq_false he]
      rcases List.mem_cons.1 h with h | h
      · exact absurd h.symm he
      · show e :: putA x l = _
        rw [putA_map hn'.2 h, List.map_cons, if_neg he]
def paidBut (l : List Acc) (rest : List Tx) : List Acc := l.map fun a => if a.who ∈ rest then a else pay1 a
theorem paidBut_all {l : List Acc} : paidBut l (keysA l) = l := by
  unfold paidBut
  conv => rhs; rw [← List.map_id l]
  refine List.map_congr_left fun a ha => ?_
  rw [if_pos (show a.who ∈ keysA l from List.mem_map_of_mem (f := (·.who)) ha)]
  rfl
theorem paidBut_nil {l : List Acc} : paidBut l [] = l.map pay1 := by
  unfold paidBut
  exact List.map_congr_left fun a _ => by rw [if_neg (by simp)]
theorem keysA_paid {l : List Acc} {r : List Tx} : keysA (paidBut l r) = keysA l := by
  unfold keysA paidBut
  rw [List.map_map]
  refine List.map_congr_left fun a _ => ?_
  simp only [Function.comp]
  split
  · rfl
  · exact pay1_who a
theorem paidBut_step {l : List Acc} {r r' : List Tx} {a : Acc} (hn : (keysA l).Nodup) (ha : a ∈ l) (hr : ∀ x, x ∈ r ↔ x = a.who ∨ x ∈ r') (hd : a.who ∉ r') : paidBut l r' = if pays a then putA (pay1 a) (paidBut l r) else paidBut l r := by
  have hu : ∀ b ∈ l, b.who = a.who → b = a := fun b hb hba => key_inj hn hb ha hba
  by_cases hp : pays a = true
  · rw [if_pos hp, putA_map (by rw [keysA_paid]; exact hn) (by rw [keysA_paid, pay1_who]; exact List.mem_map_of_mem ha)]
    unfold paidBut
    rw [List.map_map]
    refine List.map_congr_left fun b hb => ?_
    simp only [Function.comp, pay1_who]
    by_cases hba : b.who = a.who
    · obtain rfl := hu b hb hba
      rw [if_neg hd]
      have h1 : b.who ∈ r := (hr _).2 (.inl rfl)
      rw [if_pos h1, if_pos rfl]
    · by_cases hb2 : b.who ∈ r'
      · rw [if_pos hb2, if_pos ((hr _).2 (.inr hb2)), if_neg hba]
      · have h1 : b.who ∉ r := fun h => by
          rcases (hr _).1 h with h | h
          · exact hba h
          · exact hb2 h
        rw [if_neg hb2, if_neg h1, pay1_who, if_neg hba]
  · rw [if_neg hp]
    unfold paidBut
    refine List.map_congr_left fun b hb => ?_
    by_cases hba : b.who = a.who
    · obtain rfl := hu b hb hba
      rw [if_neg hd, if_pos ((hr _).2 (.inl rfl))]
      unfold pay1
      rw [show pays b = false by simpa using hp]
    · by_cases hb2 : b.who ∈ r'
      · rw [if_pos hb2, if_pos ((hr _).2 (.inr hb2))]
      · have h1 : b.who ∉ r := fun h => by
          rcases (hr _).1 h with h | h
          · exact hba h
          · exact hb2 h
        rw [if_neg hb2, if_neg h1]
end Go.Clerk
