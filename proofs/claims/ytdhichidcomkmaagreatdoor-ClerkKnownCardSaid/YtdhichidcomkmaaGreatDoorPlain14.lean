/-
  The clerk's book, plainly: lines, orders, what is known behind them.
  Conditions: none; definitions and lemmas.
-/
import Derived.Lib.ItoaNum
import Derived.Lib.AtoiAll
set_option linter.unusedSimpArgs false
set_option linter.unusedVariables false
namespace Go.Clerk
abbrev Tx := List UInt8
structure Ent where
  word : Tx
  form : Tx
  see : Tx
  writer : Tx
  asked : Nat
  came : Nat
  vol : Nat
structure Vol where
  letter : Tx
  words : List Tx
  lines : Nat
  sent : Nat
structure Acc where
  who : Tx
  pence : Nat
  vols : Nat
  stop : Bool
structure Desk where
  ents : List Ent
  accs : List Acc
  vols : List Vol
  closed : UInt8
inductive Ord where
  | word (w : Tx)
  | short (w f : Tx)
  | give (w p : Tx) (n : Nat)
  | come (w : Tx) (n : Nat)
  | see (w o : Tx)
  | close (c : UInt8)
  | pay (p : Tx) (n : Nat)
  | stop (p : Tx)
def Desk.none : Desk := ⟨[], [], [], 0⟩
def splitC (c : UInt8) : Tx → List Tx
  | [] => [[]]
  | x :: l => match decide (x = c), splitC c l with
    | true, r => [] :: r
    | false, [] => [[x]]
    | false, a :: r => (x :: a) :: r
def named (w : Tx) (most : Nat) : Bool := !w.isEmpty && decide (w.length ≤ most) && w.all fun c => decide (97 ≤ c.toNat) && decide (c.toNat ≤ 122)
def dig (n : Nat) : UInt8 := UInt8.ofNat (48 + n)
def itoaN (n : Nat) : Tx :=
  if n < 10 then [dig n] else if n < 100 then [dig (n / 10), dig (n % 10)] else if n < 1000 then [dig (n / 100), dig (n / 10 % 10), dig (n % 10)]
  else [dig (n / 1000), dig (n / 100 % 10), dig (n / 10 % 10), dig (n % 10)]
def valN : Tx → Nat → Nat
  | [], n => n
  | c :: l, n => valN l (10 * n + (c.toNat - 48))
def isDig (c : UInt8) : Bool := decide (48 ≤ c.toNat) && decide (c.toNat ≤ 57)
def numb (s : Tx) : Option Nat :=
  match !s.isEmpty && decide (s.length ≤ 4) && s.all isDig && (decide (s.length = 1) || decide (s.headD 0 ≠ 48)) with
  | true => some (valN s 0)
  | false => .none
def readW (w : List Tx) (names letters : Nat) (num : Bool) : Nat × Nat :=
  match decide (w.length ≠ names + (if num then 1 else 0)) || w.contains [], (w.take names).all (named · letters), num, numb (w.getD names []) with
  | true, _, _, _ => (0, 10)
  | false, false, _, _ => (0, 8)
  | false, true, false, _ => (0, 0)
  | false, true, true, some n => (n, 0)
  | false, true, true, .none => (0, 10)
def kWord : Tx := [119, 111, 114, 100]
def kShort : Tx := [115, 104, 111, 114, 116]
def kGive : Tx := [103, 105, 118, 101]
def kCome : Tx := [99, 111, 109, 101]
def kSee : Tx := [115, 101, 101]
def kClose : Tx := [99, 108, 111, 115, 101]
def kPay : Tx := [112, 97, 121]
def kStop : Tx := [115, 116, 111, 112]
def kUndo : Tx := [117, 110, 100, 111]
def parseW (first : Tx) (w : List Tx) : Option Ord × Nat :=
  let a := w.getD 0 []
  let b := w.getD 1 []
  let mk (x : Nat × Nat) (o : Nat → Option Ord) : Option Ord × Nat := match x with
    | (n, 0) => (o n, 0)
    | (_, e + 1) => (.none, e + 1)
  if first = kWord then mk (readW w 1 10 false) fun _ => some (.word a)
  else if first = kShort then mk (readW w 2 10 false) fun _ => some (.short a b)
  else if first = kGive then mk (readW w 2 10 true) fun n => some (.give a b n)
  else if first = kCome then mk (readW w 1 10 true) fun n => some (.come a n)
  else if first = kSee then mk (readW w 2 10 false) fun _ => some (.see a b)
  else if first = kClose then mk (readW w 1 1 false) fun _ => some (.close (a.headD 0))
  else if first = kPay then mk (readW w 1 10 true) fun n => some (.pay a n)
  else if first = kStop then mk (readW w 1 10 false) fun _ => some (.stop a)
  else if first = kUndo then mk (readW w 0 0 false) fun _ => .none
  else (.none, 10)
def parse (line : Tx) : Option Ord × Nat := let l := splitC 32 line; parseW (l.headD []) l.tail
def leftC : Tx → Tx → Bool
  | _, [] => true
  | [], _ :: _ => false
  | x :: w, c :: p => match decide (x = c) with
    | true => leftC w p
    | false => leftC w (c :: p)
def getE (w : Tx) : List Ent → Option Ent
  | [] => .none
  | e :: l => match decide (e.word = w) with
    | true => some e
    | false => getE w l
def putE (x : Ent) : List Ent → List Ent
  | [] => [x]
  | e :: l => match decide (e.word = x.word) with
    | true => x :: l
    | false => e :: putE x l
def getA (w : Tx) : List Acc → Option Acc
  | [] => .none
  | e :: l => match decide (e.who = w) with
    | true => some e
    | false => getA w l
def putA (x : Acc) : List Acc → List Acc
  | [] => [x]
  | e :: l => match decide (e.who = x.who) with
    | true => x :: l
    | false => e :: putA x l
def Desk.shut (d : Desk) (w : Tx) : Bool := decide ((w.headD 0).toNat ≤ d.closed.toNat)
def seeOf (w : Tx) (l : List Ent) : Tx := match getE w l with
  | some e => e.see
  | .none => []
def wayN (l : List Ent) : Nat → Tx → List Tx
  | 0, _ => []
  | n + 1, w => match seeOf w l with
    | [] => [w]
    | s => w :: wayN l n s
def Desk.way (d : Desk) (w : Tx) : List Tx := wayN d.ents d.ents.length w
def leT (x y : Tx) : Bool := decide (x ≤ y)
def closes (c : UInt8) (e : Ent) : Bool := decide (0 < e.came) && decide (e.vol = 0) && decide ((e.word.headD 0).toNat ≤ c.toNat)
def pays (a : Acc) : Bool := !a.stop && decide (20 ≤ a.pence)
def sumN : List Nat → Nat
  | [] => 0
  | n :: l => n + sumN l
def volOf (c : UInt8) (d : Desk) : Vol :=
  ⟨[c], ((d.ents.filter (closes c)).map (·.word)).mergeSort leT, sumN ((d.ents.filter (closes c)).map (·.came)), (d.accs.filter pays).length⟩
def closeD (c : UInt8) (d : Desk) : Desk :=
  ⟨d.ents.map fun e => match closes c e with
      | true => { e with vol := d.vols.length + 1 }
      | false => e,
   d.accs.map fun a => match pays a with
      | true => { a with pence := a.pence - 20, vols := a.vols + 1 }
      | false => a,
   d.vols ++ [volOf c d], c⟩
def doWord (w : Tx) (d : Desk) : Nat × Desk :=
  match getE w d.ents, d.shut w, decide (d.ents.length = 40), d.ents.any (fun e => !e.form.isEmpty && leftC w e.form) with
  | some _, _, _, _ => (6, d)
  | .none, true, _, _ => (20, d)
  | .none, false, true, _ => (16, d)
  | .none, false, false, true => (13, d)
  | .none, false, false, false => (0, { d with ents := d.ents ++ [⟨w, [], [], [], 0, 0, 0⟩] })
def doShort (w f : Tx) (d : Desk) : Nat × Desk :=
  match getE w d.ents with
  | .none => (2, d)
  | some e => match !e.form.isEmpty, leftC w f, d.ents.any (fun x => decide (x.word ≠ w) && leftC x.word f) with
    | true, _, _ => (6, d)
    | false, false, _ => (14, d)
    | false, true, true => (13, d)
    | false, true, false => (0, { d with ents := putE { e with form := f } d.ents })
def doGive (w p : Tx) (n : Nat) (d : Desk) : Nat × Desk :=
  match getE w d.ents with
  | .none => (2, d)
  | some e => match !e.writer.isEmpty, !e.see.isEmpty, d.shut w, decide (n = 0) with
    | true, _, _, _ => (6, d)
    | false, true, _, _ => (13, d)
    | false, false, true, _ => (20, d)
    | false, false, false, true => (1, d)
    | false, false, false, false => (0, { d with ents := putE { e with writer := p, asked := n } d.ents })
def doCome (w : Tx) (n : Nat) (d : Desk) : Nat × Desk :=
  match getE w d.ents with
  | .none => (2, d)
  | some e => match e.writer.isEmpty, decide (0 < e.came), d.shut w, decide (n = 0), decide (2 * e.asked < n) with
    | true, _, _, _, _ => (21, d)
    | false, true, _, _, _ => (6, d)
    | false, false, true, _, _ => (20, d)
    | false, false, false, true, _ => (1, d)
    | false, false, false, false, true => (15, d)
    | false, false, false, false, false => (0, { d with ents := putE { e with came := n } d.ents })
def doSee (w o : Tx) (d : Desk) : Nat × Desk :=
  match getE w d.ents, getE o d.ents with
  | some e, some _ => match !e.see.isEmpty, !e.writer.isEmpty, d.shut w, (d.way o).contains w with
    | true, _, _, _ => (6, d)
    | false, true, _, _ => (16, d)
    | false, false, true, _ => (20, d)
    | false, false, false, true => (13, d)
    | false, false, false, false => (0, { d with ents := putE { e with see := o } d.ents })
  | _, _ => (2, d)
def doClose (c : UInt8) (d : Desk) : Nat × Desk :=
  match decide (c.toNat ≤ d.closed.toNat), (d.ents.filter (closes c)).isEmpty with
  | true, _ => (7, d)
  | false, true => (4, d)
  | false, false => (0, closeD c d)
def doPay (p : Tx) (n : Nat) (d : Desk) : Nat × Desk :=
  let a := (getA p d.accs).getD ⟨[], 0, 0, false⟩
  match decide (n = 0), (getA p d.accs).isNone && decide (d.accs.length = 12), decide (9999 < a.pence + n) with
  | true, _, _ => (1, d)
  | false, true, _ => (3, d)
  | false, false, true => (16, d)
  | false, false, false => (0, { d with accs := putA ⟨p, a.pence + n, a.vols, false⟩ d.accs })
def doStop (p : Tx) (d : Desk) : Nat × Desk :=
  match getA p d.accs with
  | .none => (2, d)
  | some a => match a.stop with
    | true => (6, d)
    | false => (0, { d with accs := putA { a with stop := true } d.accs })
def doO : Ord → Desk → Nat × Desk
  | .word w, d => doWord w d
  | .short w f, d => doShort w f d
  | .give w p n, d => doGive w p n d
  | .come w n, d => doCome w n d
  | .see w o, d => doSee w o d
  | .close c, d => doClose c d
  | .pay p n, d => doPay p n d
  | .stop p, d => doStop p d
structure Off where
  now : Desk
  past : List Desk
  lines : List Tx
def Off.none : Off := ⟨.none, [], []⟩
def tell (o : Off) (line : Tx) : Nat × Off :=
  match parse line with
  | (_, e + 1) => (e + 1, o)
  | (.none, 0) => match o.lines.isEmpty with
    | true => (4, o)
    | false => (0, ⟨o.past.getLastD o.now, o.past.dropLast, o.lines.dropLast⟩)
  | (some x, 0) => match decide (o.lines.length = 150), doO x o.now with
    | true, _ => (19, o)
    | false, (0, d) => (0, ⟨d, o.past ++ [o.now], o.lines ++ [line]⟩)
    | false, (e + 1, _) => (e + 1, o)
def check (s : Tx) : Nat := s.foldl (fun n b => (n * 29 + b.toNat) % 9941) 0
def kHead : Tx := [104, 101, 97, 100, 119, 111, 114, 100, 10]
def kEnd : Tx := [101, 110, 100, 32]
def bodyOf (lines : List Tx) : Tx := kHead ++ lines.flatMap (· ++ [10])
def textOf (lines : List Tx) : Tx := bodyOf lines ++ kEnd ++ itoaN (check (bodyOf lines)) ++ [10]
def leE (x y : Ent) : Bool := decide (x.word ≤ y.word)
def leA (x y : Acc) : Bool := decide (x.who ≤ y.who)
def Desk.entries (d : Desk) : List Ent := d.ents.mergeSort leE
def Desk.accounts (d : Desk) : List Acc := d.accs.mergeSort leA
def addT (w : Tx) : List Tx → List Tx
  | [] => [w]
  | x :: l => match decide (x = w) with
    | true => x :: l
    | false => x :: addT w l
def Desk.writers (d : Desk) : List (Tx × Nat) :=
  ((((d.ents.filter fun e => !e.writer.isEmpty).map (·.writer)).foldl (fun l w => addT w l) []).mergeSort leT).map fun w => (w, sumN ((d.ents.filter fun e => decide (e.writer = w)).map (·.came)))
def Desk.late (d : Desk) : List Tx := ((d.ents.filter fun e => !e.writer.isEmpty && decide (e.came = 0) && d.shut e.word).map (·.word)).mergeSort leT
def Desk.find (d : Desk) (form : Tx) : Tx × Nat :=
  match getE form d.ents with
  | some e => (e.word, 0)
  | .none => match d.ents.find? (fun e => !form.isEmpty && decide (e.form = form)) with
    | some e => (e.word, 0)
    | .none => ([], 2)
def Desk.wayOf (d : Desk) (w : Tx) : List Tx × Nat := match getE w d.ents with
  | some _ => (d.way w, 0)
  | .none => ([], 2)
end Go.Clerk
