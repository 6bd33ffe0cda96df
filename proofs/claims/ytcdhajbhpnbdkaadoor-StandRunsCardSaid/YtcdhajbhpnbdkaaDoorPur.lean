/-
  A PURE EVALUATOR over the abstract one: lists are values, a list that append has made has one owner; memory that is written is a list of blocks, and a function's own blocks go when it returns.
  Conditions: none; definitions alone.
-/
import Derived.Test.YtcdhajbhpnbdkaaDoorAbsTop
set_option linter.unusedSimpArgs false
set_option linter.unusedVariables false
set_option linter.unusedSectionVars false
namespace Go.Pur
open Go.Abs

/-- Where an owned list may lie. -/
inductive Pl where
  | tmp (t : Nat)
  | cell (b i : Nat)

/-- What may be done with a list: it stays as it is for good; it stays while the call runs; it is owned here; it is the list owned there; it is a part of it. -/
inductive Vl where
  | fz
  | bor
  | own
  | rf (p : Pl)
  | pt (p : Pl)

/-- What is known of the capacity: it is the length; an empty list is nil; nothing. -/
inductive Ck where
  | full
  | nz
  | any

inductive PV where
  | v (x : Value)
  | l (k : Vl) (c : Ck) (n : Nat) (cs : List PV)
  | a (cs : List PV)
  | t (cs : List PV)
  | r (k : Vl) (cs : List PV)
  | p (b off : Nat)
  | s (b off n cap : Nat)
  | f (fn : FuncId) (first captured : List PV)
  | i (ty : TypeId) (x : PV)
  | un
  | dead

structure Pol where
  keep : FuncId → Nat → Bool
  glob : List (List PV)

structure St where
  ls : List (Nat × PV)
  ts : Tr PV
  hp : List (Option (List PV))
  wl : Option Nat

def plEq : Pl → Pl → Bool
  | .tmp a, .tmp b => Nat.beq a b
  | .cell a i, .cell b j => Nat.beq a b && Nat.beq i j
  | _, _ => false

/-! ### What the types say -/
def szOf (P : Program) (t : TypeId) : Option Nat :=
  match P.info? t with
  | some i => some i.size
  | none => none
def byOf (P : Program) (t : TypeId) : Option Nat :=
  match P.info? t with
  | some i => some i.bytes
  | none => none
def zeroOf (P : Program) (t : TypeId) : Option Value :=
  match P.info? t with
  | some i => match i.zero with
    | some z => match plainV z with
      | true => some z
      | false => none
    | none => none
  | none => none
inductive Shape where
  | slice (e : TypeId) (sz : Nat)
  | array (n : Nat) (e : TypeId) (sz : Nat)
  | string
def shapeOf (P : Program) (t : TypeId) : Option Shape :=
  match P.underlying t with
  | some (.slice e) => match P.info? e with
    | some i => some (.slice e i.size)
    | none => none
  | some (.array n e) => match P.info? e with
    | some i => some (.array n e i.size)
    | none => none
  | some .string => some .string
  | _ => none
/-- Of a field: its type, its offset, its size. -/
def fieldOf (P : Program) (s : TypeId) (f : Nat) : Option (TypeId × Nat × Nat) :=
  match P.underlying s with
  | some (.struct fields) => match fields[f]? with
    | some fd => match P.info? fd.type with
      | some i => some (fd.type, fd.offset, i.size)
      | none => none
    | none => none
  | _ => none

/-! ### Looking -/
def lget : List (Nat × PV) → Nat → Option PV
  | [], _ => none
  | (k, v) :: l, t => match Nat.beq k t with
    | true => some v
    | false => lget l t

def look (Y : Pol) (f : FuncId) (σ : St) (t : Nat) : Option PV :=
  match Y.keep f t with
  | true => σ.ts.get t
  | false => lget σ.ls t

def rdv (p : Pl) : PV → Option PV
  | .l .own c n cs => some (.l (.rf p) c n cs)
  | .dead | .un => none
  | v => some v

/-- A constant. An empty list is owned by whoever takes it. -/
def pvOf : Value → Option PV
  | .slice none n c => match n, c with
    | 0, 0 => some (.l .own .nz 0 [])
    | _, _ => none
  | x => match plain x with
    | true => some (.v x)
    | false => none

def pev (Y : Pol) (f : FuncId) (σ : St) : Operand → Option PV
  | .tmp t => match look Y f σ t with
    | some v => rdv (.tmp t) v
    | none => none
  | .const x => pvOf x
  | .global g => match Y.glob[g]? with
    | some cs => some (.r .fz cs)
    | none => none
  | .func g => some (.f g [] [])

/-- An operand that the evaluator below reads without a fault, whatever it is. -/
def evSafe : Operand → Bool
  | .tmp _ => true
  | .const x => plain x
  | .func _ => true
  | .global _ => false

def pevs (Y : Pol) (f : FuncId) (σ : St) : List Operand → Option (List PV)
  | [] => some []
  | x :: xs => match pev Y f σ x with
    | some v => match pevs Y f σ xs with
      | some vs => some (v :: vs)
      | none => none
    | none => none

/-! ### Places -/
def getPl (Y : Pol) (f : FuncId) (σ : St) : Pl → Option PV
  | .tmp t => look Y f σ t
  | .cell b i => match σ.hp[b]? with
    | some (some cs) => cs[i]?
    | _ => none

def setPl (Y : Pol) (f : FuncId) (v : PV) (σ : St) : Pl → St
  | .tmp t => match Y.keep f t with
    | true => { σ with ts := σ.ts.set t v }
    | false => { σ with ls := (t, v) :: σ.ls }
  | .cell b i => match σ.hp[b]? with
    | some (some cs) => { σ with hp := σ.hp.set b (some (cs.set i v)) }
    | _ => σ

/-- Lists that are owned at the places of S stay for good. -/
def frzS (S : Pl → Bool) : PV → PV
  | .l (.rf q) c n cs => match S q with
    | true => .l .fz c n cs
    | false => .l (.rf q) c n cs
  | .l (.pt q) c n cs => match S q with
    | true => .l .fz c n cs
    | false => .l (.pt q) c n cs
  | .r (.pt q) cs => match S q with
    | true => .r .fz cs
    | false => .r (.pt q) cs
  | v => v
def frzV (p : Pl) : PV → PV := frzS fun q => plEq q p

def killV (p : Pl) : PV → PV
  | .l (.rf q) c n cs => match plEq q p with
    | true => .dead
    | false => .l (.rf q) c n cs
  | .l (.pt q) c n cs => match plEq q p with
    | true => .dead
    | false => .l (.pt q) c n cs
  | .r (.pt q) cs => match plEq q p with
    | true => .dead
    | false => .r (.pt q) cs
  | v => v

/-- Behind a call nothing is known of the lists that cells own. -/
def killCell : PV → PV
  | .l (.rf (.cell _ _)) _ _ _ => .dead
  | .l (.pt (.cell _ _)) _ _ _ => .dead
  | .r (.pt (.cell _ _)) _ => .dead
  | v => v

/-- Storable anywhere. -/
def firm : PV → Bool
  | .l .fz _ _ _ => true
  | .l _ _ _ _ => false
  | .r .fz _ => true
  | .r _ _ => false
  | .dead => false
  | .un => false
  | .t _ => false
  | _ => true

def mapL (g : PV → PV) : List (Nat × PV) → List (Nat × PV)
  | [] => []
  | (k, v) :: l => (k, g v) :: mapL g l

/-- The list owned there stays as it is for good. -/
def freeze (Y : Pol) (f : FuncId) (p : Pl) (σ : St) : Option St :=
  match getPl Y f σ p with
  | some (.l .own c n cs) => some (setPl Y f (.l .fz c n cs) { σ with ls := mapL (frzV p) σ.ls } p)
  | _ => none

def lowB (w : Option Nat) (b : Nat) : Option Nat :=
  match w with
  | none => some b
  | some a => some (Nat.min a b)
def lowP (w : Option Nat) : Pl → Option Nat
  | .tmp _ => w
  | .cell b _ => lowB w b

/-- The list owned there is taken away. -/
def take (Y : Pol) (f : FuncId) (p : Pl) (σ : St) : Option St :=
  match getPl Y f σ p with
  | some (.l .own c n cs) => some (setPl Y f .dead { σ with ls := mapL (killV p) σ.ls, wl := lowP σ.wl p } p)
  | _ => none

/-- A value that is to be stored inside of others; and the place whose list stays for good now. -/
def stor (Y : Pol) (f : FuncId) (v : PV) (σ : St) : Option (PV × St × Option Pl) :=
  match v with
  | .l (.rf p) c n cs => match freeze Y f p σ with
    | some σ' => some (.l .fz c n cs, σ', some p)
    | none => none
  | .l .own c n cs => match n, cs with
    | 0, [] => some (.l .fz c 0 [], σ, none)
    | _, _ => none
  | .l .fz c n cs => some (.l .fz c n cs, σ, none)
  | .v x => some (.v x, σ, none)
  | .a cs => some (.a cs, σ, none)
  | .p b o => some (.p b o, σ, none)
  | .s b o n c => some (.s b o n c, σ, none)
  | .f g as bs => some (.f g as bs, σ, none)
  | .i t x => some (.i t x, σ, none)
  | .r .fz cs => some (.r .fz cs, σ, none)
  | _ => none

def frzs : List Pl → PV → PV
  | [], v => v
  | p :: ps, v => frzV p (frzs ps v)
def addP : Option Pl → List Pl → List Pl
  | none, ps => ps
  | some p, ps => p :: ps

def stors (Y : Pol) (f : FuncId) : List Pl → List PV → St → Option (List PV × St)
  | _, [], σ => some ([], σ)
  | ps, v :: vs, σ => match stor Y f (frzs ps v) σ with
    | some (v', σ', o) => match stors Y f (addP o ps) vs σ' with
      | some (vs', σ'') => some (v' :: vs', σ'')
      | none => none
    | none => none

/-- A value of one cell. -/
def one : PV → Bool
  | .a _ => false
  | .t _ => false
  | .dead => false
  | .un => false
  | _ => true

/-- No block of the heap is meant in it. -/
def noref : PV → Bool
  | .v _ => true
  | .l .fz _ _ _ => true
  | .a cs => norefs cs
  | .i _ x => noref x
  | .f _ as bs => norefs as && norefs bs
  | _ => false
where norefs : List PV → Bool
  | [] => true
  | c :: cs => noref c && norefs cs
/-- What may be a list's cell. -/
def cellOK (v : PV) : Bool := one v && noref v

/-! ### Cells -/
def takeP : Nat → List PV → Option (List PV)
  | 0, _ => some []
  | _ + 1, [] => none
  | n + 1, x :: l => match takeP n l with
    | some r => some (x :: r)
    | none => none

def pcells : PV → List PV
  | .a cs => cs
  | v => [v]

def ownFz : PV → PV
  | .l .own c n cs => .l .fz c n cs
  | v => v
def isOwn : PV → Bool
  | .l .own _ _ _ => true
  | _ => false

def pvCells (z : Value) : Option (List PV) :=
  go (vcells z)
where go : List Value → Option (List PV)
  | [] => some []
  | x :: l => match pvOf x, go l with
    | some v, some r => some (v :: r)
    | _, _ => none

def notOwn : Vl → Bool
  | .own => false
  | _ => true
def prt : Vl → Vl
  | .rf p => .pt p
  | k => k
def capK : Bool → Ck
  | true => .full
  | false => .any
/-- What is known of the capacity of x[lo:hi:max]. -/
def slCk (mx : Option Value) (c : Ck) (n h m : Nat) : Option Ck :=
  match mx, c with
  | none, .full => some (capK (Nat.beq h n))
  | none, _ => some .any
  | some _, .any => match Nat.blt 0 n with
    | true => some (capK (Nat.beq m h))
    | false => none
  | some _, _ => some (capK (Nat.beq m h))

/-- x[lo:hi:max] of a list. -/
def pslice (sz : Nat) (k : Vl) (c : Ck) (n : Nat) (cs : List PV) (lo hi mx : Option Value) : Option PV :=
  match natOfO 0 n n mx with
  | some m => match natOfO 0 m n hi with
    | some h => match natOfO 0 h 0 lo with
      | some l => match Nat.ble h m && hiOk hi mx && notOwn k && Nat.ble (h * sz) cs.length with
        | true => match slCk mx c n h m with
          | some c' => some (.l (prt k) c' (h - l) ((cs.drop (l * sz)).take ((h - l) * sz)))
          | none => none
        | false => none
      | none => none
    | none => none
  | none => none

def optPlain (Y : Pol) (f : FuncId) (σ : St) : Option Operand → Option (Option Value)
  | none => some none
  | some x => match pev Y f σ x with
    | some (.v x) => some (some x)
    | _ => none

/-! ### Operations that leave the state alone -/
def toPlain : PV → Option Value
  | .v x => some x
  | .a cs => match go cs with
    | some l => some (.agg l.toArray)
    | none => none
  | _ => none
where go : List PV → Option (List Value)
  | [] => some []
  | .v x :: l => match go l with
    | some r => some (x :: r)
    | none => none
  | _ :: _ => none

def pnil (P : Program) (op : BinOp) (t : TypeId) (a b : PV) : Option PV :=
  match (match P.underlying t, a, b with
    | some (.pointer _), .p _ _, .v (.pointer none) | some (.pointer _), .v (.pointer none), .p _ _ => true
    | some (.pointer _), .r _ _, .v (.pointer none) | some (.pointer _), .v (.pointer none), .r _ _ => true
    | some (.interface _), .i _ _, .v .nilIface | some (.interface _), .v .nilIface, .i _ _ => true
    | some (.func _ _ _), .f _ _ _, .v .nilFunc | some (.func _ _ _), .v .nilFunc, .f _ _ _ => true
    | _, _, _ => false), op with
  | true, .eql => some (.v (.bool false))
  | true, .neq => some (.v (.bool true))
  | _, _ => none

/-- Is a list nil? -/
def isNil : Ck → Nat → Option Bool
  | .nz, n => some (Nat.beq n 0)
  | _, n => match Nat.blt 0 n with
    | true => some false
    | false => none

def plnil (P : Program) (op : BinOp) (t : TypeId) (c : Ck) (n : Nat) : Option PV :=
  match P.underlying t, isNil c n with
  | some (.slice _), some b => match op with
    | .eql => some (.v (.bool b))
    | .neq => some (.v (.bool (!b)))
    | _ => none
  | _, _ => none

def pbin (P : Program) (op : BinOp) (t : TypeId) (x y : Operand) (a b : PV) : Option PV :=
  match a, b with
  | .v a, .v b => match abin P op t x y a b with
    | some r => pvOf r
    | none => none
  | .l _ c n _, .l .own .nz 0 [] => plnil P op t c n
  | a, b => match toPlain a, toPlain b with
    | some a, some b => match abin P op t x y a b with
      | some r => pvOf r
      | none => none
    | _, _ => pnil P op t a b

def ppart (P : Program) (t : TypeId) (cs : List PV) (off : Nat) : Option PV :=
  match isRowT P t with
  | some true => match szOf P t with
    | some n => match takeP n (cs.drop off) with
      | some r => some (.a r)
      | none => none
    | none => none
  | some false => cs[off]?
  | none => none

def idxAddr (P : Program) (t : TypeId) (x : PV) (i : Value) : Option PV :=
  match x, shapeOf P t with
  | .l k c n cs, some (.slice _ sz) => match intIn n i with
    | some j => match notOwn k && Nat.ble ((j + 1) * sz) cs.length with
      | true => some (.r (prt k) (cs.drop (j * sz)))
      | false => none
    | none => none
  | .s b off n cap, some (.slice _ sz) => match intIn n i with
    | some j => some (.p b (off + j * sz))
    | none => none
  | .r k cs, some (.array n _ sz) => match intIn n i with
    | some j => match Nat.ble ((j + 1) * sz) cs.length with
      | true => some (.r k (cs.drop (j * sz)))
      | false => none
    | none => none
  | .p b off, some (.array n _ sz) => match intIn n i with
    | some j => some (.p b (off + j * sz))
    | none => none
  | _, _ => none

def pqIndex (P : Program) (t : TypeId) (x : PV) (i : Value) : Option PV :=
  match x, shapeOf P t with
  | .a cs, some (.array n e sz) => match intIn n i with
    | some j => ppart P e cs (j * sz)
    | none => none
  | .v (.string s), some .string => match prunP P (Instr.index t (.string s) i) with
    | some r => pvOf r
    | none => none
  | _, _ => none

def fldAddr (P : Program) (s : TypeId) (x : PV) (fd : Nat) : Option PV :=
  match fieldOf P s fd with
  | some (_, off, sz) => match Nat.beq sz 0 with
    | true => none
    | false => match x with
      | .p b o => some (.p b (o + off))
      | .r k cs => match Nat.ble (off + sz) cs.length with
        | true => some (.r k (cs.drop off))
        | false => none
      | _ => none
  | none => none

def pfield (P : Program) (s : TypeId) (x : PV) (fd : Nat) : Option PV :=
  match x, fieldOf P s fd with
  | .a cs, some (ty, off, _) => ppart P ty cs off
  | _, _ => none

def pqSlice (P : Program) (t : TypeId) (x : PV) (lo hi mx : Option Value) : Option PV :=
  match x, shapeOf P t with
  | .l k c n cs, some (.slice _ sz) => pslice sz k c n cs lo hi mx
  | .s b off n cap, some (.slice _ sz) => match aslice sz (some ⟨b, off, none⟩) n cap lo hi mx with
    | some (.slice (some a) n' c') => match Nat.blt c' roCap with
      | true => some (.s a.block a.off n' c')
      | false => none
    | _ => none
  | .p b off, some (.array n _ sz) => match Nat.blt n unkCap with
    | true => match aslice sz (some ⟨b, off, none⟩) n n lo hi mx with
      | some (.slice (some a) n' c') => some (.s a.block a.off n' c')
      | _ => none
    | false => none
  | .v (.string s), some .string => match mx with
    | none => match prunP P (Instr.slice t (.string s) lo hi none) with
      | some r => pvOf r
      | none => none
    | some _ => none
  | _, _ => none

def plen (P : Program) (t : TypeId) (x : PV) : Option PV :=
  match x, shapeOf P t with
  | .l _ _ n _, some (.slice _ _) => some (.v (goInt n))
  | .s _ _ n _, some (.slice _ _) => some (.v (goInt n))
  | .v (.string s), some .string => some (.v (goInt s.size))
  | _, some (.array n _ _) => some (.v (goInt n))
  | _, _ => none

def pplains : List PV → Option (List Value)
  | [] => some []
  | .v x :: l => match pplains l with
    | some r => some (x :: r)
    | none => none
  | _ :: _ => none

def pq (P : Program) (Y : Pol) (f : FuncId) (op : Op) (σ : St) : Option PV :=
  match op with
  | .move x | .assign x => pev Y f σ x
  | .pick c x y => match pev Y f σ c with
    | some (.v (.bool true)) => match evSafe y with
      | true => pev Y f σ x
      | false => none
    | some (.v (.bool false)) => match evSafe x with
      | true => pev Y f σ y
      | false => none
    | _ => none
  | .nilCheck x => match pev Y f σ x with
    | some (.p b o) => some (.p b o)
    | some (.r k cs) => some (.r k cs)
    | some (.f g as bs) => some (.f g as bs)
    | _ => none
  | .binOp op t x y _ => match pev Y f σ x, pev Y f σ y with
    | some a, some b => pbin P op t x y a b
    | _, _ => none
  | .unOp op _ x => match pev Y f σ x with
    | some (.v a) => match prunP P (Op.unary op a) with
      | some r => pvOf r
      | none => none
    | _ => none
  | .convert src dst x => match pev Y f σ x with
    | some (.v a) => match prunP P (convert src dst a) with
      | some r => pvOf r
      | none => none
    | _ => none
  | .slice t x lo hi mx => match pev Y f σ x, optPlain Y f σ lo, optPlain Y f σ hi, optPlain Y f σ mx with
    | some v, some l, some h, some m => pqSlice P t v l h m
    | _, _, _, _ => none
  | .fieldAddr s x fd => match pev Y f σ x with
    | some v => fldAddr P s v fd
    | none => none
  | .field s x fd => match pev Y f σ x with
    | some v => pfield P s v fd
    | none => none
  | .indexAddr t x ix => match pev Y f σ x, pev Y f σ ix with
    | some v, some (.v i) => idxAddr P t v i
    | _, _ => none
  | .index t x ix => match pev Y f σ x, pev Y f σ ix with
    | some v, some (.v i) => pqIndex P t v i
    | _, _ => none
  | .extract x ix => match pev Y f σ x with
    | some (.t cs) => cs[ix]?
    | _ => none
  | .call { callee := .builtin .len, args, argTypes } => match args.toList, argTypes[0]? with
    | [x], some t => match pev Y f σ x with
      | some v => plen P t v
      | none => none
    | _, _ => none
  | .call { callee := .builtin .max, args, argTypes } => match pevs Y f σ args.toList with
    | some vs => match pplains vs with
      | some xs => match prunP P (Builtin.max_ argTypes 0 xs.toArray) with
        | some r => pvOf r
        | none => none
      | none => none
    | none => none
  | .call { callee := .builtin .min, args, argTypes } => match pevs Y f σ args.toList with
    | some vs => match pplains vs with
      | some xs => match prunP P (Builtin.min_ argTypes 0 xs.toArray) with
        | some r => pvOf r
        | none => none
      | none => none
    | none => none
  | _ => none

/-! ### Operations that store values inside of others, and loads -/
def atB (b : Nat) : Pl → Bool
  | .cell b' _ => Nat.beq b' b
  | .tmp _ => false

/-- A load; lists that are owned by the cells of a row that is read stay as they are for good. -/
def pload (P : Program) (t : TypeId) (x : PV) (σ : St) : Option (PV × St) :=
  match x with
  | .r _ cs => match ppart P t cs 0 with
    | some v => some (v, σ)
    | none => none
  | .p b off => match σ.hp[b]? with
    | some (some cs) => match isRowT P t with
      | some true => match szOf P t with
        | some n => match takeP n (cs.drop off) with
          | some r => match r.any isOwn with
            | true => some (.a (r.map ownFz), { σ with hp := σ.hp.set b (some (cs.map ownFz)), ls := mapL (frzS (atB b)) σ.ls })
            | false => some (.a r, σ)
          | none => none
        | none => none
      | some false => match cs[off]? with
        | some v => match rdv (.cell b off) v with
          | some v' => some (v', σ)
          | none => none
        | none => none
      | none => none
    | _ => none
  | _ => none
/-- The cells of a row that is built of parts: 'at' tells each part's offset and size. -/
def pfill (at_ : Nat → Option (Nat × Nat)) : List (Nat × PV) → List PV → Option (List PV)
  | [], cs => some cs
  | (i, v) :: r, cs => match at_ i with
    | some (off, n) => match Nat.beq (pcells v).length n && Nat.ble (off + n) cs.length with
      | true => pfill at_ r (cs.take off ++ pcells v ++ cs.drop (off + n))
      | false => none
    | none => none

inductive Parts where
  | rows (l : List (Nat × Nat))
  | arr (sz : Nat)
def partsOf (P : Program) (t : TypeId) : Option Parts :=
  match P.underlying t with
  | some (.array _ e) => match szOf P e with
    | some sz => some (.arr sz)
    | none => none
  | some (.struct fields) => match fields.toList.mapM (fun f => (P.info? f.type).map fun i => (f.offset, i.size)) with
    | some l => some (.rows l)
    | none => none
  | _ => none
def partAt : Parts → Nat → Option (Nat × Nat)
  | .rows l, i => l[i]?
  | .arr sz, i => some (i * sz, sz)

def pevParts (Y : Pol) (f : FuncId) (σ : St) : List (Nat × Operand) → Option (List Nat × List PV)
  | [] => some ([], [])
  | (i, x) :: xs => match pev Y f σ x, pevParts Y f σ xs with
    | some v, some (is, vs) => some (i :: is, v :: vs)
    | _, _ => none

def zipParts : List Nat → List PV → List (Nat × PV)
  | i :: is, v :: vs => (i, v) :: zipParts is vs
  | _, _ => []

def reps (z : List PV) : Nat → List PV
  | 0 => []
  | n + 1 => z ++ reps z n

/-- What a slice that is appended or copied holds: n elements. -/
def psrc (sz n : Nat) (x : PV) (σ : St) : Option (List PV) :=
  match x with
  | .l _ _ _ cs => takeP (n * sz) cs
  | .s b off _ _ => match σ.hp[b]? with
    | some (some cs) => match takeP (n * sz) (cs.drop off) with
      | some r => match r.all cellOK with
        | true => some r
        | false => none
      | none => none
    | _ => none
  | .v (.string s) => match Nat.beq n s.size && Nat.beq sz 1 with
    | true => some (s.data.toList.map fun b => .v (.int .u8 b.toNat))
    | false => none
  | _ => none
def srcFits (P : Program) (tx : TypeId) (x : PV) : Bool :=
  match x, shapeOf P tx with
  | .l _ _ _ _, some (.slice _ _) | .s _ _ _ _, some (.slice _ _) | .v _, some .string => true
  | _, _ => false
def psrcLen : PV → Option Nat
  | .l _ _ n _ => some n
  | .s _ _ n _ => some n
  | .v (.string s) => some s.size
  | _ => none

/-- Cells from off on are written over. -/
def spliceP (off : Nat) (vs cs : List PV) : Option (List PV) :=
  match Nat.ble (off + vs.length) cs.length with
  | true => some (cs.take off ++ vs ++ cs.drop (off + vs.length))
  | false => none

/-- No cell refers to a younger block than b. -/
def refsTo (b : Nat) : PV → Bool
  | .v _ => true
  | .l _ _ _ _ => true
  | .p b' _ => Nat.ble b' b
  | .s b' _ _ _ => Nat.ble b' b
  | .a cs => go b cs
  | .i _ x => refsTo b x
  | .f _ as bs => go b as && go b bs
  | .dead => true
  | .un => true
  | _ => false
where go (b : Nat) : List PV → Bool
  | [] => true
  | c :: cs => refsTo b c && go b cs

def pput (b off : Nat) (vs : List PV) (σ : St) : Option St :=
  match σ.hp[b]? with
  | some (some cs) => match spliceP off vs cs with
    | some cs' => some { σ with hp := σ.hp.set b (some cs'), wl := lowB σ.wl b }
    | none => none
  | _ => none

/-- append of n elements, 'new' cells, to a list. -/
def pgrow (Y : Pol) (f : FuncId) (sz : Nat) (s : PV) (n : Nat) (new : List PV) (σ : St) : Option (PV × St) :=
  match s with
  | .l .own _ 0 [] => some (.l .own .nz n new, σ)
  | .l (.rf p) c m cs => match Nat.beq cs.length (m * sz), take Y f p σ with
    | true, some σ' => some (.l .own .nz (m + n) (cs ++ new), σ')
    | _, _ => none
  | .l _ .full m cs => match Nat.beq cs.length (m * sz) with
    | true => some (.l .own .nz (m + n) (cs ++ new), σ)
    | false => none
  | .s b off m cap => match Nat.blt cap unkCap && Nat.ble (m + n) cap with
    | true => match pput b (off + m * sz) new σ with
      | some σ' => some (.s b off (m + n) cap, σ')
      | none => none
    | false => none
  | _ => none

def isList : PV → Bool
  | .l _ _ _ _ => true
  | .s _ _ _ _ => true
  | _ => false

/-! ### One operation -/
abbrev PCallF := FuncId → List PV → List (Option (List PV)) → Option (PV × List (Option (List PV)) × Option Nat)

/-- A value as the argument of a call. -/
def argv (Y : Pol) (f : FuncId) (v : PV) (σ : St) : Option (PV × St × Option Pl) :=
  match v with
  | .l (.rf (.tmp t)) c n cs => match Y.keep f t with
    | true => some (.l .bor c n cs, σ, none)
    | false => stor Y f (.l (.rf (.tmp t)) c n cs) σ
  | .l (.pt (.tmp _)) c n cs => some (.l .bor c n cs, σ, none)
  | .l .bor c n cs => some (.l .bor c n cs, σ, none)
  | .r (.pt (.tmp _)) cs => some (.r .bor cs, σ, none)
  | .r .bor cs => some (.r .bor cs, σ, none)
  | v => stor Y f v σ

def argvs (Y : Pol) (f : FuncId) : List Pl → List PV → St → Option (List PV × St)
  | _, [], σ => some ([], σ)
  | ps, v :: vs, σ => match argv Y f (frzs ps v) σ with
    | some (v', σ', o) => match argvs Y f (addP o ps) vs σ' with
      | some (vs', σ'') => some (v' :: vs', σ'')
      | none => none
    | none => none

/-- Operation q of a region that draws is ordered against all loads, and all operations that make blocks. -/
def ordAll (ops : Array Oper) (q : Nat) : Bool :=
  ops.toList.zipIdx.all fun (o, i) => Nat.beq i q || ordered ops i q || !(match o.op with
    | .load _ _ => true
    | op => Nat.beq (kindOf op) 1)

/-- In a region that draws its order: its operations, the number of this one, how many blocks were there. -/
structure DrawAt where
  ops : Array Oper
  q : Nat
  n : Nat
abbrev Dr := Option DrawAt

/-- May the operation turn what was there? -/
def mayTurn : Dr → Bool
  | none => true
  | some a => ordAll a.ops a.q

/-- No operation before number q makes a block, or turns one. -/
def noMaker (ops : Array Oper) (q : Nat) : Bool :=
  ops.toList.zipIdx.all fun (o, i) => Nat.ble q i || Nat.beq (kindOf o.op) 0
/-- No operation before number q stores. -/
def noTurn (ops : Array Oper) (q : Nat) : Bool :=
  ops.toList.zipIdx.all fun (o, i) => Nat.ble q i || !(Nat.beq (kindOf o.op) 2)

/-- May this be loaded? -/
def mayLoad (dr : Dr) (v : PV) : Bool :=
  match dr with
  | none => true
  | some a => match v with
    | .p b _ => Nat.blt b a.n
    | _ => noMaker a.ops a.q

/-- Is a list that is appended to one that was there ahead of the region? -/
def elder (Y : Pol) (f : FuncId) : PV → Bool
  | .l (.rf (.tmp t)) _ _ _ => Y.keep f t
  | .l (.rf (.cell _ _)) _ _ _ => true
  | .s _ _ _ _ => true
  | _ => false

def pcallOp (Y : Pol) (f : FuncId) (call : PCallF) (draw : Dr) (fo : Operand) (args : List Operand) (σ : St) : Option (PV × St) :=
  match pev Y f σ fo, pevs Y f σ args with
  | some (.f g first captured), some vs => match argvs Y f [] vs σ with
    | some (vs', σ') => match (first ++ captured).all firm, call g (first ++ vs' ++ captured) σ'.hp with
      | true, some (r, hp', w) => match w with
        | none => some (r, { σ' with ls := mapL killCell σ'.ls, hp := hp' })
        | some b => match mayTurn draw with
          | true => some (r, { σ' with ls := mapL killCell σ'.ls, hp := hp', wl := lowB σ'.wl b })
          | false => none
      | _, _ => none
    | none => none
  | _, _ => none

def pnewBlk (vs : List PV) (σ : St) : PV × St := (.p σ.hp.length 0, { σ with hp := σ.hp ++ [some vs] })

/-- A value as it is stored in a cell of a block: a list that is owned is taken along. -/
def moved (Y : Pol) (f : FuncId) (v : PV) (σ : St) : Option (PV × St) :=
  match v with
  | .l (.rf p) c n cs => match take Y f p σ with
    | some σ' => some (.l .own c n cs, σ')
    | none => none
  | .l .own c n cs => match n, cs with
    | 0, [] => some (.l .own c 0 [], σ)
    | _, _ => none
  | v => match stor Y f v σ with
    | some (v', σ', _) => some (v', σ')
    | none => none

def poper (P : Program) (Y : Pol) (f : FuncId) (call : PCallF) (draw : Dr) (op : Op) (σ : St) : Option (PV × St) :=
  match op with
  | .load t x => match pev Y f σ x with
    | some v => match mayLoad draw v with
      | true => pload P t v σ
      | false => none
    | none => none
  | .build t parts => match pevParts Y f σ parts.toList, zeroOf P t with
    | some (is, vs), some z => match stors Y f [] vs σ, pvCells z, partsOf P t with
      | some (vs', σ'), some zc, some pt => match pfill (partAt pt) (zipParts is vs') zc with
        | some cs => some (.a cs, σ')
        | none => none
      | _, _, _ => none
    | _, _ => none
  | .makeInterface t x => match pev Y f σ x, P.underlying t with
    | some _, some (.interface _) => none
    | some v, some _ => match stor Y f v σ with
      | some (v', σ', _) => some (.i t v', σ')
      | none => none
    | _, _ => none
  | .makeFunc fn first captured => match fn, pevs Y f σ first.toList, pevs Y f σ captured.toList with
    | .func g, some as, some bs => match stors Y f [] (as ++ bs) σ with
      | some (l, σ') => some (.f g (l.take as.length) (l.drop as.length), σ')
      | none => none
    | _, _, _ => none
  | .box e x => match pev Y f σ x with
    | some v => match moved Y f v σ with
      | some (v', σ') => match refsTo σ'.hp.length v' with
        | true => some (pnewBlk (pcells v') σ')
        | false => none
      | none => none
    | none => none
  | .alloc e => match zeroOf P e with
    | some z => match pvCells z with
      | some zc => some (pnewBlk zc σ)
      | none => none
    | none => none
  | .buildSlice t n parts => match pevParts Y f σ parts.toList, shapeOf P t with
    | some (is, vs), some (.slice e sz) => match zeroOf P e, stors Y f [] vs σ with
      | some z, some (vs', σ') => match Nat.ble (n * (sz + 1)) limit24 && Nat.beq (vcells z).length sz, pvCells z with
        | true, some zc => match pfill (fun i => some (i * sz, sz)) (zipParts is vs') (reps (zc.map ownFz) n) with
          | some cs => match cs.all cellOK with
            | true => some (.l .fz .full n cs, σ')
            | false => none
          | none => none
        | _, _ => none
      | _, _ => none
    | _, _ => none
  | .makeSlice t l c => match pev Y f σ l, pev Y f σ c, shapeOf P t with
    | some (.v (.int _ (.ofNat l))), some (.v (.int _ (.ofNat c))), some (.slice e sz) => match zeroOf P e, byOf P e with
      | some z, some by_ => match Nat.ble l c && Nat.ble (c * (by_ + sz + 1)) limit && Nat.beq (vcells z).length sz, pvCells z with
        | true, some zc => some (.s σ.hp.length 0 l c, { σ with hp := σ.hp ++ [some (reps zc c)] })
        | _, _ => none
      | _, _ => none
    | _, _, _ => none
  | .store t x y => match pev Y f σ x, pev Y f σ y, szOf P t with
    | some (.p b off), some v, some n => match moved Y f v σ with
      | some (v', σ') => match Nat.beq (pcells v').length n && refsTo b v' && (pcells v').all one && mayTurn draw with
        | true => match pput b off (pcells v') σ' with
          | some σ'' => some (.dead, σ'')
          | none => none
        | false => none
      | none => none
    | _, _, _ => none
  | .call { callee := .builtin .append, args, argTypes } => match pevs Y f σ args.toList, argTypes.toList with
    | some [s, x], [t, tx] => match shapeOf P t, psrcLen x, srcFits P tx x with
      | some (.slice e sz), some n, true => match zeroOf P e, byOf P e, psrcLen s with
        | some z, some by_, some m => match Nat.beq n 0 with
          | true => match isList s with
            | true => some (s, σ)
            | false => none
          | false => match psrc sz n x σ with
            | some new => match Nat.ble ((m + n) * (by_ + sz + 1)) limit && Nat.beq (vcells z).length sz && (!(elder Y f s) || mayTurn draw) with
              | true => pgrow Y f sz s n new σ
              | false => none
            | none => none
        | _, _, _ => none
      | _, _, _ => none
    | _, _ => none
  | .call { callee := .builtin .copy, args, argTypes } => match pevs Y f σ args.toList, argTypes.toList with
    | some [d, x], [t, tx] => match shapeOf P t, psrcLen x, srcFits P tx x, d with
      | some (.slice e sz), some n, true, .s b off m cap => match Nat.beq (Nat.min n m) 0 with
        | true => some (.v (.int .i64 0), σ)
        | false => match psrc sz (Nat.min n m) x σ with
          | some cs => match pput b off cs σ with
            | some σ' => match mayTurn draw with
              | true => some (.v (.int .i64 (Nat.min n m : Nat)), σ')
              | false => none
            | none => none
          | none => none
      | _, _, _, _ => none
    | _, _ => none
  | .call { callee := .value fo, args, argTypes := _ } => pcallOp Y f call draw fo args.toList σ
  | op => match pq P Y f op σ with
    | some v => some (v, σ)
    | none => none

/-- Is it an assignment to a variable? -/
def isAssign : Op → Bool
  | .assign _ => true
  | .call _ => true
  | _ => false

def pputT (Y : Pol) (f : FuncId) (nt : Nat) (asg : Bool) (dst : Option Tmp) (v : PV) (σ : St) : Option St :=
  match dst with
  | none => some σ
  | some d => match Nat.blt d nt with
    | true => match Y.keep f d with
      | true => match v with
        | .l (.rf p) c n cs => match asg with
          | true => match take Y f p σ with
            | some σ' => some { σ' with ts := σ'.ts.set d (.l .own c n cs) }
            | none => none
          | false => match freeze Y f p σ with
            | some σ' => some { σ' with ts := σ'.ts.set d (.l .fz c n cs) }
            | none => none
        | .l (.pt _) _ _ _ => none
        | .r (.pt _) _ => none
        | v => some { σ with ts := σ.ts.set d v }
      | false => some { σ with ls := (d, v) :: σ.ls }
    | false => none

/-- Is an operation carried out? -/
def pwanted (Y : Pol) (f : FuncId) (ops : Array Oper) (o : Oper) (σ : St) : Option Bool :=
  match o.guard with
  | none => some true
  | some (j, w) => match (ops[j]?).bind (·.dst) with
    | some t => match look Y f σ t with
      | some (.v (.bool b)) => some (b == w)
      | some .un => some false
      | _ => none
    | none => none

def pskip (Y : Pol) (f : FuncId) (nt : Nat) (dst : Option Tmp) (σ : St) : Option St :=
  match dst with
  | none => some σ
  | some d => match Nat.blt d nt with
    | true => match Y.keep f d with
      | true => some { σ with ts := σ.ts.set d .un }
      | false => some { σ with ls := (d, .un) :: σ.ls }
    | false => none

def drOf (draw : Bool) (ops : Array Oper) (k n : Nat) : Dr :=
  match draw with
  | true => some ⟨ops, k, n⟩
  | false => none

def pops (P : Program) (Y : Pol) (f : FuncId) (call : PCallF) (draw : Bool) (nt : Nat) (ops : Array Oper) (n : Nat) : Nat → List Oper → St → Option St
  | _, [], σ => some { σ with ls := [] }
  | k, o :: rest, σ => match pwanted Y f ops o σ with
    | some true => match poper P Y f call (drOf draw ops k n) o.op σ with
      | some (v, σ') => match pputT Y f nt (isAssign o.op) o.dst v σ' with
        | some σ'' => pops P Y f call draw nt ops n (k + 1) rest σ''
        | none => none
      | none => none
    | some false => match pskip Y f nt o.dst σ with
      | some σ' => pops P Y f call draw nt ops n (k + 1) rest σ'
      | none => none
    | none => none

/-! ### Code -/
abbrev PCodeF := Code → St → Option (AExit × St)

def ploop (code : PCodeF) (b : Code) : Nat → St → Option (AExit × St)
  | 0, _ => none
  | n + 1, σ => match code b σ with
    | some (.normal, σ') => ploop code b n σ'
    | r => r

def pcond (Y : Pol) (f : FuncId) (σ : St) (c : Operand) : Option Bool :=
  match pev Y f σ c with
  | some (.v (.bool b)) => some b
  | _ => none

def pstep (P : Program) (Y : Pol) (f : FuncId) (nt : Nat) (call : PCallF) (n : Nat) (code : PCodeF) (c : Code) (σ : St) : Option (AExit × St) :=
  match c with
  | .skip | .label _ => some (.normal, σ)
  | .region _ ops draw => match pops P Y f call draw nt ops σ.hp.length 0 ops.toList { σ with ls := [] } with
    | some σ' => some (.normal, σ')
    | none => none
  | .seq a b => match code a σ with
    | some (.normal, σ') => code b σ'
    | r => r
  | .cond c a b => match pcond Y f σ c with
    | some true => code a σ
    | some false => code b σ
    | none => none
  | .block id b => match code b σ with
    | some (.exit j, σ') => match Nat.beq j id with
      | true => some (.normal, σ')
      | false => some (.exit j, σ')
    | r => r
  | .loop b => ploop code b n σ
  | .exit id => some (.exit id, σ)
  | .ret => some (.ret, σ)
  | _ => none

/-- What a result variable holds. -/
def presOne (P : Program) (Y : Pol) (f : FuncId) (σ : St) : ResultVar → Option (PV × St)
  | .tmp t => match pev Y f σ (.tmp t) with
    | some v => some (v, σ)
    | none => none
  | .cell a t => match pev Y f σ (.tmp a) with
    | some v => pload P t v σ
    | none => none

/-- A slice of memory of the call's own, as a list. -/
def settle (sz : TypeId → Option Nat) (base : Nat) (hp : List (Option (List PV))) (t : TypeId) : PV → Option PV
  | .s b off n cap => match Nat.ble base b with
    | true => match sz t, hp[b]? with
      | some k, some (some cs) => match Nat.ble (off + n * k) cs.length && ((cs.drop off).take (n * k)).all cellOK with
        | true => some (.l .fz .any n ((cs.drop off).take (n * k)))
        | false => none
      | _, _ => none
    | false => some (.s b off n cap)
  | v => some v

def elemSz (P : Program) (t : TypeId) : Option Nat :=
  match shapeOf P t with
  | some (.slice _ sz) => some sz
  | _ => none

/-- Several results: their lists stay for good. -/
def presM (P : Program) (Y : Pol) (f : FuncId) : List ResultVar → St → Option (List PV × St)
  | [], σ => some ([], σ)
  | r :: rs, σ => match presOne P Y f σ r with
    | some (v, σ1) => match stor Y f v σ1 with
      | some (v', σ2, _) => match presM P Y f rs σ2 with
        | some (vs, σ3) => some (v' :: vs, σ3)
        | none => none
      | none => none
    | none => none

def settles (P : Program) (base : Nat) (hp : List (Option (List PV))) : List TypeId → List PV → Option (List PV)
  | [], [] => some []
  | t :: ts, v :: vs => match settle (elemSz P) base hp t v, settles P base hp ts vs with
    | some v', some vs' => some (v' :: vs')
    | _, _ => none
  | _, _ => none

/-- May the call's own blocks go? -/
def okDrop (base : Nat) : PV → Bool
  | .p b _ => Nat.blt b base
  | .s _ _ _ _ => true
  | .l _ _ _ _ => true
  | v => noref v

/-- What a function answers, and whether its own blocks go: a list of its own that is its only result is the caller's. -/
def pres (P : Program) (Y : Pol) (f : FuncId) (base : Nat) (fn : Func) (σ : St) : Option (PV × St × Bool) :=
  match fn.results.toList, fn.resultTypes.toList with
  | [r], [t] => match presOne P Y f σ r with
    | some (v, σ1) => match moved Y f v σ1 with
      | some (v', σ2) => match okDrop base v' with
        | true => match settle (elemSz P) base σ2.hp t v' with
          | some u => some (u, σ2, true)
          | none => none
        | false => some (v', σ2, false)
      | none => none
    | none => none
  | rs, ts => match Nat.beq rs.length 1 with
    | true => none
    | false => match presM P Y f rs σ with
      | some (vs, σ1) => match vs.all (okDrop base) with
        | true => match settles P base σ1.hp ts vs with
          | some us => some (.t us, σ1, true)
          | none => none
        | false => some (.t vs, σ1, false)
      | none => none

def lowOf (base : Nat) : Option Nat → Option Nat
  | none => none
  | some w => match Nat.blt w base with
    | true => some w
    | false => none
/-- A list is the caller's only if nothing was turned. -/
def given (w : Option Nat) (v : PV) : PV :=
  match w with
  | none => v
  | some _ => ownFz v
def dropB (base : Nat) (drop : Bool) (hp : List (Option (List PV))) : List (Option (List PV)) :=
  match drop with
  | true => hp.take base
  | false => hp
def pclose (base : Nat) (drop : Bool) (v : PV) (σ : St) : PV × List (Option (List PV)) × Option Nat :=
  (given (lowOf base σ.wl) v, dropB base drop σ.hp, lowOf base σ.wl)

def pinit : Nat → List PV → Tr PV → Tr PV
  | _, [], t => t
  | k, v :: vs, t => pinit (k + 1) vs (t.set k v)

/-- All parameters are kept. -/
def keepsTo (Y : Pol) (f : FuncId) : Nat → Bool
  | 0 => true
  | n + 1 => Y.keep f n && keepsTo Y f n

def pcall (P : Program) (Y : Pol) (code : FuncId → Nat → PCodeF) : PCallF := fun f args hp =>
  match bodyOf P f with
  | some (fn, c) => match Nat.ble args.length fn.ntmps && keepsTo Y f args.length with
    | true => match code f fn.ntmps c ⟨[], pinit 0 args .nil, hp, none⟩ with
      | some (.normal, σ) | some (.ret, σ) => match pres P Y f hp.length fn σ with
        | some (v, σ', drop) => some (pclose hp.length drop v σ')
        | none => none
      | _ => none
    | false => none
  | none => none

def pcode (P : Program) (Y : Pol) : Nat → FuncId → Nat → PCodeF
  | 0 => fun _ _ _ _ => none
  | n + 1 => fun f nt => pstep P Y f nt (pcall P Y (pcode P Y n)) n (pcode P Y n f nt)

/-- A call, with that much fuel. -/
def purRun (P : Program) (Y : Pol) (n : Nat) : PCallF := pcall P Y (pcode P Y n)

end Go.Pur
