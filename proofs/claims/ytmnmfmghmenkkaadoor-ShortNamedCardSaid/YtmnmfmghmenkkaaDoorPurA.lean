/-
  A PURE EVALUATOR over the abstract one: lists are values,a list that append has made has one owner; memory that is written is a list of blocks,and a function's own blocks go when it returns.
  The pure evaluator's values and blocks against the abstract heap.
  Operations that leave the state alone: what the pure evaluator says of them,the abstract one does.
  Operations that leave the state alone,one by one.
  Lists that are owned: they stay for good from now on,or they are taken along.
  Values that are stored inside of others,arguments,loads.
  Rows and lists that are built of parts; operations of kind 0 that store values.
  Operations that make a block.
  Conditions: none; definitions and lemmas.
-/
import Derived.Test.YtmnmfmghmenkkaaDoorAbsB
set_option linter.unusedSimpArgs false
set_option linter.unusedVariables false
set_option linter.unusedSectionVars false
namespace Go.Pur
open Go.Abs
inductive Pl where
  | tmp (t : Nat)
  | cell (b i : Nat)
inductive Vl where
  | fz
  | bor
  | own
  | rf (p : Pl)
  | pt (p : Pl)
inductive Ck where
  | full
  | nz
  | any
inductive PV where
  | v (x : Value)
  | l (k : Vl) (c : Ck) (n : Nat) (cs : List PV)
  | a (cs : List PV)
  | t (cs : List PV)
  | r (k : Vl) (cs : List PV)
  | p (b off : Nat)
  | s (b off n cap : Nat)
  | f (fn : FuncId) (first captured : List PV)
  | i (ty : TypeId) (x : PV)
  | it (s : ByteArray) (pos : Nat)
  | m (k : Vl) (es : List MapEntry) (c : Nat)
  | un
  | dead
structure Pol where
  keep : FuncId → Nat → Bool
  glob : List (List PV)
  how : FuncId → FuncId → List (Bool × Nat) := fun _ _ => []
  part : FuncId → List (Bool × Nat) := fun _ => []
  mv : FuncId → Nat → Bool := fun _ _ => false
  fzm : FuncId → Nat → Bool := fun _ _ => false
  yes : FuncId → Bool := fun _ => false
  ext : FuncId → List PV → List (Option (List PV)) → Option (PV × List (Option (List PV)) × Option Nat) := fun _ _ _ => none
structure St where
  ls : List (Nat × PV)
  ts : Tr PV
  hp : List (Option (List PV))
  wl : Option Nat
def plEq : Pl → Pl → Bool
  | .tmp a,.tmp b => Nat.beq a b
  | .cell a i,.cell b j => Nat.beq a b && Nat.beq i j
  | _,_ => false
def szOf (P : Program) (t : TypeId) : Option Nat :=
  match P.info? t with
  | some i => some i.size
  | none => none
def byOf (P : Program) (t : TypeId) : Option Nat :=
  match P.info? t with
  | some i => some i.bytes
  | none => none
def zeroOf (P : Program) (t : TypeId) : Option Value :=
  match P.info? t with
  | some i => match i.zero with
    | some z => match plainV z with
      | true => some z
      | false => none
    | none => none
  | none => none
inductive Shape where
  | slice (e : TypeId) (sz : Nat)
  | array (n : Nat) (e : TypeId) (sz : Nat)
  | string
def shapeOf (P : Program) (t : TypeId) : Option Shape :=
  match P.underlying t with
  | some (.slice e) => match P.info? e with
    | some i => some (.slice e i.size)
    | none => none
  | some (.array n e) => match P.info? e with
    | some i => some (.array n e i.size)
    | none => none
  | some .string => some .string
  | _ => none
def fieldOf (P : Program) (s : TypeId) (f : Nat) : Option (TypeId × Nat × Nat) :=
  match P.underlying s with
  | some (.struct fields) => match fields[f]? with
    | some fd => match P.info? fd.type with
      | some i => some (fd.type,fd.offset,i.size)
      | none => none
    | none => none
  | _ => none
def lget : List (Nat × PV) → Nat → Option PV
  | [],_ => none
  | (k,v) :: l,t => match Nat.beq k t with
    | true => some v
    | false => lget l t
def look (Y : Pol) (f : FuncId) (σ : St) (t : Nat) : Option PV :=
  match Y.keep f t with
  | true => σ.ts.get t
  | false => lget σ.ls t
def rdv (p : Pl) : PV → Option PV
  | .l .own c n cs => some (.l (.rf p) c n cs)
  | .m .own es c => some (.m (.rf p) es c)
  | .dead | .un => none
  | .it _ _ => none
  | v => some v
def pvOf : Value → Option PV
  | .slice none n c => match n,c with
    | 0,0 => some (.l .own .nz 0 [])
    | _,_ => none
  | x => match plain x with
    | true => some (.v x)
    | false => none
def pev (Y : Pol) (f : FuncId) (σ : St) : Operand → Option PV
  | .tmp t => match look Y f σ t with
    | some v => rdv (.tmp t) v
    | none => none
  | .const x => pvOf x
  | .global g => match Y.glob[g]? with
    | some cs => some (.r .fz cs)
    | none => none
  | .func g => some (.f g [] [])
def evSafe : Operand → Bool
  | .tmp _ => true
  | .const x => plain x
  | .func _ => true
  | .global _ => false
def pevs (Y : Pol) (f : FuncId) (σ : St) : List Operand → Option (List PV)
  | [] => some []
  | x :: xs => match pev Y f σ x with
    | some v => match pevs Y f σ xs with
      | some vs => some (v :: vs)
      | none => none
    | none => none
def getPl (Y : Pol) (f : FuncId) (σ : St) : Pl → Option PV
  | .tmp t => look Y f σ t
  | .cell b i => match σ.hp[b]? with
    | some (some cs) => cs[i]?
    | _ => none
def setPl (Y : Pol) (f : FuncId) (v : PV) (σ : St) : Pl → St
  | .tmp t => match Y.keep f t with
    | true => { σ with ts := σ.ts.set t v }
    | false => { σ with ls := (t,v) :: σ.ls }
  | .cell b i => match σ.hp[b]? with
    | some (some cs) => { σ with hp := σ.hp.set b (some (cs.set i v)) }
    | _ => σ
def frzS (S : Pl → Bool) : PV → PV
  | .l (.rf q) c n cs => match S q with
    | true => .l .fz c n cs
    | false => .l (.rf q) c n cs
  | .l (.pt q) c n cs => match S q with
    | true => .l .fz c n cs
    | false => .l (.pt q) c n cs
  | .r (.pt q) cs => match S q with
    | true => .r .fz cs
    | false => .r (.pt q) cs
  | .m (.rf q) es c => match S q with
    | true => .m .fz es c
    | false => .m (.rf q) es c
  | .m (.pt q) es c => match S q with
    | true => .m .fz es c
    | false => .m (.pt q) es c
  | v => v
def frzV (p : Pl) : PV → PV := frzS fun q => plEq q p
def killV (p : Pl) : PV → PV
  | .l (.rf q) c n cs => match plEq q p with
    | true => .dead
    | false => .l (.rf q) c n cs
  | .l (.pt q) c n cs => match plEq q p with
    | true => .dead
    | false => .l (.pt q) c n cs
  | .r (.pt q) cs => match plEq q p with
    | true => .dead
    | false => .r (.pt q) cs
  | .m (.rf q) es c => match plEq q p with
    | true => .dead
    | false => .m (.rf q) es c
  | .m (.pt q) es c => match plEq q p with
    | true => .dead
    | false => .m (.pt q) es c
  | v => v
def killCell : PV → PV
  | .l (.rf (.cell _ _)) _ _ _ => .dead
  | .l (.pt (.cell _ _)) _ _ _ => .dead
  | .r (.pt (.cell _ _)) _ => .dead
  | .m (.rf (.cell _ _)) _ _ => .dead
  | .m (.pt (.cell _ _)) _ _ => .dead
  | v => v
def firm : PV → Bool
  | .l .fz _ _ _ => true
  | .l _ _ _ _ => false
  | .r .fz _ => true
  | .r _ _ => false
  | .m .fz _ _ => true
  | .m _ _ _ => false
  | .dead => false
  | .un => false
  | .it _ _ => false
  | .t _ => false
  | _ => true
def mapL (g : PV → PV) : List (Nat × PV) → List (Nat × PV)
  | [] => []
  | (k,v) :: l => (k,g v) :: mapL g l
def fzOf : PV → Option PV
  | .l .own c n cs => some (.l .fz c n cs)
  | .m .own es c => some (.m .fz es c)
  | _ => none
def takable : PV → Bool
  | .l .own _ _ _ => true
  | .m .own _ _ => true
  | _ => false
def freeze (Y : Pol) (f : FuncId) (p : Pl) (σ : St) : Option St :=
  match getPl Y f σ p with
  | some v => match fzOf v with
    | some u => some (setPl Y f u { σ with ls := mapL (frzV p) σ.ls } p)
    | none => none
  | none => none
def lowB (w : Option Nat) (b : Nat) : Option Nat :=
  match w with
  | none => some b
  | some a => some (Nat.min a b)
def lowP (w : Option Nat) : Pl → Option Nat
  | .tmp _ => w
  | .cell b _ => lowB w b
def take (Y : Pol) (f : FuncId) (p : Pl) (σ : St) : Option St :=
  match getPl Y f σ p with
  | some v => match takable v with
    | true => some (setPl Y f .dead { σ with ls := mapL (killV p) σ.ls,wl := lowP σ.wl p } p)
    | false => none
  | none => none
def stor (Y : Pol) (f : FuncId) (v : PV) (σ : St) : Option (PV × St × Option Pl) :=
  match v with
  | .l (.rf p) c n cs => match freeze Y f p σ with
    | some σ' => some (.l .fz c n cs,σ',some p)
    | none => none
  | .l .own c n cs => match n,cs with
    | 0,[] => some (.l .fz c 0 [],σ,none)
    | _,_ => none
  | .l .fz c n cs => some (.l .fz c n cs,σ,none)
  | .m (.rf p) es c => match freeze Y f p σ with
    | some σ' => some (.m .fz es c,σ',some p)
    | none => none
  | .m .fz es c => some (.m .fz es c,σ,none)
  | .v x => some (.v x,σ,none)
  | .a cs => some (.a cs,σ,none)
  | .p b o => some (.p b o,σ,none)
  | .s b o n c => some (.s b o n c,σ,none)
  | .f g as bs => some (.f g as bs,σ,none)
  | .i t x => some (.i t x,σ,none)
  | .r .fz cs => some (.r .fz cs,σ,none)
  | _ => none
def frzs : List Pl → PV → PV
  | [],v => v
  | p :: ps,v => frzV p (frzs ps v)
def addP : Option Pl → List Pl → List Pl
  | none,ps => ps
  | some p,ps => p :: ps
def stors (Y : Pol) (f : FuncId) : List Pl → List PV → St → Option (List PV × St)
  | _,[],σ => some ([],σ)
  | ps,v :: vs,σ => match stor Y f (frzs ps v) σ with
    | some (v',σ',o) => match stors Y f (addP o ps) vs σ' with
      | some (vs',σ'') => some (v' :: vs',σ'')
      | none => none
    | none => none
def one : PV → Bool
  | .a _ => false
  | .t _ => false
  | .dead => false
  | .un => false
  | .it _ _ => false
  | _ => true
def noref : PV → Bool
  | .v _ => true
  | .l .fz _ _ _ => true
  | .m .fz _ _ => true
  | .a cs => norefs cs
  | .i _ x => noref x
  | .f _ as bs => norefs as && norefs bs
  | _ => false
where norefs : List PV → Bool
  | [] => true
  | c :: cs => noref c && norefs cs
def cellOK (v : PV) : Bool := one v && noref v
def takeP : Nat → List PV → Option (List PV)
  | 0,_ => some []
  | _ + 1,[] => none
  | n + 1,x :: l => match takeP n l with
    | some r => some (x :: r)
    | none => none
def pcells : PV → List PV
  | .a cs => cs
  | v => [v]
def ownFz : PV → PV
  | .l .own c n cs => .l .fz c n cs
  | .m .own es c => .m .fz es c
  | v => v
def isOwn : PV → Bool
  | .l .own _ _ _ => true
  | .m .own _ _ => true
  | .it _ _ => true
  | _ => false
def pvCells (z : Value) : Option (List PV) :=
  go (vcells z)
where go : List Value → Option (List PV)
  | [] => some []
  | x :: l => match pvOf x,go l with
    | some v,some r => some (v :: r)
    | _,_ => none
def notOwn : Vl → Bool
  | .own => false
  | _ => true
def prt : Vl → Vl
  | .rf p => .pt p
  | k => k
def capK : Bool → Ck
  | true => .full
  | false => .any
def slCk (mx : Option Value) (c : Ck) (n h m : Nat) : Option Ck :=
  match mx,c with
  | none,.full => some (capK (Nat.beq h n))
  | none,_ => some .any
  | some _,.any => match Nat.blt 0 n with
    | true => some (capK (Nat.beq m h))
    | false => none
  | some _,_ => some (capK (Nat.beq m h))
def pslice (sz : Nat) (k : Vl) (c : Ck) (n : Nat) (cs : List PV) (lo hi mx : Option Value) : Option PV :=
  match natOfO 0 n n mx with
  | some m => match natOfO 0 m n hi with
    | some h => match natOfO 0 h 0 lo with
      | some l => match Nat.ble h m && hiOk hi mx && notOwn k && Nat.ble (h * sz) cs.length with
        | true => match slCk mx c n h m with
          | some c' => some (.l (prt k) c' (h - l) ((cs.drop (l * sz)).take ((h - l) * sz)))
          | none => none
        | false => none
      | none => none
    | none => none
  | none => none
def optPlain (Y : Pol) (f : FuncId) (σ : St) : Option Operand → Option (Option Value)
  | none => some none
  | some x => match pev Y f σ x with
    | some (.v x) => some (some x)
    | _ => none
def toPlain : PV → Option Value
  | .v x => some x
  | .a cs => match go cs with
    | some l => some (.agg l.toArray)
    | none => none
  | _ => none
where go : List PV → Option (List Value)
  | [] => some []
  | .v x :: l => match go l with
    | some r => some (x :: r)
    | none => none
  | _ :: _ => none
def pnil (P : Program) (op : BinOp) (t : TypeId) (a b : PV) : Option PV :=
  match (match P.underlying t,a,b with
    | some (.pointer _),.p _ _,.v (.pointer none) | some (.pointer _),.v (.pointer none),.p _ _ => true
    | some (.pointer _),.r _ _,.v (.pointer none) | some (.pointer _),.v (.pointer none),.r _ _ => true
    | some (.interface _),.i _ _,.v .nilIface | some (.interface _),.v .nilIface,.i _ _ => true
    | some (.func _ _ _),.f _ _ _,.v .nilFunc | some (.func _ _ _),.v .nilFunc,.f _ _ _ => true
    | _,_,_ => false),op with
  | true,.eql => some (.v (.bool false))
  | true,.neq => some (.v (.bool true))
  | _,_ => none
def isNil : Ck → Nat → Option Bool
  | .nz,n => some (Nat.beq n 0)
  | _,n => match Nat.blt 0 n with
    | true => some false
    | false => none
def plnil (P : Program) (op : BinOp) (t : TypeId) (c : Ck) (n : Nat) : Option PV :=
  match P.underlying t,isNil c n with
  | some (.slice _),some b => match op with
    | .eql => some (.v (.bool b))
    | .neq => some (.v (.bool (!b)))
    | _ => none
  | _,_ => none
def pbin (P : Program) (op : BinOp) (t : TypeId) (x y : Operand) (a b : PV) : Option PV :=
  match a,b with
  | .v a,.v b => match abin P op t x y a b with
    | some r => pvOf r
    | none => none
  | .l _ c n _,.l .own .nz 0 [] => plnil P op t c n
  | a,b => match toPlain a,toPlain b with
    | some a,some b => match abin P op t x y a b with
      | some r => pvOf r
      | none => none
    | _,_ => pnil P op t a b
def ppart (P : Program) (t : TypeId) (cs : List PV) (off : Nat) : Option PV :=
  match isRowT P t with
  | some true => match szOf P t with
    | some n => match takeP n (cs.drop off) with
      | some r => some (.a r)
      | none => none
    | none => none
  | some false => cs[off]?
  | none => none
def idxAddr (P : Program) (t : TypeId) (x : PV) (i : Value) : Option PV :=
  match x,shapeOf P t with
  | .l k c n cs,some (.slice _ sz) => match intIn n i with
    | some j => match notOwn k && Nat.ble ((j + 1) * sz) cs.length with
      | true => some (.r (prt k) (cs.drop (j * sz)))
      | false => none
    | none => none
  | .s b off n cap,some (.slice _ sz) => match intIn n i with
    | some j => some (.p b (off + j * sz))
    | none => none
  | .r k cs,some (.array n _ sz) => match intIn n i with
    | some j => match Nat.ble ((j + 1) * sz) cs.length with
      | true => some (.r k (cs.drop (j * sz)))
      | false => none
    | none => none
  | .p b off,some (.array n _ sz) => match intIn n i with
    | some j => some (.p b (off + j * sz))
    | none => none
  | _,_ => none
def pqIndex (P : Program) (t : TypeId) (x : PV) (i : Value) : Option PV :=
  match x,shapeOf P t with
  | .a cs,some (.array n e sz) => match intIn n i with
    | some j => ppart P e cs (j * sz)
    | none => none
  | .v (.string s),some .string => match prunP P (Instr.index t (.string s) i) with
    | some r => pvOf r
    | none => none
  | _,_ => none
def fldAddr (P : Program) (s : TypeId) (x : PV) (fd : Nat) : Option PV :=
  match fieldOf P s fd with
  | some (_,off,sz) => match Nat.beq sz 0 with
    | true => none
    | false => match x with
      | .p b o => some (.p b (o + off))
      | .r k cs => match Nat.ble (off + sz) cs.length with
        | true => some (.r k (cs.drop off))
        | false => none
      | _ => none
  | none => none
def pfield (P : Program) (s : TypeId) (x : PV) (fd : Nat) : Option PV :=
  match x,fieldOf P s fd with
  | .a cs,some (ty,off,_) => ppart P ty cs off
  | _,_ => none
def pqSlice (P : Program) (t : TypeId) (x : PV) (lo hi mx : Option Value) : Option PV :=
  match x,shapeOf P t with
  | .l k c n cs,some (.slice _ sz) => pslice sz k c n cs lo hi mx
  | .s b off n cap,some (.slice _ sz) => match Nat.blt cap unkCap,aslice sz (some ⟨b,off,none⟩) n cap lo hi mx with
    | true,some (.slice (some a) n' c') => match Nat.blt c' roCap with
      | true => some (.s a.block a.off n' c')
      | false => none
    | _,_ => none
  | .p b off,some (.array n _ sz) => match Nat.blt n unkCap with
    | true => match aslice sz (some ⟨b,off,none⟩) n n lo hi mx with
      | some (.slice (some a) n' c') => some (.s a.block a.off n' c')
      | _ => none
    | false => none
  | .v (.string s),some .string => match mx with
    | none => match prunP P (Instr.slice t (.string s) lo hi none) with
      | some r => pvOf r
      | none => none
    | some _ => none
  | _,_ => none
def plen (P : Program) (t : TypeId) (x : PV) : Option PV :=
  match x,shapeOf P t with
  | .l _ _ n _,some (.slice _ _) => some (.v (goInt n))
  | .s _ _ n _,some (.slice _ _) => some (.v (goInt n))
  | .v (.string s),some .string => some (.v (goInt s.size))
  | _,some (.array n _ _) => some (.v (goInt n))
  | _,_ => none
def pplains : List PV → Option (List Value)
  | [] => some []
  | .v x :: l => match pplains l with
    | some r => some (x :: r)
    | none => none
  | _ :: _ => none
def pq (P : Program) (Y : Pol) (f : FuncId) (op : Op) (σ : St) : Option PV :=
  match op with
  | .move x | .assign x => pev Y f σ x
  | .pick c x y => match pev Y f σ c with
    | some (.v (.bool true)) => match evSafe y with
      | true => pev Y f σ x
      | false => none
    | some (.v (.bool false)) => match evSafe x with
      | true => pev Y f σ y
      | false => none
    | _ => none
  | .nilCheck x => match pev Y f σ x with
    | some (.p b o) => some (.p b o)
    | some (.r k cs) => some (.r k cs)
    | some (.f g as bs) => some (.f g as bs)
    | _ => none
  | .binOp op t x y _ => match pev Y f σ x,pev Y f σ y with
    | some a,some b => pbin P op t x y a b
    | _,_ => none
  | .unOp op _ x => match pev Y f σ x with
    | some (.v a) => match prunP P (Op.unary op a) with
      | some r => pvOf r
      | none => none
    | _ => none
  | .convert src dst x => match pev Y f σ x with
    | some (.v a) => match prunP P (convert src dst a) with
      | some r => pvOf r
      | none => none
    | _ => none
  | .slice t x lo hi mx => match pev Y f σ x,optPlain Y f σ lo,optPlain Y f σ hi,optPlain Y f σ mx with
    | some v,some l,some h,some m => pqSlice P t v l h m
    | _,_,_,_ => none
  | .fieldAddr s x fd => match pev Y f σ x with
    | some v => fldAddr P s v fd
    | none => none
  | .field s x fd => match pev Y f σ x with
    | some v => pfield P s v fd
    | none => none
  | .indexAddr t x ix => match pev Y f σ x,pev Y f σ ix with
    | some v,some (.v i) => idxAddr P t v i
    | _,_ => none
  | .index t x ix => match pev Y f σ x,pev Y f σ ix with
    | some v,some (.v i) => pqIndex P t v i
    | _,_ => none
  | .extract x ix => match pev Y f σ x with
    | some (.t cs) => cs[ix]?
    | _ => none
  | .call { callee := .builtin .len,args,argTypes } => match args.toList,argTypes[0]? with
    | [x],some t => match pev Y f σ x with
      | some v => plen P t v
      | none => none
    | _,_ => none
  | .call { callee := .builtin .max,args,argTypes } => match pevs Y f σ args.toList with
    | some vs => match pplains vs with
      | some xs => match prunP P (Builtin.max_ argTypes 0 xs.toArray) with
        | some r => pvOf r
        | none => none
      | none => none
    | none => none
  | .call { callee := .builtin .min,args,argTypes } => match pevs Y f σ args.toList with
    | some vs => match pplains vs with
      | some xs => match prunP P (Builtin.min_ argTypes 0 xs.toArray) with
        | some r => pvOf r
        | none => none
      | none => none
    | none => none
  | _ => none
def atB (b : Nat) : Pl → Bool
  | .cell b' _ => Nat.beq b' b
  | .tmp _ => false
def pload (P : Program) (t : TypeId) (x : PV) (σ : St) : Option (PV × St) :=
  match x with
  | .r _ cs => match ppart P t cs 0 with
    | some v => some (v,σ)
    | none => none
  | .p b off => match σ.hp[b]? with
    | some (some cs) => match isRowT P t with
      | some true => match szOf P t with
        | some n => match takeP n (cs.drop off) with
          | some r => match r.any isOwn with
            | true => some (.a (r.map ownFz),{ σ with hp := σ.hp.set b (some (cs.map ownFz)),ls := mapL (frzS (atB b)) σ.ls })
            | false => some (.a r,σ)
          | none => none
        | none => none
      | some false => match cs[off]? with
        | some v => match rdv (.cell b off) v with
          | some v' => some (v',σ)
          | none => none
        | none => none
      | none => none
    | _ => none
  | _ => none
def pfill (at_ : Nat → Option (Nat × Nat)) : List (Nat × PV) → List PV → Option (List PV)
  | [],cs => some cs
  | (i,v) :: r,cs => match at_ i with
    | some (off,n) => match Nat.beq (pcells v).length n && Nat.ble (off + n) cs.length with
      | true => pfill at_ r (cs.take off ++ pcells v ++ cs.drop (off + n))
      | false => none
    | none => none
inductive Parts where
  | rows (l : List (Nat × Nat))
  | arr (sz : Nat)
def partsOf (P : Program) (t : TypeId) : Option Parts :=
  match P.underlying t with
  | some (.array _ e) => match szOf P e with
    | some sz => some (.arr sz)
    | none => none
  | some (.struct fields) => match fields.toList.mapM (fun f => (P.info? f.type).map fun i => (f.offset,i.size)) with
    | some l => some (.rows l)
    | none => none
  | _ => none
def partAt : Parts → Nat → Option (Nat × Nat)
  | .rows l,i => l[i]?
  | .arr sz,i => some (i * sz,sz)
def pevParts (Y : Pol) (f : FuncId) (σ : St) : List (Nat × Operand) → Option (List Nat × List PV)
  | [] => some ([],[])
  | (i,x) :: xs => match pev Y f σ x,pevParts Y f σ xs with
    | some v,some (is,vs) => some (i :: is,v :: vs)
    | _,_ => none
def zipParts : List Nat → List PV → List (Nat × PV)
  | i :: is,v :: vs => (i,v) :: zipParts is vs
  | _,_ => []
def reps (z : List PV) : Nat → List PV
  | 0 => []
  | n + 1 => z ++ reps z n
def psrc (sz n : Nat) (x : PV) (σ : St) : Option (List PV) :=
  match x with
  | .l _ _ _ cs => takeP (n * sz) cs
  | .s b off _ _ => match σ.hp[b]? with
    | some (some cs) => match takeP (n * sz) (cs.drop off) with
      | some r => match r.all cellOK with
        | true => some r
        | false => none
      | none => none
    | _ => none
  | .v (.string s) => match Nat.beq n s.size && Nat.beq sz 1 with
    | true => some (s.data.toList.map fun b => .v (.int .u8 b.toNat))
    | false => none
  | _ => none
def srcFits (P : Program) (tx : TypeId) (x : PV) : Bool :=
  match x,shapeOf P tx with
  | .l _ _ _ _,some (.slice _ _) | .s _ _ _ _,some (.slice _ _) | .v _,some .string => true
  | _,_ => false
def psrcLen : PV → Option Nat
  | .l _ _ n _ => some n
  | .s _ _ n _ => some n
  | .v (.string s) => some s.size
  | _ => none
def spliceP (off : Nat) (vs cs : List PV) : Option (List PV) :=
  match Nat.ble (off + vs.length) cs.length with
  | true => some (cs.take off ++ vs ++ cs.drop (off + vs.length))
  | false => none
def refsTo (b : Nat) : PV → Bool
  | .v _ => true
  | .l _ _ _ _ => true
  | .p b' _ => Nat.ble b' b
  | .s b' _ _ _ => Nat.ble b' b
  | .a cs => go b cs
  | .i _ x => refsTo b x
  | .f _ as bs => go b as && go b bs
  | .m _ _ _ => true
  | .dead => true
  | .un => true
  | _ => false
where go (b : Nat) : List PV → Bool
  | [] => true
  | c :: cs => refsTo b c && go b cs
def pput (b off : Nat) (vs : List PV) (σ : St) : Option St :=
  match σ.hp[b]? with
  | some (some cs) => match spliceP off vs cs with
    | some cs' => some { σ with hp := σ.hp.set b (some cs'),wl := lowB σ.wl b }
    | none => none
  | _ => none
def pgrow (Y : Pol) (f : FuncId) (sz : Nat) (s : PV) (n : Nat) (new : List PV) (σ : St) : Option (PV × St) :=
  match s with
  | .l .own _ 0 [] => some (.l .own .nz n new,σ)
  | .l (.rf p) c m cs => match Nat.beq cs.length (m * sz),take Y f p σ with
    | true,some σ' => some (.l .own .nz (m + n) (cs ++ new),σ')
    | _,_ => none
  | .l _ .full m cs => match Nat.beq cs.length (m * sz) with
    | true => some (.l .own .nz (m + n) (cs ++ new),σ)
    | false => none
  | .s b off m cap => match Nat.blt cap unkCap && Nat.ble (m + n) cap with
    | true => match pput b (off + m * sz) new σ with
      | some σ' => some (.s b off (m + n) cap,σ')
      | none => none
    | false => none
  | _ => none
def isList : PV → Bool
  | .l _ _ _ _ => true
  | .s _ _ _ _ => true
  | _ => false
abbrev PCallF := FuncId → List PV → List (Option (List PV)) → Option (PV × List (Option (List PV)) × Option Nat)
def argv (Y : Pol) (f : FuncId) (v : PV) (σ : St) : Option (PV × St × Option Pl) :=
  match v with
  | .l (.rf (.tmp t)) c n cs => match Y.keep f t with
    | true => some (.l .bor c n cs,σ,none)
    | false => stor Y f (.l (.rf (.tmp t)) c n cs) σ
  | .l (.pt (.tmp _)) c n cs => some (.l .bor c n cs,σ,none)
  | .l .bor c n cs => some (.l .bor c n cs,σ,none)
  | .r (.pt (.tmp _)) cs => some (.r .bor cs,σ,none)
  | .r .bor cs => some (.r .bor cs,σ,none)
  | .m (.rf (.tmp t)) es c => match Y.keep f t with
    | true => some (.m .bor es c,σ,none)
    | false => stor Y f (.m (.rf (.tmp t)) es c) σ
  | .m .bor es c => some (.m .bor es c,σ,none)
  | v => stor Y f v σ
def argvs (Y : Pol) (f : FuncId) : List Pl → List PV → St → Option (List PV × St)
  | _,[],σ => some ([],σ)
  | ps,v :: vs,σ => match argv Y f (frzs ps v) σ with
    | some (v',σ',o) => match argvs Y f (addP o ps) vs σ' with
      | some (vs',σ'') => some (v' :: vs',σ'')
      | none => none
    | none => none
def unset (Y : Pol) (f : FuncId) (p : Pl) (n : Nat) (cs : List PV) (σ : St) : Option (PV × St) :=
  match take Y f p σ with
  | some σ' => some (.s σ'.hp.length 0 n unkCap,{ σ' with hp := σ'.hp ++ [some cs] })
  | none => none
def klV (p : Pl) (v : PV) : PV := match isOwn v with
  | true => .dead
  | false => killV p v
def blkArg (Y : Pol) (f : FuncId) (i : Nat) (vs : List PV) (σ : St) : Option (List PV × St) :=
  match vs[i]? with
  | some (.l (.rf p) _ n cs) => match Nat.beq n 0 with
    | true => some (vs,σ)
    | false => match unset Y f p n cs σ with
      | some (v,σ') => some ((vs.map (klV p)).set i v,σ')
      | none => none
  | _ => some (vs,σ)
def findU : List PV → Option (Nat × Nat)
  | [] => none
  | v :: l => match v with
    | .s b o n c => match Nat.beq o 0 && Nat.beq c unkCap with
      | true => some (b,n)
      | false => findU l
    | _ => findU l
def stlV (b n : Nat) (cs : List PV) (v : PV) : PV :=
  match v with
  | .s b' o n' c => match Nat.beq b' b && Nat.beq o 0 && Nat.beq n' n && Nat.beq c unkCap with
    | true => .l .fz .any n cs
    | false => .s b' o n' c
  | v => v
def stlA (b n : Nat) (cs : List PV) (v : PV) : PV :=
  match v with
  | .a l => .a (l.map (stlV b n cs))
  | v => stlV b n cs v
def stlB (b n : Nat) (cs : List PV) (hp : List (Option (List PV))) : List (Option (List PV)) :=
  hp.take b ++ none :: (hp.drop (b + 1)).map fun o => match o with
    | some l => some (l.map (stlV b n cs))
    | none => none
def fzArg (i : Nat) (vs : List PV) (σ : St) : Option (List PV × St) :=
  match vs[i]? with
  | some v => match findU (pcells v) with
    | some (b,n) => match σ.hp[b]? with
      | some (some cs) => match cs.all cellOK with
        | true => some (vs.set i (stlA b n cs v),{ σ with hp := stlB b n cs σ.hp })
        | false => none
      | _ => none
    | none => some (vs,σ)
  | none => some (vs,σ)
def hows (Y : Pol) (f : FuncId) : List (Bool × Nat) → List PV → St → Option (List PV × St)
  | [],vs,σ => some (vs,σ)
  | (true,i) :: l,vs,σ => match blkArg Y f i vs σ with
    | some (vs',σ') => hows Y f l vs' σ'
    | none => none
  | (false,i) :: l,vs,σ => match fzArg i vs σ with
    | some (vs',σ') => hows Y f l vs' σ'
    | none => none
def ordAll (ops : Array Oper) (q : Nat) : Bool :=
  ops.toList.zipIdx.all fun (o,i) => Nat.beq i q || ordered ops i q || !(match o.op with
    | .load _ _ => true
    | op => Nat.beq (kindOf op) 1)
structure DrawAt where
  ops : Array Oper
  q : Nat
  n : Nat
abbrev Dr := Option DrawAt
def mayTurn : Dr → Bool
  | none => true
  | some a => ordAll a.ops a.q
def stays (ops : Array Oper) (i q t : Nat) : Bool :=
  ops.toList.zipIdx.all fun (o,j) => Nat.blt j i || Nat.ble q j || (match o.dst with
    | some d => !(Nat.beq d t)
    | none => true)
def apartP (b : Nat) : PV → Bool
  | .p b' _ => !(Nat.beq b' b)
  | .r _ _ => true
  | _ => false
def mayStore (Y : Pol) (f : FuncId) (σ : St) (b : Nat) : Dr → Bool
  | none => true
  | some a => a.ops.toList.zipIdx.all fun (o,i) => Nat.beq i a.q || ordered a.ops i a.q || (match o.op with
      | .load _ (.tmp t) => Nat.blt i a.q && stays a.ops i a.q t && (match pev Y f σ (.tmp t) with
        | some v => apartP b v
        | none => false)
      | .load _ _ => false
      | op => !(Nat.beq (kindOf op) 1) || Nat.blt b a.n)
def noMaker (ops : Array Oper) (q : Nat) : Bool :=
  ops.toList.zipIdx.all fun (o,i) => Nat.ble q i || Nat.beq (kindOf o.op) 0
def mayLoad (dr : Dr) (v : PV) : Bool :=
  match dr with
  | none => true
  | some a => match v with
    | .p b _ => Nat.blt b a.n
    | _ => noMaker a.ops a.q
def freeDr : Dr → Bool
  | none => false
  | some a => match a.ops[a.q]? with
    | some o => freeRd a.ops a.q o
    | none => false
def elder (Y : Pol) (f : FuncId) : PV → Bool
  | .l (.rf (.tmp t)) _ _ _ => Y.keep f t
  | .l (.rf (.cell _ _)) _ _ _ => true
  | .s _ _ _ _ => true
  | _ => false
def pcallIn (Y : Pol) (f : FuncId) (call : PCallF) (draw : Dr) (g : FuncId) (first captured vs : List PV) (σ : St) : Option (PV × St) :=
  match argvs Y f [] vs σ with
  | some (vs',σ') => match (first ++ captured).all firm,call g (first ++ vs' ++ captured) σ'.hp with
    | true,some (r,hp',w) => match w with
      | none => some (r,{ σ' with ls := mapL killCell σ'.ls,hp := hp' })
      | some b => match mayTurn draw with
        | true => some (r,{ σ' with ls := mapL killCell σ'.ls,hp := hp',wl := lowB σ'.wl b })
        | false => none
    | _,_ => none
  | none => none
def pcallOp (Y : Pol) (f : FuncId) (call : PCallF) (draw : Dr) (fo : Operand) (args : List Operand) (σ : St) : Option (PV × St) :=
  match pev Y f σ fo,pevs Y f σ args with
  | some (.f g first captured),some vs => match hows Y f (Y.how f g) vs σ with
    | some (vs',σ') => pcallIn Y f call draw g first captured vs' σ'
    | none => none
  | _,_ => none
def pnewBlk (vs : List PV) (σ : St) : PV × St := (.p σ.hp.length 0,{ σ with hp := σ.hp ++ [some vs] })
def moved (Y : Pol) (f : FuncId) (v : PV) (σ : St) : Option (PV × St) :=
  match v with
  | .l (.rf p) c n cs => match take Y f p σ with
    | some σ' => some (.l .own c n cs,σ')
    | none => none
  | .l .own c n cs => match n,cs with
    | 0,[] => some (.l .own c 0 [],σ)
    | _,_ => none
  | .m (.rf p) es c => match take Y f p σ with
    | some σ' => some (.m .own es c,σ')
    | none => none
  | v => match stor Y f v σ with
    | some (v',σ',_) => some (v',σ')
    | none => none
def bytesP : List PV → Option (List Int)
  | [] => some []
  | .v (.int .u8 n) :: l => match bytesP l with
    | some ns => some (n :: ns)
    | none => none
  | _ => none
def mayConv : Dr → Bool
  | none => true
  | some a => noMaker a.ops a.ops.size
def pbytes (P : Program) (Y : Pol) (f : FuncId) (dr : Dr) (src dst : TypeId) (x : Operand) (σ : St) : Option PV :=
  match P.underlying src,P.underlying dst,mayConv dr || freeDr dr with
  | some (.slice e),some .string,true => match P.underlying e,pev Y f σ x with
    | some (.int .u8),some u => match isList u,psrcLen u with
      | true,some 0 => match prunP P (convert src dst (.slice none 0 0)) with
        | some (.string s) => match Nat.beq s.size 0 with
          | true => some (.v (.string ByteArray.empty))
          | false => none
        | _ => none
      | true,some (n + 1) => match psrc 1 (n + 1) u σ with
        | some cs => match bytesP cs with
          | some ns => some (.v (.string (strOfNums ns)))
          | none => none
        | none => none
      | _,_ => none
    | _,_ => none
  | _,_,_ => none
def mapEs : PV → Option (List MapEntry)
  | .m _ es _ => some es
  | .v (.map none) => some []
  | _ => none
def mapOwn (Y : Pol) (f : FuncId) (σ : St) (t : Nat) : Option (Nat × List MapEntry × Nat) :=
  match look Y f σ t with
  | some (.m .own es c) => some (t,es,c)
  | _ => none
def mapHere (Y : Pol) (f : FuncId) (σ : St) : Operand → Option (Nat × List MapEntry × Nat)
  | .tmp d => match look Y f σ d with
    | some (.m (.rf (.tmp t)) _ _) => mapOwn Y f σ t
    | _ => mapOwn Y f σ d
  | _ => none
def maOf : PV → Option Nat
  | .m (.rf (.tmp t)) _ _ => some t
  | _ => none
def mapTo (Y : Pol) (f : FuncId) (draw : Dr) (σ : St) (x : Operand) (g : List MapEntry → Nat → Option (Value × List MapEntry × Nat)) : Option (Value × St) :=
  match mapHere Y f σ x with
  | some (t,es,c) => match g es c,mayTurn draw with
    | some (v,es',c'),true => some (v,setPl Y f (.m .own es' c') { σ with ls := mapL (killV (.tmp t)) σ.ls } (.tmp t))
    | _,_ => none
  | none => none
def flat (Y : Pol) (f : FuncId) (σ : St) (x : Operand) : Option Value :=
  match pev Y f σ x with
  | some v => toPlain v
  | none => none
def ofFlat : Value → Option PV
  | .agg cs => match pvCells.go cs.toList with
    | some l => some (.a l)
    | none => none
  | v => pvOf v
def ofPair : Value → Option PV
  | .tuple cs => match cs.toList with
    | [v,w] => match ofFlat v,pvOf w with
      | some v,some w => some (.t [v,w])
      | _,_ => none
    | _ => none
  | v => ofFlat v
def plook (P : Program) (t : TypeId) (m : PV) (k : Value) (ok : Bool) : Option PV :=
  match mapEs m with
  | some es => match alook P t es k ok with
    | some v => ofPair v
    | none => none
  | none => none
def mvBlk (Y : Pol) (f : FuncId) (t : Nat) (σ : St) : Option (PV × St) :=
  match look Y f σ t with
  | some (.l .own c n cs) => match Nat.beq n 0 with
    | true => none
    | false => match unset Y f (.tmp t) n cs σ with
      | some (v,σ') => some (v,setPl Y f v σ' (.tmp t))
      | none => none
  | _ => none
def poper (P : Program) (Y : Pol) (f : FuncId) (call : PCallF) (draw : Dr) (op : Op) (σ : St) : Option (PV × St) :=
  match op with
  | .load t x => match pev Y f σ x with
    | some v => match mayLoad draw v || freeDr draw with
      | true => pload P t v σ
      | false => none
    | none => none
  | .build t parts => match pevParts Y f σ parts.toList,zeroOf P t with
    | some (is,vs),some z => match hows Y f (Y.part f) vs σ with
      | some (vs0,σ0) => match stors Y f [] vs0 σ0,pvCells z,partsOf P t with
        | some (vs',σ'),some zc,some pt => match pfill (partAt pt) (zipParts is vs') zc with
          | some cs => some (.a cs,σ')
          | none => none
        | _,_,_ => none
      | none => none
    | _,_ => none
  | .makeInterface t x => match pev Y f σ x,P.underlying t with
    | some _,some (.interface _) => none
    | some v,some _ => match stor Y f v σ with
      | some (v',σ',_) => some (.i t v',σ')
      | none => none
    | _,_ => none
  | .makeFunc fn first captured => match fn,pevs Y f σ first.toList,pevs Y f σ captured.toList with
    | .func g,some as,some bs => match stors Y f [] (as ++ bs) σ with
      | some (l,σ') => some (.f g (l.take as.length) (l.drop as.length),σ')
      | none => none
    | _,_,_ => none
  | .box e x => match pev Y f σ x with
    | some v => match moved Y f v σ with
      | some (v',σ') => match refsTo σ'.hp.length v' with
        | true => some (pnewBlk (pcells v') σ')
        | false => none
      | none => none
    | none => none
  | .alloc e => match zeroOf P e with
    | some z => match pvCells z with
      | some zc => some (pnewBlk zc σ)
      | none => none
    | none => none
  | .buildSlice t n parts => match pevParts Y f σ parts.toList,shapeOf P t with
    | some (is,vs),some (.slice e sz) => match zeroOf P e,stors Y f [] vs σ with
      | some z,some (vs',σ') => match Nat.ble (n * (sz + 1)) limit24 && Nat.beq (vcells z).length sz,pvCells z with
        | true,some zc => match pfill (fun i => some (i * sz,sz)) (zipParts is vs') (reps (zc.map ownFz) n) with
          | some cs => match cs.all cellOK with
            | true => some (.l .fz .full n cs,σ')
            | false => none
          | none => none
        | _,_ => none
      | _,_ => none
    | _,_ => none
  | .makeSlice t l c => match pev Y f σ l,pev Y f σ c,shapeOf P t with
    | some (.v (.int _ (.ofNat l))),some (.v (.int _ (.ofNat c))),some (.slice e sz) => match zeroOf P e,byOf P e with
      | some z,some by_ => match Nat.ble l c && Nat.ble (c * (by_ + sz + 1)) limit && Nat.beq (vcells z).length sz,pvCells z with
        | true,some zc => some (.s σ.hp.length 0 l c,{ σ with hp := σ.hp ++ [some (reps zc c)] })
        | _,_ => none
      | _,_ => none
    | _,_,_ => none
  | .store t x y => match pev Y f σ x,pev Y f σ y,szOf P t with
    | some (.p b off),some v,some n => match moved Y f v σ with
      | some (v',σ') => match Nat.beq (pcells v').length n && refsTo b v' && (pcells v').all one && (mayTurn draw || mayStore Y f σ b draw) with
        | true => match pput b off (pcells v') σ' with
          | some σ'' => some (.dead,σ'')
          | none => none
        | false => none
      | none => none
    | _,_,_ => none
  | .call { callee := .builtin .append,args,argTypes } => match pevs Y f σ args.toList,argTypes.toList with
    | some [s,x],[t,tx] => match shapeOf P t,psrcLen x,srcFits P tx x with
      | some (.slice e sz),some n,true => match zeroOf P e,byOf P e,psrcLen s with
        | some z,some by_,some m => match Nat.beq n 0 with
          | true => match isList s with
            | true => some (s,σ)
            | false => none
          | false => match psrc sz n x σ with
            | some new => match Nat.ble ((m + n) * (by_ + sz + 1)) limit && Nat.beq (vcells z).length sz && (!(elder Y f s) || mayTurn draw) with
              | true => pgrow Y f sz s n new σ
              | false => none
            | none => none
        | _,_,_ => none
      | _,_,_ => none
    | _,_ => none
  | .call { callee := .builtin .copy,args,argTypes } => match pevs Y f σ args.toList,argTypes.toList with
    | some [d,x],[t,tx] => match shapeOf P t,psrcLen x,srcFits P tx x,d with
      | some (.slice e sz),some n,true,.s b off m cap => match Nat.beq (Nat.min n m) 0 with
        | true => some (.v (.int .i64 0),σ)
        | false => match psrc sz (Nat.min n m) x σ with
          | some cs => match pput b off cs σ with
            | some σ' => match mayTurn draw with
              | true => some (.v (.int .i64 (Nat.min n m : Nat)),σ')
              | false => none
            | none => none
          | none => none
      | _,_,_,_ => none
    | _,_ => none
  | .call { callee := .value fo,args,argTypes := _ } => pcallOp Y f call draw fo args.toList σ
  | .range t x => match pev Y f σ x,P.underlying t with
    | some (.v (.string s)),some .string => some (.it s 0,σ)
    | _,_ => none
  | .next x isStr => match x,isStr with
    | .tmp t,true => match look Y f σ t with
      | some (.it s pos) => match Nat.blt pos s.size with
        | true => match mayTurn draw with
          | true => some (.t [.v (.bool true),.v (goInt pos),.v (.int .i32 (Utf8.decode s pos).1)],setPl Y f (.it s (pos + (Utf8.decode s pos).2)) σ (.tmp t))
          | false => none
        | false => some (.t [.v (.bool false)],σ)
      | _ => none
    | _,_ => none
  | .convert src dst x => match pq P Y f (.convert src dst x) σ with
    | some v => some (v,σ)
    | none => match pbytes P Y f draw src dst x σ with
      | some v => some (v,σ)
      | none => none
  | .makeMap t r => match r with
    | none => some (.m .own [] 0,σ)
    | some x => match mapTy P t,pev Y f σ x with
      | some _,some (.v (.int _ _)) => some (.m .own [] 0,σ)
      | _,_ => none
  | .mapUpdate t m k x | .insert t m k x => match flat Y f σ k,flat Y f σ x with
    | some k,some v => match mapTo Y f draw σ m fun es c => match aupd P t es c k v with
        | some (es',c') => some (undef,es',c')
        | none => none with
      | some (_,σ') => some (.dead,σ')
      | none => none
    | _,_ => none
  | .lookup t m k ok => match pev Y f σ m,flat Y f σ k with
    | some m,some k => match plook P t m k ok with
      | some v => some (v,σ)
      | none => none
    | _,_ => none
  | .mapEntry t m k => match flat Y f σ k with
    | some k => match mapTo Y f draw σ m fun es c => aent P t es c k with
      | some (v,σ') => match ofPair v with
        | some v => some (v,σ')
        | none => none
      | none => none
    | none => none
  | .entryStore _ m s x => match flat Y f σ s,flat Y f σ x with
    | some s,some v => match mapTo Y f draw σ m fun es c => match aest es s v with
        | some es' => some (undef,es',c)
        | none => none with
      | some (_,σ') => some (.dead,σ')
      | none => none
    | _,_ => none
  | .call { callee := .builtin .delete,args,argTypes } => match args.toList,argTypes[0]? with
    | [m,k],some t => match flat Y f σ k with
      | some k => match mapTo Y f draw σ m fun es c => match adel P t es k with
          | some es' => some (.tuple #[],es',c)
          | none => none with
        | some (_,σ') => some (.dead,σ')
        | none => none
      | none => none
    | _,_ => none
  | .call { callee := .builtin .clear,args,argTypes } => match args.toList,argTypes[0]? with
    | [m],some t => match mapTy P t,mapTo Y f draw σ m fun _ c => some (.tuple #[],[],c) with
      | some _,some (_,σ') => some (.dead,σ')
      | _,_ => none
    | _,_ => none
  | .call { callee := .builtin .len,args,argTypes } => match pq P Y f (.call { callee := .builtin .len,args,argTypes }) σ with
    | some v => some (v,σ)
    | none => match args.toList,argTypes[0]?,draw with
      | [x],some t,none => match mapTy P t,pev Y f σ x with
        | some _,some m => match mapEs m with
          | some es => some (.v (goInt es.length),σ)
          | none => none
        | _,_ => none
      | _,_,_ => none
  | op => match pq P Y f op σ with
    | some v => some (v,σ)
    | none => none
def pconv (P : Program) (Y : Pol) (f : FuncId) (draw : Dr) (op : Op) (σ : St) : Option (PV × St) :=
  match draw with
  | some _ => none
  | none => match op with
    | .convert src dst x => match P.underlying src,P.underlying dst,pev Y f σ x with
      | some .string,some (.slice e),some (.v (.string s)) => match P.underlying e with
        | some (.int .u8) => match Nat.blt s.size unkCap with
          | true => some (.l .fz .any s.size (s.data.toList.map fun b => .v (.int .u8 b.toNat)),σ)
          | false => none
        | _ => none
      | _,_,_ => none
    | _ => none
def poperX (P : Program) (Y : Pol) (f : FuncId) (call : PCallF) (draw : Dr) (op : Op) (σ : St) : Option (PV × St) :=
  match pconv P Y f draw op σ with
  | some r => some r
  | none => poper P Y f call draw op σ
def isAssign : Op → Bool
  | .assign _ => true
  | .call _ => true
  | _ => false
def kls (d : Nat) (v : PV) (ls : List (Nat × PV)) : List (Nat × PV) :=
  match v with
  | .m .own _ _ => mapL (killV (.tmp d)) ls
  | _ => ls
def pputT (Y : Pol) (f : FuncId) (nt : Nat) (asg : Bool) (dst : Option Tmp) (v : PV) (σ : St) : Option St :=
  match dst with
  | none => some σ
  | some d => match Nat.blt d nt with
    | true => match Y.keep f d with
      | true => match v with
        | .l (.rf p) c n cs => match asg with
          | true => match take Y f p σ with
            | some σ' => some { σ' with ts := σ'.ts.set d (.l .own c n cs) }
            | none => none
          | false => match freeze Y f p σ with
            | some σ' => some { σ' with ts := σ'.ts.set d (.l .fz c n cs) }
            | none => none
        | .l (.pt _) _ _ _ => none
        | .r (.pt _) _ => none
        | .m (.rf p) es c => match asg with
          | true => match take Y f p σ with
            | some σ' => some { σ' with ls := mapL (killV (.tmp d)) σ'.ls,ts := σ'.ts.set d (.m .own es c) }
            | none => none
          | false => match freeze Y f p σ with
            | some σ' => some { σ' with ts := σ'.ts.set d (.m .fz es c) }
            | none => none
        | .m (.pt _) _ _ => none
        | v => some { σ with ls := kls d v σ.ls,ts := σ.ts.set d v }
      | false => some { σ with ls := (d,v) :: kls d v σ.ls }
    | false => none
def pwanted (Y : Pol) (f : FuncId) (ops : Array Oper) (o : Oper) (σ : St) : Option Bool :=
  match o.guard with
  | none => some true
  | some (j,w) => match (ops[j]?).bind (·.dst) with
    | some t => match look Y f σ t with
      | some (.v (.bool b)) => some (b == w)
      | some .un => some false
      | _ => none
    | none => none
def pskip (Y : Pol) (f : FuncId) (nt : Nat) (dst : Option Tmp) (σ : St) : Option St :=
  match dst with
  | none => some σ
  | some d => match Nat.blt d nt with
    | true => match Y.keep f d with
      | true => some { σ with ts := σ.ts.set d .un }
      | false => some { σ with ls := (d,.un) :: σ.ls }
    | false => none
def drOf (draw : Bool) (ops : Array Oper) (k n : Nat) : Dr :=
  match draw with
  | true => some ⟨ops,k,n⟩
  | false => none
def mvFz (Y : Pol) (f : FuncId) (t : Nat) (σ : St) : Option (PV × St) :=
  match look Y f σ t with
  | some (.s b o n c) => match Nat.beq o 0 && Nat.beq c unkCap,σ.hp[b]? with
    | true,some (some cs) => match cs.all cellOK with
      | true => some (.l .fz .any n cs,setPl Y f (.l .fz .any n cs) { σ with hp := stlB b n cs σ.hp } (.tmp t))
      | false => none
    | _,_ => none
  | _ => none
def mvOp : Op → Option Nat
  | .move (.tmp t) => some t
  | .assign (.tmp t) => some t
  | _ => none
def premv (Y : Pol) (f : FuncId) (draw : Bool) (o : Oper) (σ : St) : St :=
  match draw with
  | true => σ
  | false => match mvOp o.op,o.dst with
    | some t,some d => match Y.mv f d with
      | true => match mvBlk Y f t σ with
        | some (_,σ') => σ'
        | none => σ
      | false => match Y.fzm f d with
        | true => match mvFz Y f t σ with
          | some (_,σ') => σ'
          | none => σ
        | false => σ
    | _,_ => σ
def pops (P : Program) (Y : Pol) (f : FuncId) (call : PCallF) (draw : Bool) (nt : Nat) (ops : Array Oper) (n : Nat) : Nat → List Oper → St → Option St
  | _,[],σ => some { σ with ls := [] }
  | k,o :: rest,σ => match pwanted Y f ops o σ with
    | some true => match poperX P Y f call (drOf draw ops k n) o.op (premv Y f draw o σ) with
      | some (v,σ') => match pputT Y f nt (isAssign o.op) o.dst v σ' with
        | some σ'' => pops P Y f call draw nt ops n (k + 1) rest σ''
        | none => none
      | none => none
    | some false => match pskip Y f nt o.dst σ with
      | some σ' => pops P Y f call draw nt ops n (k + 1) rest σ'
      | none => none
    | none => none
abbrev PCodeF := Code → St → Option (AExit × St)
def ploop (code : PCodeF) (b : Code) : Nat → St → Option (AExit × St)
  | 0,_ => none
  | n + 1,σ => match code b σ with
    | some (.normal,σ') => ploop code b n σ'
    | r => r
def pcond (Y : Pol) (f : FuncId) (σ : St) (c : Operand) : Option Bool :=
  match pev Y f σ c with
  | some (.v (.bool b)) => some b
  | _ => none
def pstep (P : Program) (Y : Pol) (f : FuncId) (nt : Nat) (call : PCallF) (n : Nat) (code : PCodeF) (c : Code) (σ : St) : Option (AExit × St) :=
  match c with
  | .skip | .label _ => some (.normal,σ)
  | .region _ ops draw => match pops P Y f call draw nt ops σ.hp.length 0 ops.toList { σ with ls := [] } with
    | some σ' => some (.normal,σ')
    | none => none
  | .seq a b => match code a σ with
    | some (.normal,σ') => code b σ'
    | r => r
  | .cond c a b => match pcond Y f σ c with
    | some true => code a σ
    | some false => code b σ
    | none => none
  | .block id b => match code b σ with
    | some (.exit j,σ') => match Nat.beq j id with
      | true => some (.normal,σ')
      | false => some (.exit j,σ')
    | r => r
  | .loop b => ploop code b n σ
  | .exit id => some (.exit id,σ)
  | .ret => some (.ret,σ)
  | _ => none
def presOne (P : Program) (Y : Pol) (f : FuncId) (σ : St) : ResultVar → Option (PV × St)
  | .tmp t => match pev Y f σ (.tmp t) with
    | some v => some (v,σ)
    | none => none
  | .cell a t => match pev Y f σ (.tmp a) with
    | some v => pload P t v σ
    | none => none
def settle (sz : TypeId → Option Nat) (base : Nat) (hp : List (Option (List PV))) (t : TypeId) : PV → Option PV
  | .s b off n cap => match Nat.ble base b with
    | true => match sz t,hp[b]? with
      | some k,some (some cs) => match Nat.ble (off + n * k) cs.length && ((cs.drop off).take (n * k)).all cellOK with
        | true => some (.l .fz .any n ((cs.drop off).take (n * k)))
        | false => none
      | _,_ => none
    | false => some (.s b off n cap)
  | v => some v
def elemSz (P : Program) (t : TypeId) : Option Nat :=
  match shapeOf P t with
  | some (.slice _ sz) => some sz
  | _ => none
def presM (P : Program) (Y : Pol) (f : FuncId) : List ResultVar → St → Option (List PV × St)
  | [],σ => some ([],σ)
  | r :: rs,σ => match presOne P Y f σ r with
    | some (v,σ1) => match stor Y f v σ1 with
      | some (v',σ2,_) => match presM P Y f rs σ2 with
        | some (vs,σ3) => some (v' :: vs,σ3)
        | none => none
      | none => none
    | none => none
def settles (P : Program) (base : Nat) (hp : List (Option (List PV))) : List TypeId → List PV → Option (List PV)
  | [],[] => some []
  | t :: ts,v :: vs => match settle (elemSz P) base hp t v,settles P base hp ts vs with
    | some v',some vs' => some (v' :: vs')
    | _,_ => none
  | _,_ => none
def okDrop (base : Nat) : PV → Bool
  | .p b _ => Nat.blt b base
  | .s _ _ _ _ => true
  | .l _ _ _ _ => true
  | .m _ _ _ => true
  | v => noref v
def pres (P : Program) (Y : Pol) (f : FuncId) (base : Nat) (fn : Func) (σ : St) : Option (PV × St × Bool) :=
  match fn.results.toList,fn.resultTypes.toList with
  | [r],[t] => match presOne P Y f σ r with
    | some (v,σ1) => match moved Y f v σ1 with
      | some (v',σ2) => match okDrop base v' with
        | true => match settle (elemSz P) base σ2.hp t v' with
          | some u => some (u,σ2,true)
          | none => none
        | false => some (v',σ2,false)
      | none => none
    | none => none
  | rs,ts => match Nat.beq rs.length 1 with
    | true => none
    | false => match presM P Y f rs σ with
      | some (vs,σ1) => match vs.all (okDrop base) with
        | true => match settles P base σ1.hp ts vs with
          | some us => some (.t us,σ1,true)
          | none => none
        | false => some (.t vs,σ1,false)
      | none => none
def lowOf (base : Nat) : Option Nat → Option Nat
  | none => none
  | some w => match Nat.blt w base with
    | true => some w
    | false => none
def given (w : Option Nat) (v : PV) : PV :=
  match w with
  | none => v
  | some _ => ownFz v
def dropB (base : Nat) (drop : Bool) (hp : List (Option (List PV))) : List (Option (List PV)) :=
  match drop with
  | true => hp.take base
  | false => hp
def pclose (base : Nat) (drop : Bool) (v : PV) (σ : St) : PV × List (Option (List PV)) × Option Nat :=
  (given (lowOf base σ.wl) v,dropB base drop σ.hp,lowOf base σ.wl)
def pinit : Nat → List PV → Tr PV → Tr PV
  | _,[],t => t
  | k,v :: vs,t => pinit (k + 1) vs (t.set k v)
def keepsTo (Y : Pol) (f : FuncId) : Nat → Bool
  | 0 => true
  | n + 1 => Y.keep f n && keepsTo Y f n
def pcallB (P : Program) (Y : Pol) (code : FuncId → Nat → PCodeF) : PCallF := fun f args hp =>
  match bodyOf P f with
  | some (fn,c) => match Nat.ble args.length fn.ntmps && keepsTo Y f args.length with
    | true => match code f fn.ntmps c ⟨[],pinit 0 args .nil,hp,none⟩ with
      | some (.normal,σ) | some (.ret,σ) => match pres P Y f hp.length fn σ with
        | some (v,σ',drop) => some (pclose hp.length drop v σ')
        | none => none
      | _ => none
    | false => none
  | none => none
def pcall (P : Program) (Y : Pol) (code : FuncId → Nat → PCodeF) : PCallF := fun f args hp =>
  match Y.yes f with
  | true => Y.ext f args hp
  | false => pcallB P Y code f args hp
def pcode (P : Program) (Y : Pol) : Nat → FuncId → Nat → PCodeF
  | 0 => fun _ _ _ _ => none
  | n + 1 => fun f nt => pstep P Y f nt (pcall P Y (pcode P Y n)) n (pcode P Y n f nt)
def purRun (P : Program) (Y : Pol) (n : Nat) : PCallF := pcall P Y (pcode P Y n)
end Go.Pur
namespace Go.Pur
open Go.Abs
structure Ctx where
  sz : TypeId → Nat
  β : Nat → Option Nat
  fz : Nat → Prop
  fx : Nat → Prop
  ow : Nat → Option Pl
def isRef : Vl → Bool
  | .rf _ => true
  | .own => true
  | _ => false
def LOK (C : Ctx) (π : Option Pl) (k : Vl) (b : Nat) : Prop :=
  match k with
  | .fz => C.fz b
  | .bor => C.fx b ∧ ∃ t,π = some (.tmp t)
  | .own => ∃ p,π = some p ∧ C.ow b = some p
  | .rf p => C.ow b = some p ∧ ∃ t,π = some (.tmp t)
  | .pt p => C.ow b = some p ∧ ∃ t,π = some (.tmp t)
structure CapOK (sz : TypeId → Nat) (k : Vl) (c : Ck) (n cap off : Nat) (B : Blk) (cs : List PV) : Prop where
  full : c = .full → cap ≤ n
  nz : c = .nz → n ≠ 0
  le : cap < unkCap → n ≤ cap
  kind : cap < unkCap ∨ cap = unkCap ∨ roCap ≤ cap
  mine : isRef k = true → off = 0 ∧ cap = unkCap ∧ B.unk = true ∧ B.wr = true ∧ B.cells.length = cs.length ∧ sz B.elem * n = cs.length ∧ n ≠ 0
  one : ∀ v ∈ cs,cellOK v = true
theorem CapOK.re {sz sz' : TypeId → Nat} {k : Vl} {c : Ck} {n cap off : Nat} {B : Blk} {cs : List PV} (h : CapOK sz k c n cap off B cs) (hk : isRef k = false) : CapOK sz' k c n cap off B cs :=
  ⟨h.full,h.nz,h.le,h.kind,fun e => (by rw [hk] at e; cases e),h.one⟩
inductive VR (C : Ctx) (h : AHeap) : Option Pl → PV → Value → Prop where
  | v (π : Option Pl) (x : Value) (hp : plain x = true) (hn : ∀ n c,x ≠ .slice none n c) : VR C h π (.v x) x
  | un (π : Option Pl) : VR C h π .un undef
  | dead (π : Option Pl) (x : Value) : VR C h π .dead x
  | nil (π : Option Pl) (k : Vl) (c : Ck) : VR C h π (.l k c 0 []) (.slice none 0 0)
  | lst (π : Option Pl) (k : Vl) (c : Ck) (n : Nat) (cs : List PV) (a : Addr) (cap : Nat) (B : Blk) (hb : h.get a.block = some B) (hs : a.spot = none) (hk : LOK C π k a.block) (hn : n < unkCap)
      (hc : CapOK C.sz k c n cap a.off B cs) (hl : a.off + cs.length ≤ B.cells.length) (hv : ∀ i,i < cs.length → VR C h none (cs.getD i .dead) (B.cells.getD (a.off + i) undef)) : VR C h π (.l k c n cs) (.slice (some a) n cap)
  | r (π : Option Pl) (k : Vl) (cs : List PV) (a : Addr) (B : Blk) (hb : h.get a.block = some B) (hs : a.spot = none) (hk : LOK C π k a.block) (hi : isRef k = false)
      (hl : a.off + cs.length ≤ B.cells.length) (hv : ∀ i,i < cs.length → VR C h none (cs.getD i .dead) (B.cells.getD (a.off + i) undef)) : VR C h π (.r k cs) (.pointer (some a))
  | p (π : Option Pl) (b off id : Nat) (hβ : C.β b = some id) : VR C h π (.p b off) (.pointer (some ⟨id,off,none⟩))
  | s (π : Option Pl) (b off n cap id : Nat) (hβ : C.β b = some id) (hc : n < unkCap ∧ (cap < unkCap ∨ cap = unkCap)) (hn : n ≤ cap) : VR C h π (.s b off n cap) (.slice (some ⟨id,off,none⟩) n cap)
  | a (π : Option Pl) (cs : List PV) (l : Array Value) (hs : l.size = cs.length) (hv : ∀ i,i < cs.length → VR C h none (cs.getD i .dead) (l.toList.getD i undef)) : VR C h π (.a cs) (.agg l)
  | t (π : Option Pl) (cs : List PV) (l : Array Value) (hs : l.size = cs.length) (hv : ∀ i,i < cs.length → VR C h none (cs.getD i .dead) (l.toList.getD i undef)) : VR C h π (.t cs) (.tuple l)
  | f (π : Option Pl) (g : FuncId) (as bs : List PV) (as' bs' : Array Value) (ha : as'.size = as.length) (hb : bs'.size = bs.length) (hA : ∀ i,i < as.length → VR C h none (as.getD i .dead) (as'.toList.getD i undef))
      (hB : ∀ i,i < bs.length → VR C h none (bs.getD i .dead) (bs'.toList.getD i undef)) : VR C h π (.f g as bs) (.func (.func g) as' bs')
  | i (π : Option Pl) (ty : TypeId) (x : PV) (x' : Value) (hx : VR C h none x x') : VR C h π (.i ty x) (.iface ty x')
  | it (π : Option Pl) (s : ByteArray) (pos id t : Nat) (hπ : π = some (.tmp t)) (ho : C.ow id = some (.tmp t)) (hi : h.getIt id = some (.it s pos)) : VR C h π (.it s pos) (.pointer (some ⟨id,0,none⟩))
  | m (π : Option Pl) (k : Vl) (es : List MapEntry) (c id : Nat) (hk : LOK C π k id) (hi : h.getIt id = some (.mp es c)) : VR C h π (.m k es c) (.map (some id))
def LR (C : Ctx) (h : AHeap) (π : Option Pl) (cs : List PV) (l : List Value) : Prop := l.length = cs.length ∧ ∀ i,i < cs.length → VR C h π (cs.getD i .dead) (l.getD i undef)
theorem LR.nil (C : Ctx) (h : AHeap) (π : Option Pl) : LR C h π [] [] := ⟨rfl,fun i hi => absurd hi (Nat.not_lt_zero _)⟩
section
variable {C : Ctx} {h : AHeap} {π : Option Pl}
theorem LR.cons {v : PV} {v' : Value} {cs : List PV} {l : List Value} (hv : VR C h π v v') (hl : LR C h π cs l) : LR C h π (v :: cs) (v' :: l) := by
  refine ⟨by simp [hl.1],fun i hi => ?_⟩
  cases i with
  | zero => simpa using hv
  | succ i => simpa using hl.2 i (by simpa using hi)
theorem LR.get {cs : List PV} {l : List Value} (hl : LR C h π cs l) {i : Nat} {v : PV} (hi : cs[i]? = some v) : ∃ v',l[i]? = some v' ∧ VR C h π v v' := by
  obtain ⟨hlt,he⟩ := List.getElem?_eq_some_iff.1 hi
  have hlt' : i < l.length := hl.1 ▸ hlt
  refine ⟨l[i],by simp [hlt'], ?_⟩
  have := hl.2 i hlt
  simpa only [List.getD_eq_getElem?_getD,List.getElem?_eq_getElem hlt,List.getElem?_eq_getElem hlt',Option.getD_some,he] using this
theorem LR.of_get {cs : List PV} {l : List Value} (hl : l.length = cs.length) (hh : ∀ (i : Nat) v v',cs[i]? = some v → l[i]? = some v' → VR C h π v v') : LR C h π cs l := by
  refine ⟨hl,fun i hi => ?_⟩
  have hi' : i < l.length := hl ▸ hi
  have := hh i cs[i] l[i] (by simp [hi]) (by simp [hi'])
  simpa [List.getD_eq_getElem?_getD,List.getElem?_eq_getElem hi,List.getElem?_eq_getElem hi'] using this
theorem LR.head {v : PV} {v' : Value} {cs : List PV} {l : List Value} (hl : LR C h π (v :: cs) (v' :: l)) : VR C h π v v' := by
  simpa using hl.2 0 (by simp)
theorem LR.tail {v : PV} {v' : Value} {cs : List PV} {l : List Value} (hl : LR C h π (v :: cs) (v' :: l)) : LR C h π cs l :=
  ⟨by simpa using hl.1,fun i hi => by simpa using hl.2 (i + 1) (by simpa using hi)⟩
theorem LR.ind {cs : List PV} {l : List Value} (hl : LR C h π cs l) : (cs = [] ∧ l = []) ∨ ∃ v v' r r',cs = v :: r ∧ l = v' :: r' ∧ VR C h π v v' ∧ LR C h π r r' := by
  cases cs with
  | nil => cases l with
    | nil => exact .inl ⟨rfl,rfl⟩
    | cons => simp [LR] at hl
  | cons v r => cases l with
    | nil => simp [LR] at hl
    | cons v' r' => exact .inr ⟨v,v',r,r',rfl,rfl,hl.head,hl.tail⟩
theorem LR.append {cs ds : List PV} {l k : List Value} (hl : LR C h π cs l) (hk : LR C h π ds k) : LR C h π (cs ++ ds) (l ++ k) := by
  refine LR.of_get (by simp [hl.1,hk.1]) (fun i v v' h1 h2 => ?_)
  by_cases hi : i < cs.length
  · rw [List.getElem?_append_left hi] at h1
    rw [List.getElem?_append_left (by rw [hl.1]; exact hi)] at h2
    obtain ⟨u,hu,hv⟩ := hl.get h1
    rw [hu] at h2; cases h2; exact hv
  · rw [List.getElem?_append_right (by omega)] at h1
    rw [List.getElem?_append_right (by rw [hl.1]; omega),hl.1] at h2
    obtain ⟨u,hu,hv⟩ := hk.get h1
    rw [hu] at h2; cases h2; exact hv
theorem LR.take {cs : List PV} {l : List Value} (hl : LR C h π cs l) (n : Nat) : LR C h π (cs.take n) (l.take n) :=
  LR.of_get (by simp [hl.1]) (fun i v v' h1 h2 => by
    rw [List.getElem?_take] at h1 h2
    split at h1
    · rw [if_pos ‹_›] at h2
      obtain ⟨u,hu,hv⟩ := hl.get h1
      rw [hu] at h2; cases h2; exact hv
    · cases h1)
theorem LR.drop {cs : List PV} {l : List Value} (hl : LR C h π cs l) (n : Nat) : LR C h π (cs.drop n) (l.drop n) :=
  LR.of_get (by simp [hl.1]) (fun i v v' h1 h2 => by
    rw [List.getElem?_drop] at h1 h2
    obtain ⟨u,hu,hv⟩ := hl.get h1
    rw [hu] at h2; cases h2; exact hv)
theorem lr_of_blk {cs : List PV} {l : List Value} {off : Nat} (hl : off + cs.length ≤ l.length) (hv : ∀ i,i < cs.length → VR C h none (cs.getD i .dead) (l.getD (off + i) undef)) : LR C h none cs ((l.drop off).take cs.length) := by
  refine ⟨by simp; omega,fun i hi => ?_⟩
  have := hv i hi
  simpa [List.getD_eq_getElem?_getD,List.getElem?_take,hi,List.getElem?_drop] using this
theorem VR.agg_of {cs : List PV} {l : List Value} (hl : LR C h none cs l) : VR C h π (.a cs) (.agg l.toArray) := .a _ _ _ (by simpa using hl.1) (by simpa using hl.2)
theorem VR.tuple_of {cs : List PV} {l : List Value} (hl : LR C h none cs l) : VR C h π (.t cs) (.tuple l.toArray) := .t _ _ _ (by simpa using hl.1) (by simpa using hl.2)
theorem lr_of_arr {cs : List PV} {l : Array Value} (hs : l.size = cs.length) (hv : ∀ i,i < cs.length → VR C h none (cs.getD i .dead) (l.toList.getD i undef)) : LR C h none cs l.toList := ⟨by simpa using hs,hv⟩
end
def _root_.Go.Abs.AHeap.gg (h : AHeap) (id : Nat) : Option Blk × Option Oth := (h.get id,h.getIt id)
theorem gg_of {h h' : AHeap} {id : Nat} (h1 : h'.get id = h.get id) (h2 : h'.getIt id = h.getIt id) : h'.gg id = h.gg id := by unfold AHeap.gg; rw [h1,h2]
theorem gg_get {h h' : AHeap} {id : Nat} (e : h'.gg id = h.gg id) : h'.get id = h.get id := (Prod.mk.inj e).1
theorem gg_it {h h' : AHeap} {id : Nat} (e : h'.gg id = h.gg id) : h'.getIt id = h.getIt id := (Prod.mk.inj e).2
theorem VR.nest {C C' : Ctx} {h h' : AHeap} (hβ : ∀ b id,C.β b = some id → C'.β b = some id) (hf : ∀ id,C.fz id → C'.fz id) (hg : ∀ id,C.fz id → h'.gg id = h.gg id) {π : Option Pl} {v : PV} {x : Value} (hv : VR C h π v x) (hπ : π = none) : VR C' h' none v x := by
  induction hv with
  | v π x hp hn => exact .v _ x hp hn
  | un => exact .un _
  | dead => exact .dead _ _
  | nil π k c => exact .nil _ k c
  | lst π k c n cs a cap B hb hs hk hn hc hl hv ih =>
    subst hπ
    cases k with
    | fz => exact .lst _ _ _ _ _ _ _ B ((gg_get (hg _ hk)).trans hb) hs (hf _ hk) hn (hc.re rfl) hl (fun i hi => ih i hi rfl)
    | bor => obtain ⟨_,_,h⟩ := hk; cases h
    | own => obtain ⟨_,h,_⟩ := hk; cases h
    | rf p => obtain ⟨_,_,h⟩ := hk; cases h
    | pt p => obtain ⟨_,_,h⟩ := hk; cases h
  | r π k cs a B hb hs hk hi hl hv ih =>
    subst hπ
    cases k with
    | fz => exact .r _ _ _ _ B ((gg_get (hg _ hk)).trans hb) hs (hf _ hk) hi hl (fun i hi => ih i hi rfl)
    | bor => obtain ⟨_,_,h⟩ := hk; cases h
    | own => obtain ⟨_,h,_⟩ := hk; cases h
    | rf p => obtain ⟨_,_,h⟩ := hk; cases h
    | pt p => obtain ⟨_,_,h⟩ := hk; cases h
  | p π b off id hb => exact .p _ _ _ _ (hβ _ _ hb)
  | s π b off n cap id hb hc hn => exact .s _ _ _ _ _ _ (hβ _ _ hb) hc hn
  | a π cs l hs hv ih => exact .a _ _ _ hs (fun i hi => ih i hi rfl)
  | t π cs l hs hv ih => exact .t _ _ _ hs (fun i hi => ih i hi rfl)
  | f π g as bs as' bs' ha hb hA hB iA iB => exact .f _ _ _ _ _ _ ha hb (fun i hi => iA i hi rfl) (fun i hi => iB i hi rfl)
  | i π ty x x' hx ih => exact .i _ _ _ _ (ih rfl)
  | it π s pos id t h1 => rw [hπ] at h1; cases h1
  | m π k es c id hk hi =>
    subst hπ
    cases k with
    | fz => exact .m _ _ _ _ _ (hf _ hk) ((gg_it (hg _ hk)).trans hi)
    | bor => obtain ⟨_,_,h⟩ := hk; cases h
    | own => obtain ⟨_,h,_⟩ := hk; cases h
    | rf p => obtain ⟨_,_,h⟩ := hk; cases h
    | pt p => obtain ⟨_,_,h⟩ := hk; cases h
def keepsP (C C' : Ctx) (h h' : AHeap) (π π' : Option Pl) : PV → Prop
  | .l .own _ _ _ => ∀ id p,π = some p → C.ow id = some p → ∃ q,π' = some q ∧ C'.ow id = some q ∧ h'.get id = h.get id
  | .l (.rf p) _ _ _ => ∀ id,C.ow id = some p → C'.ow id = some p ∧ h'.get id = h.get id
  | .l (.pt p) _ _ _ => ∀ id,C.ow id = some p → C'.ow id = some p ∧ h'.get id = h.get id
  | .r (.pt p) _ => ∀ id,C.ow id = some p → C'.ow id = some p ∧ h'.get id = h.get id
  | .it _ _ => ∀ id t,π = some (.tmp t) → C.ow id = some (.tmp t) → ∃ t',π' = some (.tmp t') ∧ C'.ow id = some (.tmp t') ∧ h'.getIt id = h.getIt id
  | .m .own es c => ∀ id p,π = some p → C.ow id = some p → h.getIt id = some (.mp es c) → ∃ q,π' = some q ∧ C'.ow id = some q ∧ h'.getIt id = h.getIt id
  | .m (.rf p) es c => ∀ id,C.ow id = some p → h.getIt id = some (.mp es c) → C'.ow id = some p ∧ h'.getIt id = h.getIt id
  | .m (.pt p) es c => ∀ id,C.ow id = some p → h.getIt id = some (.mp es c) → C'.ow id = some p ∧ h'.getIt id = h.getIt id
  | _ => True
theorem VR.step {C C' : Ctx} {h h' : AHeap} (hsz : C'.sz = C.sz) (hβ : ∀ b id,C.β b = some id → C'.β b = some id) (hf : ∀ id,C.fz id → C'.fz id) (hfx : ∀ id,C.fx id → C'.fx id) (hsub : ∀ id,C.fz id → C.fx id) (hg : ∀ id,C.fx id → h'.gg id = h.gg id)
    {π π' : Option Pl} (hπ : ∀ t,π = some (.tmp t) → ∃ t',π' = some (.tmp t')) {v : PV} {x : Value} (hv : VR C h π v x) (hk : keepsP C C' h h' π π' v) : VR C' h' π' v x := by
  have hn : ∀ {v x},VR C h none v x → VR C' h' none v x := fun h => h.nest hβ hf (fun id hid => hg id (hsub id hid)) rfl
  cases hv with
  | v _ x hp hn => exact .v _ x hp hn
  | un => exact .un _
  | dead => exact .dead _ _
  | nil _ k c => exact .nil _ k c
  | lst _ k c n cs a cap B hb hs ho hn' hc hl hv =>
    cases k with
    | fz => exact .lst _ _ _ _ _ _ _ B ((gg_get (hg _ (hsub _ ho))).trans hb) hs (hf _ ho) hn' (hc.re rfl) hl (fun i hi => hn (hv i hi))
    | bor =>
      obtain ⟨h1,t,h2⟩ := ho
      exact .lst _ _ _ _ _ _ _ B ((gg_get (hg _ h1)).trans hb) hs ⟨hfx _ h1,hπ t h2⟩ hn' (hc.re rfl) hl (fun i hi => hn (hv i hi))
    | own =>
      obtain ⟨p,h1,h2⟩ := ho
      obtain ⟨q,h3,h4,h5⟩ := hk _ p h1 h2
      exact .lst _ _ _ _ _ _ _ B (h5.trans hb) hs ⟨q,h3,h4⟩ hn' (by rw [hsz]; exact hc) hl (fun i hi => hn (hv i hi))
    | rf p =>
      obtain ⟨h1,t,h2⟩ := ho
      obtain ⟨h3,h4⟩ := hk _ h1
      exact .lst _ _ _ _ _ _ _ B (h4.trans hb) hs ⟨h3,hπ t h2⟩ hn' (by rw [hsz]; exact hc) hl (fun i hi => hn (hv i hi))
    | pt p =>
      obtain ⟨h1,t,h2⟩ := ho
      obtain ⟨h3,h4⟩ := hk _ h1
      exact .lst _ _ _ _ _ _ _ B (h4.trans hb) hs ⟨h3,hπ t h2⟩ hn' (by rw [hsz]; exact hc) hl (fun i hi => hn (hv i hi))
  | r _ k cs a B hb hs ho hi hl hv =>
    cases k with
    | fz => exact .r _ _ _ _ B ((gg_get (hg _ (hsub _ ho))).trans hb) hs (hf _ ho) hi hl (fun i hi => hn (hv i hi))
    | bor =>
      obtain ⟨h1,t,h2⟩ := ho
      exact .r _ _ _ _ B ((gg_get (hg _ h1)).trans hb) hs ⟨hfx _ h1,hπ t h2⟩ hi hl (fun i hi => hn (hv i hi))
    | own => cases hi
    | rf p => cases hi
    | pt p =>
      obtain ⟨h1,t,h2⟩ := ho
      obtain ⟨h3,h4⟩ := hk _ h1
      exact .r _ _ _ _ B (h4.trans hb) hs ⟨h3,hπ t h2⟩ hi hl (fun i hi => hn (hv i hi))
  | p _ b off id hb => exact .p _ _ _ _ (hβ _ _ hb)
  | s _ b off n cap id hb hc hn => exact .s _ _ _ _ _ _ (hβ _ _ hb) hc hn
  | a _ cs l hs hv => exact .a _ _ _ hs (fun i hi => hn (hv i hi))
  | t _ cs l hs hv => exact .t _ _ _ hs (fun i hi => hn (hv i hi))
  | f _ g as bs as' bs' ha hb hA hB => exact .f _ _ _ _ _ _ ha hb (fun i hi => hn (hA i hi)) (fun i hi => hn (hB i hi))
  | i _ ty x x' hx => exact .i _ _ _ _ (hn hx)
  | it _ s pos id t h1 h2 h3 =>
    obtain ⟨t',e1,e2,e3⟩ := hk id t h1 h2
    exact .it _ _ _ _ _ e1 e2 (e3.trans h3)
  | m _ k es c id ho hi =>
    cases k with
    | fz => exact .m _ _ _ _ _ (hf _ ho) ((gg_it (hg _ (hsub _ ho))).trans hi)
    | bor =>
      obtain ⟨h1,t,h2⟩ := ho
      exact .m _ _ _ _ _ ⟨hfx _ h1,hπ t h2⟩ ((gg_it (hg _ h1)).trans hi)
    | own =>
      obtain ⟨p,h1,h2⟩ := ho
      obtain ⟨q,h3,h4,h5⟩ := hk _ p h1 h2 hi
      exact .m _ _ _ _ _ ⟨q,h3,h4⟩ (h5.trans hi)
    | rf p =>
      obtain ⟨h1,t,h2⟩ := ho
      obtain ⟨h3,h4⟩ := hk _ h1 hi
      exact .m _ _ _ _ _ ⟨h3,hπ t h2⟩ (h4.trans hi)
    | pt p =>
      obtain ⟨h1,t,h2⟩ := ho
      obtain ⟨h3,h4⟩ := hk _ h1 hi
      exact .m _ _ _ _ _ ⟨h3,hπ t h2⟩ (h4.trans hi)
theorem plEq_iff {p q : Pl} : plEq p q = true ↔ p = q := by
  cases p <;> cases q <;> simp [plEq]
structure Fr where
  base : Nat
  n0 : Nat
  l0 : Nat
def cleanW (F : Fr) : Option Nat → Prop
  | none => True
  | some w => F.base ≤ w
structure HI (C : Ctx) (h : AHeap) (hp : List (Option (List PV))) : Prop where
  fzx : ∀ id,C.fz id → C.fx id
  fxl : ∀ id,C.fx id → id < h.next ∧ C.ow id = none
  owl : ∀ id p,C.ow id = some p → id < h.next
  βl : ∀ b id,C.β b = some id → id < h.next ∧ (C.fx id → C.fz id ∧ hp[b]? = some none) ∧ C.ow id = none ∧ b < hp.length
  inj : ∀ b b' id,C.β b = some id → C.β b' = some id → b = b'
  blk : ∀ b cs,hp[b]? = some (some cs) → ∃ id B,C.β b = some id ∧ h.get id = some B ∧ B.wr = true ∧ True ∧ B.cells.length = cs.length ∧ ∀ i,i < cs.length → VR C h (some (.cell b i)) (cs.getD i .dead) (B.cells.getD i undef)
  rf : ∀ b cs,hp[b]? = some (some cs) → ∀ v ∈ cs,refsTo b v = true
structure LP (F : Fr) (C : Ctx) (h : AHeap) (hp : List (Option (List PV))) (wl : Option Nat) : Prop where
  n0 : F.n0 ≤ h.next
  base : F.base ≤ hp.length
  low : cleanW F wl → Nat.min F.l0 F.n0 ≤ h.low
  mine : cleanW F wl → ∀ id p,C.ow id = some p → (∀ b i,p = .cell b i → F.base ≤ b) → F.n0 ≤ id
  βm : cleanW F wl → ∀ b id,C.β b = some id → F.base ≤ b → F.n0 ≤ id
structure Ext (C : Ctx) (h : AHeap) (C' : Ctx) (h' : AHeap) : Prop where
  sz : C'.sz = C.sz
  get : ∀ id,C.fx id → h'.get id = h.get id
  next : h.next ≤ h'.next
  fz : ∀ id,C.fz id → C'.fz id
  fx : ∀ id,C.fx id → C'.fx id
  new : ∀ id,C'.fz id → C.fz id ∨ ¬ C.fx id
  β : ∀ b id,C.β b = some id → C'.β b = some id
  git : ∀ id,C.fx id → h'.getIt id = h.getIt id
theorem Ext.refl (C : Ctx) (h : AHeap) : Ext C h C h := ⟨rfl,fun _ _ => rfl,Nat.le_refl _,fun _ h => h,fun _ h => h,fun _ h => .inl h,fun _ _ h => h,fun _ _ => rfl⟩
theorem Ext.trans {C C1 C2 : Ctx} {h h1 h2 : AHeap} (s : Ext C h C1 h1) (t : Ext C1 h1 C2 h2) : Ext C h C2 h2 :=
  ⟨t.sz.trans s.sz,fun id hid => (t.get id (s.fx id hid)).trans (s.get id hid),Nat.le_trans s.next t.next,fun id hid => t.fz id (s.fz id hid),fun id hid => t.fx id (s.fx id hid),
    fun id hid => (t.new id hid).elim (s.new id) (fun hn => .inr (fun hx => hn (s.fx id hx))),fun b id hb => t.β b id (s.β b id hb),fun id hid => (t.git id (s.fx id hid)).trans (s.git id hid)⟩
theorem Ext.gg {C C' : Ctx} {h h' : AHeap} (e : Ext C h C' h') {id : Nat} (hx : C.fx id) : h'.gg id = h.gg id := gg_of (e.get id hx) (e.git id hx)
def tget0 (tv : Tr Value) (t : Nat) : Value :=
  match tv.get t with
  | some v => v
  | none => undef
def TR (Y : Pol) (f : FuncId) (C : Ctx) (h : AHeap) (σ : St) (tv : Tr Value) : Prop := ∀ t v,look Y f σ t = some v → VR C h (some (.tmp t)) v (tget0 tv t)
def GR (P : Program) (Y : Pol) (C : Ctx) (h : AHeap) : Prop := ∀ g cs,Y.glob[g]? = some cs → g < P.globals.size ∧ C.fz g ∧ ∃ B,h.get g = some B ∧ cs.length ≤ B.cells.length ∧ ∀ i,i < cs.length → VR C h none (cs.getD i .dead) (B.cells.getD i undef)
def loose : PV → Bool
  | .l (.rf _) _ _ _ => true
  | .l (.pt _) _ _ _ => true
  | .r (.pt _) _ => true
  | .m (.rf _) _ _ => true
  | .m (.pt _) _ _ => true
  | _ => false
def AL (Y : Pol) (f : FuncId) (σ : St) (tv : Tr Value) : Prop := ∀ d t es c es' c',look Y f σ d = some (.m (.rf (.tmp t)) es c) → look Y f σ t = some (.m .own es' c') → tget0 tv d = tget0 tv t
def mapRef : PV → Bool
  | .m (.rf (.tmp _)) _ _ => true
  | .m .own _ _ => true
  | _ => false
theorem AL.keep {Y : Pol} {f : FuncId} {σ σ' : St} {tv : Tr Value} (a : AL Y f σ tv) (h : ∀ t v,look Y f σ' t = some v → mapRef v = true → look Y f σ t = some v) : AL Y f σ' tv :=
  fun d t es c es' c' h1 h2 => a d t es c es' c' (h d _ h1 rfl) (h t _ h2 rfl)
structure ST (P : Program) (Y : Pol) (f : FuncId) (C : Ctx) (h : AHeap) (σ : St) (tv : Tr Value) : Prop where
  sz : C.sz = P.cellsOf
  hi : HI C h σ.hp
  tr : TR Y f C h σ tv
  nl : ∀ t v,Y.keep f t = true → σ.ts.get t = some v → loose v = false
  gr : GR P Y C h
  al : AL Y f σ tv
theorem GR.ext {P : Program} {Y : Pol} {C C' : Ctx} {h h' : AHeap} (hs : ∀ id,C.fz id → C.fx id) (g : GR P Y C h) (e : Ext C h C' h') : GR P Y C' h' := fun i cs hi => by
  obtain ⟨h1,h2,B,h3,h4,h5⟩ := g i cs hi
  exact ⟨h1,e.fz _ h2,B,(e.get _ (hs _ h2)).trans h3,h4,fun k hk => (h5 k hk).nest e.β e.fz (fun id hid => e.gg (hs id hid)) rfl⟩
def Ids (C : Ctx) (id : Nat) : Prop := C.fx id ∨ (∃ p,C.ow id = some p) ∨ ∃ b,C.β b = some id
structure Step (K : Nat → Bool) (N : Nat → Prop) (C : Ctx) (h : AHeap) (σ : St) (C' : Ctx) (h' : AHeap) (σ' : St) : Prop where
  ext : Ext C h C' h'
  ids : ∀ id,Ids C' id → Ids C id ∨ N id
  len : σ.hp.length ≤ σ'.hp.length
  bnew : ∀ b id,C'.β b = some id → C.β b = some id ∨ σ.hp.length ≤ b
  wlm : ∀ F : Fr,cleanW F σ'.wl → cleanW F σ.wl
  loc : ∀ id t,K t = false → C'.ow id = some (.tmp t) → C.ow id = some (.tmp t) ∨ N id
  lp : ∀ F,(∀ id,N id → F.n0 ≤ id) → LP F C h σ.hp σ.wl → LP F C' h' σ'.hp σ'.wl
theorem Step.refl (K : Nat → Bool) (N : Nat → Prop) (C : Ctx) (h : AHeap) (σ : St) : Step K N C h σ C h σ := ⟨.refl C h,fun _ h => .inl h,Nat.le_refl _,fun _ _ h => .inl h,fun _ h => h,fun _ _ _ h => .inl h,fun _ _ h => h⟩
theorem Step.trans {K : Nat → Bool} {N N1 N2 : Nat → Prop} {C C1 C2 : Ctx} {h h1 h2 : AHeap} {σ σ1 σ2 : St} (s : Step K N1 C h σ C1 h1 σ1) (t : Step K N2 C1 h1 σ1 C2 h2 σ2) (h1' : ∀ id,N1 id → N id) (h2' : ∀ id,N2 id → N id) : Step K N C h σ C2 h2 σ2 :=
  ⟨s.ext.trans t.ext,fun id hid => (t.ids id hid).elim (fun h => (s.ids id h).elim .inl (fun h => .inr (h1' id h))) (fun h => .inr (h2' id h)),Nat.le_trans s.len t.len,fun b id hb => (t.bnew b id hb).elim (s.bnew b id) (fun h => .inr (Nat.le_trans s.len h)),fun F hc => s.wlm F (t.wlm F hc),fun id x hx ho => (t.loc id x hx ho).elim (fun h => (s.loc id x hx h).elim .inl (fun h => .inr (h1' id h))) (fun h => .inr (h2' id h)),fun F hN hF => t.lp F (fun id h => hN id (h2' id h)) (s.lp F (fun id h => hN id (h1' id h)) hF)⟩
end Go.Pur
namespace Go.Pur
open Go.Abs
def VA (C : Ctx) (h : AHeap) (u : PV) (x : Value) : Prop := ∀ d,VR C h (some (.tmp d)) u x
section
variable {C : Ctx} {h : AHeap} {π : Option Pl}
theorem VR.retag {t d : Nat} {v : PV} {x : Value} (hv : VR C h (some (.tmp t)) v x) (ho : isOwn v = false) : VR C h (some (.tmp d)) v x := by
  cases hv with
  | v _ x hp hn => exact .v _ x hp hn
  | un => exact .un _
  | dead => exact .dead _ _
  | nil _ k c => exact .nil _ k c
  | lst _ k c n cs a cap B hb hs hk hn hc hl hv =>
    refine .lst _ _ _ _ _ _ _ B hb hs ?_ hn hc hl hv
    cases k with
    | fz => exact hk
    | bor => exact ⟨hk.1,d,rfl⟩
    | own => simp [isOwn] at ho
    | rf p => exact ⟨hk.1,d,rfl⟩
    | pt p => exact ⟨hk.1,d,rfl⟩
  | r _ k cs a B hb hs hk hi hl hv =>
    refine .r _ _ _ _ B hb hs ?_ hi hl hv
    cases k with
    | fz => exact hk
    | bor => exact ⟨hk.1,d,rfl⟩
    | own => cases hi
    | rf p => cases hi
    | pt p => exact ⟨hk.1,d,rfl⟩
  | p _ b off id hb => exact .p _ _ _ _ hb
  | s _ b off n cap id hb hc hn => exact .s _ _ _ _ _ _ hb hc hn
  | a _ cs l hs hv => exact .a _ _ _ hs hv
  | t _ cs l hs hv => exact .t _ _ _ hs hv
  | f _ g as bs as' bs' ha hb hA hB => exact .f _ _ _ _ _ _ ha hb hA hB
  | i _ ty x x' hx => exact .i _ _ _ _ hx
  | it _ s pos id t h1 h2 h3 => simp [isOwn] at ho
  | m _ k es c id hk hi =>
    refine .m _ _ _ _ _ ?_ hi
    cases k with
    | fz => exact hk
    | bor => exact ⟨hk.1,d,rfl⟩
    | own => simp [isOwn] at ho
    | rf p => exact ⟨hk.1,d,rfl⟩
    | pt p => exact ⟨hk.1,d,rfl⟩
theorem VR.out {v : PV} {x : Value} (hv : VR C h none v x) (π : Option Pl) : VR C h π v x := by
  cases hv with
  | v _ x hp hn => exact .v _ x hp hn
  | un => exact .un _
  | dead => exact .dead _ _
  | nil _ k c => exact .nil _ k c
  | lst _ k c n cs a cap B hb hs hk hn hc hl hv =>
    refine .lst _ _ _ _ _ _ _ B hb hs ?_ hn hc hl hv
    cases k with
    | fz => exact hk
    | bor => obtain ⟨_,_,h⟩ := hk; cases h
    | own => obtain ⟨_,h,_⟩ := hk; cases h
    | rf p => obtain ⟨_,_,h⟩ := hk; cases h
    | pt p => obtain ⟨_,_,h⟩ := hk; cases h
  | r _ k cs a B hb hs hk hi hl hv =>
    refine .r _ _ _ _ B hb hs ?_ hi hl hv
    cases k with
    | fz => exact hk
    | bor => obtain ⟨_,_,h⟩ := hk; cases h
    | own => cases hi
    | rf p => cases hi
    | pt p => obtain ⟨_,_,h⟩ := hk; cases h
  | p _ b off id hb => exact .p _ _ _ _ hb
  | s _ b off n cap id hb hc hn => exact .s _ _ _ _ _ _ hb hc hn
  | a _ cs l hs hv => exact .a _ _ _ hs hv
  | t _ cs l hs hv => exact .t _ _ _ hs hv
  | f _ g as bs as' bs' ha hb hA hB => exact .f _ _ _ _ _ _ ha hb hA hB
  | i _ ty x x' hx => exact .i _ _ _ _ hx
  | it _ s pos id t h1 => cases h1
  | m _ k es c id hk hi =>
    refine .m _ _ _ _ _ ?_ hi
    cases k with
    | fz => exact hk
    | bor => obtain ⟨_,_,h⟩ := hk; cases h
    | own => obtain ⟨_,h,_⟩ := hk; cases h
    | rf p => obtain ⟨_,_,h⟩ := hk; cases h
    | pt p => obtain ⟨_,_,h⟩ := hk; cases h
theorem VR.noma {v : PV} {x : Value} (hv : VR C h π v x) (hπ : ∀ t,π ≠ some (.tmp t)) : maOf v = none := by
  cases hv with
  | m _ k es c id hk hi =>
    cases k with
    | rf q => obtain ⟨_,t,e⟩ := hk; exact absurd e (hπ t)
    | _ => rfl
  | _ => rfl
theorem VR.inv_v {x y : Value} (hv : VR C h π (.v x) y) : y = x ∧ plain x = true ∧ ∀ n c,x ≠ .slice none n c := by
  cases hv with
  | v _ x hp hn => exact ⟨rfl,hp,hn⟩
theorem VR.inv_a {cs : List PV} {y : Value} (hv : VR C h π (.a cs) y) : ∃ l : Array Value,y = .agg l ∧ LR C h none cs l.toList := by
  cases hv with
  | a _ _ l hs hv => exact ⟨l,rfl,lr_of_arr hs hv⟩
theorem VR.inv_t {cs : List PV} {y : Value} (hv : VR C h π (.t cs) y) : ∃ l : Array Value,y = .tuple l ∧ LR C h none cs l.toList := by
  cases hv with
  | t _ _ l hs hv => exact ⟨l,rfl,lr_of_arr hs hv⟩
theorem VR.inv_p {b off : Nat} {y : Value} (hv : VR C h π (.p b off) y) : ∃ id,C.β b = some id ∧ y = .pointer (some ⟨id,off,none⟩) := by
  cases hv with
  | p _ _ _ id hb => exact ⟨id,hb,rfl⟩
theorem VR.inv_s {b off n cap : Nat} {y : Value} (hv : VR C h π (.s b off n cap) y) : ∃ id,C.β b = some id ∧ y = .slice (some ⟨id,off,none⟩) n cap ∧ (n < unkCap ∧ (cap < unkCap ∨ cap = unkCap)) ∧ n ≤ cap := by
  cases hv with
  | s _ _ _ _ _ id hb hc hn => exact ⟨id,hb,rfl,hc,hn⟩
theorem VR.inv_r {k : Vl} {cs : List PV} {y : Value} (hv : VR C h π (.r k cs) y) : ∃ (a : Addr) (B : Blk),y = .pointer (some a) ∧ h.get a.block = some B ∧ a.spot = none ∧ LOK C π k a.block ∧ isRef k = false ∧
    a.off + cs.length ≤ B.cells.length ∧ LR C h none cs ((B.cells.drop a.off).take cs.length) := by
  cases hv with
  | r _ _ _ a B hb hs hk hi hl hv => exact ⟨a,B,rfl,hb,hs,hk,hi,hl,lr_of_blk hl hv⟩
theorem VR.inv_l {k : Vl} {c : Ck} {n : Nat} {cs : List PV} {y : Value} (hv : VR C h π (.l k c n cs) y) : (n = 0 ∧ cs = [] ∧ y = .slice none 0 0) ∨ ∃ (a : Addr) (cap : Nat) (B : Blk),y = .slice (some a) n cap ∧ h.get a.block = some B ∧ a.spot = none ∧ LOK C π k a.block ∧
    n < unkCap ∧ CapOK C.sz k c n cap a.off B cs ∧ a.off + cs.length ≤ B.cells.length ∧ LR C h none cs ((B.cells.drop a.off).take cs.length) := by
  cases hv with
  | nil => exact .inl ⟨rfl,rfl,rfl⟩
  | lst _ _ _ _ _ a cap B hb hs hk hn hc hl hv => exact .inr ⟨a,cap,B,rfl,hb,hs,hk,hn,hc,hl,lr_of_blk hl hv⟩
theorem VR.lst_of {k : Vl} {c : Ck} {n : Nat} {cs : List PV} {a : Addr} {cap : Nat} {B : Blk} (hb : h.get a.block = some B) (hs : a.spot = none) (hk : LOK C π k a.block) (hn : n < unkCap) (hc : CapOK C.sz k c n cap a.off B cs)
    (hl : a.off + cs.length ≤ B.cells.length) (hv : LR C h none cs ((B.cells.drop a.off).take cs.length)) : VR C h π (.l k c n cs) (.slice (some a) n cap) :=
  .lst _ _ _ _ _ _ _ B hb hs hk hn hc hl (fun i hi => by
    have := hv.2 i hi
    simpa [List.getD_eq_getElem?_getD,List.getElem?_take,hi,List.getElem?_drop] using this)
theorem VR.r_of {k : Vl} {cs : List PV} {a : Addr} {B : Blk} (hb : h.get a.block = some B) (hs : a.spot = none) (hk : LOK C π k a.block) (hi : isRef k = false)
    (hl : a.off + cs.length ≤ B.cells.length) (hv : LR C h none cs ((B.cells.drop a.off).take cs.length)) : VR C h π (.r k cs) (.pointer (some a)) :=
  .r _ _ _ _ B hb hs hk hi hl (fun i hi => by
    have := hv.2 i hi
    simpa [List.getD_eq_getElem?_getD,List.getElem?_take,hi,List.getElem?_drop] using this)
theorem takeP_some : ∀ {n : Nat} {l r : List PV},takeP n l = some r → r = l.take n ∧ n ≤ l.length
  | 0,l,r,h => by simp [takeP] at h; simp [← h]
  | n + 1,[],r,h => by simp [takeP] at h
  | n + 1,x :: l,r,h => by
    simp only [takeP] at h
    split at h
    · rename_i r' hr
      cases h
      obtain ⟨h1,h2⟩ := takeP_some hr
      exact ⟨by simp [h1],by simpa using h2⟩
    · cases h
theorem takeN_of {n : Nat} {l : List Value} (hn : n ≤ l.length) : takeN n l = some (l.take n) := by
  induction n generalizing l with
  | zero => simp [takeN]
  | succ n ih =>
    cases l with
    | nil => simp at hn
    | cons x l => simp [takeN,ih (by simpa using hn)]
theorem pvOf_some {x : Value} {u : PV} (hq : pvOf x = some u) : plain x = true ∧ ∀ (C : Ctx) (h : AHeap) (π : Option Pl),VR C h π u x := by
  unfold pvOf at hq
  split at hq
  · split at hq
    · cases hq; exact ⟨rfl,fun C h π => .nil _ _ _⟩
    · cases hq
  · rename_i hne
    cases hp : plain x with
    | true =>
      simp only [hp] at hq
      cases hq
      exact ⟨rfl,fun C h π => .v _ _ hp (fun n c e => hne n c e)⟩
    | false => simp only [hp] at hq; cases hq
theorem rdv_rel {t d : Nat} {v u : PV} {x : Value} (hv : VR C h (some (.tmp t)) v x) (hq : rdv (.tmp t) v = some u) : VR C h (some (.tmp d)) u x := by
  unfold rdv at hq
  split at hq
  · rename_i c n cs
    cases hq
    rcases hv.inv_l with ⟨rfl,rfl,rfl⟩ | ⟨a,cap,B,rfl,hb,hs,⟨p,hp,ho⟩,hn,hc,hl,hr⟩
    · exact .nil _ _ _
    · cases hp
      exact .lst_of hb hs ⟨ho,d,rfl⟩ hn ⟨hc.full,hc.nz,hc.le,hc.kind,fun _ => hc.mine rfl,hc.one⟩ hl hr
  · cases hq
    cases hv with
    | m _ _ es c id hk hi => obtain ⟨p,hp,ho⟩ := hk; cases hp; exact .m _ _ _ _ _ ⟨ho,d,rfl⟩ hi
  · cases hq
  · cases hq
  · cases hq
  · rename_i hno hnm _ _ hit
    obtain rfl : v = u := Option.some.inj hq
    refine hv.retag ?_
    clear hv hq
    cases v with
    | it s p => exact absurd rfl (hit s p)
    | l k c n cs =>
      cases k with
      | own => exact (hno c n cs rfl).elim
      | _ => rfl
    | m k es c =>
      cases k with
      | own => exact (hnm es c rfl).elim
      | _ => rfl
    | _ => rfl
variable {P : Program} {Y : Pol} {f : FuncId} {σ : St} {tv : Tr Value}
theorem pev_sim (hT : TR Y f C h σ tv) (hG : GR P Y C h) {x : Operand} {u : PV} (hq : pev Y f σ x = some u) : ∃ x',ev P tv x = some x' ∧ VA C h u x' := by
  unfold pev at hq
  split at hq
  · rename_i t
    split at hq
    · rename_i v hv
      refine ⟨tget0 tv t, ?_,fun d => rdv_rel (hT _ _ hv) hq⟩
      unfold tget0 ev
      simp only []
      split <;> simp_all
    · cases hq
  · rename_i y
    obtain ⟨h1,h2⟩ := pvOf_some hq
    exact ⟨y,by simp [ev,h1],fun d => h2 _ _ _⟩
  · rename_i g
    split at hq
    · rename_i cs hg
      cases hq
      obtain ⟨h1,h2,B,h3,h4,h5⟩ := hG _ _ hg
      refine ⟨.pointer (some ⟨g,0,none⟩),by simp [ev,show Nat.blt g P.globals.size = true from Nat.ble_eq_true_of_le h1],fun d => .r _ _ _ _ B h3 rfl h2 rfl (by simpa using h4) (fun i hi => by simpa using h5 i hi)⟩
    · cases hq
  · cases hq
    exact ⟨_,rfl,fun d => .f _ _ _ _ _ _ rfl rfl (fun i hi => absurd hi (Nat.not_lt_zero _)) (fun i hi => absurd hi (Nat.not_lt_zero _))⟩
theorem evSafe_ev {x : Operand} (hs : evSafe x = true) : ∃ x',ev P tv x = some x' := by
  cases x with
  | tmp t => unfold ev; simp only []; split <;> exact ⟨_,rfl⟩
  | const v => exact ⟨v,by simp only [evSafe] at hs; simp [ev,hs]⟩
  | global g => simp [evSafe] at hs
  | func g => exact ⟨_,rfl⟩
def LA (C : Ctx) (h : AHeap) : List PV → List Value → Prop
  | [],[] => True
  | u :: us,x :: xs => VA C h u x ∧ LA C h us xs
  | _,_ => False
theorem pevs_sim (hT : TR Y f C h σ tv) (hG : GR P Y C h) : ∀ {l : List Operand} {us : List PV},pevs Y f σ l = some us → ∃ xs,evs P tv l = some xs ∧ LA C h us xs
  | [],us,hq => by cases hq; exact ⟨[],rfl,trivial⟩
  | x :: l,us,hq => by
    simp only [pevs] at hq
    split at hq
    · rename_i v hv
      split at hq
      · rename_i vs hvs
        cases hq
        obtain ⟨x',h1,h2⟩ := pev_sim hT hG hv
        obtain ⟨xs,h3,h4⟩ := pevs_sim hT hG hvs
        exact ⟨x' :: xs,by simp [evs,h1,h3],h2,h4⟩
      · cases hq
    · cases hq
theorem optPlain_sim (hT : TR Y f C h σ tv) (hG : GR P Y C h) {x : Option Operand} {u : Option Value} (hq : optPlain Y f σ x = some u) : optEv P tv x = some u := by
  unfold optPlain at hq
  split at hq
  · cases hq; rfl
  · split at hq
    · rename_i x v hv
      cases hq
      obtain ⟨x',h1,h2⟩ := pev_sim hT hG hv
      obtain ⟨rfl,hp,_⟩ := (h2 0).inv_v
      simp [optEv,h1,hp]
    · cases hq
theorem toPlain_rel {v : PV} {x y : Value} (hv : VR C h π v x) (hq : toPlain v = some y) : x = y := by
  unfold toPlain at hq
  split at hq
  · cases hq; exact hv.inv_v.1
  · rename_i cs
    split at hq
    · rename_i l hl
      cases hq
      obtain ⟨l',rfl,hr⟩ := hv.inv_a
      have key : ∀ {cs : List PV} {l l' : List Value},toPlain.go cs = some l → LR C h none cs l' → l' = l := by
        intro cs
        induction cs with
        | nil =>
          intro l l' hg hr
          cases hg
          exact List.eq_nil_of_length_eq_zero (by simpa using hr.1)
        | cons c cs ih =>
          intro l l' hg hr
          rcases hr.ind with ⟨h1,_⟩ | ⟨v,v',r,r',h1,rfl,hv,hr'⟩
          · cases h1
          · cases h1
            cases c with
            | v x =>
              simp only [toPlain.go] at hg
              split at hg
              · rename_i r'' hr''
                cases hg
                rw [hv.inv_v.1,ih hr'' hr']
              · cases hg
            | _ => simp [toPlain.go] at hg
      rw [← key hl hr]
    · cases hq
  · cases hq
theorem plainV_of {x : Value} (h : plain x = true) : plainV x = true := by
  cases x <;> first | exact h | simp [plain] at h
theorem toPlain_plain {v : PV} {x y : Value} (hv : VR C h π v x) (hq : toPlain v = some y) : plainV y = true := by
  unfold toPlain at hq
  split at hq
  · cases hq; exact plainV_of hv.inv_v.2.1
  · rename_i cs
    split at hq
    · rename_i l hl
      cases hq
      obtain ⟨l',rfl,hr⟩ := hv.inv_a
      have key : ∀ {cs : List PV} {l l' : List Value},toPlain.go cs = some l → LR C h none cs l' → l.all plain = true := by
        intro cs
        induction cs with
        | nil => intro l l' hg hr; cases hg; rfl
        | cons c cs ih =>
          intro l l' hg hr
          rcases hr.ind with ⟨h1,_⟩ | ⟨v,v',r,r',h1,rfl,hv,hr'⟩
          · cases h1
          · cases h1
            cases c with
            | v x =>
              simp only [toPlain.go] at hg
              split at hg
              · rename_i r'' hr''
                cases hg
                simp only [List.all_cons,Bool.and_eq_true]
                exact ⟨hv.inv_v.2.1,ih hr'' hr'⟩
              · cases hg
            | _ => simp [toPlain.go] at hg
      simpa [plainV] using key hl hr
    · cases hq
  · cases hq
theorem pvOf_ma {x : Value} {u : PV} (hq : pvOf x = some u) : maOf u = none := by
  unfold pvOf at hq
  split at hq
  · split at hq
    · cases hq; rfl
    · cases hq
  · split at hq
    · cases hq; rfl
    · cases hq
theorem ppart_ma {P : Program} {t : TypeId} {cs : List PV} {off : Nat} {u : PV} (hc : ∀ v ∈ cs,maOf v = none) (hq : ppart P t cs off = some u) : maOf u = none := by
  unfold ppart at hq
  split at hq
  · split at hq
    · split at hq
      · cases hq; rfl
      · cases hq
    · cases hq
  · exact hc u (List.mem_of_getElem? hq)
  · cases hq
theorem LR.noma {cs : List PV} {l : List Value} (hr : LR C h none cs l) : ∀ v ∈ cs,maOf v = none := fun v hv => by
  obtain ⟨i,hi,rfl⟩ := List.getElem_of_mem hv
  have h1 := hr.2 i hi
  rw [List.getD_eq_getElem?_getD,List.getElem?_eq_getElem hi] at h1
  exact h1.noma (fun t e => by cases e)
theorem prun_bind {α β : Type} (s : Sem α) (k : α → Sem β) {a : α} (hs : prun P s = some a) : prun P (s >>= k) = prun P (k a) := by
  show prun P (s.bind k) = _
  induction s generalizing a with
  | pure x => simp only [prun,Option.some.injEq] at hs; rw [← hs]; rfl
  | program g ih => exact ih P (by simpa [prun] using hs)
  | mark m g ih => exact ih (by simpa [prun] using hs)
  | _ => simp [prun] at hs
theorem prun_und {t : TypeId} {d : TypeDesc} (hu : P.underlying t = some d) : prun P (Go.underlying t) = some d := by
  unfold Go.underlying
  rw [prun_bind (program : Sem Program) _ (a := P) rfl]
  simp only [hu]; rfl
theorem nil_eq_nil {op : BinOp} {t e : TypeId} {x y : Operand} (hu : P.underlying t = some (.slice e)) (ho : op = .eql ∨ op = .neq) : abin P op t x y (.slice none 0 0) (.slice none 0 0) = some (.bool (match op with | .eql => true | _ => false)) := by
  have h1 : prun P (Op.equal t (.slice none 0 0) (.slice none 0 0)) = some true := by
    show prun P (Op.equalIn (9999 + 1) t _ _) = _
    unfold Op.equalIn
    rw [prun_bind _ _ (prun_und hu)]; rfl
  rcases ho with rfl | rfl
  · have h2 : prun P (do eqGuard .eql t x y (.slice none 0 0) (.slice none 0 0); binOp .eql t (.slice none 0 0) (.slice none 0 0)) = some (.bool true) := by
      show prun P (binOp .eql t (.slice none 0 0) (.slice none 0 0)) = _
      show prun P (Op.equal t (.slice none 0 0) (.slice none 0 0) >>= fun b => pure (Value.bool b)) = _
      rw [prun_bind _ _ h1]; rfl
    show abinS P .eql t x y (.slice none 0 0) (.slice none 0 0) = _
    unfold abinS
    simp only [plainV,plain,Bool.and_self,prunP,h2]
  · have h2 : prun P (do eqGuard .neq t x y (.slice none 0 0) (.slice none 0 0); binOp .neq t (.slice none 0 0) (.slice none 0 0)) = some (.bool false) := by
      show prun P (binOp .neq t (.slice none 0 0) (.slice none 0 0)) = _
      show prun P (Op.equal t (.slice none 0 0) (.slice none 0 0) >>= fun b => pure (Value.bool (!b))) = _
      rw [prun_bind _ _ h1]; rfl
    show abinS P .neq t x y (.slice none 0 0) (.slice none 0 0) = _
    unfold abinS
    simp only [plainV,plain,Bool.and_self,prunP,h2]
end
end Go.Pur
namespace Go.Pur
open Go.Abs
section
variable {P : Program} {Y : Pol} {f : FuncId} {C : Ctx} {h : AHeap} {σ : St} {tv : Tr Value}
theorem shape_slice {t e : TypeId} {sz : Nat} (hq : shapeOf P t = some (.slice e sz)) : P.underlying t = some (.slice e) ∧ ∃ i,P.info? e = some i ∧ i.size = sz := by
  unfold shapeOf at hq
  split at hq
  · rename_i e' hu
    split at hq
    · rename_i i hi; cases hq; exact ⟨hu,i,hi,rfl⟩
    · cases hq
  · split at hq <;> cases hq
  · cases hq
  · cases hq
theorem shape_array {t e : TypeId} {n sz : Nat} (hq : shapeOf P t = some (.array n e sz)) : P.underlying t = some (.array n e) ∧ ∃ i,P.info? e = some i ∧ i.size = sz := by
  unfold shapeOf at hq
  split at hq
  · split at hq <;> cases hq
  · rename_i n' e' hu
    split at hq
    · rename_i i hi; cases hq; exact ⟨hu,i,hi,rfl⟩
    · cases hq
  · cases hq
  · cases hq
theorem shape_string {t : TypeId} (hq : shapeOf P t = some .string) : P.underlying t = some .string := by
  unfold shapeOf at hq
  split at hq
  · split at hq <;> cases hq
  · split at hq <;> cases hq
  · assumption
  · cases hq
theorem field_of {s ty : TypeId} {fd off sz : Nat} (hq : fieldOf P s fd = some (ty,off,sz)) : ∃ fields fl i,P.underlying s = some (.struct fields) ∧ fields[fd]? = some fl ∧ fl.type = ty ∧ fl.offset = off ∧ P.info? ty = some i ∧ i.size = sz := by
  unfold fieldOf at hq
  split at hq
  · rename_i fields hu
    split at hq
    · rename_i fl hf
      split at hq
      · rename_i i hi; cases hq; exact ⟨fields,fl,i,hu,hf,rfl,rfl,hi,rfl⟩
      · cases hq
    · cases hq
  · cases hq
theorem sz_of {t : TypeId} {n : Nat} (hq : szOf P t = some n) : ∃ i,P.info? t = some i ∧ i.size = n := by
  unfold szOf at hq
  split at hq
  · rename_i i hi; cases hq; exact ⟨i,hi,rfl⟩
  · cases hq
theorem by_of {t : TypeId} {n : Nat} (hq : byOf P t = some n) : ∃ i,P.info? t = some i ∧ i.bytes = n := by
  unfold byOf at hq
  split at hq
  · rename_i i hi; cases hq; exact ⟨i,hi,rfl⟩
  · cases hq
theorem zero_of {t : TypeId} {z : Value} (hq : zeroOf P t = some z) : ∃ i,P.info? t = some i ∧ i.zero = some z ∧ plainV z = true := by
  unfold zeroOf at hq
  split at hq
  · rename_i i hi
    split at hq
    · rename_i z' hz
      split at hq
      · cases hq; exact ⟨i,hi,hz,‹_›⟩
      · cases hq
    · cases hq
  · cases hq
theorem LOK.prt {k : Vl} {d : Nat} {b : Nat} (hk : LOK C (some (.tmp d)) k b) (ho : notOwn k = true) : LOK C (some (.tmp d)) (prt k) b := by
  cases k <;> first | exact hk | cases ho
theorem prt_ref {k : Vl} (ho : notOwn k = true) : isRef (prt k) = false := by
  cases k <;> first | rfl | cases ho
theorem add_eq {a : Addr} (hs : a.spot = none) (k : Nat) : a.add k = ⟨a.block,a.off + k,none⟩ := by
  cases a; simp_all [Addr.add]
theorem pcells_drop {cs : List PV} {l : List Value} {off n k : Nat} (hl : off + cs.length ≤ l.length) (hr : LR C h none cs ((l.drop off).take cs.length)) (hk : k + n ≤ cs.length) : LR C h none ((cs.drop k).take n) ((l.drop (off + k)).take n) := by
  have h1 := (hr.drop k).take n
  rw [List.drop_take,List.drop_drop,List.take_take] at h1
  rwa [Nat.min_eq_left (by omega)] at h1
theorem idxAddr_sim {t : TypeId} {xo io : Operand} {x u : PV} {x' i : Value} (hx : ev P tv xo = some x') (hi : ev P tv io = some i) (hv : VA C h x x') (hq : idxAddr P t x i = some u) :
    ∃ y,aqIndexAddr P tv t xo io = some y ∧ VA C h u y := by
  unfold idxAddr at hq
  split at hq
  · rename_i k c n cs e sz hsh
    obtain ⟨hu,inf,hinf,rfl⟩ := shape_slice hsh
    split at hq
    · rename_i j hj
      split at hq
      · rename_i hle
        cases hq
        simp only [Bool.and_eq_true] at hle
        obtain ⟨hne,hle⟩ := hle
        have hle := Nat.le_of_ble_eq_true hle
        have hn0 : n ≠ 0 := by
          rintro rfl
          unfold intIn at hj
          split at hj
          · split at hj
            · rename_i h1; exact absurd (Nat.le_of_ble_eq_true h1) (Nat.not_succ_le_zero _)
            · cases hj
          · cases hj
        rcases (hv 0).inv_l with ⟨rfl,_⟩ | ⟨a,cap,B,rfl,_,hs0,_⟩
        · exact absurd rfl hn0
        · refine ⟨.pointer (some ⟨a.block,a.off + j * inf.size,none⟩),by simp [aqIndexAddr,hx,hi,hu,hinf,hj,add_eq hs0],fun d => ?_⟩
          rcases (hv d).inv_l with ⟨rfl,_⟩ | ⟨a',cap',B,e1,hb,hs,hk,hn,hc,hl,hr⟩
          · exact absurd rfl hn0
          · cases e1
            have hlen : j * inf.size ≤ cs.length := by rw [Nat.succ_mul] at hle; omega
            refine .r_of (a := ⟨a.block,a.off + j * inf.size,none⟩) hb rfl (LOK.prt hk hne) (prt_ref hne) ?_ ?_
            · simp only [List.length_drop]; omega
            · simp only [List.length_drop]
              have := pcells_drop (k := j * inf.size) (n := cs.length - j * inf.size) hl hr (by omega)
              rwa [List.take_of_length_le (by simp)] at this
      · cases hq
    · cases hq
  · rename_i b off n cap e sz hsh
    obtain ⟨hu,inf,hinf,rfl⟩ := shape_slice hsh
    split at hq
    · rename_i j hj
      cases hq
      obtain ⟨id,hb,rfl,_⟩ := (hv 0).inv_s
      exact ⟨.pointer (some ⟨id,off + j * inf.size,none⟩),by simp [aqIndexAddr,hx,hi,hu,hinf,hj,Addr.add],fun d => .p _ _ _ _ hb⟩
    · cases hq
  · rename_i k cs n e sz hsh
    obtain ⟨hu,inf,hinf,rfl⟩ := shape_array hsh
    split at hq
    · rename_i j hj
      split at hq
      · rename_i hle
        cases hq
        have hle := Nat.le_of_ble_eq_true hle
        have hlen : j * inf.size ≤ cs.length := by rw [Nat.succ_mul] at hle; omega
        obtain ⟨a,B,rfl,_,hs0,_⟩ := (hv 0).inv_r
        refine ⟨.pointer (some ⟨a.block,a.off + j * inf.size,none⟩),by simp [aqIndexAddr,hx,hi,hu,hinf,hj,add_eq hs0],fun d => ?_⟩
        obtain ⟨a',B,e1,hb,hs,hk,hir,hl,hr⟩ := (hv d).inv_r
        cases e1
        refine .r_of (a := ⟨a.block,a.off + j * inf.size,none⟩) hb rfl hk hir ?_ ?_
        · simp only [List.length_drop]; omega
        · simp only [List.length_drop]
          have := pcells_drop (k := j * inf.size) (n := cs.length - j * inf.size) hl hr (by omega)
          rwa [List.take_of_length_le (by simp)] at this
      · cases hq
    · cases hq
  · rename_i b off n e sz hsh
    obtain ⟨hu,inf,hinf,rfl⟩ := shape_array hsh
    split at hq
    · rename_i j hj
      cases hq
      obtain ⟨id,hb,rfl⟩ := (hv 0).inv_p
      exact ⟨.pointer (some ⟨id,off + j * inf.size,none⟩),by simp [aqIndexAddr,hx,hi,hu,hinf,hj,Addr.add],fun d => .p _ _ _ _ hb⟩
    · cases hq
  · cases hq
theorem fldAddr_sim {t : TypeId} {xo : Operand} {fd : Nat} {x u : PV} {x' : Value} (hx : ev P tv xo = some x') (hv : VA C h x x') (hq : fldAddr P t x fd = some u) :
    ∃ y,aqFieldAddr P tv t xo fd = some y ∧ VA C h u y := by
  unfold fldAddr at hq
  split at hq
  · rename_i ty off sz hf
    obtain ⟨fields,fl,inf,hu,hfl,rfl,rfl,hinf,rfl⟩ := field_of hf
    split at hq
    · cases hq
    · rename_i hz
      split at hq
      · rename_i b o
        cases hq
        obtain ⟨id,hb,rfl⟩ := (hv 0).inv_p
        exact ⟨.pointer (some ⟨id,o + fl.offset,none⟩),by simp [aqFieldAddr,hx,hu,hfl,hinf,hz,Addr.add],fun d => .p _ _ _ _ hb⟩
      · rename_i k cs
        split at hq
        · rename_i hle
          cases hq
          have hle := Nat.le_of_ble_eq_true hle
          obtain ⟨a,B,rfl,_,hs0,_⟩ := (hv 0).inv_r
          refine ⟨.pointer (some ⟨a.block,a.off + fl.offset,none⟩),by simp [aqFieldAddr,hx,hu,hfl,hinf,hz,add_eq hs0],fun d => ?_⟩
          obtain ⟨a',B,e1,hb,hs,hk,hir,hl,hr⟩ := (hv d).inv_r
          cases e1
          refine .r_of (a := ⟨a.block,a.off + fl.offset,none⟩) hb rfl hk hir ?_ ?_
          · simp only [List.length_drop]; omega
          · simp only [List.length_drop]
            have := pcells_drop (k := fl.offset) (n := cs.length - fl.offset) hl hr (by omega)
            rwa [List.take_of_length_le (by simp)] at this
        · cases hq
      · cases hq
  · cases hq
theorem ppart_sim {t : TypeId} {cs : List PV} {l : List Value} {off : Nat} {u : PV} (hr : LR C h none cs l) (hq : ppart P t cs off = some u) : ∃ y,apart' P t l off = some y ∧ VR C h none u y := by
  unfold ppart at hq
  unfold apart'
  split at hq
  · rename_i hrow
    split at hq
    · rename_i n hn
      obtain ⟨inf,hinf,rfl⟩ := sz_of hn
      split at hq
      · rename_i r htk
        cases hq
        obtain ⟨rfl,hle⟩ := takeP_some htk
        have h1 := hr.drop off
        have hle' : inf.size ≤ (l.drop off).length := by rw [h1.1]; exact hle
        exact ⟨_,by simp only [hrow,hinf,takeN_of hle'],VR.agg_of (h1.take _)⟩
      · cases hq
    · cases hq
  · rename_i hrow
    obtain ⟨y,h1,h2⟩ := hr.get hq
    exact ⟨y,by simp only [hrow,h1],h2⟩
  · cases hq
theorem pfield_sim {t : TypeId} {xo : Operand} {fd : Nat} {x u : PV} {x' : Value} (hx : ev P tv xo = some x') (hv : VA C h x x') (hq : pfield P t x fd = some u) :
    ∃ y,aqField P tv t xo fd = some y ∧ VA C h u y := by
  unfold pfield at hq
  split at hq
  · rename_i cs ty off sz hf
    obtain ⟨fields,fl,inf,hu,hfl,rfl,rfl,hinf,rfl⟩ := field_of hf
    obtain ⟨l,rfl,hr⟩ := (hv 0).inv_a
    obtain ⟨y,h1,h2⟩ := ppart_sim hr hq
    exact ⟨y,by simp [aqField,hx,hu,hfl,h1],fun d => h2.out _⟩
  · cases hq
theorem pqIndex_sim {t : TypeId} {xo io : Operand} {x u : PV} {x' i : Value} (hx : ev P tv xo = some x') (hi : ev P tv io = some i) (hpi : plain i = true) (hv : VA C h x x') (hq : pqIndex P t x i = some u) :
    ∃ y,aqIndex P tv t xo io = some y ∧ VA C h u y := by
  unfold pqIndex at hq
  split at hq
  · rename_i cs n e sz hsh
    obtain ⟨hu,inf,hinf,rfl⟩ := shape_array hsh
    split at hq
    · rename_i j hj
      obtain ⟨l,rfl,hr⟩ := (hv 0).inv_a
      obtain ⟨y,h1,h2⟩ := ppart_sim hr hq
      exact ⟨y,by simp [aqIndex,hx,hi,hu,hj,hinf,h1],fun d => h2.out _⟩
    · cases hq
  · rename_i s hsh
    have hu := shape_string hsh
    obtain ⟨rfl,_⟩ := (hv 0).inv_v
    split at hq
    · rename_i r hr
      exact ⟨r,by simp [aqIndex,hx,hi,hu,hpi,hr],fun d => (pvOf_some hq).2 _ _ _⟩
    · cases hq
  · cases hq
theorem natOf_le {lo hi n : Nat} {v : Value} (hq : natOf lo hi v = some n) : lo ≤ n ∧ n ≤ hi := by
  unfold natOf at hq
  split at hq
  · split at hq
    · rename_i hb
      cases hq
      simp only [Bool.and_eq_true] at hb
      exact ⟨Nat.le_of_ble_eq_true hb.1,Nat.le_of_ble_eq_true hb.2⟩
    · cases hq
  · cases hq
theorem natOf_wide {lo hi hi' n : Nat} {v : Value} (hq : natOf lo hi v = some n) (h' : hi ≤ hi') : natOf lo hi' v = some n := by
  have h1 := natOf_le hq
  unfold natOf at hq ⊢
  split at hq
  · split at hq
    · cases hq
      rw [show (Nat.ble lo n && Nat.ble n hi') = true by simp only [Bool.and_eq_true]; exact ⟨Nat.ble_eq_true_of_le h1.1,Nat.ble_eq_true_of_le (Nat.le_trans h1.2 h')⟩]
    · cases hq
  · cases hq
theorem natOfO_le {hi d n : Nat} {v : Option Value} (hd : d ≤ hi) (hq : natOfO 0 hi d v = some n) : n ≤ hi := by
  cases v with
  | none => cases hq; exact hd
  | some v => exact (natOf_le hq).2
theorem slCk_some {mx : Option Value} {c c' : Ck} {n hh m : Nat} (hq : slCk mx c n hh m = some c') : (c' = .full → (mx = none ∧ c = .full ∧ hh = n) ∨ (mx ≠ none ∧ hh = m)) ∧ c' ≠ .nz ∧ (mx ≠ none → c = .any → n ≠ 0) := by
  have cap : ∀ b,capK b = .full → b = true := fun b e => by cases b; cases e; rfl
  have capn : ∀ b,capK b ≠ .nz := fun b e => by cases b <;> cases e
  unfold slCk at hq
  split at hq
  · cases hq; exact ⟨fun e => .inl ⟨rfl,rfl,Nat.eq_of_beq_eq_true (cap _ e)⟩,capn _,fun e => absurd rfl e⟩
  · cases hq; exact ⟨(fun e => by cases e),(fun e => by cases e),fun e => absurd rfl e⟩
  · split at hq
    · rename_i hb
      cases hq
      exact ⟨fun e => .inr ⟨by simp,(Nat.eq_of_beq_eq_true (cap _ e)).symm⟩,capn _,fun _ _ => Nat.ne_of_gt (Nat.le_of_ble_eq_true hb)⟩
    · cases hq
  · rename_i hca
    cases hq
    exact ⟨fun e => .inr ⟨by simp,(Nat.eq_of_beq_eq_true (cap _ e)).symm⟩,capn _,fun _ e => (hca e).elim⟩
theorem pslice_sim {sz : Nat} {k : Vl} {c : Ck} {n : Nat} {cs : List PV} {x' : Value} {lo hi mx : Option Value} {u : PV} (hv : VA C h (.l k c n cs) x') (hq : pslice sz k c n cs lo hi mx = some u) :
    ∃ a cap y,x' = .slice a n cap ∧ aslice sz a n cap lo hi mx = some y ∧ VA C h u y := by
  unfold pslice at hq
  split at hq
  · rename_i m hm
    split at hq
    · rename_i hh hhi
      split at hq
      · rename_i l hlo
        split at hq
        · rename_i hb
          simp only [Bool.and_eq_true] at hb
          obtain ⟨⟨⟨hle,hok⟩,hne⟩,hcl⟩ := hb
          have hle := Nat.le_of_ble_eq_true hle
          have hcl := Nat.le_of_ble_eq_true hcl
          split at hq
          · rename_i c' hc'
            cases hq
            obtain ⟨hfull,hnz,hany⟩ := slCk_some hc'
            have hmn : m ≤ n := natOfO_le (Nat.le_refl _) hm
            have hlh : l ≤ hh := natOfO_le (Nat.zero_le _) hlo
            have hm1 : mx = none → m = n := fun e => by subst e; cases hm; rfl
            have hm2 : hi = none → mx = none := fun e => by
              subst e
              cases mx with
              | none => rfl
              | some v => simp [hiOk] at hok
            have hls : l * sz + (hh - l) * sz = hh * sz := by rw [← Nat.add_mul]; congr 1; omega
            have hlen : ((cs.drop (l * sz)).take ((hh - l) * sz)).length = (hh - l) * sz := by simp; omega
            have mk : ∀ (a : Addr) (cap : Nat) (B : Blk) (d : Nat) (cap' off' : Nat),h.get a.block = some B → LOK C (some (.tmp d)) k a.block → n < unkCap → (∀ v ∈ cs,cellOK v = true) → a.off + cs.length ≤ B.cells.length →
                LR C h none cs ((B.cells.drop a.off).take cs.length) → (cap' < unkCap ∨ cap' = unkCap ∨ roCap ≤ cap') → (cap' < unkCap → hh - l ≤ cap') → (c' = .full → cap' ≤ hh - l) → (off' = a.off + l * sz ∨ hh - l = 0 ∧ off' = a.off) →
                VR C h (some (.tmp d)) (.l (prt k) c' (hh - l) ((cs.drop (l * sz)).take ((hh - l) * sz))) (.slice (some ⟨a.block,off',none⟩) (hh - l) cap') := by
              intro a cap B d cap' off' hb hk hn hone hl hr hkind hcl' hcf hoff
              refine .lst_of (a := ⟨a.block,off',none⟩) hb rfl (LOK.prt hk hne) (by omega) ⟨hcf,fun e => absurd e hnz,hcl',hkind,(fun e => by rw [prt_ref hne] at e; cases e),fun v hv => hone v (List.mem_of_mem_drop (List.mem_of_mem_take hv))⟩ ?_ ?_
              · rw [hlen]
                rcases hoff with rfl | ⟨h0,rfl⟩
                · simp only []; omega
                · simp only []; rw [h0]; simp only [Nat.zero_mul,Nat.add_zero]; omega
              · rw [hlen]
                rcases hoff with rfl | ⟨h0,rfl⟩
                · exact pcells_drop hl hr (by omega)
                · rw [h0]; simp only [Nat.zero_mul,List.take_zero]; exact LR.nil _ _ _
            have pick : ∀ (b : Bool) (a : Addr),a.spot = none → (b = true → hh - l = 0) → ∃ off',pickB b (some a) ((some a).map (·.add (l * sz))) = some ⟨a.block,off',none⟩ ∧ (off' = a.off + l * sz ∨ hh - l = 0 ∧ off' = a.off) := by
              intro b a hs hb0
              cases b with
              | true => exact ⟨a.off,by cases a; simp_all [pickB],.inr ⟨hb0 rfl,rfl⟩⟩
              | false => exact ⟨a.off + l * sz,by simp [pickB,add_eq hs],.inl rfl⟩
            rcases (hv 0).inv_l with ⟨rfl,rfl,rfl⟩ | ⟨a,cap,B,rfl,hb0,hs0,_,hn0,hc0,hl0,hr0⟩
            ·
              have hm0 : m = 0 := by omega
              have hh0 : hh = 0 := by omega
              have hl00 : l = 0 := by omega
              subst hm0 hh0 hl00
              refine ⟨none,0,.slice none 0 0,rfl, ?_,fun d => ?_⟩
              · unfold aslice
                simp only [show Nat.blt 0 unkCap = true by decide,hm,hhi,hlo,hok,pickB]
                simp
              · simp; exact .nil _ _ _
            · have hall := fun d => (hv d).inv_l
              have parts : ∀ d,LOK C (some (.tmp d)) k a.block := fun d => by
                rcases (hv d).inv_l with ⟨rfl,rfl,e⟩ | ⟨a',cap',B',e1,_,_,hk,_⟩
                · cases e
                · cases e1; exact hk
              cases hcap : Nat.blt cap unkCap with
              | true =>
                have hcu : cap < unkCap := Nat.le_of_ble_eq_true hcap
                have hnc := hc0.le hcu
                obtain ⟨m',hm',hmm,hm'2⟩ : ∃ m',natOfO 0 cap cap mx = some m' ∧ m ≤ m' ∧ (mx ≠ none → m' = m) := by
                  cases mx with
                  | none => cases hm; exact ⟨cap,rfl,hnc,fun e => absurd rfl e⟩
                  | some v => exact ⟨m,natOf_wide hm hnc,Nat.le_refl _,fun _ => rfl⟩
                have hm'c : m' ≤ cap := natOfO_le (Nat.le_refl _) hm'
                have hhi' : natOfO 0 m' n hi = some hh := by
                  cases hi with
                  | none => exact hhi
                  | some v => exact natOf_wide hhi hmm
                obtain ⟨off',hp1,hp2⟩ := pick (Nat.beq m' l) a hs0 (fun e => by have := Nat.eq_of_beq_eq_true e; omega)
                refine ⟨some a,cap,.slice (some ⟨a.block,off',none⟩) (hh - l) (m' - l),rfl, ?_,fun d => mk a cap B d _ off' hb0 (parts d) hn0 hc0.one hl0 hr0 (.inl (by omega)) (fun _ => by omega) (fun e => ?_) hp2⟩
                · unfold aslice
                  simp only [hcap,hm',hhi',hlo,hok,Nat.ble_eq_true_of_le (Nat.le_trans hle hmm),Bool.and_self,hp1]
                · rcases hfull e with ⟨e1,e2,e3⟩ | ⟨e1,e2⟩
                  · have := hc0.full e2
                    omega
                  · rw [hm'2 e1]; omega
              | false =>
                have hcu : ¬ cap < unkCap := fun e => by rw [show Nat.blt cap unkCap = true from Nat.ble_eq_true_of_le e] at hcap; cases hcap
                cases mx with
                | none =>
                  cases hm
                  by_cases hl1 : l = 0
                  · subst hl1
                    refine ⟨some a,cap,.slice (some a) hh cap,rfl, ?_,fun d => ?_⟩
                    · unfold aslice; simp only [hcap,hhi,hlo]; try rfl
                    · have := mk a cap B d cap a.off hb0 (parts d) hn0 hc0.one hl0 hr0 hc0.kind (fun e => absurd e hcu) (fun e => by
                        rcases hfull e with ⟨_,e2,_⟩ | ⟨e1,_⟩
                        · have := hc0.full e2; omega
                        · exact absurd rfl e1) (.inl (by omega))
                      rw [Nat.sub_zero] at this ⊢
                      have ea : a = ⟨a.block,a.off,none⟩ := by cases a; simp_all
                      rw [ea]; exact this
                  · have hsc := @subCap_ge cap sz
                    have h12 : unkCap < roCap := by decide
                    refine ⟨some a,cap,.slice (some ⟨a.block,a.off + l * sz,none⟩) (hh - l) (subCap cap sz),rfl, ?_,fun d => mk a cap B d (subCap cap sz) _ hb0 (parts d) hn0 hc0.one hl0 hr0 (.inr (.inr hsc)) (fun e => absurd (Nat.lt_trans (Nat.lt_of_le_of_lt hsc e) h12) (Nat.lt_irrefl _)) (fun e => by
                        rcases hfull e with ⟨_,e2,_⟩ | ⟨e1,_⟩
                        · have := hc0.full e2; omega
                        · exact absurd rfl e1) (.inl rfl)⟩
                    unfold aslice
                    simp only [hcap,hhi,hlo,add_eq hs0]
                    rw [show Nat.beq l 0 = false from Bool.eq_false_iff.2 fun e => hl1 (Nat.eq_of_beq_eq_true e)]
                | some v =>
                  have hn1 : n ≠ 0 := by
                    rintro rfl
                    cases c with
                    | full => exact absurd (hc0.full rfl) (by omega)
                    | nz => exact hc0.nz rfl rfl
                    | any => exact hany (by simp) rfl rfl
                  have hi2 : hi ≠ none := fun e => by have := hm2 e; cases this
                  obtain ⟨off',hp1,hp2⟩ := pick (Nat.beq m l) a hs0 (fun e => by have := Nat.eq_of_beq_eq_true e; omega)
                  refine ⟨some a,cap,.slice (some ⟨a.block,off',none⟩) (hh - l) (m - l),rfl, ?_,fun d => mk a cap B d _ off' hb0 (parts d) hn0 hc0.one hl0 hr0 (.inl (by omega)) (fun _ => by omega) (fun e => by
                        rcases hfull e with ⟨e1,_⟩ | ⟨_,e1⟩
                        · cases e1
                        · omega) hp2⟩
                  have hhi' : natOfO 0 m m hi = some hh := by
                    cases hi with
                    | none => exact absurd rfl hi2
                    | some v => exact hhi
                  have hm' : natOf 0 n v = some m := hm
                  unfold aslice
                  simp only [hcap,hm',show (Nat.blt 0 n && Nat.blt n unkCap) = true by
                    simp only [Bool.and_eq_true]; exact ⟨Nat.ble_eq_true_of_le (by omega),Nat.ble_eq_true_of_le hn0⟩,hhi',hlo]
                  cases hi with
                  | none => exact absurd rfl hi2
                  | some w =>
                    simp only [Option.map] at hp1
                    have e4 : (some (pickB (Nat.beq m l) a (a.add (l * sz))) : Option Addr) = some ⟨a.block,off',none⟩ := by
                      rw [← hp1]; cases Nat.beq m l <;> rfl
                    rw [e4]
          · cases hq
        · cases hq
      · cases hq
    · cases hq
  · cases hq
theorem aslice_out {sz : Nat} {a : Addr} {n cap : Nat} {lo hi mx : Option Value} {y : Value} (hs : a.spot = none) (hq : aslice sz (some a) n cap lo hi mx = some y) (hc : cap < unkCap) :
    ∃ a' n' c',y = .slice (some a') n' c' ∧ a'.block = a.block ∧ a'.spot = none ∧ c' < unkCap ∧ n' ≤ c' ∧ ∀ b : Nat,aslice sz (some ⟨b,a.off,none⟩) n cap lo hi mx = some (.slice (some ⟨b,a'.off,none⟩) n' c') := by
  have hcap : Nat.blt cap unkCap = true := Nat.ble_eq_true_of_le hc
  unfold aslice at hq
  simp only [hcap] at hq
  split at hq
  · rename_i m hm
    split at hq
    · rename_i hh hhi
      split at hq
      · rename_i l hl
        split at hq
        · rename_i hok
          cases hq
          have hm' : m ≤ cap := natOfO_le (Nat.le_refl _) hm
          simp only [Bool.and_eq_true] at hok
          have hle := Nat.le_of_ble_eq_true hok.1
          cases hb : Nat.beq m l with
          | true => exact ⟨a,hh - l,m - l,by simp [pickB],rfl,hs,by omega,by omega,fun b => by unfold aslice; simp only [hcap,hm,hhi,hl,hok.1,hok.2,Bool.and_self,hb,pickB]⟩
          | false => exact ⟨a.add (l * sz),hh - l,m - l,by simp [pickB],by simp [add_eq hs],by simp [add_eq hs],by omega,by omega,fun b => by unfold aslice; simp only [hcap,hm,hhi,hl,hok.1,hok.2,Bool.and_self,hb,pickB,Option.map,add_eq hs,add_eq (a := ⟨b,a.off,none⟩) rfl]⟩
        · cases hq
      · cases hq
    · cases hq
  · cases hq
theorem pqSlice_sim {t : TypeId} {xo : Operand} {lo hi mx : Option Operand} {l r m : Option Value} {x u : PV} {x' : Value} (hx : ev P tv xo = some x') (hl : optEv P tv lo = some l) (hr : optEv P tv hi = some r) (hm : optEv P tv mx = some m) (hv : VA C h x x')
    (hq : pqSlice P t x l r m = some u) : ∃ y,aqSlice P tv t xo lo hi mx = some y ∧ VA C h u y := by
  unfold pqSlice at hq
  split at hq
  · rename_i k c n cs e sz hsh
    obtain ⟨hu,inf,hinf,rfl⟩ := shape_slice hsh
    obtain ⟨a,cap,y,rfl,h1,h2⟩ := pslice_sim hv hq
    exact ⟨y,by simp [aqSlice,hx,hl,hr,hm,hu,hinf,h1],h2⟩
  · rename_i b off n cap e sz hsh
    obtain ⟨hu,inf,hinf,rfl⟩ := shape_slice hsh
    split at hq
    · rename_i a n' c' hcu has
      split at hq
      · cases hq
        obtain ⟨id,hb,rfl,hc,hn⟩ := (hv 0).inv_s
        obtain ⟨a',n'',c'',e1,e2,e3,e4,e5,e6⟩ := aslice_out rfl has (Nat.le_of_ble_eq_true hcu)
        cases e1
        exact ⟨_,by simp only [aqSlice,hx,hl,hr,hm,hu,hinf]; exact e6 id,fun d => .s _ _ _ _ _ id (by rw [e2]; exact hb) ⟨Nat.lt_of_le_of_lt e5 e4,.inl e4⟩ e5⟩
      · cases hq
    · cases hq
  · rename_i b off n e sz hsh
    obtain ⟨hu,inf,hinf,rfl⟩ := shape_array hsh
    split at hq
    · rename_i hnu
      split at hq
      · rename_i a n' c' has
        cases hq
        obtain ⟨id,hb,rfl⟩ := (hv 0).inv_p
        obtain ⟨a',n'',c'',e1,e2,e3,e4,e5,e6⟩ := aslice_out rfl has (Nat.le_of_ble_eq_true hnu)
        cases e1
        exact ⟨_,by simp only [aqSlice,hx,hl,hr,hm,hu,hinf,hnu]; exact e6 id,fun d => .s _ _ _ _ _ id (by rw [e2]; exact hb) ⟨Nat.lt_of_le_of_lt e5 e4,.inl e4⟩ e5⟩
      · cases hq
    · cases hq
  · rename_i s hsh
    have hu := shape_string hsh
    obtain ⟨rfl,_⟩ := (hv 0).inv_v
    split at hq
    · split at hq
      · rename_i y hy
        exact ⟨y,by simp [aqSlice,hx,hl,hr,hm,hu,hy],fun d => (pvOf_some hq).2 _ _ _⟩
      · cases hq
    · cases hq
  · cases hq
theorem VR.goInt {π : Option Pl} (n : Nat) : VR C h π (.v (goInt n)) (goInt n) := .v _ _ rfl (fun _ _ e => by simp [Go.goInt] at e)
theorem plen_sim {types : Array TypeId} {t : TypeId} {xo : Operand} {x u : PV} {x' : Value} (ht : types[0]? = some t) (hx : ev P tv xo = some x') (hv : VA C h x x') (hq : plen P t x = some u) : ∃ y,aqLen P tv types xo = some y ∧ VA C h u y := by
  unfold plen at hq
  split at hq
  · rename_i k c n cs e sz hsh
    obtain ⟨hu,_⟩ := shape_slice hsh
    cases hq
    rcases (hv 0).inv_l with ⟨rfl,rfl,rfl⟩ | ⟨a,cap,B,rfl,_⟩
    · exact ⟨_,by simp only [aqLen,hx,ht,hu],fun d => .goInt 0⟩
    · exact ⟨_,by simp only [aqLen,hx,ht,hu],fun d => .goInt n⟩
  · rename_i b off n cap e sz hsh
    obtain ⟨hu,_⟩ := shape_slice hsh
    cases hq
    obtain ⟨id,hb,rfl,_⟩ := (hv 0).inv_s
    exact ⟨_,by simp only [aqLen,hx,ht,hu],fun d => .goInt n⟩
  · rename_i s hsh
    have hu := shape_string hsh
    cases hq
    obtain ⟨rfl,_⟩ := (hv 0).inv_v
    exact ⟨_,by simp only [aqLen,hx,ht,hu],fun d => .goInt _⟩
  · rename_i n e sz hsh
    obtain ⟨hu,_⟩ := shape_array hsh
    cases hq
    refine ⟨_, ?_,fun d => .goInt n⟩
    simp only [aqLen,hx,ht,hu]
  · cases hq
theorem pplains_rel : ∀ {us : List PV} {xs ys : List Value},LA C h us xs → pplains us = some ys → xs = ys ∧ ys.all plain = true
  | [],[],ys,_,hq => by cases hq; exact ⟨rfl,rfl⟩
  | u :: us,x :: xs,ys,hl,hq => by
    cases u with
    | v y =>
      simp only [pplains] at hq
      split at hq
      · rename_i r hr
        cases hq
        obtain ⟨rfl,hp,_⟩ := (hl.1 0).inv_v
        obtain ⟨rfl,h2⟩ := pplains_rel hl.2 hr
        exact ⟨rfl,by simp [hp]; simpa using h2⟩
      · cases hq
    | _ => simp [pplains] at hq
  | [],_ :: _,_,hl,_ => hl.elim
  | _ :: _,[],_,hl,_ => hl.elim
theorem abin_nil {op : BinOp} {t : TypeId} {d : TypeDesc} {x y : Operand} {a b : Value} {r : Bool} (hu : P.underlying t = some d) (hf : intFast op a b = none) (hp : (plainV a && plainV b) = false) (hn : nilEq d a b = some r) (ho : op = .eql ∨ op = .neq) :
    abin P op t x y a b = some (.bool (match op with | .eql => r | _ => !r)) := by
  rcases ho with rfl | rfl <;> simp only [abin,hf,abinS,hp,hu,hn]
theorem intFast_none {op : BinOp} {a b : Value} (ha : ∀ k n,a ≠ .int k n) : intFast op a b = none := by
  unfold intFast
  split
  · exact absurd rfl (ha _ _)
  · rfl
theorem VR.bool {π : Option Pl} (b : Bool) : VR C h π (.v (.bool b)) (.bool b) := .v _ _ rfl (fun _ _ e => by cases e)
theorem plnil_sim {op : BinOp} {t : TypeId} {x y : Operand} {k : Vl} {c : Ck} {n : Nat} {cs : List PV} {a b : Value} {u : PV} (hv : VA C h (.l k c n cs) a) (hw : VA C h (.l .own .nz 0 []) b) (hq : plnil P op t c n = some u) : ∃ r,abin P op t x y a b = some r ∧ VA C h u r := by
  unfold plnil at hq
  split at hq
  · rename_i e bb hu hn
    have hb : b = .slice none 0 0 := by
      rcases (hw 0).inv_l with ⟨_,_,rfl⟩ | ⟨a',cap,B,rfl,_,_,_,_,hc,_⟩
      · rfl
      · exact absurd rfl (hc.nz rfl)
    subst hb
    have ho : op = .eql ∨ op = .neq := by
      split at hq
      · exact .inl rfl
      · exact .inr rfl
      · cases hq
    rcases (hv 0).inv_l with ⟨rfl,rfl,rfl⟩ | ⟨a',cap,B,rfl,_,_,_,_,hc,_⟩
    · have hbb : bb = true := by
        unfold isNil at hn
        split at hn
        · cases hn; rfl
        · split at hn
          · rename_i h0; exact absurd (Nat.le_of_ble_eq_true h0) (by omega)
          · cases hn
      subst hbb
      refine ⟨_,nil_eq_nil hu ho,fun d => ?_⟩
      rcases ho with rfl | rfl <;> (cases hq; exact .bool _)
    · have hbb : bb = false := by
        unfold isNil at hn
        split at hn
        · cases hn
          exact Bool.eq_false_iff.2 fun e => hc.nz rfl (Nat.eq_of_beq_eq_true e)
        · split at hn
          · cases hn; rfl
          · cases hn
      subst hbb
      refine ⟨_,abin_nil hu (intFast_none (fun k n e => by cases e)) rfl (r := false) rfl ho,fun d => ?_⟩
      rcases ho with rfl | rfl <;> (cases hq; exact .bool _)
  · cases hq
theorem pnil_sim {op : BinOp} {t : TypeId} {x y : Operand} {p q : PV} {a b : Value} {u : PV} (hv : VA C h p a) (hw : VA C h q b) (hq : pnil P op t p q = some u) : ∃ r,abin P op t x y a b = some r ∧ VA C h u r := by
  unfold pnil at hq
  split at hq
  all_goals try (cases hq; done)
  all_goals
    rename_i hm
    cases hq
    split at hm
    all_goals try (cases hm; done)
  all_goals
    rename_i hu
    refine ⟨_,abin_nil hu (r := false) ?_ ?_ ?_ (by first | exact .inl rfl | exact .inr rfl),fun d => .bool _⟩
  all_goals first
    | (obtain ⟨id,_,rfl⟩ := (hv 0).inv_p; obtain ⟨rfl,_⟩ := (hw 0).inv_v; rfl)
    | (obtain ⟨rfl,_⟩ := (hv 0).inv_v; obtain ⟨id,_,rfl⟩ := (hw 0).inv_p; rfl)
    | (obtain ⟨a',B,rfl,_⟩ := (hv 0).inv_r; obtain ⟨rfl,_⟩ := (hw 0).inv_v; rfl)
    | (obtain ⟨rfl,_⟩ := (hv 0).inv_v; obtain ⟨a',B,rfl,_⟩ := (hw 0).inv_r; rfl)
    | (have h1 := hv 0; cases h1; obtain ⟨rfl,_⟩ := (hw 0).inv_v; rfl)
    | (have h1 := hw 0; cases h1; obtain ⟨rfl,_⟩ := (hv 0).inv_v; rfl)
theorem pbin_sim {op : BinOp} {t : TypeId} {x y : Operand} {p q : PV} {a b : Value} {u : PV} (hv : VA C h p a) (hw : VA C h q b) (hq : pbin P op t x y p q = some u) : ∃ r,abin P op t x y a b = some r ∧ VA C h u r := by
  unfold pbin at hq
  split at hq
  · obtain ⟨rfl,_⟩ := (hv 0).inv_v
    obtain ⟨rfl,_⟩ := (hw 0).inv_v
    split at hq
    · rename_i r hr; exact ⟨r,hr,fun d => (pvOf_some hq).2 _ _ _⟩
    · cases hq
  · exact plnil_sim hv hw hq
  · split at hq
    · rename_i a' b' h1 h2
      obtain rfl := toPlain_rel (hv 0) h1
      obtain rfl := toPlain_rel (hw 0) h2
      split at hq
      · rename_i r hr; exact ⟨r,hr,fun d => (pvOf_some hq).2 _ _ _⟩
      · cases hq
    · exact pnil_sim hv hw hq
theorem pq_sim (hT : TR Y f C h σ tv) (hG : GR P Y C h) {op : Op} {u : PV} (hq : pq P Y f op σ = some u) : kindOf op = 0 ∧ ∃ x',aq P op tv h = some x' ∧ VA C h u x' := by
  cases op with
  | move x => exact ⟨rfl,pev_sim hT hG hq⟩
  | assign x => exact ⟨rfl,pev_sim hT hG hq⟩
  | pick c x y =>
    refine ⟨rfl, ?_⟩
    simp only [pq] at hq
    split at hq
    · rename_i hc
      obtain ⟨c',h1,h2⟩ := pev_sim hT hG hc
      obtain ⟨rfl,_⟩ := (h2 0).inv_v
      split at hq
      · rename_i hs
        obtain ⟨y',hy⟩ := evSafe_ev (P := P) (tv := tv) hs
        obtain ⟨x',h3,h4⟩ := pev_sim hT hG hq
        exact ⟨x',by simp [aq,aqPick,h1,h3,hy],h4⟩
      · cases hq
    · rename_i hc
      obtain ⟨c',h1,h2⟩ := pev_sim hT hG hc
      obtain ⟨rfl,_⟩ := (h2 0).inv_v
      split at hq
      · rename_i hs
        obtain ⟨y',hy⟩ := evSafe_ev (P := P) (tv := tv) hs
        obtain ⟨x',h3,h4⟩ := pev_sim hT hG hq
        exact ⟨x',by simp [aq,aqPick,h1,h3,hy],h4⟩
      · cases hq
    · cases hq
  | nilCheck x =>
    refine ⟨rfl, ?_⟩
    simp only [pq] at hq
    split at hq
    · rename_i b o hx
      cases hq
      obtain ⟨x',h1,h2⟩ := pev_sim hT hG hx
      obtain ⟨id,_,rfl⟩ := (h2 0).inv_p
      exact ⟨_,by simp only [aq,aqNil,h1],h2⟩
    · rename_i k cs hx
      cases hq
      obtain ⟨x',h1,h2⟩ := pev_sim hT hG hx
      obtain ⟨a,B,rfl,_⟩ := (h2 0).inv_r
      exact ⟨_,by simp only [aq,aqNil,h1],h2⟩
    · rename_i g as bs hx
      cases hq
      obtain ⟨x',h1,h2⟩ := pev_sim hT hG hx
      have h3 := h2 0
      cases h3
      exact ⟨_,by simp only [aq,aqNil,h1],h2⟩
    · cases hq
  | binOp bop t x y z =>
    refine ⟨rfl, ?_⟩
    simp only [pq] at hq
    split at hq
    · rename_i a b ha hb
      obtain ⟨a',h1,h2⟩ := pev_sim hT hG ha
      obtain ⟨b',h3,h4⟩ := pev_sim hT hG hb
      obtain ⟨r,h5,h6⟩ := pbin_sim (x := x) (y := y) h2 h4 hq
      exact ⟨r,by simp [aq,aqBin,h1,h3,h5],h6⟩
    · cases hq
  | unOp uop t x =>
    refine ⟨rfl, ?_⟩
    simp only [pq] at hq
    split at hq
    · rename_i a ha
      obtain ⟨a',h1,h2⟩ := pev_sim hT hG ha
      obtain ⟨rfl,hp,_⟩ := (h2 0).inv_v
      split at hq
      · rename_i r hr
        exact ⟨r,by simp [aq,aqUn,h1,hp,hr],fun d => (pvOf_some hq).2 _ _ _⟩
      · cases hq
    · cases hq
  | convert src dst x =>
    refine ⟨rfl, ?_⟩
    simp only [pq] at hq
    split at hq
    · rename_i a ha
      obtain ⟨a',h1,h2⟩ := pev_sim hT hG ha
      obtain ⟨rfl,hp,_⟩ := (h2 0).inv_v
      split at hq
      · rename_i r hr
        exact ⟨r,by simp [aq,aqConv,h1,hp,hr],fun d => (pvOf_some hq).2 _ _ _⟩
      · cases hq
    · cases hq
  | slice t x lo hi mx =>
    refine ⟨rfl, ?_⟩
    simp only [pq] at hq
    split at hq
    · rename_i v l r m hv hl hr hm
      obtain ⟨x',h1,h2⟩ := pev_sim hT hG hv
      exact pqSlice_sim h1 (optPlain_sim hT hG hl) (optPlain_sim hT hG hr) (optPlain_sim hT hG hm) h2 hq
    · cases hq
  | fieldAddr t x fd =>
    refine ⟨rfl, ?_⟩
    simp only [pq] at hq
    split at hq
    · rename_i v hv
      obtain ⟨x',h1,h2⟩ := pev_sim hT hG hv
      exact fldAddr_sim h1 h2 hq
    · cases hq
  | field t x fd =>
    refine ⟨rfl, ?_⟩
    simp only [pq] at hq
    split at hq
    · rename_i v hv
      obtain ⟨x',h1,h2⟩ := pev_sim hT hG hv
      exact pfield_sim h1 h2 hq
    · cases hq
  | indexAddr t x ix =>
    refine ⟨rfl, ?_⟩
    simp only [pq] at hq
    split at hq
    · rename_i v i hv hi
      obtain ⟨x',h1,h2⟩ := pev_sim hT hG hv
      obtain ⟨i',h3,h4⟩ := pev_sim hT hG hi
      obtain ⟨rfl,_⟩ := (h4 0).inv_v
      exact idxAddr_sim h1 h3 h2 hq
    · cases hq
  | index t x ix =>
    refine ⟨rfl, ?_⟩
    simp only [pq] at hq
    split at hq
    · rename_i v i hv hi
      obtain ⟨x',h1,h2⟩ := pev_sim hT hG hv
      obtain ⟨i',h3,h4⟩ := pev_sim hT hG hi
      obtain ⟨rfl,hp,_⟩ := (h4 0).inv_v
      exact pqIndex_sim h1 h3 hp h2 hq
    · cases hq
  | extract x ix =>
    refine ⟨rfl, ?_⟩
    simp only [pq] at hq
    split at hq
    · rename_i cs hv
      obtain ⟨x',h1,h2⟩ := pev_sim hT hG hv
      obtain ⟨l,rfl,hr⟩ := (h2 0).inv_t
      obtain ⟨y,h3,h4⟩ := hr.get hq
      exact ⟨y,by simp only [aq,aqExtract,h1]; rw [← Array.getElem?_toList]; exact h3,fun d => h4.out _⟩
    · cases hq
  | call c =>
    obtain ⟨callee,args,types⟩ := c
    cases callee with
    | builtin b =>
      cases b <;> try (simp only [pq] at hq; cases hq; done)
      case len =>
        refine ⟨rfl, ?_⟩
        simp only [pq] at hq
        split at hq
        · rename_i x t hargs ht
          split at hq
          · rename_i v hv
            obtain ⟨x',h1,h2⟩ := pev_sim hT hG hv
            obtain ⟨y,h3,h4⟩ := plen_sim ht h1 h2 hq
            exact ⟨y,by simp [aq,aqBuiltin,hargs,h3],h4⟩
          · cases hq
        · cases hq
      case max =>
        refine ⟨rfl, ?_⟩
        simp only [pq] at hq
        split at hq
        · rename_i vs hvs
          obtain ⟨xs,h1,h2⟩ := pevs_sim hT hG hvs
          split at hq
          · rename_i ys hys
            obtain ⟨rfl,hp⟩ := pplains_rel h2 hys
            split at hq
            · rename_i r hr
              exact ⟨r,by simp only [aq,aqBuiltin,aqMax,h1,hp,hr],fun d => (pvOf_some hq).2 _ _ _⟩
            · cases hq
          · cases hq
        · cases hq
      case min =>
        refine ⟨rfl, ?_⟩
        simp only [pq] at hq
        split at hq
        · rename_i vs hvs
          obtain ⟨xs,h1,h2⟩ := pevs_sim hT hG hvs
          split at hq
          · rename_i ys hys
            obtain ⟨rfl,hp⟩ := pplains_rel h2 hys
            split at hq
            · rename_i r hr
              exact ⟨r,by simp only [aq,aqBuiltin,aqMin,h1,hp,hr],fun d => (pvOf_some hq).2 _ _ _⟩
            · cases hq
          · cases hq
        · cases hq
    | _ => simp only [pq] at hq; cases hq
  | _ => simp only [pq] at hq; cases hq
theorem pq_ra (hT : TR Y f C h σ tv) (hG : GR P Y C h) {op : Op} {u : PV} (hq : pq P Y f op σ = some u) : maOf u = none ∨ ∃ x,pev Y f σ x = some u ∧ ∀ x',aq P op tv h = some x' → ev P tv x = some x' := by
  cases op with
  | move x => exact .inr ⟨x,hq,fun x' h => h⟩
  | assign x => exact .inr ⟨x,hq,fun x' h => h⟩
  | pick c x y =>
    simp only [pq] at hq
    split at hq
    · rename_i hc
      obtain ⟨c',h1,h2⟩ := pev_sim hT hG hc
      obtain ⟨rfl,_⟩ := (h2 0).inv_v
      split at hq
      · refine .inr ⟨x,hq,fun x' h => ?_⟩
        simp only [aq,aqPick,h1] at h
        revert h
        cases ev P tv x <;> cases ev P tv y <;> simp
      · cases hq
    · rename_i hc
      obtain ⟨c',h1,h2⟩ := pev_sim hT hG hc
      obtain ⟨rfl,_⟩ := (h2 0).inv_v
      split at hq
      · refine .inr ⟨y,hq,fun x' h => ?_⟩
        simp only [aq,aqPick,h1] at h
        revert h
        cases ev P tv x <;> cases ev P tv y <;> simp
      · cases hq
    · cases hq
  | field s x fd =>
    refine .inl ?_
    simp only [pq] at hq
    split at hq
    · rename_i v hv
      obtain ⟨x',h1,h2⟩ := pev_sim hT hG hv
      unfold pfield at hq
      split at hq
      · obtain ⟨l,rfl,hr⟩ := (h2 0).inv_a
        exact ppart_ma hr.noma hq
      · cases hq
    · cases hq
  | index t x ix =>
    refine .inl ?_
    simp only [pq] at hq
    split at hq
    · rename_i v i hv hi
      obtain ⟨x',h1,h2⟩ := pev_sim hT hG hv
      unfold pqIndex at hq
      split at hq
      · split at hq
        · obtain ⟨l,rfl,hr⟩ := (h2 0).inv_a
          exact ppart_ma hr.noma hq
        · cases hq
      · split at hq
        · exact pvOf_ma hq
        · cases hq
      · cases hq
    · cases hq
  | extract x ix =>
    refine .inl ?_
    simp only [pq] at hq
    split at hq
    · rename_i cs hv
      obtain ⟨x',h1,h2⟩ := pev_sim hT hG hv
      obtain ⟨l,rfl,hr⟩ := (h2 0).inv_t
      exact hr.noma _ (List.mem_of_getElem? hq)
    · cases hq
  | binOp op t x y =>
    refine .inl ?_
    simp only [pq] at hq
    split at hq
    · unfold pbin at hq
      split at hq
      · split at hq
        · exact pvOf_ma hq
        · cases hq
      · unfold plnil at hq
        repeat' split at hq
        all_goals first
          | (cases hq; done)
          | (cases hq; rfl)
      · split at hq
        · split at hq
          · exact pvOf_ma hq
          · cases hq
        · unfold pnil at hq
          repeat' split at hq
          all_goals first
            | (cases hq; done)
            | (cases hq; rfl)
    · cases hq
  | slice t x lo hi mx =>
    refine .inl ?_
    simp only [pq] at hq
    split at hq
    · unfold pqSlice pslice at hq
      repeat' split at hq
      all_goals first
        | (cases hq; done)
        | (cases hq; rfl)
        | exact pvOf_ma hq
    · cases hq
  | fieldAddr s x fd =>
    refine .inl ?_
    simp only [pq] at hq
    split at hq
    · unfold fldAddr at hq
      repeat' split at hq
      all_goals first
        | (cases hq; done)
        | (cases hq; rfl)
    · cases hq
  | indexAddr t x ix =>
    refine .inl ?_
    simp only [pq] at hq
    split at hq
    · unfold idxAddr at hq
      repeat' split at hq
      all_goals first
        | (cases hq; done)
        | (cases hq; rfl)
    · cases hq
  | call c =>
    refine .inl ?_
    obtain ⟨callee,args,types⟩ := c
    cases callee with
    | builtin b =>
      cases b <;> try (simp only [pq] at hq; cases hq; done)
      case len =>
        simp only [pq] at hq
        split at hq
        · split at hq
          · unfold plen at hq
            repeat' split at hq
            all_goals first
              | (cases hq; done)
              | (cases hq; rfl)
          · cases hq
        · cases hq
      case max =>
        simp only [pq] at hq
        repeat' split at hq
        all_goals first
          | (cases hq; done)
          | exact pvOf_ma hq
      case min =>
        simp only [pq] at hq
        repeat' split at hq
        all_goals first
          | (cases hq; done)
          | exact pvOf_ma hq
    | _ => simp only [pq] at hq; cases hq
  | _ =>
    refine .inl ?_
    simp only [pq] at hq
    first
      | (cases hq; done)
      | (repeat' split at hq
         all_goals first
           | (cases hq; done)
           | (cases hq; rfl)
           | exact pvOf_ma hq)
end
end Go.Pur
namespace Go.Pur
open Go.Abs
def dropS (S : Pl → Bool) : Option Pl → Option Pl
  | some q => match S q with
    | true => none
    | false => some q
  | none => none
def moveP (p : Pl) (r : Option Pl) : Option Pl → Option Pl
  | some q => match plEq q p with
    | true => r
    | false => some q
  | none => none
theorem dropS_some {S : Pl → Bool} {q : Pl} {o : Option Pl} : dropS S o = some q ↔ o = some q ∧ S q = false := by
  cases o with
  | none => simp [dropS]
  | some r =>
    cases hb : S r with
    | true => simp [dropS,hb]; intro e; subst e; exact hb
    | false => simp [dropS,hb]; intro e; subst e; exact hb
theorem moveP_of {p q : Pl} {r : Option Pl} {o : Option Pl} (h : moveP p r o = some q) : (o = some p ∧ r = some q) ∨ (o = some q ∧ q ≠ p) := by
  cases o with
  | none => simp [moveP] at h
  | some s =>
    cases hb : plEq s p with
    | true => have := plEq_iff.1 hb; subst this; simp [moveP,hb] at h; exact .inl ⟨rfl,h⟩
    | false =>
      have hn : s ≠ p := fun e => by rw [plEq_iff.2 e] at hb; cases hb
      simp [moveP,hb] at h; subst h; exact .inr ⟨rfl,hn⟩
theorem moveP_same {p : Pl} {r : Option Pl} : moveP p r (some p) = r := by
  simp [moveP,plEq_iff.2 rfl]
theorem moveP_ne {p q : Pl} {r : Option Pl} (h : q ≠ p) : moveP p r (some q) = some q := by
  have : plEq q p = false := Bool.eq_false_iff.2 fun e => h (plEq_iff.1 e)
  simp [moveP,this]
def frzC (C : Ctx) (S : Pl → Bool) : Ctx := ⟨C.sz,C.β,fun id => C.fz id ∨ ∃ p,C.ow id = some p ∧ S p = true,fun id => C.fx id ∨ ∃ p,C.ow id = some p ∧ S p = true,fun id => dropS S (C.ow id)⟩
def atP (p : Pl) : Pl → Bool := fun q => plEq q p
theorem atP_iff {p q : Pl} : atP p q = true ↔ q = p := plEq_iff
theorem atP_not {p q : Pl} : atP p q = false ↔ q ≠ p := by
  rw [← Bool.not_eq_true,atP_iff]
def moveC (C : Ctx) (p : Pl) (r : Option Pl) : Ctx := { C with ow := fun id => moveP p r (C.ow id) }
section
variable {P : Program} {Y : Pol} {f : FuncId} {C : Ctx} {h : AHeap} {σ σ' : St} {tv : Tr Value} {p : Pl} {hp : List (Option (List PV))}
theorem lget_mapL {g : PV → PV} : ∀ {l : List (Nat × PV)} {t : Nat},lget (mapL g l) t = (lget l t).map g
  | [],t => rfl
  | (k,v) :: l,t => by
    simp only [mapL,lget]
    cases Nat.beq k t with
    | true => rfl
    | false => exact lget_mapL
theorem look_tmp {t t' : Nat} {v : PV} : look Y f (setPl Y f v σ (.tmp t)) t' = if t' = t then some v else look Y f σ t' := by
  unfold setPl look
  cases hk : Y.keep f t with
  | true =>
    simp only []
    by_cases e : t' = t
    · subst e; simp [hk,Tr.get_set]
    · cases Y.keep f t' <;> simp [hk,Tr.get_set,e]
  | false =>
    simp only []
    by_cases e : t' = t
    · subst e; simp [hk,lget]
    · have : Nat.beq t t' = false := Bool.eq_false_iff.2 fun h => e (Nat.eq_of_beq_eq_true h).symm
      cases Y.keep f t' <;> simp [hk,e,lget,this]
theorem look_cell {b i t' : Nat} {v : PV} : look Y f (setPl Y f v σ (.cell b i)) t' = look Y f σ t' := by
  unfold setPl look
  simp only []
  cases σ.hp[b]? with
  | none => rfl
  | some o => cases o <;> rfl
theorem VR.firm {π π' : Option Pl} {v : PV} {x : Value} (hv : VR C h π v x) (hf : firm v = true) : VR C h π' v x := by
  cases hv with
  | v _ x hp hn => exact .v _ x hp hn
  | un => exact .un _
  | dead => exact .dead _ _
  | nil _ k c => exact .nil _ k c
  | lst _ k c n cs a cap B hb hs hk hn hc hl hv =>
    cases k <;> first | exact .lst _ _ _ _ _ _ _ B hb hs hk hn hc hl hv | cases hf
  | r _ k cs a B hb hs hk hi hl hv =>
    cases k <;> first | exact .r _ _ _ _ B hb hs hk hi hl hv | cases hf
  | p _ b off id hb => exact .p _ _ _ _ hb
  | s _ b off n cap id hb hc hn => exact .s _ _ _ _ _ _ hb hc hn
  | a _ cs l hs hv => exact .a _ _ _ hs hv
  | t _ cs l hs hv => exact .t _ _ _ hs hv
  | f _ g as bs as' bs' ha hb hA hB => exact .f _ _ _ _ _ _ ha hb hA hB
  | i _ ty x x' hx => exact .i _ _ _ _ hx
  | it _ s pos id t h1 h2 h3 => cases hf
  | m _ k es c id hk hi =>
    cases k <;> first | exact .m _ _ _ _ _ hk hi | cases hf
theorem VR.frz {S : Pl → Bool} {π : Option Pl} {v : PV} {x : Value} (hv : VR C h π v x) (hπ : (∀ p,π = some p → S p = false) ∨ isOwn v = false) : VR (frzC C S) h π (frzS S v) x := by
  have hn : ∀ {v x},VR C h none v x → VR (frzC C S) h none v x := fun h => VR.nest (C := C) (C' := frzC C S) (fun _ _ h => h) (fun _ h => Or.inl h) (fun _ _ => rfl) h rfl
  cases hv with
  | nil _ k c =>
    cases k with
    | rf q => simp only [frzS]; cases S q <;> exact .nil _ _ _
    | pt q => simp only [frzS]; cases S q <;> exact .nil _ _ _
    | _ => exact .nil _ _ _
  | lst _ k c n cs a cap B hb hs hk hn' hc hl hv =>
    cases k with
    | fz => exact .lst _ _ _ _ _ _ _ B hb hs (.inl hk) hn' hc hl (fun i hi => hn (hv i hi))
    | bor => exact .lst _ _ _ _ _ _ _ B hb hs ⟨.inl hk.1,hk.2⟩ hn' hc hl (fun i hi => hn (hv i hi))
    | own =>
      obtain ⟨q,h1,h2⟩ := hk
      rcases hπ with hπ | hπ
      · exact .lst _ _ _ _ _ _ _ B hb hs ⟨q,h1,dropS_some.2 ⟨h2,hπ q h1⟩⟩ hn' hc hl (fun i hi => hn (hv i hi))
      · cases hπ
    | rf q =>
      obtain ⟨h1,h2⟩ := hk
      simp only [frzS]
      cases hq : S q with
      | true => exact .lst _ _ _ _ _ _ _ B hb hs (.inr ⟨q,h1,hq⟩) hn' ⟨hc.full,hc.nz,hc.le,hc.kind,(fun e => by cases e),hc.one⟩ hl (fun i hi => hn (hv i hi))
      | false => exact .lst _ _ _ _ _ _ _ B hb hs ⟨dropS_some.2 ⟨h1,hq⟩,h2⟩ hn' hc hl (fun i hi => hn (hv i hi))
    | pt q =>
      obtain ⟨h1,h2⟩ := hk
      simp only [frzS]
      cases hq : S q with
      | true => exact .lst _ _ _ _ _ _ _ B hb hs (.inr ⟨q,h1,hq⟩) hn' ⟨hc.full,hc.nz,hc.le,hc.kind,(fun e => by cases e),hc.one⟩ hl (fun i hi => hn (hv i hi))
      | false => exact .lst _ _ _ _ _ _ _ B hb hs ⟨dropS_some.2 ⟨h1,hq⟩,h2⟩ hn' hc hl (fun i hi => hn (hv i hi))
  | r _ k cs a B hb hs hk hir hl hv =>
    cases k with
    | fz => exact .r _ _ _ _ B hb hs (.inl hk) hir hl (fun i hi => hn (hv i hi))
    | bor => exact .r _ _ _ _ B hb hs ⟨.inl hk.1,hk.2⟩ hir hl (fun i hi => hn (hv i hi))
    | own => cases hir
    | rf q => cases hir
    | pt q =>
      obtain ⟨h1,h2⟩ := hk
      simp only [frzS]
      cases hq : S q with
      | true => exact .r _ _ _ _ B hb hs (.inr ⟨q,h1,hq⟩) rfl hl (fun i hi => hn (hv i hi))
      | false => exact .r _ _ _ _ B hb hs ⟨dropS_some.2 ⟨h1,hq⟩,h2⟩ hir hl (fun i hi => hn (hv i hi))
  | v _ x hp hn => exact .v _ x hp hn
  | un => exact .un _
  | dead => exact .dead _ _
  | p _ b off id hb => exact .p _ _ _ _ hb
  | s _ b off n cap id hb hc hn => exact .s _ _ _ _ _ _ hb hc hn
  | a _ cs l hs hv => exact .a _ _ _ hs (fun i hi => hn (hv i hi))
  | t _ cs l hs hv => exact .t _ _ _ hs (fun i hi => hn (hv i hi))
  | f _ g as bs as' bs' ha hb hA hB => exact .f _ _ _ _ _ _ ha hb (fun i hi => hn (hA i hi)) (fun i hi => hn (hB i hi))
  | i _ ty x x' hx => exact .i _ _ _ _ (hn hx)
  | it _ s pos id t h1 h2 h3 =>
    rcases hπ with hπ | hπ
    · exact .it _ _ _ _ _ h1 (dropS_some.2 ⟨h2,hπ _ h1⟩) h3
    · cases hπ
  | m _ k es c id hk hi =>
    cases k with
    | fz => exact .m _ _ _ _ _ (.inl hk) hi
    | bor => exact .m _ _ _ _ _ ⟨.inl hk.1,hk.2⟩ hi
    | own =>
      obtain ⟨q,h1,h2⟩ := hk
      rcases hπ with hπ | hπ
      · exact .m _ _ _ _ _ ⟨q,h1,dropS_some.2 ⟨h2,hπ q h1⟩⟩ hi
      · cases hπ
    | rf q =>
      obtain ⟨h1,h2⟩ := hk
      simp only [frzS]
      cases hq : S q with
      | true => exact .m _ _ _ _ _ (.inr ⟨q,h1,hq⟩) hi
      | false => exact .m _ _ _ _ _ ⟨dropS_some.2 ⟨h1,hq⟩,h2⟩ hi
    | pt q =>
      obtain ⟨h1,h2⟩ := hk
      simp only [frzS]
      cases hq : S q with
      | true => exact .m _ _ _ _ _ (.inr ⟨q,h1,hq⟩) hi
      | false => exact .m _ _ _ _ _ ⟨dropS_some.2 ⟨h1,hq⟩,h2⟩ hi
theorem VR.frzOwn {S : Pl → Bool} {c : Ck} {n : Nat} {cs : List PV} {x : Value} (hv : VR C h (some p) (.l .own c n cs) x) (hp : S p = true) (π : Option Pl) : VR (frzC C S) h π (.l .fz c n cs) x := by
  have hn : ∀ {v x},VR C h none v x → VR (frzC C S) h none v x := fun h => VR.nest (C := C) (C' := frzC C S) (fun _ _ h => h) (fun _ h => Or.inl h) (fun _ _ => rfl) h rfl
  cases hv with
  | nil _ k c => exact .nil _ _ _
  | lst _ k c n cs a cap B hb hs hk hn' hc hl hv =>
    obtain ⟨q,h1,h2⟩ := hk
    cases h1
    exact .lst _ _ _ _ _ _ _ B hb hs (.inr ⟨_,h2,hp⟩) hn' ⟨hc.full,hc.nz,hc.le,hc.kind,(fun e => by cases e),hc.one⟩ hl (fun i hi => hn (hv i hi))
theorem VR.frzOf {S : Pl → Bool} {v u : PV} {x : Value} (hv : VR C h (some p) v x) (hf : fzOf v = some u) (hp : S p = true) (π : Option Pl) : VR (frzC C S) h π u x := by
  unfold fzOf at hf
  split at hf
  · cases hf; exact hv.frzOwn hp π
  · cases hf
    cases hv with
    | m _ _ es c id hk hi =>
      obtain ⟨q,h1,h2⟩ := hk
      cases h1
      exact .m _ _ _ _ _ (.inr ⟨_,h2,hp⟩) hi
  · cases hf
theorem fzOf_own {v u : PV} (hf : fzOf v = some u) : ownFz v = u ∧ loose u = false ∧ takable v = true := by
  unfold fzOf at hf
  split at hf
  · cases hf; exact ⟨rfl,rfl,rfl⟩
  · cases hf; exact ⟨rfl,rfl,rfl⟩
  · cases hf
theorem frzS_ref {S : Pl → Bool} {v : PV} (hr : mapRef (frzS S v) = true) : frzS S v = v := by
  cases v with
  | m k es c =>
    cases k with
    | rf q => simp only [frzS] at hr ⊢; cases hq : S q <;> simp [hq] at hr ⊢ <;> cases hr
    | pt q => simp only [frzS] at hr ⊢; cases hq : S q <;> simp [hq] at hr ⊢ <;> cases hr
    | _ => rfl
  | l k c n cs =>
    cases k with
    | rf q => simp only [frzS] at hr; cases hq : S q <;> simp [hq] at hr <;> cases hr
    | pt q => simp only [frzS] at hr; cases hq : S q <;> simp [hq] at hr <;> cases hr
    | _ => rfl
  | r k cs =>
    cases k with
    | pt q => simp only [frzS] at hr; cases hq : S q <;> simp [hq] at hr <;> cases hr
    | _ => rfl
  | _ => rfl
theorem killV_ref {p : Pl} {v : PV} (hr : mapRef (killV p v) = true) : killV p v = v := by
  cases v with
  | m k es c =>
    cases k with
    | rf q => simp only [killV] at hr ⊢; cases hq : plEq q p <;> simp [hq] at hr ⊢ <;> cases hr
    | pt q => simp only [killV] at hr ⊢; cases hq : plEq q p <;> simp [hq] at hr ⊢ <;> cases hr
    | _ => rfl
  | l k c n cs =>
    cases k with
    | rf q => simp only [killV] at hr; cases hq : plEq q p <;> simp [hq] at hr <;> cases hr
    | pt q => simp only [killV] at hr; cases hq : plEq q p <;> simp [hq] at hr <;> cases hr
    | _ => rfl
  | r k cs =>
    cases k with
    | pt q => simp only [killV] at hr; cases hq : plEq q p <;> simp [hq] at hr <;> cases hr
    | _ => rfl
  | _ => rfl
theorem killCell_ref {v : PV} (hr : mapRef (killCell v) = true) : killCell v = v := by
  cases v with
  | m k es c =>
    cases k with
    | rf q => cases q <;> first | rfl | cases hr
    | pt q => cases q <;> first | rfl | cases hr
    | _ => rfl
  | l k c n cs =>
    cases k with
    | rf q => cases q <;> first | rfl | cases hr
    | pt q => cases q <;> first | rfl | cases hr
    | _ => rfl
  | r k cs =>
    cases k with
    | pt q => cases q <;> first | rfl | cases hr
    | _ => rfl
  | _ => rfl
theorem fzOf_noref {v u : PV} (hf : fzOf v = some u) : mapRef u = false := by
  unfold fzOf at hf
  split at hf
  · cases hf; rfl
  · cases hf; rfl
  · cases hf
theorem frzS_id {S : Pl → Bool} {v : PV} (hl : loose v = false) : frzS S v = v := by
  cases v with
  | l k c n cs => cases k <;> first | rfl | cases hl
  | r k cs => cases k <;> first | rfl | cases hl
  | m k es c => cases k <;> first | rfl | cases hl
  | _ => rfl
theorem Ext.frz {S : Pl → Bool} (hi : HI C h hp) : Ext C h (frzC C S) h :=
  ⟨rfl,fun _ _ => rfl,Nat.le_refl _,fun _ h => .inl h,fun _ h => .inl h,fun id hid => hid.elim .inl (fun ⟨p,e,_⟩ => .inr (fun hx => by rw [(hi.fxl id hx).2] at e; cases e)),fun _ _ h => h,fun _ _ => rfl⟩
theorem VR.cell_firm {b i : Nat} {v : PV} {x : Value} (hv : VR C h (some (.cell b i)) v x) : loose v = false ∨ (∃ k c,v = .l k c 0 [] ∧ x = .slice none 0 0) := by
  cases v with
  | l k c n cs =>
    cases k with
    | rf q =>
      rcases hv.inv_l with ⟨rfl,rfl,rfl⟩ | ⟨a,cap,B,rfl,_,_,⟨_,_,e⟩,_⟩
      · exact .inr ⟨_,_,rfl,rfl⟩
      · cases e
    | pt q =>
      rcases hv.inv_l with ⟨rfl,rfl,rfl⟩ | ⟨a,cap,B,rfl,_,_,⟨_,_,e⟩,_⟩
      · exact .inr ⟨_,_,rfl,rfl⟩
      · cases e
    | _ => exact .inl rfl
  | r k cs =>
    cases k with
    | pt q => obtain ⟨a,B,rfl,_,_,⟨_,_,e⟩,_⟩ := hv.inv_r; cases e
    | _ => exact .inl rfl
  | m k es c =>
    cases k with
    | rf q => cases hv with
      | m _ _ _ _ id hk hi => obtain ⟨_,_,e⟩ := hk; cases e
    | pt q => cases hv with
      | m _ _ _ _ id hk hi => obtain ⟨_,_,e⟩ := hk; cases e
    | _ => exact .inl rfl
  | _ => exact .inl rfl
theorem VR.cell_in {b i : Nat} {v : PV} {x : Value} (hv : VR C h (some (.cell b i)) v x) (ho : isOwn v = false) : VR C h none v x := by
  cases hv with
  | v _ x hp hn => exact .v _ x hp hn
  | un => exact .un _
  | dead => exact .dead _ _
  | nil _ k c => exact .nil _ k c
  | lst _ k c n cs a cap B hb hs hk hn hc hl hv =>
    cases k with
    | fz => exact .lst _ _ _ _ _ _ _ B hb hs hk hn hc hl hv
    | own => cases ho
    | bor => obtain ⟨_,_,e⟩ := hk; cases e
    | rf q => obtain ⟨_,_,e⟩ := hk; cases e
    | pt q => obtain ⟨_,_,e⟩ := hk; cases e
  | r _ k cs a B hb hs hk hi hl hv =>
    cases k with
    | fz => exact .r _ _ _ _ B hb hs hk hi hl hv
    | own => cases hi
    | rf q => cases hi
    | bor => obtain ⟨_,_,e⟩ := hk; cases e
    | pt q => obtain ⟨_,_,e⟩ := hk; cases e
  | p _ b off id hb => exact .p _ _ _ _ hb
  | s _ b off n cap id hb hc hn => exact .s _ _ _ _ _ _ hb hc hn
  | a _ cs l hs hv => exact .a _ _ _ hs hv
  | t _ cs l hs hv => exact .t _ _ _ hs hv
  | f _ g as bs as' bs' ha hb hA hB => exact .f _ _ _ _ _ _ ha hb hA hB
  | i _ ty x x' hx => exact .i _ _ _ _ hx
  | it _ s pos id t h1 h2 h3 => cases h1
  | m _ k es c id hk hi =>
    cases k with
    | fz => exact .m _ _ _ _ _ hk hi
    | own => cases ho
    | bor => obtain ⟨_,_,e⟩ := hk; cases e
    | rf q => obtain ⟨_,_,e⟩ := hk; cases e
    | pt q => obtain ⟨_,_,e⟩ := hk; cases e
theorem VR.frzCell {S : Pl → Bool} {b i : Nat} {v : PV} {x : Value} (hv : VR C h (some (.cell b i)) v x) (hne : S (.cell b i) = false ∨ isOwn v = false) : VR (frzC C S) h (some (.cell b i)) v x := by
  rcases hv.cell_firm with e | ⟨k,c,rfl,rfl⟩
  · have := hv.frz (S := S) (hne.imp (fun h p e => by cases e; exact h) id)
    rwa [frzS_id e] at this
  · exact .nil _ _ _
theorem refsTo_ownFz {b : Nat} {v : PV} : refsTo b (ownFz v) = refsTo b v := by
  cases v with
  | l k c n cs => cases k <;> rfl
  | m k es c => cases k <;> rfl
  | _ => rfl
theorem HI.frz {S : Pl → Bool} {hp hp' : List (Option (List PV))} (hi : HI C h hp) (hlen : hp'.length = hp.length)
    (hb : ∀ b ds',hp'[b]? = some (some ds') → ∃ ds,hp[b]? = some (some ds) ∧ ds'.length = ds.length ∧ ∀ i,i < ds.length → ds'.getD i .dead = (match S (.cell b i) with | true => ownFz (ds.getD i .dead) | false => ds.getD i .dead)) : HI (frzC C S) h hp' := by
  have hb' := hb
  refine ⟨fun i h => h.imp (hi.fzx i) (fun h => h),fun id h => ?_,fun id q h => hi.owl id q (dropS_some.1 h).1,fun b id hb => ?_,hi.inj,fun b ds' hb' => ?_,fun b ds' hb' v hv => ?_⟩
  · rcases h with h | ⟨p,h,hs⟩
    · exact ⟨(hi.fxl id h).1,by simp [frzC,(hi.fxl id h).2,dropS]⟩
    · exact ⟨hi.owl id p h,by simp [frzC,h,dropS,hs]⟩
  · obtain ⟨h1,h2,h3,h4⟩ := hi.βl b id hb
    exact ⟨h1,fun h => h.elim (fun hx => by
      have hn := (h2 hx).2
      refine ⟨.inl (h2 hx).1, ?_⟩
      have hlt : b < hp'.length := by rw [hlen]; exact h4
      rw [List.getElem?_eq_getElem hlt]
      cases ho : hp'[b] with
      | none => rfl
      | some ds' =>
        obtain ⟨ds,hd,_⟩ := hb' b ds' (by rw [List.getElem?_eq_getElem hlt,ho])
        rw [hn] at hd; cases hd) (fun ⟨p,e,_⟩ => by rw [h3] at e; cases e),by simp [frzC,h3,dropS],by rw [hlen]; exact h4⟩
  · obtain ⟨ds,hd,hl,hc⟩ := hb b ds' hb'
    obtain ⟨id,B,h1,h2,h3,h4,h5,h6⟩ := hi.blk b ds hd
    refine ⟨id,B,h1,h2,h3,h4,h5.trans hl.symm,fun i hi' => ?_⟩
    have h7 := h6 i (hl ▸ hi')
    rw [hc i (hl ▸ hi')]
    · cases hS : S (.cell b i) with
      | false => exact h7.frzCell (.inl hS)
      | true =>
        cases hio : isOwn (ds.getD i .dead) with
        | false =>
          rw [show ownFz (ds.getD i .dead) = ds.getD i .dead by
            generalize ds.getD i .dead = v at hio
            cases v with
            | l k c n cs => cases k <;> first | rfl | cases hio
            | m k es c => cases k <;> first | rfl | cases hio
            | _ => rfl]
          exact h7.frzCell (.inr hio)
        | true =>
          generalize ds.getD i .dead = v at hio h7
          cases v with
          | l k c n cs => cases k <;> first | exact h7.frzOwn hS _ | cases hio
          | m k es c => cases k <;> first | exact h7.frzOf rfl hS _ | cases hio
          | it s p =>
            generalize B.cells.getD i undef = y at h7
            cases h7 with
            | it _ _ _ _ _ e => cases e
          | _ => cases hio
  · obtain ⟨ds,hd,hl,hc⟩ := hb b ds' hb'
    obtain ⟨i,hi',he⟩ := List.getElem_of_mem hv
    have h1 := hc i (hl ▸ hi')
    rw [show ds'.getD i .dead = v by rw [List.getD_eq_getElem?_getD,List.getElem?_eq_getElem hi',he]; rfl] at h1
    have h2 : ds.getD i .dead ∈ ds := by
      rw [List.getD_eq_getElem?_getD,List.getElem?_eq_getElem (hl ▸ hi')]; exact List.getElem_mem _
    have h3 := hi.rf b ds hd _ h2
    rw [h1]
    split
    · rw [refsTo_ownFz]; exact h3
    · exact h3
theorem LP.frz {S : Pl → Bool} {F : Fr} {wl : Option Nat} {hp hp' : List (Option (List PV))} (hlen : hp'.length = hp.length) (l : LP F C h hp wl) : LP F (frzC C S) h hp' wl :=
  ⟨l.n0,by rw [hlen]; exact l.base,l.low,fun hc id q hq hn => l.mine hc id q (dropS_some.1 hq).1 hn,l.βm⟩
theorem Ids.frz {S : Pl → Bool} {id : Nat} (hid : Ids (frzC C S) id) : Ids C id := by
  rcases hid with (hid | ⟨p,h1,_⟩) | ⟨q,hid⟩ | hid
  · exact .inl hid
  · exact .inr (.inl ⟨p,h1⟩)
  · exact .inr (.inl ⟨q,(dropS_some.1 hid).1⟩)
  · exact .inr (.inr hid)
theorem setPl_len {v : PV} : (setPl Y f v σ p).hp.length = σ.hp.length := by
  unfold setPl
  split
  · split <;> rfl
  · split <;> simp
theorem setPl_wl {v : PV} : (setPl Y f v σ p).wl = σ.wl := by
  unfold setPl
  split
  · split <;> rfl
  · split <;> rfl
theorem look_mapL {g : PV → PV} {t : Nat} {wl : Option Nat} : look Y f { σ with ls := mapL g σ.ls,wl := wl } t = match Y.keep f t with
    | true => σ.ts.get t
    | false => (lget σ.ls t).map g := by
  unfold look
  cases Y.keep f t with
  | true => rfl
  | false => exact lget_mapL
theorem VA.frz {S : Pl → Bool} {u : PV} {x : Value} (hu : VA C h u x) : VA (frzC C S) h (frzS S u) x := fun d => by
  cases ho : isOwn u with
  | false => exact (hu d).frz (.inr ho)
  | true =>
    cases u with
    | l k c n cs =>
      cases k with
      | own =>
        rcases (hu 0).inv_l with ⟨rfl,rfl,rfl⟩ | ⟨a,cap,B,rfl,_,_,⟨p,e1,e2⟩,_⟩
        · exact .nil _ _ _
        · rcases (hu 1).inv_l with ⟨rfl,rfl,e⟩ | ⟨a',cap',B',e,_,_,⟨p',e3,e4⟩,_⟩
          · cases e
          · cases e; cases e1; cases e3; rw [e2] at e4; cases e4
      | _ => cases ho
    | it s p =>
      cases hu 0 with
      | it _ _ _ id t e1 e2 e3 =>
        cases hu 1 with
        | it _ _ _ _ t' e4 e5 e6 => cases e1; cases e4; rw [e2] at e5; cases e5
    | m k es c =>
      cases k with
      | own =>
        cases hu 0 with
        | m _ _ _ _ id e1 e2 =>
          cases hu 1 with
          | m _ _ _ _ _ e3 e4 => obtain ⟨p,a1,a2⟩ := e1; obtain ⟨q,b1,b2⟩ := e3; cases a1; cases b1; rw [a2] at b2; cases b2
      | _ => cases ho
    | _ => cases ho
theorem freeze_sim (st : ST P Y f C h σ tv) (hq : freeze Y f p σ = some σ') : ST P Y f (frzC C (atP p)) h σ' tv ∧ Step (Y.keep f) (fun _ => False) C h σ (frzC C (atP p)) h σ' := by
  unfold freeze at hq
  split at hq
  rotate_left
  · cases hq
  rename_i v0 hg
  split at hq
  · rename_i u0 hf0
    cases hq
    have rest : ∀ t v,look Y f { σ with ls := mapL (frzV p) σ.ls } t = some v → p ≠ .tmp t → VR (frzC C (atP p)) h (some (.tmp t)) v (tget0 tv t) := fun t v hv hp => by
      have hne : ∀ q,some (Pl.tmp t) = some q → atP p q = false := fun q e => by cases e; exact atP_not.2 (fun e => hp e.symm)
      rw [show ({ σ with ls := mapL (frzV p) σ.ls } : St) = { σ with ls := mapL (frzV p) σ.ls,wl := σ.wl } from rfl,look_mapL] at hv
      split at hv
      · rename_i hk
        have h1 := st.tr t v (by unfold look; rw [hk]; exact hv)
        have h2 := h1.frz (S := atP p) (.inl hne)
        rwa [frzS_id (st.nl t v hk hv)] at h2
      · rename_i hk
        obtain ⟨u,hu,rfl⟩ := Option.map_eq_some_iff.1 hv
        exact (st.tr t u (by unfold look; rw [hk]; exact hu)).frz (S := atP p) (.inl hne)
    refine ⟨⟨st.sz,st.hi.frz setPl_len (fun b ds' hb' => ?_),fun t v hv => ?_,fun t v hk hv => ?_,st.gr.ext st.hi.fzx (.frz st.hi),st.al.keep (fun t v hv hr => ?_)⟩,⟨.frz st.hi,fun id hid => .inl hid.frz,by rw [setPl_len]; exact Nat.le_refl _,fun _ _ h => .inl h,(fun F hc => by rw [setPl_wl] at hc; exact hc),fun _ _ _ ho => .inl (dropS_some.1 ho).1,fun F _ hF => ?_⟩⟩
    · cases p with
      | tmp t =>
        have hb : σ.hp[b]? = some (some ds') := by
          rw [← hb']; unfold setPl; simp only []; split <;> rfl
        exact ⟨ds',hb,rfl,fun i hi => by rw [show atP (.tmp t) (.cell b i) = false from rfl]⟩
      | cell b0 i0 =>
        simp only [getPl] at hg
        split at hg
        · rename_i es hes
          simp only [setPl,hes] at hb'
          by_cases e : b0 = b
          · subst e
            have hlt : b0 < σ.hp.length := (List.getElem?_eq_some_iff.1 hes).1
            rw [List.getElem?_set_self hlt] at hb'
            cases hb'
            refine ⟨es,hes,by simp,fun i hi => ?_⟩
            by_cases e : i = i0
            · subst e
              rw [show atP (.cell b0 i) (.cell b0 i) = true from atP_iff.2 rfl]
              rw [show es.getD i .dead = v0 by rw [List.getD_eq_getElem?_getD,hg]; rfl]
              simp [List.getD_eq_getElem?_getD,hi,(fzOf_own hf0).1]
            · rw [show atP (.cell b0 i0) (.cell b0 i) = false from atP_not.2 (fun h => e (by cases h; rfl))]
              simp [List.getD_eq_getElem?_getD,Ne.symm e]
          · rw [List.getElem?_set_ne e] at hb'
            exact ⟨ds',hb',rfl,fun i hi => by rw [show atP (.cell b0 i0) (.cell b i) = false from atP_not.2 (fun h => e (by cases h; rfl))]⟩
        · cases hg
    · cases hp : p with
      | tmp t0 =>
        subst hp
        rw [look_tmp] at hv
        split at hv
        · rename_i e
          subst e
          cases hv
          exact (st.tr t _ hg).frzOf hf0 (atP_iff.2 rfl) _
        · rename_i e
          exact rest t v hv (by simp; exact fun h => e h.symm)
      | cell b i =>
        subst hp
        rw [look_cell] at hv
        exact rest t v hv (by simp)
    · cases hp : p with
      | tmp t0 =>
        subst hp
        unfold setPl at hv
        simp only [] at hv
        cases hk0 : Y.keep f t0 with
        | true =>
          simp only [hk0,Tr.get_set] at hv
          split at hv
          · cases hv; exact (fzOf_own hf0).2.1
          · exact st.nl t v hk hv
        | false =>
          simp only [hk0] at hv
          exact st.nl t v hk hv
      | cell b i =>
        subst hp
        unfold setPl at hv
        simp only [] at hv
        split at hv <;> exact st.nl t v hk hv
    · have rest2 : ∀ t,look Y f { σ with ls := mapL (frzV p) σ.ls } t = some v → look Y f σ t = some v := fun t hv => by
        rw [show ({ σ with ls := mapL (frzV p) σ.ls } : St) = { σ with ls := mapL (frzV p) σ.ls,wl := σ.wl } from rfl,look_mapL] at hv
        split at hv
        · rename_i hk; unfold look; rw [hk]; exact hv
        · rename_i hk
          obtain ⟨u,hu,rfl⟩ := Option.map_eq_some_iff.1 hv
          unfold look; rw [hk]
          rw [frzV,frzS_ref hr]
          exact hu
      cases hp : p with
      | tmp t0 =>
        subst hp
        rw [look_tmp] at hv
        split at hv
        · cases hv
          rw [fzOf_noref hf0] at hr; cases hr
        · exact rest2 t hv
      | cell b i =>
        subst hp
        rw [look_cell] at hv
        exact rest2 t hv
    · rw [setPl_wl]
      exact hF.frz (by rw [setPl_len])
  · cases hq
theorem VR.mv {C : Ctx} {r : Option Pl} {π : Option Pl} {v : PV} {x : Value} (hv : VR C h π v x) (hπ : π ≠ some p ∨ isOwn v = false) : VR (moveC C p r) h π (killV p v) x := by
  have hn : ∀ {v x},VR C h none v x → VR (moveC C p r) h none v x := fun h => VR.nest (C := C) (C' := moveC C p r) (fun _ _ h => h) (fun _ h => h) (fun _ _ => rfl) h rfl
  have ne : ∀ {q : Pl},plEq q p = false → q ≠ p := fun hb e => by rw [plEq_iff.2 e] at hb; cases hb
  have ow : ∀ {q : Pl} {id : Nat},C.ow id = some q → q ≠ p → (moveC C p r).ow id = some q := fun h1 h2 => by
    show moveP p r (C.ow _) = _
    rw [h1]; exact moveP_ne h2
  cases hv with
  | nil _ k c =>
    cases k with
    | rf q => simp only [killV]; cases plEq q p <;> first | exact .dead _ _ | exact .nil _ _ _
    | pt q => simp only [killV]; cases plEq q p <;> first | exact .dead _ _ | exact .nil _ _ _
    | _ => exact .nil _ _ _
  | lst _ k c n cs a cap B hb hs hk hn' hc hl hv =>
    cases k with
    | fz => exact .lst _ _ _ _ _ _ _ B hb hs hk hn' hc hl (fun i hi => hn (hv i hi))
    | bor => exact .lst _ _ _ _ _ _ _ B hb hs hk hn' hc hl (fun i hi => hn (hv i hi))
    | own =>
      obtain ⟨q,h1,h2⟩ := hk
      rcases hπ with hπ | hπ
      · exact .lst _ _ _ _ _ _ _ B hb hs ⟨q,h1,ow h2 (fun e => hπ (h1.trans (by rw [e])))⟩ hn' hc hl (fun i hi => hn (hv i hi))
      · cases hπ
    | rf q =>
      obtain ⟨h1,h2⟩ := hk
      simp only [killV]
      cases hq : plEq q p with
      | true => exact .dead _ _
      | false => exact .lst _ _ _ _ _ _ _ B hb hs ⟨ow h1 (ne hq),h2⟩ hn' hc hl (fun i hi => hn (hv i hi))
    | pt q =>
      obtain ⟨h1,h2⟩ := hk
      simp only [killV]
      cases hq : plEq q p with
      | true => exact .dead _ _
      | false => exact .lst _ _ _ _ _ _ _ B hb hs ⟨ow h1 (ne hq),h2⟩ hn' hc hl (fun i hi => hn (hv i hi))
  | r _ k cs a B hb hs hk hir hl hv =>
    cases k with
    | fz => exact .r _ _ _ _ B hb hs hk hir hl (fun i hi => hn (hv i hi))
    | bor => exact .r _ _ _ _ B hb hs hk hir hl (fun i hi => hn (hv i hi))
    | own => cases hir
    | rf q => cases hir
    | pt q =>
      obtain ⟨h1,h2⟩ := hk
      simp only [killV]
      cases hq : plEq q p with
      | true => exact .dead _ _
      | false => exact .r _ _ _ _ B hb hs ⟨ow h1 (ne hq),h2⟩ hir hl (fun i hi => hn (hv i hi))
  | v _ x hp hn => exact .v _ x hp hn
  | un => exact .un _
  | dead => exact .dead _ _
  | p _ b off id hb => exact .p _ _ _ _ hb
  | s _ b off n cap id hb hc hn => exact .s _ _ _ _ _ _ hb hc hn
  | a _ cs l hs hv => exact .a _ _ _ hs (fun i hi => hn (hv i hi))
  | t _ cs l hs hv => exact .t _ _ _ hs (fun i hi => hn (hv i hi))
  | f _ g as bs as' bs' ha hb hA hB => exact .f _ _ _ _ _ _ ha hb (fun i hi => hn (hA i hi)) (fun i hi => hn (hB i hi))
  | i _ ty x x' hx => exact .i _ _ _ _ (hn hx)
  | it _ s pos id t h1 h2 h3 =>
    rcases hπ with hπ | hπ
    · exact .it _ _ _ _ _ h1 (ow h2 (fun e => hπ (h1.trans (by rw [e])))) h3
    · cases hπ
  | m _ k es c id hk hi =>
    cases k with
    | fz => exact .m _ _ _ _ _ hk hi
    | bor => exact .m _ _ _ _ _ hk hi
    | own =>
      obtain ⟨q,h1,h2⟩ := hk
      rcases hπ with hπ | hπ
      · exact .m _ _ _ _ _ ⟨q,h1,ow h2 (fun e => hπ (h1.trans (by rw [e])))⟩ hi
      · cases hπ
    | rf q =>
      obtain ⟨h1,h2⟩ := hk
      simp only [killV]
      cases hq : plEq q p with
      | true => exact .dead _ _
      | false => exact .m _ _ _ _ _ ⟨ow h1 (ne hq),h2⟩ hi
    | pt q =>
      obtain ⟨h1,h2⟩ := hk
      simp only [killV]
      cases hq : plEq q p with
      | true => exact .dead _ _
      | false => exact .m _ _ _ _ _ ⟨ow h1 (ne hq),h2⟩ hi
theorem VA.takenM {es : List MapEntry} {c : Nat} {x : Value} {r : Pl} (hv : VA C h (.m (.rf p) es c) x) : VR (moveC C p (some r)) h (some r) (.m .own es c) x := by
  cases hv 0 with
  | m _ k es c id hk hi => exact .m _ _ _ _ _ ⟨r,rfl,by show moveP p (some r) (C.ow _) = _; rw [hk.1]; exact moveP_same⟩ hi
theorem VA.taken {c : Ck} {n : Nat} {cs : List PV} {x : Value} {r : Pl} (hv : VA C h (.l (.rf p) c n cs) x) : VR (moveC C p (some r)) h (some r) (.l .own c n cs) x := by
  have hn : ∀ {v x},VR C h none v x → VR (moveC C p (some r)) h none v x := fun h => VR.nest (C := C) (C' := moveC C p (some r)) (fun _ _ h => h) (fun _ h => h) (fun _ _ => rfl) h rfl
  cases hv 0 with
  | nil _ k c => exact .nil _ _ _
  | lst _ k c n cs a cap B hb hs hk hn' hc hl hv' =>
    exact .lst _ _ _ _ _ _ _ B hb hs ⟨r,rfl,by show moveP p (some r) (C.ow _) = _; rw [hk.1]; exact moveP_same⟩ hn' ⟨hc.full,hc.nz,hc.le,hc.kind,fun _ => hc.mine rfl,hc.one⟩ hl (fun i hi => hn (hv' i hi))
theorem killV_id {v : PV} (hl : loose v = false) : killV p v = v := by
  cases v with
  | l k c n cs => cases k <;> first | rfl | cases hl
  | r k cs => cases k <;> first | rfl | cases hl
  | m k es c => cases k <;> first | rfl | cases hl
  | _ => rfl
theorem VR.mvCell {b i : Nat} {v : PV} {x : Value} {r : Option Pl} (hv : VR C h (some (.cell b i)) v x) (hne : p ≠ .cell b i ∨ isOwn v = false) : VR (moveC C p r) h (some (.cell b i)) v x := by
  have h1 := hv.mv (p := p) (r := r) (hne.imp (fun h e => h (Option.some.inj e).symm) id)
  cases v with
  | l k c n cs =>
    cases k with
    | rf q =>
      rcases hv.inv_l with ⟨rfl,rfl,rfl⟩ | ⟨a,cap,B,rfl,_,_,⟨_,_,e⟩,_⟩
      · exact .nil _ _ _
      · cases e
    | pt q =>
      rcases hv.inv_l with ⟨rfl,rfl,rfl⟩ | ⟨a,cap,B,rfl,_,_,⟨_,_,e⟩,_⟩
      · exact .nil _ _ _
      · cases e
    | _ => exact h1
  | r k cs =>
    cases k with
    | pt q => obtain ⟨a,B,rfl,_,_,⟨_,_,e⟩,_⟩ := hv.inv_r; cases e
    | _ => exact h1
  | m k es c =>
    cases k with
    | rf q => cases hv with
      | m _ _ _ _ id hk hi => obtain ⟨_,_,e⟩ := hk; cases e
    | pt q => cases hv with
      | m _ _ _ _ id hk hi => obtain ⟨_,_,e⟩ := hk; cases e
    | _ => exact h1
  | _ => exact h1
theorem HI.mv {r : Option Pl} (hi : HI C h σ.hp) {ls : List (Nat × PV)} {wl : Option Nat} (hg : ∃ v,getPl Y f σ p = some v) : HI (moveC C p r) h (setPl Y f .dead { σ with ls := ls,wl := wl } p).hp := by
  have hlen : (setPl Y f .dead { σ with ls := ls,wl := wl } p).hp.length = σ.hp.length := by
    unfold setPl
    split
    · split <;> rfl
    · split <;> simp
  refine ⟨hi.fzx,fun id h => ⟨(hi.fxl id h).1,by simp [moveC,(hi.fxl id h).2,moveP]⟩,fun id q h => ?_,fun b id hb => ?_,hi.inj,fun b ds hb => ?_,fun b ds hb v hv => ?_⟩
  · rcases moveP_of h with ⟨h1,_⟩ | ⟨h1,_⟩ <;> exact hi.owl id _ h1
  · obtain ⟨h1,h2,h3,h4⟩ := hi.βl b id hb
    exact ⟨h1,fun hx => by
      have hn := (h2 hx).2
      refine ⟨(h2 hx).1, ?_⟩
      unfold setPl
      split
      · split <;> exact hn
      · split
        · rename_i b0 i0 _ cs hcs
          by_cases e : b0 = b
          · subst e
            have hcs' : σ.hp[b0]? = some (some cs) := hcs
            rw [hn] at hcs'; cases hcs'
          · show (σ.hp.set b0 _)[b]? = _
            rw [List.getElem?_set_ne e]; exact hn
        · exact hn,by simp [moveC,h3,moveP],by rw [hlen]; exact h4⟩
  · cases p with
    | tmp t =>
      have hb' : σ.hp[b]? = some (some ds) := by
        rw [← hb]; unfold setPl; simp only []; split <;> rfl
      obtain ⟨id,B,h1,h2,h3,h4,h5,h6⟩ := hi.blk b ds hb'
      exact ⟨id,B,h1,h2,h3,h4,h5,fun i hi' => (h6 i hi').mvCell (.inl (by simp))⟩
    | cell b0 i0 =>
      obtain ⟨v,hg⟩ := hg
      simp only [getPl] at hg
      split at hg
      · rename_i es hes
        simp only [setPl,hes] at hb
        by_cases e : b0 = b
        · subst e
          obtain ⟨id,B,h1,h2,h3,h4,h5,h6⟩ := hi.blk b0 es hes
          have hlt : b0 < σ.hp.length := (List.getElem?_eq_some_iff.1 hes).1
          rw [List.getElem?_set_self hlt] at hb
          cases hb
          refine ⟨id,B,h1,h2,h3,h4,by simpa using h5,fun i hi' => ?_⟩
          simp only [List.length_set] at hi'
          by_cases e : i = i0
          · subst e
            rw [show (es.set i .dead).getD i .dead = .dead by simp [List.getD_eq_getElem?_getD,hi']]
            exact .dead _ _
          · have h7 := h6 i hi'
            rw [show (es.set i0 .dead).getD i .dead = es.getD i .dead by simp [List.getD_eq_getElem?_getD,Ne.symm e]]
            exact h7.mvCell (.inl (fun h => e (by cases h; rfl)))
        · rw [List.getElem?_set_ne e] at hb
          obtain ⟨id,B,h1,h2,h3,h4,h5,h6⟩ := hi.blk b ds hb
          exact ⟨id,B,h1,h2,h3,h4,h5,fun i hi' => (h6 i hi').mvCell (.inl (fun h => e (by cases h; rfl)))⟩
      · cases hg
  · cases p with
    | tmp t =>
      have hb' : σ.hp[b]? = some (some ds) := by
        rw [← hb]; unfold setPl; simp only []; split <;> rfl
      exact hi.rf b ds hb' v hv
    | cell b0 i0 =>
      obtain ⟨u,hg⟩ := hg
      simp only [getPl] at hg
      split at hg
      · rename_i es hes
        simp only [setPl,hes] at hb
        by_cases e : b0 = b
        · subst e
          have hlt : b0 < σ.hp.length := (List.getElem?_eq_some_iff.1 hes).1
          rw [List.getElem?_set_self hlt] at hb
          cases hb
          rcases List.mem_or_eq_of_mem_set hv with h1 | rfl
          · exact hi.rf b0 es hes v h1
          · rfl
        · rw [List.getElem?_set_ne e] at hb
          exact hi.rf b ds hb v hv
      · cases hg
theorem cleanW_low {F : Fr} {w : Option Nat} {b : Nat} (hc : cleanW F (lowB w b)) : cleanW F w ∧ F.base ≤ b := by
  cases w with
  | none => exact ⟨trivial,hc⟩
  | some a =>
    have h : F.base ≤ Nat.min a b := hc
    exact ⟨Nat.le_trans h (Nat.min_le_left _ _),Nat.le_trans h (Nat.min_le_right _ _)⟩
theorem cleanW_lowP {F : Fr} {w : Option Nat} (hc : cleanW F (lowP w p)) : cleanW F w ∧ ∀ b i,p = .cell b i → F.base ≤ b := by
  cases p with
  | tmp t => exact ⟨hc,fun _ _ e => by cases e⟩
  | cell b i => exact ⟨(cleanW_low hc).1,fun _ _ e => by cases e; exact (cleanW_low hc).2⟩
theorem LP.mv {F : Fr} {r : Option Pl} {wl : Option Nat} {hp hp' : List (Option (List PV))} (hlen : hp'.length = hp.length) (l : LP F C h hp wl) : LP F (moveC C p r) h hp' (lowP wl p) :=
  ⟨l.n0,by rw [hlen]; exact l.base,fun hc => l.low (cleanW_lowP hc).1,fun hc id q hq hn => by
    obtain ⟨h1,h2⟩ := cleanW_lowP hc
    rcases moveP_of hq with ⟨h3,_⟩ | ⟨h3,_⟩
    · exact l.mine h1 id p h3 h2
    · exact l.mine h1 id q h3 hn,fun hc => l.βm (cleanW_lowP hc).1⟩
theorem take_sim {K : Nat → Bool} (r : Option Pl) (hrk : ∀ d,r = some (.tmp d) → K d = true) (st : ST P Y f C h σ tv) (hq : take Y f p σ = some σ') : ST P Y f (moveC C p r) h σ' tv ∧ Step K (fun _ => False) C h σ (moveC C p r) h σ' ∧
    (∀ u x,VA C h u x → isOwn u = false → VA (moveC C p r) h (killV p u) x) ∧ (∀ t,p = .tmp t → look Y f σ' t = some .dead) := by
  unfold take at hq
  split at hq
  rotate_left
  · cases hq
  rename_i v0 hg
  split at hq
  · rename_i htk0
    cases hq
    have he : Ext C h (moveC C p r) h := ⟨rfl,fun _ _ => rfl,Nat.le_refl _,fun _ h => h,fun _ h => h,fun _ h => .inl h,fun _ _ h => h,fun _ _ => rfl⟩
    refine ⟨⟨st.sz,st.hi.mv ⟨_,hg⟩,fun t v hv => ?_,fun t v hk hv => ?_,st.gr.ext st.hi.fzx he,st.al.keep (fun t v hv hr => ?_)⟩,⟨he,fun id hid => .inl ?_,by rw [setPl_len]; exact Nat.le_refl _,fun _ _ h => .inl h,(fun F hc => by rw [setPl_wl] at hc; exact (cleanW_lowP hc).1),fun id t ht ho => (moveP_of ho).elim (fun e => by rw [hrk t e.2] at ht; cases ht) (fun e => .inl e.1),fun F _ hF => ?_⟩,fun u x hu ho d => (hu d).mv (.inr ho),fun t e => ?_⟩
    · have rest : ∀ t v,look Y f { σ with ls := mapL (killV p) σ.ls,wl := lowP σ.wl p } t = some v → p ≠ .tmp t → VR (moveC C p r) h (some (.tmp t)) v (tget0 tv t) := fun t v hv hp => by
        rw [look_mapL] at hv
        split at hv
        · rename_i hk
          have h1 := st.tr t v (by unfold look; rw [hk]; exact hv)
          have h2 := h1.mv (p := p) (r := r) (.inl (fun e => hp (Option.some.inj e).symm))
          rwa [killV_id (st.nl t v hk hv)] at h2
        · rename_i hk
          obtain ⟨u,hu,rfl⟩ := Option.map_eq_some_iff.1 hv
          exact (st.tr t u (by unfold look; rw [hk]; exact hu)).mv (.inl (fun e => hp (Option.some.inj e).symm))
      cases hp : p with
      | tmp t0 =>
        subst hp
        rw [look_tmp] at hv
        split at hv
        · cases hv; exact .dead _ _
        · rename_i e
          exact rest t v hv (by simp; exact fun h => e h.symm)
      | cell b i =>
        subst hp
        rw [look_cell] at hv
        exact rest t v hv (by simp)
    · cases hp : p with
      | tmp t0 =>
        subst hp
        unfold setPl at hv
        simp only [] at hv
        cases hk0 : Y.keep f t0 with
        | true =>
          simp only [hk0,Tr.get_set] at hv
          split at hv
          · cases hv; rfl
          · exact st.nl t v hk hv
        | false =>
          simp only [hk0] at hv
          exact st.nl t v hk hv
      | cell b i =>
        subst hp
        unfold setPl at hv
        simp only [] at hv
        split at hv <;> exact st.nl t v hk hv
    · have rest2 : ∀ t,look Y f { σ with ls := mapL (killV p) σ.ls,wl := lowP σ.wl p } t = some v → look Y f σ t = some v := fun t hv => by
        rw [look_mapL] at hv
        split at hv
        · rename_i hk; unfold look; rw [hk]; exact hv
        · rename_i hk
          obtain ⟨u,hu,rfl⟩ := Option.map_eq_some_iff.1 hv
          unfold look; rw [hk]
          rw [killV_ref hr]
          exact hu
      cases hp : p with
      | tmp t0 =>
        subst hp
        rw [look_tmp] at hv
        split at hv
        · cases hv; cases hr
        · exact rest2 t hv
      | cell b i =>
        subst hp
        rw [look_cell] at hv
        exact rest2 t hv
    · rcases hid with hid | ⟨q,hid⟩ | hid
      · exact .inl hid
      · rcases moveP_of hid with ⟨h1,_⟩ | ⟨h1,_⟩ <;> exact .inr (.inl ⟨_,h1⟩)
      · exact .inr (.inr hid)
    · rw [setPl_wl]
      exact hF.mv (by rw [setPl_len])
    · subst e
      rw [look_tmp,if_pos rfl]
  · cases hq
end
end Go.Pur
namespace Go.Pur
open Go.Abs
section
variable {P : Program} {Y : Pol} {f : FuncId} {C : Ctx} {h : AHeap} {σ σ' : St} {tv : Tr Value} {N : Nat}
def frzO (C : Ctx) : Option Pl → Ctx
  | none => C
  | some p => frzC C (atP p)
theorem VA.own {c : Ck} {n : Nat} {cs : List PV} {x : Value} (hu : VA C h (.l .own c n cs) x) : n = 0 ∧ cs = [] ∧ x = .slice none 0 0 := by
  rcases (hu 0).inv_l with ⟨rfl,rfl,rfl⟩ | ⟨a,cap,B,rfl,_,_,⟨p,e1,e2⟩,_⟩
  · exact ⟨rfl,rfl,rfl⟩
  · rcases (hu 1).inv_l with ⟨rfl,rfl,e⟩ | ⟨a',cap',B',e,_,_,⟨p',e3,e4⟩,_⟩
    · cases e
    · cases e; cases e1; cases e3; rw [e2] at e4; cases e4
theorem stor_sim {v v' : PV} {x : Value} {o : Option Pl} (st : ST P Y f C h σ tv) (hv : VA C h v x) (hq : stor Y f v σ = some (v',σ',o)) :
    ST P Y f (frzO C o) h σ' tv ∧ Step (Y.keep f) (fun _ => False) C h σ (frzO C o) h σ' ∧ firm v' = true ∧ VR (frzO C o) h none v' x := by
  have same : ∀ {u : PV},firm u = true → VA C h u x → ST P Y f (frzO C none) h σ tv ∧ Step (Y.keep f) (fun _ => False) C h σ (frzO C none) h σ ∧ firm u = true ∧ VR (frzO C none) h none u x :=
    fun hf hu => ⟨st,.refl _ _ _ _ _,hf,(hu 0).firm hf⟩
  unfold stor at hq
  split at hq
  · rename_i p c n cs
    split at hq
    · rename_i σ1 hz
      cases hq
      obtain ⟨h1,h2⟩ := freeze_sim st hz
      refine ⟨h1,h2,rfl, ?_⟩
      have h3 := hv.frz (S := atP p)
      rw [show frzS (atP p) (.l (.rf p) c n cs) = .l .fz c n cs by simp [frzS,atP_iff.2]] at h3
      exact (h3 0).firm rfl
    · cases hq
  · rename_i c n cs
    split at hq
    · cases hq
      exact same (u := .l .fz c 0 []) rfl (by rw [hv.own.2.2]; exact fun d => .nil _ _ _)
    · cases hq
  · cases hq
    exact same rfl hv
  · rename_i p es c
    split at hq
    · rename_i σ1 hz
      cases hq
      obtain ⟨h1,h2⟩ := freeze_sim st hz
      refine ⟨h1,h2,rfl, ?_⟩
      have h3 := hv.frz (S := atP p)
      rw [show frzS (atP p) (.m (.rf p) es c) = .m .fz es c by simp [frzS,atP_iff.2]] at h3
      exact (h3 0).firm rfl
    · cases hq
  all_goals first
    | (cases hq; done)
    | (cases hq; exact same rfl hv)
theorem frzs_add {o : Option Pl} {ps : List Pl} {v : PV} {x : Value} (hv : VA C h (frzs ps v) x) : VA (frzO C o) h (frzs (addP o ps) v) x := by
  cases o with
  | none => exact hv
  | some p => exact hv.frz (S := atP p)
def LF (C : Ctx) (h : AHeap) (ps : List Pl) : List PV → List Value → Prop
  | [],[] => True
  | u :: us,x :: xs => VA C h (frzs ps u) x ∧ LF C h ps us xs
  | _,_ => False
theorem LF.of : ∀ {us : List PV} {xs : List Value},LA C h us xs → LF C h [] us xs
  | [],[],_ => trivial
  | _ :: _,_ :: _,hl => ⟨hl.1,LF.of hl.2⟩
  | [],_ :: _,hl => hl.elim
  | _ :: _,[],hl => hl.elim
theorem LF.add {o : Option Pl} {ps : List Pl} : ∀ {us : List PV} {xs : List Value},LF C h ps us xs → LF (frzO C o) h (addP o ps) us xs
  | [],[],_ => trivial
  | _ :: _,_ :: _,hl => ⟨frzs_add hl.1,LF.add hl.2⟩
  | [],_ :: _,hl => hl.elim
  | _ :: _,[],hl => hl.elim
theorem stors_sim : ∀ {us us' : List PV} {xs : List Value} {ps : List Pl} {C : Ctx} {σ σ' : St},ST P Y f C h σ tv → LF C h ps us xs → stors Y f ps us σ = some (us',σ') →
    ∃ C',ST P Y f C' h σ' tv ∧ Step (Y.keep f) (fun _ => False) C h σ C' h σ' ∧ (us'.all firm = true) ∧ LR C' h none us' xs
  | [],us',[],ps,C,σ,σ',st,_,hq => by cases hq; exact ⟨C,st,.refl _ _ _ _ _,rfl,LR.nil _ _ _⟩
  | u :: us,us',x :: xs,ps,C,σ,σ',st,hl,hq => by
    simp only [stors] at hq
    split at hq
    · rename_i v' σ1 o hs
      split at hq
      · rename_i vs' σ2 hr
        cases hq
        obtain ⟨s1,t1,f1,r1⟩ := stor_sim st hl.1 hs
        obtain ⟨C2,s2,t2,f2,r2⟩ := stors_sim s1 hl.2.add hr
        refine ⟨C2,s2,t1.trans t2 (fun _ h => h) (fun _ h => h),by simp only [List.all_cons,f1,f2,Bool.and_self],LR.cons (r1.nest t2.ext.β t2.ext.fz (fun id hid => t2.ext.gg (s1.hi.fzx id hid)) rfl) r2⟩
      · cases hq
    · cases hq
  | [],_,_ :: _,_,_,_,_,_,hl,_ => hl.elim
  | _ :: _,_,[],_,_,_,_,_,hl,_ => hl.elim
def cellOf (n : Nat) : Option Pl → Option Pl
  | some (.cell b i) => match Nat.blt b n with
    | true => some (.cell b i)
    | false => none
  | _ => none
def callC (N : Nat) (C : Ctx) : Ctx := { C with fx := fun id => C.fx id ∨ ∃ t,C.ow id = some (.tmp t),ow := fun id => cellOf N (C.ow id) }
theorem cellOf_some {n : Nat} {o : Option Pl} {p : Pl} (hq : cellOf n o = some p) : o = some p ∧ ∃ b i,p = .cell b i ∧ b < n := by
  unfold cellOf at hq
  split at hq
  · split at hq
    · rename_i hb; cases hq; exact ⟨rfl,_,_,rfl,Nat.le_of_ble_eq_true hb⟩
    · cases hq
  · cases hq
theorem callC_sub (hi : HI C h σ.hp) : ∀ id,(callC N C).fz id → (callC N C).fx id := fun id hid => .inl (hi.fzx id hid)
def AR (N : Nat) (C : Ctx) (h : AHeap) (v : PV) (x : Value) : Prop := ∀ d,VR (callC N C) h (some (.tmp d)) v x
theorem AR.of_firm (hi : HI C h σ.hp) {v : PV} {x : Value} (hv : VR C h none v x) : AR N C h v x := fun d =>
  (VR.nest (C := C) (C' := callC N C) (fun _ _ h => h) (fun _ h => h) (fun _ _ => rfl) hv rfl).out _
theorem AR.step {C' : Ctx} {v : PV} {x : Value} (hsz : C'.sz = C.sz) (hi : HI C h σ.hp) (hlo : loose v = false) (ho : isOwn v = false) (hβ : ∀ b id,C.β b = some id → C'.β b = some id) (hf : ∀ id,C.fz id → C'.fz id) (hx : ∀ id,(callC N C).fx id → (callC N C').fx id) (hv : AR N C h v x) : AR N C' h v x := fun d =>
  VR.step (C := callC N C) (C' := callC N C') hsz hβ hf hx (callC_sub (σ := σ) hi) (fun _ _ => rfl) (fun t e => ⟨t,e⟩) (hv d) (by
    cases v with
    | l k c n cs => cases k <;> first | trivial | cases hlo | cases ho
    | r k cs => cases k <;> first | trivial | cases hlo
    | m k es c => cases k <;> first | trivial | cases hlo | cases ho
    | _ => trivial)
theorem frzO_call {o : Option Pl} : ∀ id,(callC N C).fx id → (callC N (frzO C o)).fx id := by
  cases o with
  | none => exact fun _ h => h
  | some p =>
    intro id hid
    rcases hid with hid | ⟨t,hid⟩
    · exact .inl (.inl hid)
    · cases hS : atP p (.tmp t) with
      | true => exact .inl (.inr ⟨_,hid,hS⟩)
      | false => exact .inr ⟨t,dropS_some.2 ⟨hid,hS⟩⟩
theorem argv_sim {v v' : PV} {x : Value} {o : Option Pl} (st : ST P Y f C h σ tv) (hv : VA C h v x) (hq : argv Y f v σ = some (v',σ',o)) :
    ST P Y f (frzO C o) h σ' tv ∧ Step (Y.keep f) (fun _ => False) C h σ (frzO C o) h σ' ∧ loose v' = false ∧ isOwn v' = false ∧ AR N (frzO C o) h v' x := by
  have bystor : ∀ {v : PV},VA C h v x → stor Y f v σ = some (v',σ',o) → ST P Y f (frzO C o) h σ' tv ∧ Step (Y.keep f) (fun _ => False) C h σ (frzO C o) h σ' ∧ loose v' = false ∧ isOwn v' = false ∧ AR N (frzO C o) h v' x := fun hv hq => by
    obtain ⟨s1,t1,f1,r1⟩ := stor_sim st hv hq
    refine ⟨s1,t1, ?_, ?_,AR.of_firm s1.hi r1⟩ <;>
    · cases v' with
      | l k c n cs => cases k <;> first | rfl | cases f1
      | r k cs => cases k <;> first | rfl | cases f1
      | m k es c => cases k <;> first | rfl | cases f1
      | it s p => cases f1
      | _ => rfl
  have borm : ∀ {k : Vl} {es : List MapEntry} {c : Nat},(∀ id,LOK C (some (.tmp 0)) k id → (callC N C).fx id) → VA C h (.m k es c) x → AR N C h (.m .bor es c) x := fun hk hv d => by
    cases hv 0 with
    | m _ _ _ _ id ho hi => exact .m _ _ _ _ _ ⟨hk _ ho,d,rfl⟩ hi
  have bor : ∀ {k : Vl} {c : Ck} {n : Nat} {cs : List PV},(∀ id,LOK C (some (.tmp 0)) k id → (callC N C).fx id) → VA C h (.l k c n cs) x → AR N C h (.l .bor c n cs) x := fun hk hv d => by
    cases hv 0 with
    | nil => exact .nil _ _ _
    | lst _ _ _ _ _ a cap B hb hs ho hn hc hl hv' =>
      exact .lst _ _ _ _ _ _ _ B hb hs ⟨hk _ ho,d,rfl⟩ hn ⟨hc.full,hc.nz,hc.le,hc.kind,(fun e => by cases e),hc.one⟩ hl
        (fun i hi => VR.nest (C := C) (C' := callC N C) (fun _ _ h => h) (fun _ h => h) (fun _ _ => rfl) (hv' i hi) rfl)
  have borr : ∀ {k : Vl} {cs : List PV},(∀ id,LOK C (some (.tmp 0)) k id → (callC N C).fx id) → VA C h (.r k cs) x → AR N C h (.r .bor cs) x := fun hk hv d => by
    cases hv 0 with
    | r _ _ _ a B hb hs ho hir hl hv' =>
      exact .r _ _ _ _ B hb hs ⟨hk _ ho,d,rfl⟩ rfl hl
        (fun i hi => VR.nest (C := C) (C' := callC N C) (fun _ _ h => h) (fun _ h => h) (fun _ _ => rfl) (hv' i hi) rfl)
  unfold argv at hq
  split at hq
  · rename_i t c n cs
    split at hq
    · cases hq
      exact ⟨st,.refl _ _ _ _ _,rfl,rfl,bor (k := .rf (.tmp t)) (fun id hk => .inr ⟨t,hk.1⟩) hv⟩
    · exact bystor hv hq
  · rename_i t c n cs
    cases hq
    exact ⟨st,.refl _ _ _ _ _,rfl,rfl,bor (k := .pt (.tmp t)) (fun id hk => .inr ⟨t,hk.1⟩) hv⟩
  · cases hq
    exact ⟨st,.refl _ _ _ _ _,rfl,rfl,bor (k := .bor) (fun id hk => .inl hk.1) hv⟩
  · rename_i t cs
    cases hq
    exact ⟨st,.refl _ _ _ _ _,rfl,rfl,borr (k := .pt (.tmp t)) (fun id hk => .inr ⟨t,hk.1⟩) hv⟩
  · cases hq
    exact ⟨st,.refl _ _ _ _ _,rfl,rfl,borr (k := .bor) (fun id hk => .inl hk.1) hv⟩
  · rename_i t es c
    split at hq
    · cases hq
      exact ⟨st,.refl _ _ _ _ _,rfl,rfl,borm (k := .rf (.tmp t)) (fun id hk => .inr ⟨t,hk.1⟩) hv⟩
    · exact bystor hv hq
  · cases hq
    exact ⟨st,.refl _ _ _ _ _,rfl,rfl,borm (k := .bor) (fun id hk => .inl hk.1) hv⟩
  · exact bystor hv hq
def LAR (N : Nat) (C : Ctx) (h : AHeap) : List PV → List Value → Prop
  | [],[] => True
  | u :: us,x :: xs => AR N C h u x ∧ loose u = false ∧ isOwn u = false ∧ LAR N C h us xs
  | _,_ => False
theorem LAR.step {C' : Ctx} (hsz : C'.sz = C.sz) (hi : HI C h σ.hp) (hβ : ∀ b id,C.β b = some id → C'.β b = some id) (hf : ∀ id,C.fz id → C'.fz id) (hx : ∀ id,(callC N C).fx id → (callC N C').fx id) : ∀ {us : List PV} {xs : List Value},LAR N C h us xs → LAR N C' h us xs
  | [],[],_ => trivial
  | _ :: _,_ :: _,hl => ⟨hl.1.step hsz hi hl.2.1 hl.2.2.1 hβ hf hx,hl.2.1,hl.2.2.1,hl.2.2.2.step hsz hi hβ hf hx⟩
  | [],_ :: _,hl => hl.elim
  | _ :: _,[],hl => hl.elim
theorem argvs_sim : ∀ {us us' : List PV} {xs : List Value} {ps : List Pl} {C : Ctx} {σ σ' : St},ST P Y f C h σ tv → LF C h ps us xs → argvs Y f ps us σ = some (us',σ') →
    ∃ C',ST P Y f C' h σ' tv ∧ Step (Y.keep f) (fun _ => False) C h σ C' h σ' ∧ (∀ id,(callC N C).fx id → (callC N C').fx id) ∧ LAR N C' h us' xs
  | [],us',[],ps,C,σ,σ',st,_,hq => by cases hq; exact ⟨C,st,.refl _ _ _ _ _,fun _ h => h,trivial⟩
  | u :: us,us',x :: xs,ps,C,σ,σ',st,hl,hq => by
    simp only [argvs] at hq
    split at hq
    · rename_i v' σ1 o hs
      split at hq
      · rename_i vs' σ2 hr
        cases hq
        obtain ⟨s1,t1,l1,o1,r1⟩ := argv_sim st hl.1 hs
        obtain ⟨C2,s2,t2,x2,r2⟩ := argvs_sim s1 hl.2.add hr
        exact ⟨C2,s2,t1.trans t2 (fun _ h => h) (fun _ h => h),fun id h => x2 id (frzO_call id h),r1.step t2.ext.sz s1.hi l1 o1 t2.ext.β t2.ext.fz x2,l1,o1,r2⟩
      · cases hq
    · cases hq
  | [],_,_ :: _,_,_,_,_,_,hl,_ => hl.elim
  | _ :: _,_,[],_,_,_,_,_,hl,_ => hl.elim
theorem aload_of {t : TypeId} {a : Addr} {B : Blk} {cs : List PV} {v : PV} (hb : h.get a.block = some B) (hr : LR C h none cs ((B.cells.drop a.off).take cs.length)) (hq : ppart P t cs 0 = some v) : ∃ y,aload P t (.pointer (some a)) h = some y ∧ VR C h none v y := by
  unfold ppart at hq
  unfold aload
  split at hq
  · rename_i hrow
    split at hq
    · rename_i n hn
      obtain ⟨inf,hinf,rfl⟩ := sz_of hn
      split at hq
      · rename_i r htk
        cases hq
        obtain ⟨rfl,hle⟩ := takeP_some htk
        rw [List.drop_zero] at hle
        have h1 := hr.take inf.size
        rw [List.take_take,Nat.min_eq_left hle] at h1
        have h2 := hr.1
        rw [List.length_take] at h2
        refine ⟨.agg ((B.cells.drop a.off).take inf.size).toArray,by simp only [hb,hrow,hinf,takeN_of (show inf.size ≤ (B.cells.drop a.off).length by omega)], ?_⟩
        rw [List.drop_zero]
        exact VR.agg_of h1
      · cases hq
    · cases hq
  · rename_i hrow
    obtain ⟨y,h1,h2⟩ := hr.get hq
    refine ⟨y, ?_,h2⟩
    simp only [hb,hrow]
    rw [List.getElem?_take] at h1
    split at h1
    · rwa [List.getElem?_drop,Nat.add_zero] at h1
    · cases h1
  · cases hq
theorem frzB_sim {b : Nat} {cs : List PV} (st : ST P Y f C h σ tv) (hb : σ.hp[b]? = some (some cs)) :
    ST P Y f (frzC C (atB b)) h { σ with hp := σ.hp.set b (some (cs.map ownFz)),ls := mapL (frzS (atB b)) σ.ls } tv ∧ Step (Y.keep f) (fun _ => False) C h σ (frzC C (atB b)) h { σ with hp := σ.hp.set b (some (cs.map ownFz)),ls := mapL (frzS (atB b)) σ.ls } := by
  refine ⟨⟨st.sz,st.hi.frz (by simp) (fun b' ds' hb' => ?_),fun t v hv => ?_,st.nl,st.gr.ext st.hi.fzx (.frz st.hi),st.al.keep (fun t v hv hr => ?_)⟩,⟨.frz st.hi,fun id hid => .inl hid.frz,by simp,fun _ _ h => .inl h,fun _ h => h,fun _ _ _ ho => .inl (dropS_some.1 ho).1,fun F _ hF => hF.frz (by simp)⟩⟩
  · by_cases e : b = b'
    · subst e
      have hlt : b < σ.hp.length := (List.getElem?_eq_some_iff.1 hb).1
      rw [List.getElem?_set_self hlt] at hb'
      cases hb'
      refine ⟨cs,hb,by simp,fun i hi => ?_⟩
      rw [show atB b (.cell b i) = true by simp [atB]]
      simp [List.getD_eq_getElem?_getD,hi]
    · rw [List.getElem?_set_ne e] at hb'
      refine ⟨ds',hb',rfl,fun i hi => ?_⟩
      rw [show atB b (.cell b' i) = false from Bool.eq_false_iff.2 fun h => e (Nat.eq_of_beq_eq_true h).symm]
  · have hne : ∀ q,some (Pl.tmp t) = some q → atB b q = false := fun q e => by cases e; rfl
    have hv' : look Y f { σ with ls := mapL (frzS (atB b)) σ.ls,wl := σ.wl } t = some v := hv
    rw [look_mapL] at hv'
    split at hv'
    · rename_i hk
      have h1 := st.tr t v (by unfold look; rw [hk]; exact hv')
      have h2 := h1.frz (S := atB b) (.inl hne)
      rwa [frzS_id (st.nl t v hk hv')] at h2
    · rename_i hk
      obtain ⟨u,hu,rfl⟩ := Option.map_eq_some_iff.1 hv'
      exact (st.tr t u (by unfold look; rw [hk]; exact hu)).frz (S := atB b) (.inl hne)
  · have hv' : look Y f { σ with ls := mapL (frzS (atB b)) σ.ls,wl := σ.wl } t = some v := hv
    rw [look_mapL] at hv'
    split at hv'
    · rename_i hk; unfold look; rw [hk]; exact hv'
    · rename_i hk
      obtain ⟨u,hu,rfl⟩ := Option.map_eq_some_iff.1 hv'
      unfold look; rw [hk,frzS_ref hr]
      exact hu
theorem pload_sim {t : TypeId} {x v : PV} {x' : Value} (st : ST P Y f C h σ tv) (hx : VA C h x x') (hq : pload P t x σ = some (v,σ')) :
    ∃ C' y,aload P t x' h = some y ∧ ST P Y f C' h σ' tv ∧ Step (Y.keep f) (fun _ => False) C h σ C' h σ' ∧ VA C' h v y ∧ maOf v = none := by
  unfold pload at hq
  split at hq
  · rename_i k cs
    split at hq
    · rename_i u hu
      cases hq
      obtain ⟨a,B,rfl,hb,hs,hk,hir,hl,hr⟩ := (hx 0).inv_r
      obtain ⟨y,h1,h2⟩ := aload_of hb hr hu
      exact ⟨C,y,h1,st,.refl _ _ _ _ _,fun d => h2.out _,h2.noma (fun t e => by cases e)⟩
    · cases hq
  · rename_i b off
    split at hq
    · rename_i cs hb
      obtain ⟨id,hβ,rfl⟩ := (hx 0).inv_p
      obtain ⟨id',B,h1,h2,h3,h4,h5,h6⟩ := st.hi.blk b cs hb
      rw [hβ] at h1; cases h1
      split at hq
      · rename_i hrow
        split at hq
        · rename_i n hn
          obtain ⟨inf,hinf,rfl⟩ := sz_of hn
          split at hq
          · rename_i r htk
            obtain ⟨rfl,hle⟩ := takeP_some htk
            have hal : aload P t (.pointer (some ⟨id,off,none⟩)) h = some (.agg ((B.cells.drop off).take inf.size).toArray) := by
              unfold aload
              simp only [h2,hrow,hinf,takeN_of (show inf.size ≤ (B.cells.drop off).length by simp at hle ⊢; omega)]
            have cell : ∀ i v v',((cs.drop off).take inf.size)[i]? = some v → ((B.cells.drop off).take inf.size)[i]? = some v' → VR C h (some (.cell b (off + i))) v v' ∧ cs[off + i]? = some v := fun i v v' e1 e2 => by
              rw [List.getElem?_take,List.getElem?_drop] at e1 e2
              split at e1
              · rw [if_pos ‹_›] at e2
                have hi := (List.getElem?_eq_some_iff.1 e1).1
                have := h6 (off + i) hi
                rw [List.getD_eq_getElem?_getD,e1,List.getD_eq_getElem?_getD,e2] at this
                exact ⟨this,e1⟩
              · cases e1
            have hlen : ((B.cells.drop off).take inf.size).length = ((cs.drop off).take inf.size).length := by simp; omega
            split at hq
            · cases hq
              obtain ⟨s1,t1⟩ := frzB_sim st hb
              refine ⟨_,_,hal,s1,t1,fun d => VR.agg_of (LR.of_get (by simpa using hlen) (fun i v v' e1 e2 => ?_)),rfl⟩
              rw [List.getElem?_map] at e1
              obtain ⟨u,hu,rfl⟩ := Option.map_eq_some_iff.1 e1
              obtain ⟨h7,h8⟩ := cell i u v' hu e2
              cases ho : isOwn u with
              | true =>
                cases u with
                | l k c n cs' => cases k <;> first | exact h7.frzOwn (S := atB b) (by simp [atB]) _ | cases ho
                | m k es c => cases k <;> first | exact h7.frzOf (S := atB b) rfl (by simp [atB]) _ | cases ho
                | it s p =>
                  cases h7 with
                  | it _ _ _ _ _ e => cases e
                | _ => cases ho
              | false =>
                rw [show ownFz u = u by cases u with
                  | l k c n cs' => cases k <;> first | rfl | cases ho
                  | m k es c => cases k <;> first | rfl | cases ho
                  | _ => rfl]
                exact (h7.cell_in ho).nest t1.ext.β t1.ext.fz (fun _ _ => rfl) rfl
            · rename_i hany
              cases hq
              refine ⟨C,_,hal,st,.refl _ _ _ _ _,fun d => VR.agg_of (LR.of_get hlen (fun i v v' e1 e2 => ?_)),rfl⟩
              refine (cell i v v' e1 e2).1.cell_in (Bool.eq_false_iff.2 fun e => ?_)
              rw [← Bool.not_eq_true,List.any_eq_true] at hany
              exact hany ⟨v,List.mem_of_getElem? e1,e⟩
          · cases hq
        · cases hq
      · rename_i hrow
        split at hq
        · rename_i u hu
          split at hq
          · rename_i u' hu'
            cases hq
            have hi := (List.getElem?_eq_some_iff.1 hu).1
            have hB : B.cells[off]? = some (B.cells.getD off undef) := by
              rw [List.getD_eq_getElem?_getD,List.getElem?_eq_getElem (by omega)]; rfl
            refine ⟨C,B.cells.getD off undef,by unfold aload; simp only [h2,hrow]; exact hB,st,.refl _ _ _ _ _,fun d => ?_, ?_⟩
            · have h7 := h6 off hi
              rw [show cs.getD off .dead = u by rw [List.getD_eq_getElem?_getD,hu]; rfl] at h7
              unfold rdv at hu'
              split at hu'
              · rename_i c n cs'
                cases hu'
                rcases h7.inv_l with ⟨rfl,rfl,e⟩ | ⟨a,cap,B',e,g1,g2,⟨p,g3,g4⟩,g5,g6,g7,g8⟩
                · rw [e]; exact .nil _ _ _
                · rw [e]; cases g3
                  exact .lst_of g1 g2 ⟨g4,d,rfl⟩ g5 ⟨g6.full,g6.nz,g6.le,g6.kind,fun _ => g6.mine rfl,g6.one⟩ g7 g8
              · rename_i es c
                cases hu'
                generalize B.cells.getD off undef = y at h7
                cases h7 with
                | m _ _ _ _ id hk hi => obtain ⟨p,g3,g4⟩ := hk; cases g3; exact .m _ _ _ _ _ ⟨g4,d,rfl⟩ hi
              · cases hu'
              · cases hu'
              · cases hu'
              · rename_i hno hnm _ _ hit
                obtain rfl : u = v := Option.some.inj hu'
                refine (h7.cell_in ?_).out _
                cases u with
                | l k c n cs' =>
                  cases k with
                  | own => exact (hno c n cs' rfl).elim
                  | _ => rfl
                | m k es c =>
                  cases k with
                  | own => exact (hnm es c rfl).elim
                  | _ => rfl
                | it s p => exact (hit s p rfl).elim
                | _ => rfl
            · have h7 := h6 off hi
              rw [show cs.getD off .dead = u by rw [List.getD_eq_getElem?_getD,hu]; rfl] at h7
              unfold rdv at hu'
              split at hu'
              · cases hu'; rfl
              · cases hu'; rfl
              · cases hu'
              · cases hu'
              · cases hu'
              · obtain rfl : u = v := Option.some.inj hu'
                exact h7.noma (fun t e => by cases e)
          · cases hq
        · cases hq
      · cases hq
    · cases hq
  · cases hq
end
end Go.Pur
namespace Go.Pur
open Go.Abs
section
variable {P : Program} {Y : Pol} {f : FuncId} {C : Ctx} {h : AHeap} {σ σ' : St} {tv : Tr Value}
theorem pcells_rel {v : PV} {x : Value} (hf : firm v = true) (hv : VR C h none v x) : LR C h none (pcells v) (vcells x) := by
  have one : ∀ {u : PV} {y : Value},VR C h none u y → LR C h none [u] [y] := fun h => LR.cons h (LR.nil _ _ _)
  cases hv with
  | v _ x hp hn => cases x <;> first | exact one (.v _ _ hp hn) | simp [plain] at hp
  | un => cases hf
  | dead => cases hf
  | nil _ k c => exact one (.nil _ _ _)
  | lst _ k c n cs a cap B hb hs hk hn hc hl hv => exact one (.lst _ _ _ _ _ _ _ B hb hs hk hn hc hl hv)
  | r _ k cs a B hb hs hk hi hl hv => exact one (.r _ _ _ _ B hb hs hk hi hl hv)
  | p _ b off id hb => exact one (.p _ _ _ _ hb)
  | s _ b off n cap id hb hc hn => exact one (.s _ _ _ _ _ _ hb hc hn)
  | a _ cs l hs hv => exact lr_of_arr hs hv
  | t _ cs l hs hv => cases hf
  | f _ g as bs as' bs' ha hb hA hB => exact one (.f _ _ _ _ _ _ ha hb hA hB)
  | i _ ty x x' hx => exact one (.i _ _ _ _ hx)
  | it => cases hf
  | m _ k es c id hk hi => exact one (.m _ _ _ _ _ hk hi)
theorem one_oneCell {π : Option Pl} {v : PV} {x : Value} (hv : VR C h π v x) (ho : one v = true) : x.oneCell' = true := by
  cases hv with
  | v _ x hp hn => cases x <;> first | rfl | simp [plain] at hp
  | un => cases ho
  | dead => cases ho
  | a => cases ho
  | t => cases ho
  | _ => rfl
theorem pvCells_rel {z : Value} {zc : List PV} (hq : pvCells z = some zc) (C : Ctx) (h : AHeap) (π : Option Pl) : LR C h π zc (vcells z) := by
  have key : ∀ {l : List Value} {zc : List PV},pvCells.go l = some zc → LR C h π zc l := by
    intro l
    induction l with
    | nil => intro zc hq; cases hq; exact LR.nil _ _ _
    | cons x l ih =>
      intro zc hq
      simp only [pvCells.go] at hq
      split at hq
      · rename_i v r hv hr
        cases hq
        exact LR.cons ((pvOf_some hv).2 _ _ _) (ih hr)
      · cases hq
  exact key hq
theorem setIn_foldl (off : Nat) : ∀ (vs : List Value) (k : Nat) (cs : Array Value),off + k + vs.length ≤ cs.size →
    ((vs.zipIdx k).foldl (fun (cs : Array Value) (x : Value × Nat) => cs.setIfInBounds (off + x.2) x.1) cs).toList = cs.toList.take (off + k) ++ vs ++ cs.toList.drop (off + k + vs.length)
  | [],k,cs,hl => by simp
  | v :: vs,k,cs,hl => by
    simp only [List.zipIdx_cons,List.foldl_cons,List.length_cons] at hl ⊢
    rw [setIn_foldl off vs (k + 1) _ (by simpa using by omega)]
    simp only [Array.toList_setIfInBounds]
    have hlt : off + k < cs.toList.length := by simp; omega
    rw [List.take_set,List.drop_set_of_lt (by omega),show off + (k + 1) + vs.length = off + k + (vs.length + 1) by omega,show off + (k + 1) = off + k + 1 by omega,List.take_add_one]
    have hm : (cs.toList.take (off + k)).length = off + k := by rw [List.length_take]; omega
    rw [List.set_append_right _ _ (by omega),hm]
    simp [show off + k < cs.size by simpa using hlt]
theorem fill_sim {at_ : Nat → Option (Nat × Nat)} : ∀ {ps : List (Nat × Value)} {is : List Nat} {vs : List PV} {cs out : List PV} {l : Array Value},ps.map Prod.fst = is → LR C h none vs (ps.map Prod.snd) → vs.all firm = true → LR C h none cs l.toList →
    pfill at_ (zipParts is vs) cs = some out → ∃ o,Instr.fill at_ l ps = some o ∧ LR C h none out o.toList
  | [],is,vs,cs,out,l,hi,hv,hf,hc,hq => by
    subst hi
    rcases hv.ind with ⟨rfl,_⟩ | ⟨_,_,_,_,_,h,_⟩
    · cases hq; exact ⟨l,rfl,hc⟩
    · simp at h
  | (i,x) :: ps,is,vs,cs,out,l,hi,hv,hf,hc,hq => by
    subst hi
    rcases hv.ind with ⟨_,h⟩ | ⟨v,x',r,r',rfl,h1,hvx,hr⟩
    · simp at h
    · simp only [List.map_cons,List.cons.injEq] at h1
      obtain ⟨rfl,rfl⟩ := h1
      simp only [List.all_cons,Bool.and_eq_true] at hf
      simp only [List.map_cons,zipParts,pfill] at hq
      split at hq
      · rename_i off n hat
        split at hq
        · rename_i hb
          simp only [Bool.and_eq_true] at hb
          have e1 := Nat.eq_of_beq_eq_true hb.1
          have e2 := Nat.le_of_ble_eq_true hb.2
          have hpc := pcells_rel hf.1 hvx
          have hxs : x.cells.size = n := by
            have := hpc.1
            rw [e1,← cells_toList] at this
            simpa using this
          have hls : l.size = cs.length := by simpa using hc.1
          have hstep := setIn_foldl off (vcells x) 0 l (by
            have := hpc.1
            omega)
          have hnew : LR C h none (cs.take off ++ pcells v ++ cs.drop (off + n)) ((x.cells.zipIdx.foldl (fun cs (c,j) => cs.setIfInBounds (off + j) c) l).toList) := by
            rw [← Array.foldl_toList,Array.toList_zipIdx,cells_toList,hstep]
            have e3 : (vcells x).length = n := by rw [hpc.1,e1]
            rw [e3]
            exact ((hc.take off).append hpc).append (hc.drop (off + n))
          obtain ⟨o,h1,h2⟩ := fill_sim (ps := ps) rfl hr hf.2 hnew hq
          refine ⟨o, ?_,h2⟩
          simp only [Instr.fill,hat]
          rw [if_neg (by simp [hxs]; omega)]
          exact h1
        · cases hq
      · cases hq
theorem pevParts_sim (hT : TR Y f C h σ tv) (hG : GR P Y C h) : ∀ {l : List (Nat × Operand)} {is : List Nat} {us : List PV},pevParts Y f σ l = some (is,us) → ∃ ps,evParts P tv l = some ps ∧ ps.map Prod.fst = is ∧ LA C h us (ps.map Prod.snd)
  | [],is,us,hq => by cases hq; exact ⟨[],rfl,rfl,trivial⟩
  | (i,x) :: l,is,us,hq => by
    simp only [pevParts] at hq
    split at hq
    · rename_i v is' vs hv hr
      cases hq
      obtain ⟨x',h1,h2⟩ := pev_sim hT hG hv
      obtain ⟨ps,h3,h4,h5⟩ := pevParts_sim hT hG hr
      exact ⟨(i,x') :: ps,by simp [evParts,h1,h3],by simp [h4],h2,h5⟩
    · cases hq
theorem built_of {t : TypeId} {pt : Parts} {z : Value} {ps : List (Nat × Value)} {o : Array Value} (hp : partsOf P t = some pt) (hz : zeroOf P t = some z) (hf : Instr.fill (partAt pt) z.cells ps = some o) :
    P.built t ps = some o ∧ ∃ i,P.info? t = some i ∧ i.zero = some z ∧ plainV z = true := by
  obtain ⟨i,h1,h2,h3⟩ := zero_of hz
  refine ⟨?_,i,h1,h2,h3⟩
  unfold partsOf at hp
  unfold Program.built
  split at hp
  · rename_i n e hu
    split at hp
    · rename_i sz hsz
      cases hp
      obtain ⟨ie,h4,rfl⟩ := sz_of hsz
      simp only [h1,hu,h2,h4]
      exact hf
    · cases hp
  · rename_i fields hu
    split at hp
    · rename_i l hl
      cases hp
      simp only [h1,hu,h2,hl]
      rw [show (fun i => l.toArray[i]?) = partAt (.rows l) from funext fun i => by simp [partAt]]
      exact hf
    · cases hp
  · cases hp
theorem LA.append {us vs : List PV} {xs ys : List Value} : ∀ {us : List PV} {xs : List Value},LA C h us xs → LA C h vs ys → LA C h (us ++ vs) (xs ++ ys)
  | [],[],_,h2 => h2
  | _ :: _,_ :: _,h1,h2 => ⟨h1.1,LA.append (us := us) (xs := xs) h1.2 h2⟩
  | [],_ :: _,h1,_ => h1.elim
  | _ :: _,[],h1,_ => h1.elim
theorem LA.len : ∀ {us : List PV} {xs : List Value},LA C h us xs → us.length = xs.length
  | [],[],_ => rfl
  | _ :: _,_ :: _,h1 => by simp [LA.len h1.2]
  | [],_ :: _,h1 => h1.elim
  | _ :: _,[],h1 => h1.elim
def quiet0 : Op → Bool
  | .load _ _ | .build _ _ | .makeInterface _ _ | .makeFunc _ _ _ => true
  | _ => false
end
end Go.Pur
namespace Go.Pur
open Go.Abs
structure Old (C C' : Ctx) (h h' : AHeap) : Prop where
  sz : C'.sz = C.sz
  β : ∀ b id,C.β b = some id → C'.β b = some id
  fz : ∀ id,C.fz id → C'.fz id
  fx : ∀ id,C.fx id → C'.fx id
  ow : ∀ id p,C.ow id = some p → C'.ow id = some p
  get : ∀ id,C.fx id ∨ (∃ p,C.ow id = some p) → h'.get id = h.get id
  git : ∀ id,C.fx id ∨ (∃ p,C.ow id = some p) → h'.getIt id = h.getIt id
theorem Old.gg {C C' : Ctx} {h h' : AHeap} (o : Old C C' h h') {id : Nat} (hx : C.fx id ∨ (∃ p,C.ow id = some p)) : h'.gg id = h.gg id := gg_of (o.get id hx) (o.git id hx)
structure NewN (h : AHeap) (id : Nat) (h' : AHeap) : Prop where
  get : ∀ k,k ≠ id → h'.get k = h.get k
  git : ∀ k,k ≠ id → h'.getIt k = h.getIt k
  next : h.next ≤ h'.next
  lt : id < h'.next
  low : h'.low = h.low
structure NewH (h : AHeap) (id : Nat) (B : Blk) (h' : AHeap) : Prop where
  get : ∀ k,h'.get k = if k = id then some B else h.get k
  next : h.next ≤ h'.next
  lt : id < h'.next
  low : h'.low = h.low
  its : h'.its = h.its
theorem NewH.num {h h' : AHeap} {id : Nat} {B : Blk} (n : NewH h id B h') : NewN h id h' := ⟨fun k hk => by rw [n.get,if_neg hk],fun k _ => by unfold AHeap.getIt; rw [n.its],n.next,n.lt,n.low⟩
def withFz (C : Ctx) (id : Nat) : Ctx := { C with fz := fun k => C.fz k ∨ k = id,fx := fun k => C.fx k ∨ k = id }
def withOw (C : Ctx) (id : Nat) (p : Pl) : Ctx := { C with ow := fun k => if k = id then some p else C.ow k }
def withB (C : Ctx) (b id : Nat) : Ctx := { C with β := fun k => if k = b then some id else C.β k }
section
variable {P : Program} {Y : Pol} {f : FuncId} {C C' : Ctx} {h h' : AHeap} {σ σ' : St} {tv : Tr Value} {id : Nat} {B : Blk}
theorem VR.old (hsub : ∀ id,C.fz id → C.fx id) (o : Old C C' h h') {π : Option Pl} {v : PV} {x : Value} (hv : VR C h π v x) : VR C' h' π v x :=
  hv.step o.sz o.β o.fz o.fx hsub (fun id hid => o.gg (.inl hid)) (fun t e => ⟨t,e⟩) (by
    cases v with
    | l k c n cs =>
      cases k with
      | own => exact fun id p hp ho => ⟨p,hp,o.ow id p ho,o.get id (.inr ⟨p,ho⟩)⟩
      | rf p => exact fun id ho => ⟨o.ow id p ho,o.get id (.inr ⟨p,ho⟩)⟩
      | pt p => exact fun id ho => ⟨o.ow id p ho,o.get id (.inr ⟨p,ho⟩)⟩
      | _ => trivial
    | r k cs =>
      cases k with
      | pt p => exact fun id ho => ⟨o.ow id p ho,o.get id (.inr ⟨p,ho⟩)⟩
      | _ => trivial
    | m k es c =>
      cases k with
      | own => exact fun id p hp ho _ => ⟨p,hp,o.ow id p ho,o.git id (.inr ⟨p,ho⟩)⟩
      | rf p => exact fun id ho _ => ⟨o.ow id p ho,o.git id (.inr ⟨p,ho⟩)⟩
      | pt p => exact fun id ho _ => ⟨o.ow id p ho,o.git id (.inr ⟨p,ho⟩)⟩
      | _ => trivial
    | it s pos => exact fun id t hp ho => ⟨t,hp,o.ow id _ ho,o.git id (.inr ⟨_,ho⟩)⟩
    | _ => trivial)
theorem Old.ext (o : Old C C' h h') (hn : h.next ≤ h'.next) (hnew : ∀ id,C'.fz id → C.fz id ∨ ¬ C.fx id) : Ext C h C' h' :=
  ⟨o.sz,fun id hid => o.get id (.inl hid),hn,o.fz,o.fx,hnew,o.β,fun id hid => o.git id (.inl hid)⟩
theorem Old.st {hp' : List (Option (List PV))} {wl' : Option Nat} (st : ST P Y f C h σ tv) (o : Old C C' h h') (hn : h.next ≤ h'.next) (hnew : ∀ id,C'.fz id → C.fz id ∨ ¬ C.fx id) (hi : HI C' h' hp') : ST P Y f C' h' { σ with hp := hp',wl := wl' } tv :=
  ⟨o.sz.trans st.sz,hi,fun t v hv => (st.tr t v hv).old st.hi.fzx o,st.nl,st.gr.ext st.hi.fzx (o.ext hn hnew),st.al⟩
theorem HI.old_blk {hp' : List (Option (List PV))} (hi : HI C h hp') (o : Old C C' h h') (hg : ∀ b id,C.β b = some id → h'.get id = h.get id) {b : Nat} {cs : List PV} (hb : hp'[b]? = some (some cs)) : ∃ id B,C'.β b = some id ∧ h'.get id = some B ∧ B.wr = true ∧ True ∧ B.cells.length = cs.length ∧
    ∀ i,i < cs.length → VR C' h' (some (.cell b i)) (cs.getD i .dead) (B.cells.getD i undef) := by
  obtain ⟨id,B,h1,h2,h3,h4,h5,h6⟩ := hi.blk b cs hb
  exact ⟨id,B,o.β _ _ h1,(hg b id h1).trans h2,h3,h4,h5,fun i hi' => (h6 i hi').old hi.fzx o⟩
theorem Ids.lt {hp : List (Option (List PV))} (hi : HI C h hp) (hid : Ids C id) : id < h.next := by
  rcases hid with hid | ⟨p,hid⟩ | ⟨b,hid⟩
  · exact (hi.fxl id hid).1
  · exact hi.owl id p hid
  · exact (hi.βl b id hid).1
theorem newFz_sim (st : ST P Y f C h σ tv) (hf : ¬ Ids C id) (nh : NewH h id B h') : ST P Y f (withFz C id) h' σ tv ∧ Step (Y.keep f) (· = id) C h σ (withFz C id) h' σ ∧ Old C (withFz C id) h h' := by
  have hget : ∀ k,Ids C k → h'.get k = h.get k := fun k hk => by rw [nh.get,if_neg (show ¬ k = id from fun e => hf (e ▸ hk))]
  have o : Old C (withFz C id) h h' := ⟨rfl,fun _ _ h => h,fun _ h => .inl h,fun _ h => .inl h,fun _ _ h => h,fun k hk => hget k (hk.elim .inl (fun h => .inr (.inl h))),fun k _ => by unfold AHeap.getIt; rw [nh.its]⟩
  have hnew : ∀ k,(withFz C id).fz k → C.fz k ∨ ¬ C.fx k := fun k hk => hk.imp (fun h => h) (fun (e : k = id) hx => hf (.inl (e ▸ hx)))
  have hi : HI (withFz C id) h' σ.hp := by
    refine ⟨fun k hk => hk.imp (st.hi.fzx k) (fun h => h),fun k hk => ?_,fun k p hk => Nat.lt_of_lt_of_le (st.hi.owl k p hk) nh.next,fun b k hk => ?_,st.hi.inj,fun b cs hb => st.hi.old_blk o (fun b k hk => hget k (.inr (.inr ⟨b,hk⟩))) hb,st.hi.rf⟩
    · rcases hk with hk | rfl
      · exact ⟨Nat.lt_of_lt_of_le (st.hi.fxl k hk).1 nh.next,(st.hi.fxl k hk).2⟩
      · refine ⟨nh.lt, ?_⟩
        cases ho : C.ow k with
        | none => exact ho
        | some p => exact absurd (.inr (.inl ⟨p,ho⟩)) hf
    · obtain ⟨h1,h2,h3,h4⟩ := st.hi.βl b k hk
      exact ⟨Nat.lt_of_lt_of_le h1 nh.next,fun hx => hx.elim (fun hx => ⟨.inl (h2 hx).1,(h2 hx).2⟩) (fun e => (hf (e ▸ .inr (.inr ⟨b,hk⟩))).elim),h3,h4⟩
  refine ⟨Old.st st o nh.next hnew hi,⟨o.ext nh.next hnew,fun k hk => ?_,Nat.le_refl _,fun _ _ h => .inl h,fun _ h => h,fun _ _ _ h => .inl h,fun F hF l => ⟨Nat.le_trans l.n0 nh.next,l.base,fun hc => by rw [nh.low]; exact l.low hc,l.mine,l.βm⟩⟩,o⟩
  rcases hk with (hk | hk) | hk | hk
  · exact .inl (.inl hk)
  · exact .inr hk
  · exact .inl (.inr (.inl hk))
  · exact .inl (.inr (.inr hk))
theorem newNum_sim (p : Pl) (st : ST P Y f C h σ tv) (hf : ¬ Ids C id) (nh : NewN h id h') : ST P Y f (withOw C id p) h' σ tv ∧ Step (Y.keep f) (· = id) C h σ (withOw C id p) h' σ ∧ Old C (withOw C id p) h h' := by
  have hget : ∀ k,Ids C k → h'.get k = h.get k := fun k hk => nh.get k (fun e => hf (e ▸ hk))
  have hne : ∀ k,Ids C k → k ≠ id := fun k hk e => hf (e ▸ hk)
  have o : Old C (withOw C id p) h h' := ⟨rfl,fun _ _ h => h,fun _ h => h,fun _ h => h,fun k q hk => by
    show (if k = id then _ else _) = _
    rw [if_neg (hne k (.inr (.inl ⟨q,hk⟩)))]; exact hk,fun k hk => hget k (hk.elim .inl (fun h => .inr (.inl h))),fun k hk => nh.git k (hne k (hk.elim .inl (fun h => .inr (.inl h))))⟩
  have hnew : ∀ k,(withOw C id p).fz k → C.fz k ∨ ¬ C.fx k := fun k hk => .inl hk
  have hi : HI (withOw C id p) h' σ.hp := by
    refine ⟨st.hi.fzx,fun k hk => ⟨Nat.lt_of_lt_of_le (st.hi.fxl k hk).1 nh.next, ?_⟩,fun k q hk => ?_,fun b k hk => ?_,st.hi.inj,fun b cs hb => st.hi.old_blk o (fun b k hk => hget k (.inr (.inr ⟨b,hk⟩))) hb,st.hi.rf⟩
    · show (if k = id then _ else _) = _
      rw [if_neg (hne k (.inl hk))]; exact (st.hi.fxl k hk).2
    · by_cases e : k = id
      · rw [e]; exact nh.lt
      · have : C.ow k = some q := by
          have hk' : (if k = id then some p else C.ow k) = some q := hk
          rwa [if_neg e] at hk'
        exact Nat.lt_of_lt_of_le (st.hi.owl k q this) nh.next
    · obtain ⟨h1,h2,h3,h4⟩ := st.hi.βl b k hk
      refine ⟨Nat.lt_of_lt_of_le h1 nh.next,h2, ?_,h4⟩
      show (if k = id then _ else _) = _
      rw [if_neg (hne k (.inr (.inr ⟨b,hk⟩)))]; exact h3
  refine ⟨Old.st st o nh.next hnew hi,⟨o.ext nh.next hnew,fun k hk => ?_,Nat.le_refl _,fun _ _ h => .inl h,fun _ h => h,(fun k t _ hk => by
    by_cases e : k = id
    · exact .inr e
    · have hk' : (if k = id then some p else C.ow k) = some (.tmp t) := hk
      rw [if_neg e] at hk'
      exact .inl hk'),fun F hF l => ⟨Nat.le_trans l.n0 nh.next,l.base,fun hc => by rw [nh.low]; exact l.low hc,fun hc k q hk hq => ?_,l.βm⟩⟩,o⟩
  · by_cases e : k = id
    · exact .inr e
    · rcases hk with hk | ⟨q,hk⟩ | hk
      · exact .inl (.inl hk)
      · have hk' : (if k = id then some p else C.ow k) = some q := hk
        rw [if_neg e] at hk'
        exact .inl (.inr (.inl ⟨q,hk'⟩))
      · exact .inl (.inr (.inr hk))
  · by_cases e : k = id
    · exact hF k e
    · have hk' : (if k = id then some p else C.ow k) = some q := hk
      rw [if_neg e] at hk'
      exact l.mine hc k q hk' hq
theorem newOw_sim (p : Pl) (st : ST P Y f C h σ tv) (hf : ¬ Ids C id) (nh : NewH h id B h') : ST P Y f (withOw C id p) h' σ tv ∧ Step (Y.keep f) (· = id) C h σ (withOw C id p) h' σ ∧ Old C (withOw C id p) h h' := newNum_sim p st hf nh.num
theorem newB_sim {cs : List PV} (st : ST P Y f C h σ tv) (hf : ¬ Ids C id) (nh : NewH h id B h') (hw : B.wr = true) (hlen : B.cells.length = cs.length) (hrf : ∀ v ∈ cs,refsTo σ.hp.length v = true)
    (hv : ∀ i,i < cs.length → VR C h (some (.cell σ.hp.length i)) (cs.getD i .dead) (B.cells.getD i undef)) : ST P Y f (withB C σ.hp.length id) h' { σ with hp := σ.hp ++ [some cs] } tv ∧ Step (Y.keep f) (· = id) C h σ (withB C σ.hp.length id) h' { σ with hp := σ.hp ++ [some cs] } ∧ Old C (withB C σ.hp.length id) h h' := by
  have hget : ∀ k,Ids C k → h'.get k = h.get k := fun k hk => by rw [nh.get,if_neg (show ¬ k = id from fun e => hf (e ▸ hk))]
  have hne : ∀ k,Ids C k → k ≠ id := fun k hk e => hf (e ▸ hk)
  have hbl : ∀ b k,C.β b = some k → b ≠ σ.hp.length := fun b k hk e => by have := (st.hi.βl b k hk).2.2.2; omega
  have o : Old C (withB C σ.hp.length id) h h' := ⟨rfl,fun b k hk => by
    show (if b = _ then _ else _) = _
    rw [if_neg (hbl b k hk)]; exact hk,fun _ h => h,fun _ h => h,fun _ _ h => h,fun k hk => hget k (hk.elim .inl (fun h => .inr (.inl h))),fun k _ => by unfold AHeap.getIt; rw [nh.its]⟩
  have hnew : ∀ k,(withB C σ.hp.length id).fz k → C.fz k ∨ ¬ C.fx k := fun k hk => .inl hk
  have hβ : ∀ b k,(withB C σ.hp.length id).β b = some k → (b = σ.hp.length ∧ k = id) ∨ (b ≠ σ.hp.length ∧ C.β b = some k) := fun b k hk => by
    have hk' : (if b = σ.hp.length then some id else C.β b) = some k := hk
    by_cases e : b = σ.hp.length
    · rw [if_pos e] at hk'; exact .inl ⟨e,(Option.some.inj hk').symm⟩
    · rw [if_neg e] at hk'; exact .inr ⟨e,hk'⟩
  have hi : HI (withB C σ.hp.length id) h' (σ.hp ++ [some cs]) := by
    refine ⟨st.hi.fzx,fun k hk => ⟨Nat.lt_of_lt_of_le (st.hi.fxl k hk).1 nh.next,(st.hi.fxl k hk).2⟩,fun k q hk => Nat.lt_of_lt_of_le (st.hi.owl k q hk) nh.next,fun b k hk => ?_,fun b b' k h1 h2 => ?_,fun b ds hb => ?_,fun b ds hb v hv => ?_⟩
    · rcases hβ b k hk with ⟨rfl,rfl⟩ | ⟨e,hk'⟩
      · refine ⟨nh.lt,fun hx => (hf (.inl hx)).elim, ?_,by simp⟩
        cases ho : C.ow k with
        | none => exact ho
        | some p => exact absurd (.inr (.inl ⟨p,ho⟩)) hf
      · obtain ⟨h1,h2,h3,h4⟩ := st.hi.βl b k hk'
        exact ⟨Nat.lt_of_lt_of_le h1 nh.next,fun hx => by rw [List.getElem?_append_left h4]; exact h2 hx,h3,by simp; omega⟩
    · rcases hβ b k h1 with ⟨rfl,rfl⟩ | ⟨e,h1'⟩ <;> rcases hβ b' k h2 with ⟨rfl,e2⟩ | ⟨e',h2'⟩
      · rfl
      · exact absurd (.inr (.inr ⟨b',h2'⟩)) hf
      · subst e2; exact absurd (.inr (.inr ⟨b,h1'⟩)) hf
      · exact st.hi.inj b b' k h1' h2'
    · by_cases e : b < σ.hp.length
      · rw [List.getElem?_append_left e] at hb
        exact st.hi.old_blk o (fun b k hk => hget k (.inr (.inr ⟨b,hk⟩))) hb
      · have hlt := (List.getElem?_eq_some_iff.1 hb).1
        simp only [List.length_append,List.length_singleton] at hlt
        have e : b = σ.hp.length := by omega
        subst e
        rw [List.getElem?_append_right (Nat.le_refl _)] at hb
        simp only [Nat.sub_self,List.getElem?_cons_zero,Option.some.injEq] at hb
        subst hb
        exact ⟨id,B,by show (if _ = _ then _ else _) = _; rw [if_pos rfl],by rw [nh.get,if_pos rfl],hw,trivial,hlen,fun i hi => (hv i hi).old st.hi.fzx o⟩
    · by_cases e : b < σ.hp.length
      · rw [List.getElem?_append_left e] at hb
        exact st.hi.rf b ds hb v hv
      · have hlt := (List.getElem?_eq_some_iff.1 hb).1
        simp only [List.length_append,List.length_singleton] at hlt
        have e : b = σ.hp.length := by omega
        subst e
        rw [List.getElem?_append_right (Nat.le_refl _)] at hb
        simp only [Nat.sub_self,List.getElem?_cons_zero,Option.some.injEq] at hb
        subst hb
        exact hrf v hv
  refine ⟨Old.st st o nh.next hnew hi,⟨o.ext nh.next hnew,fun k hk => ?_,by simp,fun b k hk => (hβ b k hk).elim (fun h => .inr (by omega)) (fun h => .inl h.2),fun _ h => h,fun _ _ _ h => .inl h,fun F hF l => ⟨Nat.le_trans l.n0 nh.next,by simp; have := l.base; omega,fun hc => by rw [nh.low]; exact l.low hc,l.mine,fun hc b k hk hb => ?_⟩⟩,o⟩
  · rcases hk with hk | hk | ⟨b,hk⟩
    · exact .inl (.inl hk)
    · exact .inl (.inr (.inl hk))
    · rcases hβ b k hk with ⟨rfl,rfl⟩ | ⟨e,hk'⟩
      · exact .inr rfl
      · exact .inl (.inr (.inr ⟨b,hk'⟩))
  · rcases hβ b k hk with ⟨rfl,rfl⟩ | ⟨e,hk'⟩
    · exact hF k rfl
    · exact l.βm hc b k hk' hb
theorem take_hp {p : Pl} (hq : take Y f p σ = some σ') : σ'.hp.length = σ.hp.length := by
  unfold take at hq
  split at hq
  · split at hq
    · cases hq; rw [setPl_len]
    · cases hq
  · cases hq
theorem freeze_hp {p : Pl} (hq : freeze Y f p σ = some σ') : σ'.hp.length = σ.hp.length := by
  unfold freeze at hq
  split at hq
  · split at hq
    · cases hq; rw [setPl_len]
    · cases hq
  · cases hq
def Into (C : Ctx) (h : AHeap) (b off : Nat) (v : PV) (x : Value) : Prop :=
  (vcells x).length = (pcells v).length ∧ (∀ y ∈ vcells x,y.oneCell' = true ∨ ∃ u ∈ pcells v,one u = false) ∧ ∀ i,i < (pcells v).length → VR C h (some (.cell b (off + i))) ((pcells v).getD i .dead) ((vcells x).getD i undef)
theorem Into.of_firm {v : PV} {x : Value} (hf : firm v = true) (hv : VR C h none v x) (b off : Nat) : Into C h b off v x := by
  have hr := pcells_rel hf hv
  refine ⟨hr.1,fun y hy => ?_,fun i hi => (hr.2 i hi).out _⟩
  obtain ⟨i,hi,rfl⟩ := List.getElem_of_mem hy
  have hi' : i < (pcells v).length := by rw [← hr.1]; exact hi
  have h1 := hr.2 i hi'
  rw [List.getD_eq_getElem?_getD,List.getElem?_eq_getElem hi',List.getD_eq_getElem?_getD,List.getElem?_eq_getElem hi] at h1
  cases ho : one (pcells v)[i] with
  | true => exact .inl (one_oneCell h1 ho)
  | false => exact .inr ⟨_,List.getElem_mem _,ho⟩
theorem VR.at_cell {π : Option Pl} {c : Ck} {n : Nat} {cs : List PV} {x : Value} (hv : VR C h π (.l .own c n cs) x) : vcells x = [x] := by
  rcases hv.inv_l with ⟨_,_,rfl⟩ | ⟨a,cap,B,rfl,_⟩ <;> rfl
theorem moved_sim {v v' : PV} {x : Value} (b off : Nat) (st : ST P Y f C h σ tv) (hv : VA C h v x) (hq : moved Y f v σ = some (v',σ')) :
    ∃ C',ST P Y f C' h σ' tv ∧ Step (Y.keep f) (fun _ => False) C h σ C' h σ' ∧ Into C' h b off v' x ∧ (∀ b id,C.β b = some id → C'.β b = some id) ∧ σ'.hp.length = σ.hp.length := by
  unfold moved at hq
  split at hq
  · rename_i p c n cs
    split at hq
    · rename_i σ1 ht
      cases hq
      obtain ⟨s1,t1,_,_⟩ := take_sim (some (.cell b off)) (fun d e => by cases e) st ht
      have hx := VA.taken (r := .cell b off) hv
      refine ⟨_,s1,t1,⟨by rw [hx.at_cell]; rfl,fun y hy => ?_,fun i hi => ?_⟩,fun _ _ h => h,take_hp ht⟩
      · rw [hx.at_cell] at hy
        simp only [List.mem_singleton] at hy
        subst hy
        exact .inl (one_oneCell hx rfl)
      · rw [hx.at_cell]
        have : i = 0 := by simpa [pcells] using hi
        subst this
        exact hx
    · cases hq
  · rename_i c n cs
    split at hq
    · cases hq
      obtain ⟨_,_,rfl⟩ := hv.own
      exact ⟨C,st,.refl _ _ _ _ _,⟨rfl,fun y hy => by simp [vcells] at hy; subst hy; exact .inl rfl,fun i hi => by
        have : i = 0 := by simpa [pcells] using hi
        subst this; exact .nil _ _ _⟩,fun _ _ h => h,rfl⟩
    · cases hq
  · rename_i p es c
    split at hq
    · rename_i σ1 ht
      cases hq
      obtain ⟨s1,t1,_,_⟩ := take_sim (some (.cell b off)) (fun d e => by cases e) st ht
      have hx := VA.takenM (r := .cell b off) hv
      have hc1 : vcells x = [x] := by
        generalize x = y at hx
        cases hx; rfl
      refine ⟨_,s1,t1,⟨by rw [hc1]; rfl,fun y hy => ?_,fun i hi => ?_⟩,fun _ _ h => h,take_hp ht⟩
      · rw [hc1] at hy
        simp only [List.mem_singleton] at hy
        subst hy
        exact .inl (one_oneCell hx rfl)
      · rw [hc1]
        have : i = 0 := by simpa [pcells] using hi
        subst this
        exact hx
    · cases hq
  · split at hq
    · rename_i v1 σ1 o hs
      cases hq
      obtain ⟨s1,t1,f1,r1⟩ := stor_sim st hv hs
      have hlen : σ'.hp.length = σ.hp.length := by
        unfold stor at hs
        split at hs
        · split at hs
          · rename_i hz; cases hs; exact freeze_hp hz
          · cases hs
        · split at hs
          · cases hs; rfl
          · cases hs
        · cases hs; rfl
        · split at hs
          · rename_i hz; cases hs; exact freeze_hp hz
          · cases hs
        all_goals first
          | (cases hs; done)
          | (cases hs; rfl)
      exact ⟨_,s1,t1,.of_firm f1 r1 b off,fun _ _ h => t1.ext.β _ _ h,hlen⟩
    · cases hq
theorem pvOf_refs {x : Value} {u : PV} (hq : pvOf x = some u) (b : Nat) : refsTo b u = true ∧ (cellOK u = true ∨ u = .l .own .nz 0 []) := by
  unfold pvOf at hq
  split at hq
  · split at hq
    · cases hq; exact ⟨rfl,.inr rfl⟩
    · cases hq
  · split at hq
    · cases hq; exact ⟨rfl,.inl rfl⟩
    · cases hq
theorem pvCells_refs {z : Value} {zc : List PV} (hq : pvCells z = some zc) (b : Nat) : ∀ u ∈ zc,refsTo b u = true := by
  have key : ∀ {l : List Value} {zc : List PV},pvCells.go l = some zc → ∀ u ∈ zc,refsTo b u = true := by
    intro l
    induction l with
    | nil => intro zc hq u hu; cases hq; cases hu
    | cons x l ih =>
      intro zc hq u hu
      simp only [pvCells.go] at hq
      split at hq
      · rename_i v r hv hr
        cases hq
        rcases List.mem_cons.1 hu with rfl | hu
        · exact (pvOf_refs hv b).1
        · exact ih hr u hu
      · cases hq
  exact key hq
theorem reps_rel {zc : List PV} {z : List Value} {π : Option Pl} (hz : LR C h π zc z) : ∀ n,LR C h π (reps zc n) (zeros z n)
  | 0 => LR.nil _ _ _
  | n + 1 => hz.append (reps_rel hz n)
theorem reps_mem {zc : List PV} {u : PV} : ∀ {n : Nat},u ∈ reps zc n → u ∈ zc
  | 0,hu => by cases hu
  | n + 1,hu => by
    rcases List.mem_append.1 hu with hu | hu
    · exact hu
    · exact reps_mem hu
theorem refsTo_pcells {b : Nat} {v : PV} (hr : refsTo b v = true) : ∀ u ∈ pcells v,refsTo b u = true := by
  cases v with
  | a cs =>
    have key : ∀ {cs : List PV},refsTo.go b cs = true → ∀ u ∈ cs,refsTo b u = true := by
      intro cs
      induction cs with
      | nil => intro _ u hu; cases hu
      | cons c cs ih =>
        intro hr u hu
        simp only [refsTo.go,Bool.and_eq_true] at hr
        rcases List.mem_cons.1 hu with rfl | hu
        · exact hr.1
        · exact ih hr.2 u hu
    exact key (show refsTo.go b cs = true by simpa [refsTo] using hr)
  | _ => intro u hu; simp only [pcells,List.mem_singleton] at hu; subst hu; exact hr
theorem new_sim {call : PCallF} {dr : Dr} {op : Op} {v : PV} (st : ST P Y f C h σ tv) (hk : kindOf op = 1) (hf : ¬ Ids C id) (hq : poper P Y f call dr op σ = some (v,σ')) :
    ∃ B x',anew P op tv id = some (x',B) ∧ ∀ h',NewH h id B h' → ∃ C',ST P Y f C' h' σ' tv ∧ Step (Y.keep f) (· = id) C h σ C' h' σ' ∧ VA C' h' v x' ∧ (∀ k t,Y.keep f t = false → C'.ow k = some (.tmp t) → C.ow k = some (.tmp t)) := by
  cases op with
  | box e x =>
    simp only [poper] at hq
    split at hq
    · rename_i u hu
      split at hq
      · rename_i v' σ1 hm
        split at hq
        · rename_i href
          cases hq
          obtain ⟨x',h1,h2⟩ := pev_sim st.tr st.gr hu
          obtain ⟨C1,s1,t1,i1,_,l1⟩ := moved_sim σ.hp.length 0 st h2 hm
          refine ⟨⟨vcells x',e,true,false⟩,.pointer (some ⟨id,0,none⟩),by simp [anew,h1],fun h' nh => ?_⟩
          have hf1 : ¬ Ids C1 id := fun hid => (t1.ids id hid).elim hf (fun e => e)
          obtain ⟨s2,t2,o2⟩ := newB_sim (cs := pcells v') s1 hf1 nh rfl i1.1 (refsTo_pcells href) (fun i hi => by
            have := i1.2.2 i hi
            rw [l1]; rwa [Nat.zero_add] at this)
          refine ⟨_,s2,t1.trans t2 (fun _ h => h.elim) (fun _ h => h),fun d => .p _ _ _ id ?_,fun k t hk ho => (t1.loc k t hk ho).elim (fun h => h) (fun h => h.elim)⟩
          show (if _ = _ then _ else _) = _
          rw [if_pos rfl]
        · cases hq
      · cases hq
    · cases hq
  | alloc e =>
    simp only [poper] at hq
    split at hq
    · rename_i z hz
      split at hq
      · rename_i zc hzc
        cases hq
        obtain ⟨inf,h1,h2,h3⟩ := zero_of hz
        have hr := fun π => pvCells_rel hzc C h π
        refine ⟨⟨vcells z,e,true,false⟩,.pointer (some ⟨id,0,none⟩),by simp [anew,h1,h2,h3],fun h' nh => ?_⟩
        obtain ⟨s2,t2,o2⟩ := newB_sim (cs := zc) st hf nh rfl (hr none).1 (pvCells_refs hzc _) (fun i hi => (hr _).2 i hi)
        refine ⟨_,s2,t2,fun d => .p _ _ _ id ?_,fun _ _ _ ho => ho⟩
        show (if _ = _ then _ else _) = _
        rw [if_pos rfl]
      · cases hq
    · cases hq
  | buildSlice t n parts =>
    simp only [poper] at hq
    split at hq
    · rename_i is vs e sz hps hsh
      obtain ⟨hu,inf,hinf,rfl⟩ := shape_slice hsh
      split at hq
      · rename_i z vs' σ1 hz hst
        split at hq
        · rename_i zc hb hzc
          split at hq
          · rename_i cs hfl
            split at hq
            · rename_i hok
              cases hq
              obtain ⟨inf',g1,g2,g3⟩ := zero_of hz
              cases hinf.symm.trans g1
              obtain ⟨ps,h1,h2,h3⟩ := pevParts_sim st.tr st.gr hps
              obtain ⟨C1,s1,t1,f1,r1⟩ := stors_sim st (LF.of h3) hst
              have hzr : LR C1 h none (zc.map ownFz) (vcells z) := by
                have h0 := pvCells_rel hzc C1 h none
                refine LR.of_get (by simpa using h0.1) (fun i u y e1 e2 => ?_)
                rw [List.getElem?_map] at e1
                obtain ⟨w,hw,rfl⟩ := Option.map_eq_some_iff.1 e1
                obtain ⟨y',hy,hv⟩ := h0.get hw
                rw [hy] at e2; cases e2
                have hm : w ∈ zc := List.mem_of_getElem? hw
                cases w with
                | l k c m ds =>
                  cases k with
                  | own =>
                    rcases hv.inv_l with ⟨rfl,rfl,rfl⟩ | ⟨_,_,_,_,_,_,⟨_,e,_⟩,_⟩
                    · exact .nil _ _ _
                    · cases e
                  | _ => exact hv
                | m k es c =>
                  cases k with
                  | own => cases hv with
                    | m _ _ _ _ id hk hi => obtain ⟨_,e,_⟩ := hk; cases e
                  | _ => exact hv
                | _ => exact hv
              obtain ⟨o,h4,h5⟩ := fill_sim (l := (zeros (vcells z) n).toArray) h2 r1 f1 (by simpa using reps_rel hzr n) hfl
              simp only [Bool.and_eq_true] at hb
              have hf1 : ¬ Ids C1 id := fun hid => (t1.ids id hid).elim hf (fun e => e)
              refine ⟨⟨o.toList,e,true,false⟩,.slice (some ⟨id,0,none⟩) n n, ?_,fun h' nh => ?_⟩
              · simp only [anew,h1,abuildSlice,hu,g1,g2]
                rw [show (Nat.ble (n * (inf.size + 1)) limit24 && plainV z && Nat.beq (vcells z).length inf.size) = true by
                  simp only [Bool.and_eq_true]; exact ⟨⟨hb.1,g3⟩,hb.2⟩]
                simp only [h4]
              · obtain ⟨s2,t2,o2⟩ := newFz_sim s1 hf1 nh
                refine ⟨_,s2,t1.trans t2 (fun _ h => h.elim) (fun _ h => h),fun d => ?_,fun k t hk ho => (t1.loc k t hk ho).elim (fun h => h) (fun h => h.elim)⟩
                have hr2 : LR (withFz C1 id) h' none cs o.toList := ⟨h5.1,fun i hi => (h5.2 i hi).old s1.hi.fzx o2⟩
                have hn : n < unkCap := by
                  have := Nat.le_of_ble_eq_true hb.1
                  have h9 : n ≤ n * (inf.size + 1) := Nat.le_mul_of_pos_right _ (by omega)
                  exact Nat.lt_of_le_of_lt (Nat.le_trans h9 this) (by decide)
                refine .lst_of (a := ⟨id,0,none⟩) (by rw [nh.get,if_pos rfl]) rfl (.inr rfl) hn ⟨fun _ => Nat.le_refl _,(fun e => by cases e),fun _ => Nat.le_refl _,.inl hn,(fun e => by cases e),fun v hv => List.all_eq_true.1 hok v hv⟩ ?_ ?_
                · simp only []; rw [h5.1]; omega
                · simp only [List.drop_zero]; rw [← h5.1,List.take_length]; exact hr2
            · cases hq
          · cases hq
        · cases hq
      · cases hq
    · cases hq
  | makeSlice t lo co =>
    simp only [poper] at hq
    split at hq
    · rename_i k1 l k2 c e sz hl hc hsh
      obtain ⟨hu,inf,hinf,rfl⟩ := shape_slice hsh
      split at hq
      · rename_i z by_ hz hby
        split at hq
        · rename_i zc hb hzc
          cases hq
          obtain ⟨inf',g1,g2,g3⟩ := zero_of hz
          cases hinf.symm.trans g1
          obtain ⟨inf',g4,rfl⟩ := by_of hby
          cases hinf.symm.trans g4
          obtain ⟨l',h1,h2⟩ := pev_sim st.tr st.gr hl
          obtain ⟨c',h3,h4⟩ := pev_sim st.tr st.gr hc
          obtain ⟨rfl,_⟩ := (h2 0).inv_v
          obtain ⟨rfl,_⟩ := (h4 0).inv_v
          simp only [Bool.and_eq_true] at hb
          have hr := fun π => reps_rel (pvCells_rel hzc C h π) c
          refine ⟨⟨zeros (vcells z) c,e,true,false⟩,.slice (some ⟨id,0,none⟩) l c, ?_,fun h' nh => ?_⟩
          · simp only [anew,h1,h3,amake,hu,g1,g2]
            rw [show (Nat.ble l c && Nat.ble (c * (inf.bytes + inf.size + 1)) limit && plainV z && Nat.beq (vcells z).length inf.size) = true by
              simp only [Bool.and_eq_true]; exact ⟨⟨⟨hb.1.1,hb.1.2⟩,g3⟩,hb.2⟩]
          · obtain ⟨s2,t2,o2⟩ := newB_sim (cs := reps zc c) st hf nh rfl (hr none).1 (fun u hu => pvCells_refs hzc _ u (reps_mem hu)) (fun i hi => (hr _).2 i hi)
            have hcl := Nat.le_of_ble_eq_true hb.1.2
            have h9 : c ≤ c * (inf.bytes + inf.size + 1) := Nat.le_mul_of_pos_right _ (by omega)
            refine ⟨_,s2,t2,fun d => .s _ _ _ _ _ id ?_ ⟨Nat.lt_of_le_of_lt (Nat.le_trans (Nat.le_of_ble_eq_true hb.1.1) (Nat.le_trans h9 hcl)) (by decide),.inl (Nat.lt_of_le_of_lt (Nat.le_trans h9 hcl) (by decide))⟩ (Nat.le_of_ble_eq_true hb.1.1),fun _ _ _ ho => ho⟩
            show (if _ = _ then _ else _) = _
            rw [if_pos rfl]
        · cases hq
      · cases hq
    · cases hq
  | call c =>
    obtain ⟨callee,args,types⟩ := c
    cases callee with
    | builtin b => cases b <;> simp [kindOf] at hk
    | _ => simp [kindOf] at hk
  | _ => simp [kindOf] at hk
end
end Go.Pur
