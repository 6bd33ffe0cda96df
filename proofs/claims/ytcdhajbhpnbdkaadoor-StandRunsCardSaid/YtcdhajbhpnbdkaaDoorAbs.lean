/-
  AN ABSTRACT EVALUATOR of the model's code: a deterministic heap whose blocks are numbered by the evaluator itself, slices that append has made have an unknown capacity; a run of it that ends well stands for every run of the model (Sound).
  Conditions: none; definitions alone.
-/
import Derived.Calls
import Derived.Laws.Tables
import Derived.Orders
set_option linter.unusedSimpArgs false
set_option linter.unusedVariables false
set_option linter.unusedSectionVars false
namespace Go.Abs

/-! ### A map of numbers, as a tree -/
inductive Tr (α : Type) where
  | nil
  | node (v : Option α) (l r : Tr α)

def Tr.get {α : Type} : Tr α → Nat → Option α
  | .nil, _ => none
  | .node v l r, n => match n with
    | 0 => v
    | k + 1 => match Nat.mod k 2 with
      | 0 => l.get (Nat.div k 2)
      | _ + 1 => r.get (Nat.div k 2)

def Tr.val {α : Type} : Tr α → Option α
  | .nil => none
  | .node v _ _ => v
def Tr.left {α : Type} : Tr α → Tr α
  | .nil => .nil
  | .node _ l _ => l
def Tr.right {α : Type} : Tr α → Tr α
  | .nil => .nil
  | .node _ _ r => r

def Tr.setF {α : Type} (a : α) : Nat → Tr α → Nat → Tr α
  | 0, t, _ => t
  | f + 1, t, n => match n with
    | 0 => .node (some a) t.left t.right
    | k + 1 => match Nat.mod k 2 with
      | 0 => .node t.val (Tr.setF a f t.left (Nat.div k 2)) t.right
      | _ + 1 => .node t.val t.left (Tr.setF a f t.right (Nat.div k 2))

def Tr.set {α : Type} (t : Tr α) (n : Nat) (a : α) : Tr α := Tr.setF a (Nat.succ n) t n

/-! ### The heap -/
structure Blk where
  cells : List Value
  elem : TypeId
  wr : Bool
  unk : Bool

structure AHeap where
  next : Nat
  low : Nat
  m : Tr (Option Blk)

def AHeap.get (h : AHeap) (a : Nat) : Option Blk :=
  match h.m.get a with
  | some b => b
  | none => none
def AHeap.put (h : AHeap) (a : Nat) (b : Option Blk) : AHeap := ⟨h.next, Nat.min h.low a, h.m.set a b⟩
def AHeap.alloc (h : AHeap) (b : Blk) : AHeap := ⟨Nat.succ h.next, h.low, h.m.set h.next (some b)⟩

/-! ### Values -/
def unkCap : Nat := 2 ^ 70
def roCap : Nat := 2 ^ 71

/-- No address in it, one cell. -/
def plain : Value → Bool
  | .bool _ | .int _ _ | .float _ _ | .complex _ _ _ | .string _ => true
  | .pointer none | .slice none _ _ | .map none | .chan none | .nilFunc | .nilIface => true
  | _ => false
/-- No address in it. -/
def plainV : Value → Bool
  | .agg cs => cs.toList.all plain
  | v => plain v

def vcells : Value → List Value
  | .agg cs => cs.toList
  | v => [v]

def ev (P : Program) (ts : Tr Value) : Operand → Option Value
  | .tmp t => match ts.get t with
    | some v => some v
    | none => some undef
  | .const v => match plain v with
    | true => some v
    | false => none
  | .global g => match Nat.blt g P.globals.size with
    | true => some (.pointer (some ⟨g, 0, none⟩))
    | false => none
  | .func f => some (.func (.func f) #[] #[])

def evs (P : Program) (ts : Tr Value) : List Operand → Option (List Value)
  | [] => some []
  | x :: xs => match ev P ts x with
    | some v => match evs P ts xs with
      | some vs => some (v :: vs)
      | none => none
    | none => none

def evParts (P : Program) (ts : Tr Value) : List (Nat × Operand) → Option (List (Nat × Value))
  | [] => some []
  | (i, x) :: xs => match ev P ts x with
    | some v => match evParts P ts xs with
      | some vs => some ((i, v) :: vs)
      | none => none
    | none => none

/-- Runs of the model's own terms that look at nothing but the program. -/
def prun {α : Type} (P : Program) : Sem α → Option α
  | .pure a => some a
  | .program k => prun P (k P)
  | .mark _ k => prun P k
  | _ => none

def prunP (P : Program) (s : Sem Value) : Option Value :=
  match prun P s with
  | some v => match plain v with
    | true => some v
    | false => none
  | none => none

/-! ### Lists of cells -/
def takeN : Nat → List Value → Option (List Value)
  | 0, _ => some []
  | _ + 1, [] => none
  | n + 1, x :: l => match takeN n l with
    | some r => some (x :: r)
    | none => none

/-- From offset n on, vs over what was there. -/
def spliceR : Nat → List Value → List Value → List Value → Option (List Value)
  | 0, acc, vs, l => match Nat.ble vs.length l.length with
    | true => some (acc.reverseAux (vs ++ l.drop vs.length))
    | false => none
  | _ + 1, _, _, [] => none
  | n + 1, acc, vs, x :: l => spliceR n (x :: acc) vs l
def splice (n : Nat) (vs l : List Value) : Option (List Value) := spliceR n [] vs l

def isRowT (P : Program) (t : TypeId) : Option Bool :=
  match P.underlying t with
  | some (.struct _) | some (.array _ _) => some true
  | some _ => some false
  | none => none

def cellsAt (h : AHeap) (a : Addr) (n : Nat) : Option (List Value) :=
  match h.get a.block with
  | some b => takeN n (b.cells.drop a.off)
  | none => none

def aload (P : Program) (t : TypeId) (v : Value) (h : AHeap) : Option Value :=
  match v with
  | .pointer (some a) => match h.get a.block with
    | some b => match isRowT P t with
      | some true => match P.info? t with
        | some i => match takeN i.size (b.cells.drop a.off) with
          | some cs => some (.agg cs.toArray)
          | none => none
        | none => none
      | some false => b.cells[a.off]?
      | none => none
    | none => none
  | _ => none

def aput (h : AHeap) (a : Addr) (vs : List Value) : Option AHeap :=
  match h.get a.block with
  | some b => match b.wr with
    | true => match vs.all (·.oneCell') with
      | true => match splice a.off vs b.cells with
        | some cs => some (h.put a.block (some { b with cells := cs }))
        | none => none
      | false => none
    | false => none
  | none => none

def astore (P : Program) (t : TypeId) (addr val : Value) (h : AHeap) : Option AHeap :=
  match addr with
  | .pointer (some a) => match P.info? t with
    | some i => match Nat.beq (vcells val).length i.size with
      | true => aput h a (vcells val)
      | false => none
    | none => none
  | _ => none

/-! ### Slices -/
def natOf (lo hi : Nat) : Value → Option Nat
  | .int _ (.ofNat n) => match Nat.ble lo n && Nat.ble n hi with
    | true => some n
    | false => none
  | _ => none

def natOfO (lo hi dflt : Nat) : Option Value → Option Nat
  | none => some dflt
  | some v => natOf lo hi v

def pickB {α : Type} (b : Bool) (x y : α) : α :=
  match b with
  | true => x
  | false => y

def hiOk : Option Value → Option Value → Bool
  | none, some _ => false
  | _, _ => true

/-- x[lo:hi:max] of a slice; 'size' cells an element. -/
def aslice (size : Nat) (a : Option Addr) (len cap : Nat) (lo hi mx : Option Value) : Option Value :=
  match Nat.blt cap unkCap with
  | true => match natOfO 0 cap cap mx with
    | some m => match natOfO 0 m len hi with
      | some h => match natOfO 0 h 0 lo with
        | some l => match Nat.ble h m && hiOk hi mx with
          | true => some (.slice (pickB (Nat.beq m l) a (a.map (·.add (l * size)))) (h - l) (m - l))
          | false => none
        | none => none
      | none => none
    | none => none
  | false => match a with
    | none => none
    | some a => match mx with
      | none => match natOfO 0 len len hi with
        | some h => match natOfO 0 h 0 lo with
          | some l => match Nat.beq l 0 with
            | true => some (.slice (some a) h cap)
            | false => some (.slice (some (a.add (l * size))) (h - l) roCap)
          | none => none
        | none => none
      | some v => match natOf 0 len v, Nat.blt 0 len && Nat.blt len unkCap with
        | some m, true => match natOfO 0 m m hi with
          | some h => match natOfO 0 h 0 lo with
            | some l => match hi with
              | some _ => some (.slice (some (pickB (Nat.beq m l) a (a.add (l * size)))) (h - l) (m - l))
              | none => none
            | none => none
          | none => none
        | _, _ => none

def limit : Nat := 2 ^ 40
def limit24 : Nat := 2 ^ 24

/-- The cells of append's or copy's source: n elements. -/
def srcCells (size n : Nat) (x : Value) (h : AHeap) : Option (List Value) :=
  match x with
  | .slice (some a) _ _ => match cellsAt h a (n * size) with
    | some cs => match cs.all (·.oneCell') with
      | true => some cs
      | false => none
    | none => none
  | .string s => match Nat.beq n s.size && Nat.beq size 1 with
    | true => some (s.data.toList.map fun b => .int .u8 b.toNat)
    | false => none
  | _ => none
def srcLen : Value → Option Nat
  | .slice _ n _ => some n
  | .string s => some s.size
  | _ => none

def isSrcT : TypeDesc → Value → Bool
  | .slice _, .slice _ _ _ => true
  | .string, .string _ => true
  | _, _ => false

/-- append where something is appended: 'n' elements, 'new' cells. -/
def agrow (ce : TypeId → Nat) (size bytes : Nat) (z : Value) (e : TypeId) (s : Value) (n : Nat) (new : List Value) (h : AHeap) : Option (Value × AHeap) :=
  match s with
  | .slice none sLen sCap => match Nat.beq sLen 0 && Nat.beq sCap 0 && Nat.ble (n * (bytes + size + 1)) limit && Nat.beq (vcells z).length size with
    | true => some (.slice (some ⟨h.next, 0, none⟩) n unkCap, h.alloc ⟨new, e, true, true⟩)
    | false => none
  | .slice (some a) sLen sCap => match Nat.ble ((sLen + n) * (bytes + size + 1)) limit && Nat.beq (vcells z).length size with
    | true => match Nat.blt sCap unkCap with
      | true => match Nat.ble (sLen + n) sCap with
        | true => match aput h (a.add (sLen * size)) new with
          | some h' => some (.slice (some a) (sLen + n) sCap, h')
          | none => none
        | false => match srcCells size sLen (.slice (some a) sLen sCap) h with
          | some old => some (.slice (some ⟨h.next, 0, none⟩) (sLen + n) unkCap, h.alloc ⟨old ++ new, e, true, true⟩)
          | none => none
      | false => match Nat.beq sCap unkCap, h.get a.block with
        | true, some b => match b.unk && Nat.beq b.cells.length (sLen * size) && Nat.beq (ce b.elem) size && Nat.blt a.block h.next && b.wr with
          | true => some (.slice (some ⟨h.next, 0, none⟩) (sLen + n) unkCap, (h.put a.block none).alloc ⟨b.cells ++ new, e, true, true⟩)
          | false => none
        | _, _ => none
    | false => none
  | _ => none

def aappend (P : Program) (argTypes : Array TypeId) (s x : Value) (h : AHeap) : Option (Value × AHeap) :=
  match argTypes.toList with
  | [t, tx] => match P.underlying t, P.underlying tx with
    | some (.slice e), some dx => match P.info? e, isSrcT dx x with
      | some i, true => match i.zero, srcLen x with
        | some z, some n => match Nat.beq n 0 with
          | true => match s with
            | .slice base sLen sCap => match Nat.ble sLen sCap with
              | true => some (.slice base sLen sCap, h)
              | false => none
            | _ => none
          | false => match srcCells i.size n x h with
            | some new => agrow P.cellsOf i.size i.bytes z e s n new h
            | none => none
        | _, _ => none
      | _, _ => none
    | _, _ => none
  | _ => none

/-- k copies of a zero value's cells. -/
def zeros (z : List Value) : Nat → List Value
  | 0 => []
  | n + 1 => z ++ zeros z n

def amake (P : Program) (t : TypeId) (len cap : Value) (id : Nat) : Option (Value × Blk) :=
  match P.underlying t, len, cap with
  | some (.slice e), .int _ (.ofNat l), .int _ (.ofNat c) => match P.info? e with
    | some i => match i.zero with
      | some z => match Nat.ble l c && Nat.ble (c * (i.bytes + i.size + 1)) limit && plainV z && Nat.beq (vcells z).length i.size with
        | true => some (.slice (some ⟨id, 0, none⟩) l c, ⟨zeros (vcells z) c, e, true, false⟩)
        | false => none
      | none => none
    | none => none
  | _, _, _ => none

def abuildSlice (P : Program) (t : TypeId) (len : Nat) (parts : List (Nat × Value)) (id : Nat) : Option (Value × Blk) :=
  match P.underlying t with
  | some (.slice e) => match P.info? e with
    | some i => match i.zero with
      | some z => match Nat.ble (len * (i.size + 1)) limit24 && plainV z && Nat.beq (vcells z).length i.size with
        | true => match Instr.fill (fun j => some (j * i.size, i.size)) (zeros (vcells z) len).toArray parts with
          | some cells => some (.slice (some ⟨id, 0, none⟩) len len, ⟨cells.toList, e, true, false⟩)
          | none => none
        | false => none
      | none => none
    | none => none
  | _ => none

def aclear (P : Program) (t : TypeId) (x : Value) (h : AHeap) : Option (Value × AHeap) :=
  match P.underlying t, x with
  | some (.slice _), .slice none _ _ => some (.tuple #[], h)
  | some (.slice e), .slice (some a) n _ => match Nat.beq n 0 with
    | true => some (.tuple #[], h)
    | false => match P.info? e with
      | some i => match i.zero with
        | some z => match plainV z && Nat.beq (vcells z).length i.size with
          | true => match aput h a (zeros (vcells z) n) with
            | some h' => some (.tuple #[], h')
            | none => none
          | false => none
        | none => none
      | none => none
  | _, _ => none

def acopy (P : Program) (argTypes : Array TypeId) (d x : Value) (h : AHeap) : Option (Value × AHeap) :=
  match argTypes.toList with
  | [t, tx] => match P.underlying t, P.underlying tx with
    | some (.slice e), some dx => match P.info? e, isSrcT dx x with
      | some i, true => match d, srcLen x with
        | .slice base dLen _, some n => match Nat.beq (Nat.min n dLen) 0 with
          | true => some (.int .i64 0, h)
          | false => match srcCells i.size (Nat.min n dLen) x h, base with
            | some cs, some a => match aput h a cs with
              | some h' => some (.int .i64 (Nat.min n dLen : Nat), h')
              | none => none
            | _, _ => none
        | _, _ => none
      | _, _ => none
    | _, _ => none
  | _ => none

/-! ### Operations that leave the heap alone -/
def apart' (P : Program) (t : TypeId) (cs : List Value) (off : Nat) : Option Value :=
  match isRowT P t with
  | some true => match P.info? t with
    | some i => match takeN i.size (cs.drop off) with
      | some r => some (.agg r.toArray)
      | none => none
    | none => none
  | some false => cs[off]?
  | none => none

/-- Two values of which one is nil, the other not. -/
def nilEq : TypeDesc → Value → Value → Option Bool
  | .slice _, .slice (some _) _ _, .slice none _ _ => some false
  | .slice _, .slice none _ _, .slice (some _) _ _ => some false
  | .func _ _ _, .func _ _ _, .nilFunc => some false
  | .func _ _ _, .nilFunc, .func _ _ _ => some false
  | .pointer _, .pointer (some _), .pointer none => some false
  | .pointer _, .pointer none, .pointer (some _) => some false
  | .interface _, .iface _ _, .nilIface => some false
  | .interface _, .nilIface, .iface _ _ => some false
  | _, _, _ => none

def abinS (P : Program) (op : BinOp) (t : TypeId) (x y : Operand) (a b : Value) : Option Value :=
  match plainV a && plainV b with
  | true => prunP P (do eqGuard op t x y a b; binOp op t a b)
  | false => match P.underlying t with
    | some d => match nilEq d a b with
      | some r => match op with
        | .eql => some (.bool r)
        | .neq => some (.bool (!r))
        | _ => none
      | none => none
    | none => none

/-- Numbers of one kind: the operations met most often. -/
def intBin (op : BinOp) (k : IntKind) (a b : Int) : Option Value :=
  match op with
  | .add => some (.int k (k.wrap (a + b)))
  | .sub => some (.int k (k.wrap (a - b)))
  | .eql => some (.bool (a == b))
  | .neq => some (.bool (a != b))
  | .lss => some (.bool (a < b))
  | .leq => some (.bool (a ≤ b))
  | .gtr => some (.bool (a > b))
  | .geq => some (.bool (a ≥ b))
  | _ => none

def intFast (op : BinOp) (a b : Value) : Option Value :=
  match a, b with
  | .int k m, .int j n => match decide (k = j) with
    | true => intBin op k m n
    | false => none
  | _, _ => none

def abin (P : Program) (op : BinOp) (t : TypeId) (x y : Operand) (a b : Value) : Option Value :=
  match intFast op a b with
  | some v => some v
  | none => abinS P op t x y a b

def optEv (P : Program) (ts : Tr Value) : Option Operand → Option (Option Value)
  | none => some none
  | some x => match ev P ts x with
    | some v => match plain v with
      | true => some (some v)
      | false => none
    | none => none

def intIn (n : Nat) : Value → Option Nat
  | .int _ (.ofNat i) => match Nat.blt i n with
    | true => some i
    | false => none
  | _ => none

def aqPick (P : Program) (ts : Tr Value) (c x y : Operand) : Option Value :=
  match ev P ts c, ev P ts x, ev P ts y with
  | some (.bool t), some a, some b => match t with
    | true => some a
    | false => some b
  | _, _, _ => none

def aqLoad (P : Program) (ts : Tr Value) (h : AHeap) (t : TypeId) (x : Operand) : Option Value :=
  match ev P ts x with
  | some v => aload P t v h
  | none => none

def aqBuild (P : Program) (ts : Tr Value) (t : TypeId) (parts : Array (Nat × Operand)) : Option Value :=
  match evParts P ts parts.toList with
  | some ps => match P.built t ps, P.info? t with
    | some cells, some i => match i.zero with
      | some z => match plainV z with
        | true => some (.agg cells)
        | false => none
      | none => none
    | _, _ => none
  | none => none

def aqNil (P : Program) (ts : Tr Value) (x : Operand) : Option Value :=
  match ev P ts x with
  | some (.pointer (some a)) => some (.pointer (some a))
  | some (.func (.func f) as bs) => some (.func (.func f) as bs)
  | _ => none

def aqBin (P : Program) (ts : Tr Value) (op : BinOp) (t : TypeId) (x y : Operand) : Option Value :=
  match ev P ts x, ev P ts y with
  | some a, some b => abin P op t x y a b
  | _, _ => none

def aqUn (P : Program) (ts : Tr Value) (op : UnOp) (x : Operand) : Option Value :=
  match ev P ts x with
  | some a => match plain a with
    | true => prunP P (Op.unary op a)
    | false => none
  | none => none

def aqConv (P : Program) (ts : Tr Value) (src dst : TypeId) (x : Operand) : Option Value :=
  match ev P ts x with
  | some a => match plain a with
    | true => prunP P (convert src dst a)
    | false => none
  | none => none

def aqIface (P : Program) (ts : Tr Value) (t : TypeId) (x : Operand) : Option Value :=
  match ev P ts x, P.underlying t with
  | some _, some (.interface _) => none
  | some a, some _ => some (.iface t a)
  | _, _ => none

def aqFunc (P : Program) (ts : Tr Value) (fn : Fn) (first captured : Array Operand) : Option Value :=
  match evs P ts first.toList, evs P ts captured.toList with
  | some as, some bs => some (.func fn as.toArray bs.toArray)
  | _, _ => none

def aqSlice (P : Program) (ts : Tr Value) (t : TypeId) (x : Operand) (lo hi mx : Option Operand) : Option Value :=
  match ev P ts x, optEv P ts lo, optEv P ts hi, optEv P ts mx with
  | some v, some l, some h, some m => match P.underlying t, v with
    | some (.array n e), .pointer (some a) => match P.info? e with
      | some i => match Nat.blt n unkCap with
        | true => aslice i.size (some a) n n l h m
        | false => none
      | none => none
    | some (.slice e), .slice a len cap => match P.info? e with
      | some i => aslice i.size a len cap l h m
      | none => none
    | some .string, .string s => match m with
      | none => prunP P (Instr.slice t (.string s) l h none)
      | some _ => none
    | _, _ => none
  | _, _, _, _ => none

def aqFieldAddr (P : Program) (ts : Tr Value) (s : TypeId) (x : Operand) (f : Nat) : Option Value :=
  match ev P ts x, P.underlying s with
  | some (.pointer (some a)), some (.struct fields) => match fields[f]? with
    | some fd => match P.info? fd.type with
      | some i => match Nat.beq i.size 0 with
        | true => none
        | false => some (.pointer (some (a.add fd.offset)))
      | none => none
    | none => none
  | _, _ => none

def aqField (P : Program) (ts : Tr Value) (t : TypeId) (x : Operand) (f : Nat) : Option Value :=
  match ev P ts x, P.underlying t with
  | some (.agg cs), some (.struct fields) => match fields[f]? with
    | some fd => apart' P fd.type cs.toList fd.offset
    | none => none
  | _, _ => none

def aqIndexAddr (P : Program) (ts : Tr Value) (t : TypeId) (x ix : Operand) : Option Value :=
  match ev P ts x, ev P ts ix, P.underlying t with
  | some (.pointer (some a)), some i, some (.array n e) => match intIn n i, P.info? e with
    | some k, some inf => some (.pointer (some (a.add (k * inf.size))))
    | _, _ => none
  | some (.slice (some a) n _), some i, some (.slice e) => match intIn n i, P.info? e with
    | some k, some inf => some (.pointer (some (a.add (k * inf.size))))
    | _, _ => none
  | _, _, _ => none

def aqIndex (P : Program) (ts : Tr Value) (t : TypeId) (x ix : Operand) : Option Value :=
  match ev P ts x, ev P ts ix, P.underlying t with
  | some (.agg cs), some i, some (.array n e) => match intIn n i, P.info? e with
    | some k, some inf => apart' P e cs.toList (k * inf.size)
    | _, _ => none
  | some (.string s), some i, some .string => match plain i with
    | true => prunP P (Instr.index t (.string s) i)
    | false => none
  | _, _, _ => none

def aqExtract (P : Program) (ts : Tr Value) (t : Operand) (ix : Nat) : Option Value :=
  match ev P ts t with
  | some (.tuple vs) => vs[ix]?
  | _ => none

def aqLen (P : Program) (ts : Tr Value) (argTypes : Array TypeId) (x : Operand) : Option Value :=
  match ev P ts x, argTypes[0]? with
  | some v, some t => match P.underlying t, v with
    | some .string, .string s => some (goInt s.size)
    | some (.slice _), .slice _ n _ => some (goInt n)
    | some (.array n _), _ => some (goInt n)
    | _, _ => none
  | _, _ => none

def aqCap (P : Program) (ts : Tr Value) (argTypes : Array TypeId) (x : Operand) : Option Value :=
  match ev P ts x, argTypes[0]? with
  | some v, some t => match P.underlying t, v with
    | some (.slice _), .slice _ _ c => match Nat.blt c unkCap with
      | true => some (goInt c)
      | false => none
    | some (.array n _), _ => some (goInt n)
    | _, _ => none
  | _, _ => none

def aqMax (P : Program) (ts : Tr Value) (argTypes : Array TypeId) (xs : List Operand) : Option Value :=
  match evs P ts xs with
  | some vs => match vs.all plain with
    | true => prunP P (Builtin.max_ argTypes 0 vs.toArray)
    | false => none
  | none => none

def aqMin (P : Program) (ts : Tr Value) (argTypes : Array TypeId) (xs : List Operand) : Option Value :=
  match evs P ts xs with
  | some vs => match vs.all plain with
    | true => prunP P (Builtin.min_ argTypes 0 vs.toArray)
    | false => none
  | none => none

def aqBuiltin (P : Program) (ts : Tr Value) (b : Builtin) (args : List Operand) (argTypes : Array TypeId) : Option Value :=
  match b, args with
  | .len, [x] => aqLen P ts argTypes x
  | .cap, [x] => aqCap P ts argTypes x
  | .max, xs => aqMax P ts argTypes xs
  | .min, xs => aqMin P ts argTypes xs
  | _, _ => none

def aq (P : Program) (op : Op) (ts : Tr Value) (h : AHeap) : Option Value :=
  match op with
  | .move x | .assign x => ev P ts x
  | .pick c x y => aqPick P ts c x y
  | .load t x => aqLoad P ts h t x
  | .build t parts => aqBuild P ts t parts
  | .nilCheck x => aqNil P ts x
  | .binOp op t x y _ => aqBin P ts op t x y
  | .unOp op _ x => aqUn P ts op x
  | .convert src dst x => aqConv P ts src dst x
  | .makeInterface t x => aqIface P ts t x
  | .makeFunc fn first captured => aqFunc P ts fn first captured
  | .slice t x lo hi mx => aqSlice P ts t x lo hi mx
  | .fieldAddr s x f => aqFieldAddr P ts s x f
  | .field t x f => aqField P ts t x f
  | .indexAddr t x ix => aqIndexAddr P ts t x ix
  | .index t x ix => aqIndex P ts t x ix
  | .extract t ix => aqExtract P ts t ix
  | .call { callee := .builtin b, args, argTypes } => aqBuiltin P ts b args.toList argTypes
  | _ => none

/-! ### Operations that make one new block, number 'id' -/
def anew (P : Program) (op : Op) (ts : Tr Value) (id : Nat) : Option (Value × Blk) :=
  match op with
  | .box e x => match ev P ts x with
    | some v => some (.pointer (some ⟨id, 0, none⟩), ⟨vcells v, e, true, false⟩)
    | none => none
  | .alloc e => match P.info? e with
    | some i => match i.zero with
      | some z => match plainV z with
        | true => some (.pointer (some ⟨id, 0, none⟩), ⟨vcells z, e, true, false⟩)
        | false => none
      | none => none
    | none => none
  | .buildSlice t len parts => match evParts P ts parts.toList with
    | some ps => abuildSlice P t len ps id
    | none => none
  | .makeSlice t l c => match ev P ts l, ev P ts c with
    | some lv, some cv => amake P t lv cv id
    | _, _ => none
  | _ => none

/-! ### Operations that turn the heap -/
def aloud (P : Program) (op : Op) (ts : Tr Value) (h : AHeap) : Option (Value × AHeap) :=
  match op with
  | .store t x y => match ev P ts x, ev P ts y with
    | some a, some v => match astore P t a v h with
      | some h' => some (undef, h')
      | none => none
    | _, _ => none
  | .call { callee := .builtin .append, args, argTypes } => match evs P ts args.toList with
    | some [s, x] => aappend P argTypes s x h
    | _ => none
  | .call { callee := .builtin .copy, args, argTypes } => match evs P ts args.toList with
    | some [d, x] => acopy P argTypes d x h
    | _ => none
  | .call { callee := .builtin .clear, args, argTypes } => match evs P ts args.toList, argTypes[0]? with
    | some [x], some t => aclear P t x h
    | _, _ => none
  | _ => none

/-- What kind of operation is it: 0: it leaves the heap alone; 1: it makes a block; 2: it turns the heap; 3: a call. -/
def kindOf (op : Op) : Nat :=
  match op with
  | .box _ _ | .alloc _ | .buildSlice _ _ _ | .makeSlice _ _ _ => 1
  | .store _ _ _ => 2
  | .call { callee := .builtin b, .. } => match b with
    | .append | .copy | .clear => 2
    | _ => 0
  | .call _ => 3
  | _ => 0

/-! ### Regions -/
def wantedA (ops : Array Oper) (o : Oper) (ts : Tr Value) : Bool :=
  match o.guard with
  | none => true
  | some (j, w) => match (ops[j]?).bind (·.dst) with
    | some t => match ts.get t with
      | some (.bool b) => b == w
      | _ => false
    | none => false

def putA (nt : Nat) (ts : Tr Value) (dst : Option Tmp) (v : Value) : Option (Tr Value) :=
  match dst with
  | none => some ts
  | some d => match Nat.blt d nt with
    | true => some (ts.set d v)
    | false => none

abbrev CallF := FuncId → List Value → AHeap → Option (Value × AHeap)

def acallOp (P : Program) (call : CallF) (op : Op) (ts : Tr Value) (h : AHeap) : Option (Value × AHeap) :=
  match op with
  | .call { callee := .value f, args, .. } => match ev P ts f, evs P ts args.toList with
    | some (.func (.func g) first captured), some as => call g (first.toList ++ as ++ captured.toList) h
    | _, _ => none
  | _ => none

def aoper (P : Program) (call : CallF) (o : Oper) (ts : Tr Value) (h : AHeap) : Option (Value × AHeap) :=
  match kindOf o.op with
  | 0 => match aq P o.op ts h with
    | some v => some (v, h)
    | none => none
  | 1 => match anew P o.op ts h.next with
    | some (v, b) => some (v, h.alloc b)
    | none => none
  | 2 => aloud P o.op ts h
  | _ => acallOp P call o.op ts h

def aops (P : Program) (call : CallF) (nt : Nat) (ops : Array Oper) : List Oper → Tr Value → AHeap → Option (Tr Value × AHeap)
  | [], ts, h => some (ts, h)
  | o :: rest, ts, h => match wantedA ops o ts with
    | true => match aoper P call o ts h with
      | some (v, h') => match putA nt ts o.dst v with
        | some ts' => aops P call nt ops rest ts' h'
        | none => none
      | none => none
    | false => match putA nt ts o.dst undef with
      | some ts' => aops P call nt ops rest ts' h
      | none => none

/-- The block that a load reads. -/
def loadBlock (P : Program) (o : Oper) (ts : Tr Value) : Option Nat :=
  match o.op with
  | .load _ x => match ev P ts x with
    | some (.pointer (some a)) => some a.block
    | _ => none
  | _ => none

def befOf (ops : Array Oper) (i j : Nat) : Bool := ((Region.before ops).getD j 0).testBit i
def ordered (ops : Array Oper) (i j : Nat) : Bool := befOf ops i j || befOf ops j i

/-- A walk of the text's order of a region that draws its order: operation k makes its block as number 'base + k'; it notes what is read, what is made, and from which block number on each loud operation turns blocks. -/
def aopsD (P : Program) (call : CallF) (nt base : Nat) (ops : Array Oper) : List Oper → Nat → Tr Value → AHeap → List (Nat × Nat) → List (Nat × Nat) → Option (Tr Value × AHeap × List (Nat × Nat) × List (Nat × Nat))
  | [], _, ts, h, rq, rl => some (ts, h, rq, rl)
  | o :: rest, k, ts, h, rq, rl => match wantedA ops o ts with
    | true => match kindOf o.op with
      | 0 => match aq P o.op ts h with
        | some v => match putA nt ts o.dst v with
          | some ts' => match loadBlock P o ts with
            | some b => match Nat.blt b base with
              | true => aopsD P call nt base ops rest (k + 1) ts' h ((k, b) :: rq) rl
              | false => none
            | none => aopsD P call nt base ops rest (k + 1) ts' h rq rl
          | none => none
        | none => none
      | 1 => match anew P o.op ts (base + k) with
        | some (v, b) => match putA nt ts o.dst v with
          | some ts' => aopsD P call nt base ops rest (k + 1) ts' { h with m := h.m.set (base + k) (some b) } ((k, base + k) :: rq) rl
          | none => none
        | none => none
      | _ => match aoper P call o ts { h with low := h.next } with
        | some (v, h') => match putA nt ts o.dst v with
          | some ts' => aopsD P call nt base ops rest (k + 1) ts' { h' with low := Nat.min h.low h'.low } rq ((k, h'.low) :: rl)
          | none => none
        | none => none
    | false => match putA nt ts o.dst undef with
      | some ts' => aopsD P call nt base ops rest (k + 1) ts' h rq rl
      | none => none

def loudOp (o : Oper) : Bool := Nat.ble 2 (kindOf o.op)

/-- Asked of two operations of a region that draws its order, i and j, off the text: a temporary is written once, and whoever looks at it is ordered against its writer; loud operations are ordered. -/
def drawPair (ops : Array Oper) (p : Oper) (i : Nat) (o : Oper) (j : Nat) : Bool :=
  (match p.dst with
    | some t => (match o.dst with
        | some u => Nat.beq i j || !(Nat.beq t u)
        | none => true) &&
      (!((o.looksAt ops).contains t) || Nat.beq i j || (match Nat.blt i j with
        | true => befOf ops i j
        | false => befOf ops j i))
    | none => true) &&
  (!(loudOp o && loudOp p && Nat.blt i j) || befOf ops i j)

def drawOK (ops : Array Oper) : Bool :=
  Region.noSelect ops && ops.toList.zipIdx.all fun (o, j) =>
    (o.after.toList.all fun e => !Region.binds .any e || Nat.blt e.on j) && ops.toList.zipIdx.all fun (p, i) => drawPair ops p i o j

def stable (ops : Array Oper) (rq rl : List (Nat × Nat)) : Bool :=
  rq.all fun (i, b) => rl.all fun (q, lw) => Nat.blt b lw || ordered ops i q

def aregD (P : Program) (call : CallF) (nt : Nat) (ops : Array Oper) (ts : Tr Value) (h : AHeap) : Option (Tr Value × AHeap) :=
  match drawOK ops with
  | true => match aopsD P call nt h.next ops ops.toList 0 ts { h with next := h.next + ops.size } [] [] with
    | some (ts', h', rq, rl) => match stable ops rq rl with
      | true => some (ts', h')
      | false => none
    | none => none
  | false => none

/-! ### Code -/
inductive AExit where
  | normal
  | exit (id : Nat)
  | ret

abbrev CodeF := Code → Nat → Tr Value → AHeap → Option (AExit × Tr Value × AHeap)

def initF : Nat → List Value → Tr Value → Tr Value
  | _, [], t => t
  | k, v :: vs, t => initF (k + 1) vs (t.set k v)

def ares (P : Program) (ts : Tr Value) (h : AHeap) : List ResultVar → Option (List Value)
  | [] => some []
  | r :: rs => match (match r with
      | .tmp t => ev P ts (.tmp t)
      | .cell a t => match ev P ts (.tmp a) with
        | some v => aload P t v h
        | none => none) with
    | some v => match ares P ts h rs with
      | some vs => some (v :: vs)
      | none => none
    | none => none

def packed : List Value → Value
  | [v] => v
  | vs => .tuple vs.toArray

def bodyOf (P : Program) (f : FuncId) : Option (Func × Code) :=
  match P.funcs[f]? with
  | some fn => match fn.body, (fn.name == "runtime.NumGoroutine" : Bool) with
    | some c, false => some (fn, c)
    | _, _ => none
  | none => none

/-- A call: by what is known of the function ('O'), else by its body. -/
def acall (P : Program) (O : CallF) (code : CodeF) : CallF := fun f args h =>
  match O f args h with
  | some r => some r
  | none => match bodyOf P f with
    | some (fn, c) => match Nat.ble args.length fn.ntmps with
      | true => match code c fn.ntmps (initF 0 args .nil) h with
        | some (.normal, ts, h') | some (.ret, ts, h') => match ares P ts h' fn.results.toList with
          | some vs => some (packed vs, h')
          | none => none
        | _ => none
      | false => none
    | none => none

/-- At most n rounds of a loop. -/
def aloop (code : CodeF) (b : Code) (nt : Nat) : Nat → Tr Value → AHeap → Option (AExit × Tr Value × AHeap)
  | 0, _, _ => none
  | n + 1, ts, h => match code b nt ts h with
    | some (.normal, ts', h') => aloop code b nt n ts' h'
    | r => r

def astep (P : Program) (O : CallF) (n : Nat) (code : CodeF) (c : Code) (nt : Nat) (ts : Tr Value) (h : AHeap) : Option (AExit × Tr Value × AHeap) :=
  match c with
  | .skip | .label _ => some (.normal, ts, h)
  | .region _ ops draw => match draw with
    | false => match aops P (acall P O code) nt ops ops.toList ts h with
      | some (ts', h') => some (.normal, ts', h')
      | none => none
    | true => match aregD P (acall P O code) nt ops ts h with
      | some (ts', h') => some (.normal, ts', h')
      | none => none
  | .seq a b => match code a nt ts h with
    | some (.normal, ts', h') => code b nt ts' h'
    | r => r
  | .cond c a b => match ev P ts c with
    | some (.bool true) => code a nt ts h
    | some (.bool false) => code b nt ts h
    | _ => none
  | .block id b => match code b nt ts h with
    | some (.exit j, ts', h') => match Nat.beq j id with
      | true => some (.normal, ts', h')
      | false => some (.exit j, ts', h')
    | r => r
  | .loop b => aloop code b nt n ts h
  | .exit id => some (.exit id, ts, h)
  | .ret => some (.ret, ts, h)
  | _ => none

def acode (P : Program) (O : CallF) : Nat → CodeF
  | 0 => fun _ _ _ _ => none
  | n + 1 => astep P O n (acode P O n)

/-- A call, with that much fuel. -/
def run (P : Program) (O : CallF) (n : Nat) : CallF := acall P O (acode P O n)

/-- Nothing is known of any function. -/
def noO : CallF := fun _ _ _ => none

end Go.Abs
