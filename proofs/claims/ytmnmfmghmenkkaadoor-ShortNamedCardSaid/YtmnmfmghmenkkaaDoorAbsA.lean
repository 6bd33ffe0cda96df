/-
  AN ABSTRACT EVALUATOR of the model's code: a deterministic heap whose blocks are numbered by the evaluator itself,slices that append has made have an unknown capacity; a run of it that ends well stands for every run of the model (Sound).
  The abstract heap against the model's memory: values,blocks,worlds,and how they stand to one another before and behind a piece of code.
  Each operation of the abstract evaluator stands for the model's: operations that leave memory alone,and those that make one block.
  The operations that leave memory alone: what the abstract evaluator says of them,the model does.
  The operations that make or turn blocks: what the abstract evaluator says of them,the model does.
  The operations that turn blocks: store,append,copy,clear.
  Conditions: none; definitions and lemmas.
-/
import Derived.Calls
import Derived.Deep.AppendSrc
import Derived.Deep.MidRow
import Derived.Deep.Upon
import Derived.IntWalk
import Derived.Laws.BytesArg
import Derived.Laws.IdiomCopy
import Derived.Laws.Tables
import Derived.Lib.ConvBytes
import Derived.Orders
import Derived.WideLaws
set_option linter.unusedSimpArgs false
set_option linter.unusedVariables false
set_option linter.unusedSectionVars false
namespace Go.Abs
inductive Tr (α : Type) where
  | nil
  | node (v : Option α) (l r : Tr α)
def Tr.get {α : Type} : Tr α → Nat → Option α
  | .nil,_ => none
  | .node v l r,n => match n with
    | 0 => v
    | k + 1 => match Nat.mod k 2 with
      | 0 => l.get (Nat.div k 2)
      | _ + 1 => r.get (Nat.div k 2)
def Tr.val {α : Type} : Tr α → Option α
  | .nil => none
  | .node v _ _ => v
def Tr.left {α : Type} : Tr α → Tr α
  | .nil => .nil
  | .node _ l _ => l
def Tr.right {α : Type} : Tr α → Tr α
  | .nil => .nil
  | .node _ _ r => r
def Tr.setF {α : Type} (a : α) : Nat → Tr α → Nat → Tr α
  | 0,t,_ => t
  | f + 1,t,n => match t with
    | .nil => match n with
      | 0 => .node (some a) .nil .nil
      | k + 1 => match Nat.mod k 2 with
        | 0 => .node none (Tr.setF a f .nil (Nat.div k 2)) .nil
        | _ + 1 => .node none .nil (Tr.setF a f .nil (Nat.div k 2))
    | .node v l r => match n with
      | 0 => .node (some a) l r
      | k + 1 => match Nat.mod k 2 with
        | 0 => .node v (Tr.setF a f l (Nat.div k 2)) r
        | _ + 1 => .node v l (Tr.setF a f r (Nat.div k 2))
def Tr.set {α : Type} (t : Tr α) (n : Nat) (a : α) : Tr α := Tr.setF a (Nat.succ n) t n
structure Blk where
  cells : List Value
  elem : TypeId
  wr : Bool
  unk : Bool
inductive Oth where
  | it (s : ByteArray) (pos : Nat)
  | mp (es : List MapEntry) (clock : Nat)
def Oth.obj : Oth → Obj
  | .it s p => .stringIter s p
  | .mp es c => .map es.toArray c
structure AHeap where
  next : Nat
  low : Nat
  m : Tr (Option Blk)
  its : Tr Oth
def AHeap.get (h : AHeap) (a : Nat) : Option Blk :=
  match h.m.get a with
  | some b => b
  | none => none
def AHeap.put (h : AHeap) (a : Nat) (b : Option Blk) : AHeap := ⟨h.next,Nat.min h.low a,h.m.set a b,h.its⟩
def AHeap.alloc (h : AHeap) (b : Blk) : AHeap := ⟨Nat.succ h.next,h.low,h.m.set h.next (some b),h.its⟩
def AHeap.getIt (h : AHeap) (a : Nat) : Option Oth := h.its.get a
def AHeap.newIt (h : AHeap) (x : Oth) : AHeap := ⟨Nat.succ h.next,h.low,h.m,h.its.set h.next x⟩
def AHeap.setIt (h : AHeap) (a : Nat) (x : Oth) : AHeap := ⟨h.next,Nat.min h.low a,h.m,h.its.set a x⟩
def unkCap : Nat := 2 ^ 70
def roCap : Nat := 2 ^ 71
def subCap (cap size : Nat) : Nat := match Nat.beq cap unkCap with
  | true => roCap + size
  | false => match Nat.beq cap (roCap + size) with
    | true => roCap + size
    | false => roCap
theorem subCap_ge {cap size : Nat} : roCap ≤ subCap cap size := by
  unfold subCap
  split
  · exact Nat.le_add_right _ _
  · split
    · exact Nat.le_add_right _ _
    · exact Nat.le_refl _
def plain : Value → Bool
  | .bool _ | .int _ _ | .float _ _ | .complex _ _ _ | .string _ => true
  | .pointer none | .slice none _ _ | .map none | .chan none | .nilFunc | .nilIface => true
  | _ => false
def plainV : Value → Bool
  | .agg cs => cs.toList.all plain
  | v => plain v
def vcells : Value → List Value
  | .agg cs => cs.toList
  | v => [v]
def ev (P : Program) (ts : Tr Value) : Operand → Option Value
  | .tmp t => match ts.get t with
    | some v => some v
    | none => some undef
  | .const v => match plain v with
    | true => some v
    | false => none
  | .global g => match Nat.blt g P.globals.size with
    | true => some (.pointer (some ⟨g,0,none⟩))
    | false => none
  | .func f => some (.func (.func f) #[] #[])
def evs (P : Program) (ts : Tr Value) : List Operand → Option (List Value)
  | [] => some []
  | x :: xs => match ev P ts x with
    | some v => match evs P ts xs with
      | some vs => some (v :: vs)
      | none => none
    | none => none
def evParts (P : Program) (ts : Tr Value) : List (Nat × Operand) → Option (List (Nat × Value))
  | [] => some []
  | (i,x) :: xs => match ev P ts x with
    | some v => match evParts P ts xs with
      | some vs => some ((i,v) :: vs)
      | none => none
    | none => none
def prun {α : Type} (P : Program) : Sem α → Option α
  | .pure a => some a
  | .program k => prun P (k P)
  | .mark _ k => prun P k
  | _ => none
def prunP (P : Program) (s : Sem Value) : Option Value :=
  match prun P s with
  | some v => match plain v with
    | true => some v
    | false => none
  | none => none
def takeN : Nat → List Value → Option (List Value)
  | 0,_ => some []
  | _ + 1,[] => none
  | n + 1,x :: l => match takeN n l with
    | some r => some (x :: r)
    | none => none
def spliceR : Nat → List Value → List Value → List Value → Option (List Value)
  | 0,acc,vs,l => match Nat.ble vs.length l.length with
    | true => some (acc.reverseAux (vs ++ l.drop vs.length))
    | false => none
  | _ + 1,_,_,[] => none
  | n + 1,acc,vs,x :: l => spliceR n (x :: acc) vs l
def splice (n : Nat) (vs l : List Value) : Option (List Value) := spliceR n [] vs l
def isRowT (P : Program) (t : TypeId) : Option Bool :=
  match P.underlying t with
  | some (.struct _) | some (.array _ _) => some true
  | some _ => some false
  | none => none
def cellsAt (h : AHeap) (a : Addr) (n : Nat) : Option (List Value) :=
  match h.get a.block with
  | some b => takeN n (b.cells.drop a.off)
  | none => none
def aload (P : Program) (t : TypeId) (v : Value) (h : AHeap) : Option Value :=
  match v with
  | .pointer (some a) => match h.get a.block with
    | some b => match isRowT P t with
      | some true => match P.info? t with
        | some i => match takeN i.size (b.cells.drop a.off) with
          | some cs => some (.agg cs.toArray)
          | none => none
        | none => none
      | some false => b.cells[a.off]?
      | none => none
    | none => none
  | _ => none
def aput (h : AHeap) (a : Addr) (vs : List Value) : Option AHeap :=
  match h.get a.block with
  | some b => match b.wr with
    | true => match vs.all (·.oneCell') with
      | true => match splice a.off vs b.cells with
        | some cs => some (h.put a.block (some { b with cells := cs }))
        | none => none
      | false => none
    | false => none
  | none => none
def astore (P : Program) (t : TypeId) (addr val : Value) (h : AHeap) : Option AHeap :=
  match addr with
  | .pointer (some a) => match P.info? t with
    | some i => match Nat.beq (vcells val).length i.size with
      | true => aput h a (vcells val)
      | false => none
    | none => none
  | _ => none
def natOf (lo hi : Nat) : Value → Option Nat
  | .int _ (.ofNat n) => match Nat.ble lo n && Nat.ble n hi with
    | true => some n
    | false => none
  | _ => none
def natOfO (lo hi dflt : Nat) : Option Value → Option Nat
  | none => some dflt
  | some v => natOf lo hi v
def pickB {α : Type} (b : Bool) (x y : α) : α :=
  match b with
  | true => x
  | false => y
def hiOk : Option Value → Option Value → Bool
  | none,some _ => false
  | _,_ => true
def aslice (size : Nat) (a : Option Addr) (len cap : Nat) (lo hi mx : Option Value) : Option Value :=
  match Nat.blt cap unkCap with
  | true => match natOfO 0 cap cap mx with
    | some m => match natOfO 0 m len hi with
      | some h => match natOfO 0 h 0 lo with
        | some l => match Nat.ble h m && hiOk hi mx with
          | true => some (.slice (pickB (Nat.beq m l) a (a.map (·.add (l * size)))) (h - l) (m - l))
          | false => none
        | none => none
      | none => none
    | none => none
  | false => match a with
    | none => none
    | some a => match mx with
      | none => match natOfO 0 len len hi with
        | some h => match natOfO 0 h 0 lo with
          | some l => match Nat.beq l 0 with
            | true => some (.slice (some a) h cap)
            | false => some (.slice (some (a.add (l * size))) (h - l) (subCap cap size))
          | none => none
        | none => none
      | some v => match natOf 0 len v,Nat.blt 0 len && Nat.blt len unkCap with
        | some m,true => match natOfO 0 m m hi with
          | some h => match natOfO 0 h 0 lo with
            | some l => match hi with
              | some _ => some (.slice (some (pickB (Nat.beq m l) a (a.add (l * size)))) (h - l) (m - l))
              | none => none
            | none => none
          | none => none
        | _,_ => none
def limit : Nat := 2 ^ 40
def limit24 : Nat := 2 ^ 24
def srcCells (size n : Nat) (x : Value) (h : AHeap) : Option (List Value) :=
  match x with
  | .slice (some a) _ _ => match cellsAt h a (n * size) with
    | some cs => match cs.all (·.oneCell') with
      | true => some cs
      | false => none
    | none => none
  | .string s => match Nat.beq n s.size && Nat.beq size 1 with
    | true => some (s.data.toList.map fun b => .int .u8 b.toNat)
    | false => none
  | _ => none
def srcLen : Value → Option Nat
  | .slice _ n _ => some n
  | .string s => some s.size
  | _ => none
def isSrcT : TypeDesc → Value → Bool
  | .slice _,.slice _ _ _ => true
  | .string,.string _ => true
  | _,_ => false
def agrow (ce : TypeId → Nat) (size bytes : Nat) (z : Value) (e : TypeId) (s : Value) (n : Nat) (new : List Value) (h : AHeap) : Option (Value × AHeap) :=
  match s with
  | .slice none sLen sCap => match Nat.beq sLen 0 && Nat.beq sCap 0 && Nat.ble (n * (bytes + size + 1)) limit && Nat.beq (vcells z).length size with
    | true => some (.slice (some ⟨h.next,0,none⟩) n unkCap,h.alloc ⟨new,e,true,true⟩)
    | false => none
  | .slice (some a) sLen sCap => match Nat.ble ((sLen + n) * (bytes + size + 1)) limit && Nat.beq (vcells z).length size with
    | true => match Nat.blt sCap unkCap with
      | true => match Nat.ble (sLen + n) sCap with
        | true => match aput h (a.add (sLen * size)) new with
          | some h' => some (.slice (some a) (sLen + n) sCap,h')
          | none => none
        | false => match srcCells size sLen (.slice (some a) sLen sCap) h with
          | some old => some (.slice (some ⟨h.next,0,none⟩) (sLen + n) unkCap,h.alloc ⟨old ++ new,e,true,true⟩)
          | none => none
      | false => match Nat.beq sCap unkCap,h.get a.block with
        | true,some b => match b.unk && Nat.beq b.cells.length (sLen * size) && Nat.beq (ce b.elem) size && Nat.blt a.block h.next && b.wr with
          | true => some (.slice (some ⟨h.next,0,none⟩) (sLen + n) unkCap,(h.put a.block none).alloc ⟨b.cells ++ new,e,true,true⟩)
          | false => match b.unk && Nat.ble ((sLen + n) * size) b.cells.length && Nat.beq (ce b.elem) size && Nat.blt 0 size with
            | true => match aput h (a.add (sLen * size)) new with
              | some h' => some (.slice (some a) (sLen + n) unkCap,h')
              | none => none
            | false => none
        | false,some b => match Nat.beq sCap (roCap + size) && b.unk && Nat.beq b.cells.length (a.off + sLen * size) && Nat.beq (ce b.elem) size && Nat.blt a.block h.next && b.wr && Nat.blt 0 sLen && Nat.blt 0 size with
          | true => some (.slice (some ⟨h.next,0,none⟩) (sLen + n) unkCap,(h.put a.block none).alloc ⟨b.cells.drop a.off ++ new,e,true,true⟩)
          | false => none
        | _,_ => none
    | false => none
  | _ => none
def aappend (P : Program) (argTypes : Array TypeId) (s x : Value) (h : AHeap) : Option (Value × AHeap) :=
  match argTypes.toList with
  | [t,tx] => match P.underlying t,P.underlying tx with
    | some (.slice e),some dx => match P.info? e,isSrcT dx x with
      | some i,true => match i.zero,srcLen x with
        | some z,some n => match Nat.beq n 0 with
          | true => match s with
            | .slice base sLen sCap => match Nat.ble sLen sCap with
              | true => some (.slice base sLen sCap,h)
              | false => none
            | _ => none
          | false => match srcCells i.size n x h with
            | some new => agrow P.cellsOf i.size i.bytes z e s n new h
            | none => none
        | _,_ => none
      | _,_ => none
    | _,_ => none
  | _ => none
def zeros (z : List Value) : Nat → List Value
  | 0 => []
  | n + 1 => z ++ zeros z n
def amake (P : Program) (t : TypeId) (len cap : Value) (id : Nat) : Option (Value × Blk) :=
  match P.underlying t,len,cap with
  | some (.slice e),.int _ (.ofNat l),.int _ (.ofNat c) => match P.info? e with
    | some i => match i.zero with
      | some z => match Nat.ble l c && Nat.ble (c * (i.bytes + i.size + 1)) limit && plainV z && Nat.beq (vcells z).length i.size with
        | true => some (.slice (some ⟨id,0,none⟩) l c,⟨zeros (vcells z) c,e,true,false⟩)
        | false => none
      | none => none
    | none => none
  | _,_,_ => none
def abuildSlice (P : Program) (t : TypeId) (len : Nat) (parts : List (Nat × Value)) (id : Nat) : Option (Value × Blk) :=
  match P.underlying t with
  | some (.slice e) => match P.info? e with
    | some i => match i.zero with
      | some z => match Nat.ble (len * (i.size + 1)) limit24 && plainV z && Nat.beq (vcells z).length i.size with
        | true => match Instr.fill (fun j => some (j * i.size,i.size)) (zeros (vcells z) len).toArray parts with
          | some cells => some (.slice (some ⟨id,0,none⟩) len len,⟨cells.toList,e,true,false⟩)
          | none => none
        | false => none
      | none => none
    | none => none
  | _ => none
def aclear (P : Program) (t : TypeId) (x : Value) (h : AHeap) : Option (Value × AHeap) :=
  match P.underlying t,x with
  | some _,.map none => some (.tuple #[],h)
  | some _,.map (some a) => match h.getIt a with
    | some (.mp _ c) => some (.tuple #[],h.setIt a (.mp [] c))
    | _ => none
  | some (.slice _),.slice none _ _ => some (.tuple #[],h)
  | some (.slice e),.slice (some a) n _ => match Nat.beq n 0 with
    | true => some (.tuple #[],h)
    | false => match P.info? e with
      | some i => match i.zero with
        | some z => match plainV z && Nat.beq (vcells z).length i.size with
          | true => match aput h a (zeros (vcells z) n) with
            | some h' => some (.tuple #[],h')
            | none => none
          | false => none
        | none => none
      | none => none
  | _,_ => none
def acopy (P : Program) (argTypes : Array TypeId) (d x : Value) (h : AHeap) : Option (Value × AHeap) :=
  match argTypes.toList with
  | [t,tx] => match P.underlying t,P.underlying tx with
    | some (.slice e),some dx => match P.info? e,isSrcT dx x with
      | some i,true => match d,srcLen x with
        | .slice base dLen _,some n => match Nat.beq (Nat.min n dLen) 0 with
          | true => some (.int .i64 0,h)
          | false => match srcCells i.size (Nat.min n dLen) x h,base with
            | some cs,some a => match aput h a cs with
              | some h' => some (.int .i64 (Nat.min n dLen : Nat),h')
              | none => none
            | _,_ => none
        | _,_ => none
      | _,_ => none
    | _,_ => none
  | _ => none
def apart' (P : Program) (t : TypeId) (cs : List Value) (off : Nat) : Option Value :=
  match isRowT P t with
  | some true => match P.info? t with
    | some i => match takeN i.size (cs.drop off) with
      | some r => some (.agg r.toArray)
      | none => none
    | none => none
  | some false => cs[off]?
  | none => none
def nilEq : TypeDesc → Value → Value → Option Bool
  | .slice _,.slice (some _) _ _,.slice none _ _ => some false
  | .slice _,.slice none _ _,.slice (some _) _ _ => some false
  | .func _ _ _,.func _ _ _,.nilFunc => some false
  | .func _ _ _,.nilFunc,.func _ _ _ => some false
  | .pointer _,.pointer (some _),.pointer none => some false
  | .pointer _,.pointer none,.pointer (some _) => some false
  | .interface _,.iface _ _,.nilIface => some false
  | .interface _,.nilIface,.iface _ _ => some false
  | _,_,_ => none
def abinS (P : Program) (op : BinOp) (t : TypeId) (x y : Operand) (a b : Value) : Option Value :=
  match plainV a && plainV b with
  | true => prunP P (do eqGuard op t x y a b; binOp op t a b)
  | false => match P.underlying t with
    | some d => match nilEq d a b with
      | some r => match op with
        | .eql => some (.bool r)
        | .neq => some (.bool (!r))
        | _ => none
      | none => none
    | none => none
def intBin (op : BinOp) (k : IntKind) (a b : Int) : Option Value :=
  match op with
  | .add => some (.int k (k.wrap (a + b)))
  | .sub => some (.int k (k.wrap (a - b)))
  | .eql => some (.bool (a == b))
  | .neq => some (.bool (a != b))
  | .lss => some (.bool (a < b))
  | .leq => some (.bool (a ≤ b))
  | .gtr => some (.bool (a > b))
  | .geq => some (.bool (a ≥ b))
  | _ => none
def intFast (op : BinOp) (a b : Value) : Option Value :=
  match a,b with
  | .int k m,.int j n => match decide (k = j) with
    | true => intBin op k m n
    | false => none
  | _,_ => none
def abin (P : Program) (op : BinOp) (t : TypeId) (x y : Operand) (a b : Value) : Option Value :=
  match intFast op a b with
  | some v => some v
  | none => abinS P op t x y a b
def optEv (P : Program) (ts : Tr Value) : Option Operand → Option (Option Value)
  | none => some none
  | some x => match ev P ts x with
    | some v => match plain v with
      | true => some (some v)
      | false => none
    | none => none
def intIn (n : Nat) : Value → Option Nat
  | .int _ (.ofNat i) => match Nat.blt i n with
    | true => some i
    | false => none
  | _ => none
def aqPick (P : Program) (ts : Tr Value) (c x y : Operand) : Option Value :=
  match ev P ts c,ev P ts x,ev P ts y with
  | some (.bool t),some a,some b => match t with
    | true => some a
    | false => some b
  | _,_,_ => none
def aqLoad (P : Program) (ts : Tr Value) (h : AHeap) (t : TypeId) (x : Operand) : Option Value :=
  match ev P ts x with
  | some v => aload P t v h
  | none => none
def aqBuild (P : Program) (ts : Tr Value) (t : TypeId) (parts : Array (Nat × Operand)) : Option Value :=
  match evParts P ts parts.toList with
  | some ps => match P.built t ps,P.info? t with
    | some cells,some i => match i.zero with
      | some z => match plainV z with
        | true => some (.agg cells)
        | false => none
      | none => none
    | _,_ => none
  | none => none
def aqNil (P : Program) (ts : Tr Value) (x : Operand) : Option Value :=
  match ev P ts x with
  | some (.pointer (some a)) => some (.pointer (some a))
  | some (.func (.func f) as bs) => some (.func (.func f) as bs)
  | _ => none
def aqBin (P : Program) (ts : Tr Value) (op : BinOp) (t : TypeId) (x y : Operand) : Option Value :=
  match ev P ts x,ev P ts y with
  | some a,some b => abin P op t x y a b
  | _,_ => none
def aqUn (P : Program) (ts : Tr Value) (op : UnOp) (x : Operand) : Option Value :=
  match ev P ts x with
  | some a => match plain a with
    | true => prunP P (Op.unary op a)
    | false => none
  | none => none
def bytesV : List Value → Option (List Int)
  | [] => some []
  | .int .u8 n :: l => match bytesV l with
    | some ns => some (n :: ns)
    | none => none
  | _ => none
def abytes (h : AHeap) (v : Value) : Option Value :=
  match v with
  | .slice (some a) n _ => match Nat.beq n 0 with
    | true => some (.string ByteArray.empty)
    | false => match cellsAt h a n with
      | some cs => match bytesV cs with
        | some ns => some (.string (strOfNums ns))
        | none => none
      | none => none
  | _ => none
def aqConv (P : Program) (ts : Tr Value) (h : AHeap) (src dst : TypeId) (x : Operand) : Option Value :=
  match ev P ts x with
  | some a => match plain a with
    | true => prunP P (convert src dst a)
    | false => match P.underlying src,P.underlying dst with
      | some (.slice e),some .string => match P.underlying e with
        | some (.int .u8) => abytes h a
        | _ => none
      | _,_ => none
  | none => none
def aqIface (P : Program) (ts : Tr Value) (t : TypeId) (x : Operand) : Option Value :=
  match ev P ts x,P.underlying t with
  | some _,some (.interface _) => none
  | some a,some _ => some (.iface t a)
  | _,_ => none
def aqFunc (P : Program) (ts : Tr Value) (fn : Fn) (first captured : Array Operand) : Option Value :=
  match evs P ts first.toList,evs P ts captured.toList with
  | some as,some bs => some (.func fn as.toArray bs.toArray)
  | _,_ => none
def aqSlice (P : Program) (ts : Tr Value) (t : TypeId) (x : Operand) (lo hi mx : Option Operand) : Option Value :=
  match ev P ts x,optEv P ts lo,optEv P ts hi,optEv P ts mx with
  | some v,some l,some h,some m => match P.underlying t,v with
    | some (.array n e),.pointer (some a) => match P.info? e with
      | some i => match Nat.blt n unkCap with
        | true => aslice i.size (some a) n n l h m
        | false => none
      | none => none
    | some (.slice e),.slice a len cap => match P.info? e with
      | some i => aslice i.size a len cap l h m
      | none => none
    | some .string,.string s => match m with
      | none => prunP P (Instr.slice t (.string s) l h none)
      | some _ => none
    | _,_ => none
  | _,_,_,_ => none
def aqFieldAddr (P : Program) (ts : Tr Value) (s : TypeId) (x : Operand) (f : Nat) : Option Value :=
  match ev P ts x,P.underlying s with
  | some (.pointer (some a)),some (.struct fields) => match fields[f]? with
    | some fd => match P.info? fd.type with
      | some i => match Nat.beq i.size 0 with
        | true => none
        | false => some (.pointer (some (a.add fd.offset)))
      | none => none
    | none => none
  | _,_ => none
def aqField (P : Program) (ts : Tr Value) (t : TypeId) (x : Operand) (f : Nat) : Option Value :=
  match ev P ts x,P.underlying t with
  | some (.agg cs),some (.struct fields) => match fields[f]? with
    | some fd => apart' P fd.type cs.toList fd.offset
    | none => none
  | _,_ => none
def aqIndexAddr (P : Program) (ts : Tr Value) (t : TypeId) (x ix : Operand) : Option Value :=
  match ev P ts x,ev P ts ix,P.underlying t with
  | some (.pointer (some a)),some i,some (.array n e) => match intIn n i,P.info? e with
    | some k,some inf => some (.pointer (some (a.add (k * inf.size))))
    | _,_ => none
  | some (.slice (some a) n _),some i,some (.slice e) => match intIn n i,P.info? e with
    | some k,some inf => some (.pointer (some (a.add (k * inf.size))))
    | _,_ => none
  | _,_,_ => none
def aqIndex (P : Program) (ts : Tr Value) (t : TypeId) (x ix : Operand) : Option Value :=
  match ev P ts x,ev P ts ix,P.underlying t with
  | some (.agg cs),some i,some (.array n e) => match intIn n i,P.info? e with
    | some k,some inf => apart' P e cs.toList (k * inf.size)
    | _,_ => none
  | some (.string s),some i,some .string => match plain i with
    | true => prunP P (Instr.index t (.string s) i)
    | false => none
  | _,_,_ => none
def aqExtract (P : Program) (ts : Tr Value) (t : Operand) (ix : Nat) : Option Value :=
  match ev P ts t with
  | some (.tuple vs) => vs[ix]?
  | _ => none
def aqLen (P : Program) (ts : Tr Value) (argTypes : Array TypeId) (x : Operand) : Option Value :=
  match ev P ts x,argTypes[0]? with
  | some v,some t => match P.underlying t,v with
    | some .string,.string s => some (goInt s.size)
    | some (.slice _),.slice _ n _ => some (goInt n)
    | some (.array n _),_ => some (goInt n)
    | _,_ => none
  | _,_ => none
def aqCap (P : Program) (ts : Tr Value) (argTypes : Array TypeId) (x : Operand) : Option Value :=
  match ev P ts x,argTypes[0]? with
  | some v,some t => match P.underlying t,v with
    | some (.slice _),.slice _ _ c => match Nat.blt c unkCap with
      | true => some (goInt c)
      | false => none
    | some (.array n _),_ => some (goInt n)
    | _,_ => none
  | _,_ => none
def aqMax (P : Program) (ts : Tr Value) (argTypes : Array TypeId) (xs : List Operand) : Option Value :=
  match evs P ts xs with
  | some vs => match vs.all plain with
    | true => prunP P (Builtin.max_ argTypes 0 vs.toArray)
    | false => none
  | none => none
def aqMin (P : Program) (ts : Tr Value) (argTypes : Array TypeId) (xs : List Operand) : Option Value :=
  match evs P ts xs with
  | some vs => match vs.all plain with
    | true => prunP P (Builtin.min_ argTypes 0 vs.toArray)
    | false => none
  | none => none
def aqBuiltin (P : Program) (ts : Tr Value) (b : Builtin) (args : List Operand) (argTypes : Array TypeId) : Option Value :=
  match b,args with
  | .len,[x] => aqLen P ts argTypes x
  | .cap,[x] => aqCap P ts argTypes x
  | .max,xs => aqMax P ts argTypes xs
  | .min,xs => aqMin P ts argTypes xs
  | _,_ => none
def aq (P : Program) (op : Op) (ts : Tr Value) (h : AHeap) : Option Value :=
  match op with
  | .move x | .assign x => ev P ts x
  | .pick c x y => aqPick P ts c x y
  | .load t x => aqLoad P ts h t x
  | .build t parts => aqBuild P ts t parts
  | .nilCheck x => aqNil P ts x
  | .binOp op t x y _ => aqBin P ts op t x y
  | .unOp op _ x => aqUn P ts op x
  | .convert src dst x => aqConv P ts h src dst x
  | .makeInterface t x => aqIface P ts t x
  | .makeFunc fn first captured => aqFunc P ts fn first captured
  | .slice t x lo hi mx => aqSlice P ts t x lo hi mx
  | .fieldAddr s x f => aqFieldAddr P ts s x f
  | .field t x f => aqField P ts t x f
  | .indexAddr t x ix => aqIndexAddr P ts t x ix
  | .index t x ix => aqIndex P ts t x ix
  | .extract t ix => aqExtract P ts t ix
  | .call { callee := .builtin b,args,argTypes } => aqBuiltin P ts b args.toList argTypes
  | _ => none
def anew (P : Program) (op : Op) (ts : Tr Value) (id : Nat) : Option (Value × Blk) :=
  match op with
  | .box e x => match ev P ts x with
    | some v => some (.pointer (some ⟨id,0,none⟩),⟨vcells v,e,true,false⟩)
    | none => none
  | .alloc e => match P.info? e with
    | some i => match i.zero with
      | some z => match plainV z with
        | true => some (.pointer (some ⟨id,0,none⟩),⟨vcells z,e,true,false⟩)
        | false => none
      | none => none
    | none => none
  | .buildSlice t len parts => match evParts P ts parts.toList with
    | some ps => abuildSlice P t len ps id
    | none => none
  | .makeSlice t l c => match ev P ts l,ev P ts c with
    | some lv,some cv => amake P t lv cv id
    | _,_ => none
  | _ => none
def arange (P : Program) (t : TypeId) (x : Option Value) (h : AHeap) : Option (Value × AHeap) :=
  match P.underlying t,x with
  | some .string,some (.string s) => some (.pointer (some ⟨h.next,0,none⟩),h.newIt (.it s 0))
  | _,_ => none
def anext (x : Option Value) (isStr : Bool) (h : AHeap) : Option (Value × AHeap) :=
  match x,isStr with
  | some (.pointer (some a)),true => match Nat.beq a.off 0,h.getIt a.block with
    | true,some (.it s pos) => match Nat.blt pos s.size with
      | true => some (.tuple #[.bool true,goInt pos,.int .i32 (Utf8.decode s pos).1],h.setIt a.block (.it s (pos + (Utf8.decode s pos).2)))
      | false => some (.tuple #[.bool false],h)
    | _,_ => none
  | _,_ => none
def mapAt (h : AHeap) : Value → Option (List MapEntry × Nat)
  | .map none => some ([],0)
  | .map (some a) => match h.getIt a with
    | some (.mp es c) => some (es,c)
    | _ => none
  | _ => none
def mapTy (P : Program) (t : TypeId) : Option (TypeId × TypeId) :=
  match P.underlying t with
  | some (.map k e) => some (k,e)
  | _ => none
def afind (P : Program) (kt : TypeId) (emp : Bool) (k : Value) (es : List MapEntry) : Option (Option (Nat × Value)) :=
  match prun P (Instr.checkKey emp 10000 kt k) with
  | some _ => prun P (Instr.findKey kt k es)
  | none => none
def azero (P : Program) (t : TypeId) : Option Value :=
  match P.info? t with
  | some i => i.zero
  | none => none
def lookRes (ok : Bool) (v : Value) (b : Bool) : Value :=
  match ok with
  | true => .tuple #[v,.bool b]
  | false => v
def alook (P : Program) (t : TypeId) (es : List MapEntry) (k : Value) (ok : Bool) : Option Value :=
  match mapTy P t with
  | some (kt,et) => match afind P kt es.isEmpty k es with
    | some (some (_,v)) => match plainV v with
      | true => some (lookRes ok v true)
      | false => none
    | some none => match azero P et with
      | some z => match plainV z with
        | true => some (lookRes ok z false)
        | false => none
      | none => none
    | none => none
  | none => none
def aupd (P : Program) (t : TypeId) (es : List MapEntry) (c : Nat) (k v : Value) : Option (List MapEntry × Nat) :=
  match mapTy P t with
  | some (kt,_) => match afind P kt false k es with
    | some (some (i,_)) => match es[i]? with
      | some e => match Instr.sameBits 10000 e.key k with
        | true => some (es.set i ⟨k,v,e.born⟩,c)
        | false => none
      | none => none
    | some none => some (es ++ [⟨k,v,c⟩],c + 1)
    | none => none
  | none => none
def aent (P : Program) (t : TypeId) (es : List MapEntry) (c : Nat) (k : Value) : Option (Value × List MapEntry × Nat) :=
  match mapTy P t with
  | some (kt,et) => match afind P kt false k es with
    | some (some (i,v)) => match es[i]? with
      | some e => match Instr.sameBits 10000 e.key k && plainV v with
        | true => some (.tuple #[v,goInt e.born],es.set i ⟨k,e.val,e.born⟩,c)
        | false => none
      | none => none
    | some none => match azero P et with
      | some z => match plainV z with
        | true => some (.tuple #[z,goInt c],es ++ [⟨k,z,c⟩],c + 1)
        | false => none
      | none => none
    | none => none
  | none => none
def aest (es : List MapEntry) (stamp v : Value) : Option (List MapEntry) :=
  match stamp with
  | .int _ n => match es.findIdx? (fun e => (e.born : Int) == n) with
    | some i => match es[i]? with
      | some e => some (es.set i ⟨e.key,v,e.born⟩)
      | none => none
    | none => none
  | _ => none
def adel (P : Program) (t : TypeId) (es : List MapEntry) (k : Value) : Option (List MapEntry) :=
  match mapTy P t with
  | some (kt,_) => match afind P kt es.isEmpty k es with
    | some (some (i,_)) => some (es.eraseIdx i)
    | some none => some es
    | none => none
  | none => none
def amq (P : Program) (op : Op) (ts : Tr Value) (h : AHeap) : Option Value :=
  match op with
  | .call { callee := .builtin .len,args,argTypes } => match evs P ts args.toList,argTypes[0]? with
    | some [x],some t => match mapTy P t,mapAt h x with
      | some _,some (es,_) => some (goInt es.length)
      | _,_ => none
    | _,_ => none
  | _ => none
def aside (P : Program) (op : Op) (ts : Tr Value) (h : AHeap) : Option (Value × AHeap) :=
  match op with
  | .convert src dst x => match P.underlying src,P.underlying dst,ev P ts x with
    | some .string,some (.slice e),some (.string s) => match P.underlying e with
      | some (.int .u8) => some (.slice (some ⟨h.next,0,none⟩) s.size roCap,h.alloc ⟨s.data.toList.map fun b => .int .u8 b.toNat,e,false,false⟩)
      | _ => none
    | _,_,_ => none
  | .slice t x lo (some hi) none => match ev P ts x,optEv P ts lo,ev P ts hi,P.underlying t with
    | some (.slice (some a) _ cap),some lo,some hi,some (.slice e) => match P.info? e,Nat.beq cap unkCap,h.get a.block with
      | some i,true,some b => match b.unk && Nat.beq (P.cellsOf b.elem) i.size && Nat.blt 0 i.size,natOf 0 (b.cells.length / i.size) hi with
        | true,some hh => match natOfO 0 hh 0 lo with
          | some l => match Nat.beq l 0 with
            | true => some (.slice (some a) hh unkCap,h)
            | false => some (.slice (some (a.add (l * i.size))) (hh - l) (roCap + i.size),h)
          | none => none
        | _,_ => none
      | _,_,_ => none
    | _,_,_,_ => none
  | _ => none
def amapTo (h : AHeap) (m : Value) (g : List MapEntry → Nat → Option (Value × List MapEntry × Nat)) : Option (Value × AHeap) :=
  match m with
  | .map (some a) => match h.getIt a with
    | some (.mp es c) => match g es c with
      | some (v,es',c') => some (v,h.setIt a (.mp es' c'))
      | none => none
    | _ => none
  | _ => none
def amake0 (P : Program) (ts : Tr Value) (t : TypeId) : Option Operand → Bool
  | none => true
  | some x => match mapTy P t,ev P ts x with
    | some _,some (.int _ _) => true
    | _,_ => false
def aloud (P : Program) (op : Op) (ts : Tr Value) (h : AHeap) : Option (Value × AHeap) :=
  match op with
  | .makeMap t r => match amake0 P ts t r with
    | true => some (.map (some h.next),h.newIt (.mp [] 0))
    | false => none
  | .mapUpdate t m k x | .insert t m k x => match ev P ts m,ev P ts k,ev P ts x with
    | some m,some k,some v => match plainV k && plainV v with
      | true => amapTo h m fun es c => match aupd P t es c k v with
        | some (es',c') => some (undef,es',c')
        | none => none
      | false => none
    | _,_,_ => none
  | .lookup t m k ok => match ev P ts m,ev P ts k with
    | some m,some k => match mapAt h m,plainV k with
      | some (es,_),true => match alook P t es k ok with
        | some v => some (v,h)
        | none => none
      | _,_ => none
    | _,_ => none
  | .mapEntry t m k => match ev P ts m,ev P ts k with
    | some m,some k => match plainV k with
      | true => amapTo h m fun es c => aent P t es c k
      | false => none
    | _,_ => none
  | .entryStore _ m s x => match ev P ts m,ev P ts s,ev P ts x with
    | some m,some s,some v => match plainV v && plainV s with
      | true => amapTo h m fun es c => match aest es s v with
        | some es' => some (undef,es',c)
        | none => none
      | false => none
    | _,_,_ => none
  | .call { callee := .builtin .delete,args,argTypes } => match evs P ts args.toList,argTypes[0]? with
    | some [m,k],some t => match plainV k with
      | true => amapTo h m fun es c => match adel P t es k with
        | some es' => some (.tuple #[],es',c)
        | none => none
      | false => none
    | _,_ => none
  | .store t x y => match ev P ts x,ev P ts y with
    | some a,some v => match astore P t a v h with
      | some h' => some (undef,h')
      | none => none
    | _,_ => none
  | .call { callee := .builtin .append,args,argTypes } => match evs P ts args.toList with
    | some [s,x] => aappend P argTypes s x h
    | _ => none
  | .call { callee := .builtin .copy,args,argTypes } => match evs P ts args.toList with
    | some [d,x] => acopy P argTypes d x h
    | _ => none
  | .call { callee := .builtin .clear,args,argTypes } => match evs P ts args.toList,argTypes[0]? with
    | some [x],some t => aclear P t x h
    | _,_ => none
  | .range t x => arange P t (ev P ts x) h
  | .next x isStr => anext (ev P ts x) isStr h
  | _ => none
def kindOf (op : Op) : Nat :=
  match op with
  | .box _ _ | .alloc _ | .buildSlice _ _ _ | .makeSlice _ _ _ => 1
  | .store _ _ _ => 2
  | .range _ _ | .next _ _ => 2
  | .makeMap _ _ | .mapUpdate _ _ _ _ | .insert _ _ _ _ | .lookup _ _ _ _ | .mapEntry _ _ _ | .entryStore _ _ _ _ => 2
  | .call { callee := .builtin b,.. } => match b with
    | .append | .copy | .clear | .delete => 2
    | _ => 0
  | .call _ => 3
  | _ => 0
def wantedA (ops : Array Oper) (o : Oper) (ts : Tr Value) : Bool :=
  match o.guard with
  | none => true
  | some (j,w) => match (ops[j]?).bind (·.dst) with
    | some t => match ts.get t with
      | some (.bool b) => b == w
      | _ => false
    | none => false
def putA (nt : Nat) (ts : Tr Value) (dst : Option Tmp) (v : Value) : Option (Tr Value) :=
  match dst with
  | none => some ts
  | some d => match Nat.blt d nt with
    | true => some (ts.set d v)
    | false => none
abbrev CallF := FuncId → List Value → AHeap → Option (Value × AHeap)
def acallOp (P : Program) (call : CallF) (op : Op) (ts : Tr Value) (h : AHeap) : Option (Value × AHeap) :=
  match op with
  | .call { callee := .value f,args,.. } => match ev P ts f,evs P ts args.toList with
    | some (.func (.func g) first captured),some as => call g (first.toList ++ as ++ captured.toList) h
    | _,_ => none
  | _ => none
def aoper (P : Program) (call : CallF) (o : Oper) (ts : Tr Value) (h : AHeap) : Option (Value × AHeap) :=
  match kindOf o.op with
  | 0 => match aq P o.op ts h with
    | some v => some (v,h)
    | none => match amq P o.op ts h with
      | some v => some (v,h)
      | none => aside P o.op ts h
  | 1 => match anew P o.op ts h.next with
    | some (v,b) => some (v,h.alloc b)
    | none => none
  | 2 => aloud P o.op ts h
  | _ => acallOp P call o.op ts h
def aops (P : Program) (call : CallF) (nt : Nat) (ops : Array Oper) : List Oper → Tr Value → AHeap → Option (Tr Value × AHeap)
  | [],ts,h => some (ts,h)
  | o :: rest,ts,h => match wantedA ops o ts with
    | true => match aoper P call o ts h with
      | some (v,h') => match putA nt ts o.dst v with
        | some ts' => aops P call nt ops rest ts' h'
        | none => none
      | none => none
    | false => match putA nt ts o.dst undef with
      | some ts' => aops P call nt ops rest ts' h
      | none => none
def loadBlock (P : Program) (o : Oper) (ts : Tr Value) : Option Nat :=
  match o.op with
  | .load _ x => match ev P ts x with
    | some (.pointer (some a)) => some a.block
    | _ => none
  | .convert _ _ x => match ev P ts x with
    | some (.slice (some a) n _) => match Nat.beq n 0 with
      | true => none
      | false => some a.block
    | _ => none
  | _ => none
def storeB (P : Program) (o : Oper) (ts : Tr Value) : Option Nat :=
  match o.op with
  | .store _ x _ => match ev P ts x with
    | some (.pointer (some a)) => some a.block
    | _ => none
  | _ => none
abbrev Turned := Nat × Option Nat
def spares (b : Nat) (t : Turned) : Bool :=
  match Nat.blt b t.1,t.2 with
  | true,_ => true
  | false,some c => !(Nat.beq b c)
  | false,none => false
def befOf (ops : Array Oper) (i j : Nat) : Bool := ((Region.before ops).getD j 0).testBit i
def ordered (ops : Array Oper) (i j : Nat) : Bool := befOf ops i j || befOf ops j i
def writerOf (ops : Array Oper) (i t : Nat) : Option Nat := (List.range i).find? fun j => match ops[j]? with
  | some o => match o.dst with
    | some d => Nat.beq d t
    | none => false
  | none => false
def oldF (ops : Array Oper) : Nat → Nat → Nat → Bool
  | 0,_,_ => false
  | f + 1,i,t => match writerOf ops i t with
    | none => true
    | some j => match ops[j]? with
      | some o => match o.op with
        | .move (.tmp u) => oldF ops f j u
        | .indexAddr _ (.tmp u) _ => oldF ops f j u
        | .fieldAddr _ (.tmp u) _ => oldF ops f j u
        | _ => false
      | none => false
def madeF (ops : Array Oper) (i t : Nat) : Bool := match writerOf ops i t with
  | none => false
  | some j => match ops[j]? with
    | some o => match o.op with
      | .buildSlice _ _ _ => true
      | _ => false
    | none => false
def freeRd (ops : Array Oper) (k : Nat) (o : Oper) : Bool :=
  (match o.op with
    | .load _ (.tmp t) => oldF ops 30 k t
    | .convert _ _ (.tmp t) => madeF ops k t
    | _ => false) && ops.toList.zipIdx.all fun (p,q) => Nat.ble (kindOf p.op) 1 || ordered ops k q
def aopsD (P : Program) (call : CallF) (nt base : Nat) (ops : Array Oper) : List Oper → Nat → Tr Value → AHeap → List (Nat × Nat) → List (Nat × Turned) → Option (Tr Value × AHeap × List (Nat × Nat) × List (Nat × Turned))
  | [],_,ts,h,rq,rl => some (ts,h,rq,rl)
  | o :: rest,k,ts,h,rq,rl => match wantedA ops o ts with
    | true => match kindOf o.op with
      | 0 => match aq P o.op ts h with
        | some v => match putA nt ts o.dst v with
          | some ts' => match loadBlock P o ts with
            | some b => match freeRd ops k o with
              | true => aopsD P call nt base ops rest (k + 1) ts' h rq rl
              | false => match Nat.blt b base with
                | true => aopsD P call nt base ops rest (k + 1) ts' h ((k,b) :: rq) rl
                | false => none
            | none => aopsD P call nt base ops rest (k + 1) ts' h rq rl
          | none => none
        | none => none
      | 1 => match anew P o.op ts (base + k) with
        | some (v,b) => match putA nt ts o.dst v with
          | some ts' => aopsD P call nt base ops rest (k + 1) ts' { h with m := h.m.set (base + k) (some b) } ((k,base + k) :: rq) rl
          | none => none
        | none => none
      | _ => match aoper P call o ts { h with low := h.next } with
        | some (v,h') => match putA nt ts o.dst v with
          | some ts' => aopsD P call nt base ops rest (k + 1) ts' { h' with low := Nat.min h.low h'.low } rq ((k,h'.low,storeB P o ts) :: rl)
          | none => none
        | none => none
    | false => match putA nt ts o.dst undef with
      | some ts' => aopsD P call nt base ops rest (k + 1) ts' h rq rl
      | none => none
def loudOp (o : Oper) : Bool := Nat.ble 2 (kindOf o.op)
def drawPair (ops : Array Oper) (p : Oper) (i : Nat) (o : Oper) (j : Nat) : Bool :=
  (match p.dst with
    | some t => (match o.dst with
        | some u => Nat.beq i j || !(Nat.beq t u)
        | none => true) &&
      (!((o.looksAt ops).contains t) || Nat.beq i j || (match Nat.blt i j with
        | true => befOf ops i j
        | false => befOf ops j i))
    | none => true) &&
  (!(loudOp o && loudOp p && Nat.blt i j) || befOf ops i j)
def drawOK (ops : Array Oper) : Bool :=
  Region.noSelect ops && ops.toList.zipIdx.all fun (o,j) =>
    (o.after.toList.all fun e => !Region.binds .any e || Nat.blt e.on j) && ops.toList.zipIdx.all fun (p,i) => drawPair ops p i o j
def stable (ops : Array Oper) (rq : List (Nat × Nat)) (rl : List (Nat × Turned)) : Bool :=
  rq.all fun (i,b) => rl.all fun (q,t) => spares b t || ordered ops i q
def aregD (P : Program) (call : CallF) (nt : Nat) (ops : Array Oper) (ts : Tr Value) (h : AHeap) : Option (Tr Value × AHeap) :=
  match drawOK ops with
  | true => match aopsD P call nt h.next ops ops.toList 0 ts { h with next := h.next + ops.size } [] [] with
    | some (ts',h',rq,rl) => match stable ops rq rl with
      | true => some (ts',h')
      | false => none
    | none => none
  | false => none
inductive AExit where
  | normal
  | exit (id : Nat)
  | ret
abbrev CodeF := Code → Nat → Tr Value → AHeap → Option (AExit × Tr Value × AHeap)
def initF : Nat → List Value → Tr Value → Tr Value
  | _,[],t => t
  | k,v :: vs,t => initF (k + 1) vs (t.set k v)
def ares (P : Program) (ts : Tr Value) (h : AHeap) : List ResultVar → Option (List Value)
  | [] => some []
  | r :: rs => match (match r with
      | .tmp t => ev P ts (.tmp t)
      | .cell a t => match ev P ts (.tmp a) with
        | some v => aload P t v h
        | none => none) with
    | some v => match ares P ts h rs with
      | some vs => some (v :: vs)
      | none => none
    | none => none
def packed : List Value → Value
  | [v] => v
  | vs => .tuple vs.toArray
def bodyOf (P : Program) (f : FuncId) : Option (Func × Code) :=
  match P.funcs[f]? with
  | some fn => match fn.body, (fn.name == "runtime.NumGoroutine" : Bool) with
    | some c,false => some (fn,c)
    | _,_ => none
  | none => none
def acall (P : Program) (O : CallF) (code : CodeF) : CallF := fun f args h =>
  match O f args h with
  | some r => some r
  | none => match bodyOf P f with
    | some (fn,c) => match Nat.ble args.length fn.ntmps with
      | true => match code c fn.ntmps (initF 0 args .nil) h with
        | some (.normal,ts,h') | some (.ret,ts,h') => match ares P ts h' fn.results.toList with
          | some vs => some (packed vs,h')
          | none => none
        | _ => none
      | false => none
    | none => none
def aloop (code : CodeF) (b : Code) (nt : Nat) : Nat → Tr Value → AHeap → Option (AExit × Tr Value × AHeap)
  | 0,_,_ => none
  | n + 1,ts,h => match code b nt ts h with
    | some (.normal,ts',h') => aloop code b nt n ts' h'
    | r => r
def astep (P : Program) (O : CallF) (n : Nat) (code : CodeF) (c : Code) (nt : Nat) (ts : Tr Value) (h : AHeap) : Option (AExit × Tr Value × AHeap) :=
  match c with
  | .skip | .label _ => some (.normal,ts,h)
  | .region _ ops draw => match draw with
    | false => match aops P (acall P O code) nt ops ops.toList ts h with
      | some (ts',h') => some (.normal,ts',h')
      | none => none
    | true => match aregD P (acall P O code) nt ops ts h with
      | some (ts',h') => some (.normal,ts',h')
      | none => none
  | .seq a b => match code a nt ts h with
    | some (.normal,ts',h') => code b nt ts' h'
    | r => r
  | .cond c a b => match ev P ts c with
    | some (.bool true) => code a nt ts h
    | some (.bool false) => code b nt ts h
    | _ => none
  | .block id b => match code b nt ts h with
    | some (.exit j,ts',h') => match Nat.beq j id with
      | true => some (.normal,ts',h')
      | false => some (.exit j,ts',h')
    | r => r
  | .loop b => aloop code b nt n ts h
  | .exit id => some (.exit id,ts,h)
  | .ret => some (.ret,ts,h)
  | _ => none
def acode (P : Program) (O : CallF) : Nat → CodeF
  | 0 => fun _ _ _ _ => none
  | n + 1 => astep P O n (acode P O n)
def run (P : Program) (O : CallF) (n : Nat) : CallF := acall P O (acode P O n)
def noO : CallF := fun _ _ _ => none
end Go.Abs
namespace Go.Abs
theorem Tr.get_nil {α : Type} (n : Nat) : (Tr.nil : Tr α).get n = none := rfl
theorem Tr.get_zero {α : Type} (t : Tr α) : t.get 0 = t.val := by cases t <;> rfl
theorem Tr.get_even {α : Type} (t : Tr α) (k : Nat) (h : k % 2 = 0) : t.get (k + 1) = t.left.get (k / 2) := by
  have h' : Nat.mod k 2 = 0 := h
  cases t with
  | nil => rfl
  | node v l r => rw [Tr.get]; simp only [h']; rfl
theorem Tr.get_odd {α : Type} (t : Tr α) (k : Nat) (h : k % 2 = 1) : t.get (k + 1) = t.right.get (k / 2) := by
  have h' : Nat.mod k 2 = 1 := h
  cases t with
  | nil => rfl
  | node v l r => rw [Tr.get]; simp only [h']; rfl
theorem Tr.setF_zero {α : Type} (a : α) (f : Nat) (t : Tr α) : Tr.setF a (f + 1) t 0 = .node (some a) t.left t.right := by cases t <;> rfl
theorem Tr.setF_even {α : Type} (a : α) (f : Nat) (t : Tr α) (k : Nat) (h : k % 2 = 0) : Tr.setF a (f + 1) t (k + 1) = .node t.val (Tr.setF a f t.left (k / 2)) t.right := by
  have h' : Nat.mod k 2 = 0 := h
  cases t <;> (rw [Tr.setF]; simp only [h']; rfl)
theorem Tr.setF_odd {α : Type} (a : α) (f : Nat) (t : Tr α) (k : Nat) (h : k % 2 = 1) : Tr.setF a (f + 1) t (k + 1) = .node t.val t.left (Tr.setF a f t.right (k / 2)) := by
  have h' : Nat.mod k 2 = 1 := h
  cases t <;> (rw [Tr.setF]; simp only [h']; rfl)
theorem Tr.get_setF {α : Type} (a : α) : ∀ (f : Nat) (t : Tr α) (n k : Nat),n < f → (Tr.setF a f t n).get k = if k = n then some a else t.get k
  | 0,_,_,_,h => absurd h (Nat.not_lt_zero _)
  | f + 1,t,0,k,_ => by
    rw [Tr.setF_zero]
    cases k with
    | zero => simp [Tr.get_zero,Tr.val]
    | succ k =>
      rcases Nat.mod_two_eq_zero_or_one k with hk | hk
      · rw [Tr.get_even _ _ hk,Tr.get_even _ _ hk,if_neg (by omega)]; rfl
      · rw [Tr.get_odd _ _ hk,Tr.get_odd _ _ hk,if_neg (by omega)]; rfl
  | f + 1,t,n + 1,k,h => by
    have ih := fun (t : Tr α) j => Tr.get_setF a f t (n / 2) j (by omega)
    rcases Nat.mod_two_eq_zero_or_one n with hn | hn
    · rw [Tr.setF_even _ _ _ _ hn]
      cases k with
      | zero => rw [Tr.get_zero,Tr.get_zero,if_neg (by omega)]; rfl
      | succ k =>
        rcases Nat.mod_two_eq_zero_or_one k with hk | hk
        · rw [Tr.get_even _ _ hk,Tr.get_even _ _ hk]
          show (Tr.setF a f t.left (n / 2)).get (k / 2) = _
          rw [ih]
          have : (k / 2 = n / 2) ↔ (k + 1 = n + 1) := by omega
          simp [this]
        · rw [Tr.get_odd _ _ hk,Tr.get_odd _ _ hk,if_neg (by omega)]; rfl
    · rw [Tr.setF_odd _ _ _ _ hn]
      cases k with
      | zero => rw [Tr.get_zero,Tr.get_zero,if_neg (by omega)]; rfl
      | succ k =>
        rcases Nat.mod_two_eq_zero_or_one k with hk | hk
        · rw [Tr.get_even _ _ hk,Tr.get_even _ _ hk,if_neg (by omega)]; rfl
        · rw [Tr.get_odd _ _ hk,Tr.get_odd _ _ hk]
          show (Tr.setF a f t.right (n / 2)).get (k / 2) = _
          rw [ih]
          have : (k / 2 = n / 2) ↔ (k + 1 = n + 1) := by omega
          simp [this]
theorem Tr.get_set {α : Type} (t : Tr α) (n k : Nat) (a : α) : (t.set n a).get k = if k = n then some a else t.get k :=
  Tr.get_setF a (n + 1) t n k (Nat.lt_succ_self n)
theorem AHeap.get_put (h : AHeap) (a k : Nat) (b : Option Blk) : (h.put a b).get k = if k = a then b else h.get k := by
  simp only [AHeap.get,AHeap.put,Tr.get_set]
  split <;> rename_i hh <;> split at hh <;> simp_all
theorem AHeap.get_alloc (h : AHeap) (b : Blk) (k : Nat) : (h.alloc b).get k = if k = h.next then some b else h.get k := by
  simp only [AHeap.get,AHeap.alloc,Tr.get_set]
  split <;> rename_i hh <;> split at hh <;> simp_all
theorem AHeap.get_newIt (h : AHeap) (x : Oth) (k : Nat) : (h.newIt x).get k = h.get k := rfl
theorem AHeap.getIt_newIt (h : AHeap) (x : Oth) (k : Nat) : (h.newIt x).getIt k = if k = h.next then some x else h.getIt k := Tr.get_set _ _ _ _
theorem AHeap.getIt_setIt (h : AHeap) (a k : Nat) (x : Oth) : (h.setIt a x).getIt k = if k = a then some x else h.getIt k := Tr.get_set _ _ _ _
theorem Oth.no_cells (x : Oth) {C : Array Value} {e : TypeId} {fr : Nat × Nat} : x.obj ≠ .cells C e fr := by
  cases x <;> (intro h; cases h)
structure Loc where
  b : Nat
  base : Nat
  cap : Nat
abbrev BMap := Nat → Option Loc
inductive VRel (m : BMap) : Value → Value → Prop where
  | plain (v : Value) (h : plain v = true) : VRel m v v
  | ptr (a : Addr) (L : Loc) (hm : m a.block = some L) (hs : a.spot = none) : VRel m (.pointer (some a)) (.pointer (some ⟨L.b,L.base + a.off,none⟩))
  | slice (a : Addr) (L : Loc) (n c : Nat) (hm : m a.block = some L) (hs : a.spot = none) (hc : c < unkCap) : VRel m (.slice (some a) n c) (.slice (some ⟨L.b,L.base + a.off,none⟩) n c)
  | unk (a : Addr) (L : Loc) (n : Nat) (hm : m a.block = some L) (hs : a.spot = none) (h0 : a.off = 0) (hn : n ≤ L.cap) : VRel m (.slice (some a) n unkCap) (.slice (some ⟨L.b,L.base,none⟩) n L.cap)
  | ro (a a' : Addr) (n c' s : Nat) (hn : n ≤ c') (hs : n ≠ 0 → ∃ L,m a.block = some L ∧ a.spot = none ∧ a' = ⟨L.b,L.base + a.off,none⟩ ∧ (s ≠ 0 → ∃ j,a.off = j * s ∧ c' + j = L.cap)) : VRel m (.slice (some a) n (roCap + s)) (.slice (some a') n c')
  | map (a : Nat) (L : Loc) (hm : m a = some L) : VRel m (.map (some a)) (.map (some L.b))
  | func (fn : Fn) (as as' bs bs' : Array Value) (ha : as.size = as'.size) (hb : bs.size = bs'.size)
      (hA : ∀ i,VRel m (as.getD i undef) (as'.getD i undef)) (hB : ∀ i,VRel m (bs.getD i undef) (bs'.getD i undef)) : VRel m (.func fn as bs) (.func fn as' bs')
  | iface (t : TypeId) (v v' : Value) (h : VRel m v v') : VRel m (.iface t v) (.iface t v')
  | agg (cs cs' : Array Value) (hs : cs.size = cs'.size) (h : ∀ i,i < cs.size → VRel m (cs.getD i undef) (cs'.getD i undef)) : VRel m (.agg cs) (.agg cs')
  | tuple (cs cs' : Array Value) (hs : cs.size = cs'.size) (h : ∀ i,i < cs.size → VRel m (cs.getD i undef) (cs'.getD i undef)) : VRel m (.tuple cs) (.tuple cs')
theorem VRel.undef (m : BMap) : VRel m undef undef := .tuple #[] #[] rfl (fun i hi => absurd hi (Nat.not_lt_zero _))
theorem VRel.mono {m m' : BMap} (hm : ∀ a L,m a = some L → m' a = some L) {v v' : Value} (h : VRel m v v') : VRel m' v v' := by
  induction h with
  | plain v h => exact .plain v h
  | ptr a L hm' hs => exact .ptr a L (hm _ _ hm') hs
  | slice a L n c hm' hs hc => exact .slice a L n c (hm _ _ hm') hs hc
  | unk a L n hm' hs h0 hn => exact .unk a L n (hm _ _ hm') hs h0 hn
  | ro a a' n c' s hn hs => exact .ro a a' n c' s hn (fun h => let ⟨L,h1,h2⟩ := hs h; ⟨L,hm _ _ h1,h2⟩)
  | map a L hm' => exact .map a L (hm _ _ hm')
  | func fn as as' bs bs' ha hb _ _ iA iB => exact .func fn as as' bs bs' ha hb iA iB
  | iface t v v' _ ih => exact .iface t v v' ih
  | agg cs cs' hs _ ih => exact .agg cs cs' hs ih
  | tuple cs cs' hs _ ih => exact .tuple cs cs' hs ih
def LRel (m : BMap) (l l' : List Value) : Prop := l.length = l'.length ∧ ∀ i,i < l.length → VRel m (l.getD i undef) (l'.getD i undef)
theorem LRel.mono {m m' : BMap} (hm : ∀ a L,m a = some L → m' a = some L) {l l' : List Value} (h : LRel m l l') : LRel m' l l' :=
  ⟨h.1,fun i hi => (h.2 i hi).mono hm⟩
theorem LRel.nil (m : BMap) : LRel m [] [] := ⟨rfl,fun i hi => absurd hi (Nat.not_lt_zero _)⟩
theorem LRel.cons {m : BMap} {v v' : Value} {l l' : List Value} (h : VRel m v v') (hl : LRel m l l') : LRel m (v :: l) (v' :: l') := by
  refine ⟨by simp [hl.1],fun i hi => ?_⟩
  cases i with
  | zero => simpa using h
  | succ i => simpa using hl.2 i (by simpa using hi)
theorem LRel.head {m : BMap} {v v' : Value} {l l' : List Value} (h : LRel m (v :: l) (v' :: l')) : VRel m v v' := by
  simpa using h.2 0 (by simp)
theorem LRel.tail {m : BMap} {v v' : Value} {l l' : List Value} (h : LRel m (v :: l) (v' :: l')) : LRel m l l' := by
  refine ⟨by simpa using h.1,fun i hi => by simpa using h.2 (i + 1) (by simpa using hi)⟩
theorem LRel.ind {m : BMap} {l l' : List Value} (h : LRel m l l') : (l = [] ∧ l' = []) ∨ ∃ v v' r r',l = v :: r ∧ l' = v' :: r' ∧ VRel m v v' ∧ LRel m r r' := by
  cases l with
  | nil => cases l' with
    | nil => exact .inl ⟨rfl,rfl⟩
    | cons => simp [LRel] at h
  | cons v r => cases l' with
    | nil => simp [LRel] at h
    | cons v' r' => exact .inr ⟨v,v',r,r',rfl,rfl,h.head,h.tail⟩
theorem LRel.append {m : BMap} : ∀ {l l' r r' : List Value},LRel m l l' → LRel m r r' → LRel m (l ++ r) (l' ++ r') := by
  intro l
  induction l with
  | nil => intro l' r r' h hr; rcases h.ind with ⟨_,rfl⟩ | ⟨_,_,_,_,h,_⟩
           · exact hr
           · cases h
  | cons v l ih =>
    intro l' r r' h hr
    rcases h.ind with ⟨h,_⟩ | ⟨v,v',q,q',h1,rfl,hv,hq⟩
    · cases h
    · cases h1; exact LRel.cons hv (ih hq hr)
theorem LRel.get {m : BMap} {l l' : List Value} (h : LRel m l l') {i : Nat} {v : Value} (hi : l[i]? = some v) : ∃ v',l'[i]? = some v' ∧ VRel m v v' := by
  obtain ⟨hlt,he⟩ := List.getElem?_eq_some_iff.1 hi
  have hlt' : i < l'.length := h.1 ▸ hlt
  refine ⟨l'[i],by simp [hlt'], ?_⟩
  have := h.2 i hlt
  simp only [List.getD_eq_getElem?_getD,List.getElem?_eq_getElem hlt,List.getElem?_eq_getElem hlt',Option.getD_some,he] at this
  exact this
theorem LRel.of_get {m : BMap} {l l' : List Value} (hl : l.length = l'.length) (h : ∀ (i : Nat) v v',l[i]? = some v → l'[i]? = some v' → VRel m v v') : LRel m l l' := by
  refine ⟨hl,fun i hi => ?_⟩
  have hi' : i < l'.length := hl ▸ hi
  have := h i l[i] l'[i] (by simp [hi]) (by simp [hi'])
  simpa [List.getD_eq_getElem?_getD,List.getElem?_eq_getElem hi,List.getElem?_eq_getElem hi'] using this
theorem LRel.drop {m : BMap} {l l' : List Value} (h : LRel m l l') (n : Nat) : LRel m (l.drop n) (l'.drop n) :=
  LRel.of_get (by simp [h.1]) (fun i v v' h1 h2 => by
    rw [List.getElem?_drop] at h1 h2
    obtain ⟨u,hu,hr⟩ := h.get h1
    rw [hu] at h2; cases h2; exact hr)
theorem LRel.take {m : BMap} {l l' : List Value} (h : LRel m l l') (n : Nat) : LRel m (l.take n) (l'.take n) :=
  LRel.of_get (by simp [h.1]) (fun i v v' h1 h2 => by
    rw [List.getElem?_take] at h1 h2
    split at h1
    · rw [if_pos ‹_›] at h2
      obtain ⟨u,hu,hr⟩ := h.get h1
      rw [hu] at h2; cases h2; exact hr
    · cases h1)
theorem lrel_of_arr {m : BMap} {cs cs' : Array Value} (hs : cs.size = cs'.size) (h : ∀ i,i < cs.size → VRel m (cs.getD i Go.undef) (cs'.getD i Go.undef)) : LRel m cs.toList cs'.toList := by
  refine ⟨by simpa using hs,fun i hi => ?_⟩
  have hi1 : i < cs.size := by simpa using hi
  have hi2 : i < cs'.size := hs ▸ hi1
  simpa [List.getD_eq_getElem?_getD,Array.getD,hi1,hi2] using h i hi1
theorem arr_of_lrel {m : BMap} {l l' : List Value} (h : LRel m l l') : l.toArray.size = l'.toArray.size ∧ ∀ i,i < l.toArray.size → VRel m (l.toArray.getD i Go.undef) (l'.toArray.getD i Go.undef) := by
  refine ⟨by simpa using h.1,fun i hi => ?_⟩
  have hi1 : i < l.length := by simpa using hi
  have hi2 : i < l'.length := h.1 ▸ hi1
  simpa [List.getD_eq_getElem?_getD,Array.getD,hi1,hi2] using h.2 i hi1
theorem VRel.agg_of {m : BMap} {l l' : List Value} (h : LRel m l l') : VRel m (.agg l.toArray) (.agg l'.toArray) :=
  let ⟨h1,h2⟩ := arr_of_lrel h; .agg _ _ h1 h2
theorem VRel.tuple_of {m : BMap} {l l' : List Value} (h : LRel m l l') : VRel m (.tuple l.toArray) (.tuple l'.toArray) :=
  let ⟨h1,h2⟩ := arr_of_lrel h; .tuple _ _ h1 h2
section inv
variable {m : BMap} {v' : Value}
theorem VRel.inv_plain {v : Value} (h : VRel m v v') (hp : Abs.plain v = true) : v' = v := by
  cases h <;> first | rfl | simp [Abs.plain] at hp
theorem VRel.inv_plainV {v : Value} (h : VRel m v v') (hp : plainV v = true) : v' = v := by
  cases h with
  | agg cs cs' hs hh =>
    congr 1
    apply Array.ext hs.symm
    intro i h1 h2
    have h3 := hh i h2
    have hi : cs[i] ∈ cs.toList := by simp
    have hp1 := List.all_eq_true.1 hp _ hi
    simp only [Array.getD,h2,h1,dif_pos] at h3
    exact h3.inv_plain hp1
  | _ => first | rfl | (simp [plainV,Abs.plain] at hp)
theorem VRel.of_plainV {v : Value} (hp : plainV v = true) : VRel m v v := by
  cases v with
  | agg cs => exact .agg cs cs rfl (fun i hi => by
      have hp1 := List.all_eq_true.1 hp cs[i] (by simp)
      simp only [Array.getD,hi,dif_pos]
      exact .plain _ hp1)
  | _ => exact .plain _ (by simpa [plainV] using hp)
theorem VRel.inv_bool {b : Bool} (h : VRel m (.bool b) v') : v' = .bool b := h.inv_plain rfl
theorem VRel.inv_int {k : IntKind} {n : Int} (h : VRel m (.int k n) v') : v' = .int k n := h.inv_plain rfl
theorem VRel.inv_string {s : ByteArray} (h : VRel m (.string s) v') : v' = .string s := h.inv_plain rfl
theorem VRel.inv_snil {n c : Nat} (h : VRel m (.slice none n c) v') : v' = .slice none n c := h.inv_plain rfl
theorem VRel.inv_ptr {a : Addr} (h : VRel m (.pointer (some a)) v') : ∃ L,m a.block = some L ∧ a.spot = none ∧ v' = .pointer (some ⟨L.b,L.base + a.off,none⟩) := by
  cases h with
  | plain _ h => simp [Abs.plain] at h
  | ptr _ L hm hs => exact ⟨L,hm,hs,rfl⟩
theorem VRel.inv_map {a : Nat} (h : VRel m (.map (some a)) v') : ∃ L,m a = some L ∧ v' = .map (some L.b) := by
  cases h with
  | plain _ h => simp [Abs.plain] at h
  | map _ L hm => exact ⟨L,hm,rfl⟩
theorem VRel.inv_agg {cs : Array Value} (h : VRel m (.agg cs) v') : ∃ cs',v' = .agg cs' ∧ LRel m cs.toList cs'.toList := by
  cases h with
  | plain _ h => simp [Abs.plain] at h
  | agg _ cs' hs hh => exact ⟨cs',rfl,lrel_of_arr hs hh⟩
theorem VRel.inv_tuple {cs : Array Value} (h : VRel m (.tuple cs) v') : ∃ cs',v' = .tuple cs' ∧ LRel m cs.toList cs'.toList := by
  cases h with
  | plain _ h => simp [Abs.plain] at h
  | tuple _ cs' hs hh => exact ⟨cs',rfl,lrel_of_arr hs hh⟩
theorem VRel.inv_slice {a : Addr} {n c : Nat} (h : VRel m (.slice (some a) n c) v') : ∃ a' c',v' = .slice (some a') n c' ∧
    (n ≠ 0 ∨ c < roCap → ∃ L,m a.block = some L ∧ a.spot = none ∧ a' = ⟨L.b,L.base + a.off,none⟩ ∧ (c = unkCap → a.off = 0 ∧ c' = L.cap) ∧ (roCap < c → ∃ j,a.off = j * (c - roCap) ∧ c' + j = L.cap)) ∧ (c < unkCap → c' = c) ∧ (unkCap ≤ c → (c = unkCap ∨ roCap ≤ c) ∧ n ≤ c') := by
  have h12 : unkCap < roCap := by decide
  cases h with
  | plain _ h => simp [Abs.plain] at h
  | slice _ L _ _ hm hs hc => exact ⟨_,_,rfl,fun _ => ⟨L,hm,hs,rfl,fun e => by rw [e] at hc; exact absurd hc (Nat.lt_irrefl _),fun e => absurd (Nat.lt_trans hc (Nat.lt_trans h12 e)) (Nat.lt_irrefl _)⟩,fun _ => rfl,fun h => absurd hc (Nat.not_lt.2 h)⟩
  | unk _ L _ hm hs h0 hn => exact ⟨_,_,rfl,fun _ => ⟨L,hm,hs,by rw [h0,Nat.add_zero],fun _ => ⟨h0,rfl⟩,fun e => absurd (Nat.lt_trans e h12) (Nat.lt_irrefl _)⟩,fun h => absurd h (Nat.lt_irrefl _),fun _ => ⟨.inl rfl,hn⟩⟩
  | ro _ a' _ c' s hn hs => exact ⟨_,_,rfl,fun h => by
      have hn0 : n ≠ 0 := by
        rcases h with h | h
        · exact h
        · exact absurd (Nat.le_add_right roCap s) (Nat.not_le.2 h)
      obtain ⟨L,h1,h2,h3,h4⟩ := hs hn0
      refine ⟨L,h1,h2,h3,fun e => ?_,fun e => ?_⟩
      · exact absurd (Nat.le_add_right roCap s) (Nat.not_le.2 (by rw [e]; exact h12))
      · rw [Nat.add_sub_cancel_left]
        exact h4 (fun e0 => by rw [e0] at e; exact absurd e (Nat.lt_irrefl _)),fun h => absurd (Nat.le_trans (Nat.le_of_lt h12) (Nat.le_add_right _ s)) (Nat.not_le.2 h),fun _ => ⟨.inr (Nat.le_add_right _ _),hn⟩⟩
theorem VRel.inv_func {fn : Fn} {as bs : Array Value} (h : VRel m (.func fn as bs) v') : ∃ as' bs',v' = .func fn as' bs' ∧ LRel m as.toList as'.toList ∧ LRel m bs.toList bs'.toList := by
  cases h with
  | plain _ h => simp [Abs.plain] at h
  | func _ _ as' _ bs' ha hb hA hB => exact ⟨as',bs',rfl,lrel_of_arr ha (fun i _ => hA i),lrel_of_arr hb (fun i _ => hB i)⟩
theorem VRel.func_of {fn : Fn} {l l' r r' : List Value} (h : LRel m l l') (hr : LRel m r r') : VRel m (.func fn l.toArray r.toArray) (.func fn l'.toArray r'.toArray) := by
  have one : ∀ {l l' : List Value},LRel m l l' → ∀ i,VRel m (l.toArray.getD i Go.undef) (l'.toArray.getD i Go.undef) := fun {l l'} h i => by
    by_cases hi : i < l.length
    · exact (arr_of_lrel h).2 i (by simpa using hi)
    · have hi' : ¬ i < l'.length := h.1 ▸ hi
      simp [Array.getD,hi,hi']
      exact VRel.undef m
  exact .func fn _ _ _ _ (by simpa using h.1) (by simpa using hr.1) (one h) (one hr)
theorem VRel.oneCell {v : Value} (h : VRel m v v') : v'.oneCell' = v.oneCell' := by
  cases h <;> rfl
theorem VRel.cells {v : Value} (h : VRel m v v') : LRel m (vcells v) v'.cells.toList := by
  have one : ∀ {u u' : Value},VRel m u u' → LRel m [u] [u'] := fun h => LRel.cons h (LRel.nil m)
  cases h with
  | agg cs cs' hs hh => exact lrel_of_arr hs hh
  | plain _ h =>
    cases v' <;> first | exact one (.plain _ h) | simp [Abs.plain] at h
  | ptr a L hm hs => exact one (.ptr a L hm hs)
  | slice a L n c hm hs hc => exact one (.slice a L n c hm hs hc)
  | unk a L n hm hs h0 hn => exact one (.unk a L n hm hs h0 hn)
  | ro a a' n c' s hn hs => exact one (.ro a a' n c' s hn hs)
  | map a L hm => exact one (.map a L hm)
  | func fn as as' bs bs' ha hb hA hB => exact one (.func fn as as' bs bs' ha hb hA hB)
  | iface t v v' h => exact one (.iface t v v' h)
  | tuple cs cs' hs hh => exact one (.tuple cs cs' hs hh)
end inv
def BlkRel (P : Program) (m : BMap) (w : World) (B : Blk) (L : Loc) : Prop :=
  ∃ C e fr,w.heap[L.b]? = some (.cells C e fr) ∧ (B.wr = true → fr = (0,0)) ∧ L.base + B.cells.length ≤ C.size ∧
    (∀ i,i < B.cells.length → VRel m (B.cells.getD i undef) (C.getD (L.base + i) undef)) ∧
    (B.unk = true → B.wr = true ∧ C.size = L.base + L.cap * P.cellsOf B.elem)
structure ItRel (m : BMap) (h : AHeap) (w : World) : Prop where
  at_ : ∀ a x L,h.getIt a = some x → m a = some L → w.heap[L.b]? = some x.obj ∧ L.base = 0
  inj : ∀ a a' x x' L L',h.getIt a = some x → h.getIt a' = some x' → m a = some L → m a' = some L' → L.b = L'.b → a = a'
  wf : ∀ a,h.next ≤ a → h.getIt a = none
theorem ItRel.keep {m m' : BMap} {h h' : AHeap} {w w' : World} (r : ItRel m h w) (hi : h'.its = h.its) (hn : h.next ≤ h'.next) (hm : ∀ a L,m' a = some L → (h.getIt a).isSome = true → m a = some L)
    (hw : ∀ (r : Nat) (x : Oth),w.heap[r]? = some x.obj → w'.heap[r]? = some x.obj) : ItRel m' h' w' where
  at_ := fun a x L hx hL => by
    have hx' : h.getIt a = some x := by unfold AHeap.getIt at hx ⊢; rw [hi] at hx; exact hx
    obtain ⟨h1,h2⟩ := r.at_ a x L hx' (hm a L hL (by rw [hx']; rfl))
    exact ⟨hw _ _ h1,h2⟩
  inj := fun a a' x x' L L' hx hx' hL hL' he => by
    have e1 : h.getIt a = some x := by unfold AHeap.getIt at hx ⊢; rw [hi] at hx; exact hx
    have e2 : h.getIt a' = some x' := by unfold AHeap.getIt at hx' ⊢; rw [hi] at hx'; exact hx'
    exact r.inj a a' x x' L L' e1 e2 (hm a L hL (by rw [e1]; rfl)) (hm a' L' hL' (by rw [e2]; rfl)) he
  wf := fun a ha => by
    have := r.wf a (Nat.le_trans hn ha)
    unfold AHeap.getIt at this ⊢
    rw [hi]; exact this
structure Rel (P : Program) (m : BMap) (h : AHeap) (w : World) : Prop where
  lt : ∀ a L,m a = some L → L.b < w.heap.size
  fresh : ∀ a,h.next ≤ a → m a = none
  blk : ∀ a B L,h.get a = some B → m a = some L → BlkRel P m w B L
  inj : ∀ a a' B B' L L',h.get a = some B → h.get a' = some B' → m a = some L → m a' = some L' → L.b = L'.b → a ≠ a' → B.wr = false ∧ B'.wr = false
  glob : ∀ g,g < P.globals.size → m g = some ⟨g,0,0⟩
  wf : ∀ a,h.next ≤ a → h.get a = none
  its : ItRel m h w
structure Sim (m : BMap) (h : AHeap) (w : World) (m' : BMap) (h' : AHeap) (w' : World) : Prop where
  ext : ∀ a L,m a = some L → m' a = some L
  os : w'.os = w.os
  output : w'.output = w.output
  tape : w'.tape = w.tape
  size : w.heap.size ≤ w'.heap.size
  frame : ∀ r,r < w.heap.size → (∀ a B L,h.get a = some B → B.wr = true → m a = some L → h'.low ≤ a → L.b ≠ r) → (∀ a x L,h.getIt a = some x → m a = some L → h'.low ≤ a → L.b ≠ r) → w'.heap[r]? = w.heap[r]?
  img : ∀ a L,m' a = some L → m a = some L ∨ w.heap.size ≤ L.b ∨ ∃ a0 B0 L0,h.get a0 = some B0 ∧ B0.wr = true ∧ m a0 = some L0 ∧ L0.b = L.b ∧ h'.low ≤ a0
  low : h'.low ≤ h.low
  next : h.next ≤ h'.next
  newm : ∀ a,a < h.next → m' a = m a
  old : ∀ a,a < h.next → a < h'.low → h'.get a = h.get a
  dead : ∀ a,a < h.next → h.get a = none → h'.get a = none
  wrs : ∀ a B',a < h.next → h'.get a = some B' → ∃ B,h.get a = some B ∧ B.wr = B'.wr
  itd : ∀ a,a < h.next → h.getIt a = none → h'.getIt a = none
theorem Sim.refl (m : BMap) (h : AHeap) (w : World) : Sim m h w m h w where
  ext := fun _ _ h => h
  os := rfl
  output := rfl
  tape := rfl
  size := Nat.le_refl _
  frame := fun _ _ _ _ => rfl
  img := fun _ _ h => .inl h
  low := Nat.le_refl _
  next := Nat.le_refl _
  newm := fun _ _ => rfl
  old := fun _ _ _ => rfl
  dead := fun _ _ h => h
  wrs := fun _ B' _ h => ⟨B',h,rfl⟩
  itd := fun _ _ h => h
theorem Sim.trans {P : Program} {m m1 m2 : BMap} {h h1 h2 : AHeap} {w w1 w2 : World} (hr : Rel P m h w) (s1 : Sim m h w m1 h1 w1) (s2 : Sim m1 h1 w1 m2 h2 w2) : Sim m h w m2 h2 w2 where
  ext := fun a L hh => s2.ext a L (s1.ext a L hh)
  os := s2.os.trans s1.os
  output := s2.output.trans s1.output
  tape := s2.tape.trans s1.tape
  size := Nat.le_trans s1.size s2.size
  frame := fun r hlt hno hit => by
    have hl := s2.low
    have key : ∀ a x L,h1.getIt a = some x → m1 a = some L → h2.low ≤ a → L.b ≠ r := fun a x L hg hm ha => by
      rcases s1.img a L hm with h0 | h0 | ⟨a0,B0,L0,g0,w0,m0,e0,l0⟩
      · have hn : a < h.next := by
          rcases Nat.lt_or_ge a h.next with h' | h'
          · exact h'
          · rw [hr.fresh a h'] at h0; cases h0
        cases hx : h.getIt a with
        | none => rw [s1.itd a hn hx] at hg; cases hg
        | some y => exact hit a y L hx h0 ha
      · intro e; omega
      · rw [← e0]
        exact hno a0 B0 L0 g0 w0 m0 (Nat.le_trans hl l0)
    rw [s2.frame r (Nat.lt_of_lt_of_le hlt s1.size) (fun a B L hg hw hm ha => ?_) key,s1.frame r hlt (fun a B L hg hw hm ha => hno a B L hg hw hm (Nat.le_trans hl ha)) (fun a x L hg hm ha => hit a x L hg hm (Nat.le_trans hl ha))]
    rcases s1.img a L hm with h0 | h0 | ⟨a0,B0,L0,g0,w0,m0,e0,l0⟩
    · have hn : a < h.next := by
        rcases Nat.lt_or_ge a h.next with h' | h'
        · exact h'
        · rw [hr.fresh a h'] at h0; cases h0
      obtain ⟨B0,hg0,hw0⟩ := s1.wrs a B hn hg
      exact hno a B0 L hg0 (hw0.trans hw) h0 ha
    · intro e; omega
    · rw [← e0]
      exact hno a0 B0 L0 g0 w0 m0 (Nat.le_trans hl l0)
  img := fun a L hh => by
    have hl := s2.low
    rcases s2.img a L hh with h0 | h0 | ⟨a1,B1,L1,g1,w1',m1',e1,l1⟩
    · rcases s1.img a L h0 with h0 | h0 | ⟨a0,B0,L0,g0,w0,m0,e0,l0⟩
      · exact .inl h0
      · exact .inr (.inl h0)
      · exact .inr (.inr ⟨a0,B0,L0,g0,w0,m0,e0,Nat.le_trans hl l0⟩)
    · exact .inr (.inl (Nat.le_trans s1.size h0))
    · rcases s1.img a1 L1 m1' with h0 | h0 | ⟨a0,B0,L0,g0,w0,m0,e0,l0⟩
      · have hn : a1 < h.next := by
          rcases Nat.lt_or_ge a1 h.next with h' | h'
          · exact h'
          · rw [hr.fresh a1 h'] at h0; cases h0
        obtain ⟨B0,hg0,hw0⟩ := s1.wrs a1 B1 hn g1
        exact .inr (.inr ⟨a1,B0,L1,hg0,hw0.trans w1',h0,e1,l1⟩)
      · exact .inr (.inl (e1 ▸ h0))
      · exact .inr (.inr ⟨a0,B0,L0,g0,w0,m0,e0.trans e1,Nat.le_trans hl l0⟩)
  low := Nat.le_trans s2.low s1.low
  next := Nat.le_trans s1.next s2.next
  newm := fun a ha => (s2.newm a (Nat.lt_of_lt_of_le ha s1.next)).trans (s1.newm a ha)
  old := fun a ha hl => (s2.old a (Nat.lt_of_lt_of_le ha s1.next) hl).trans (s1.old a ha (Nat.lt_of_lt_of_le hl s2.low))
  dead := fun a ha hd => s2.dead a (Nat.lt_of_lt_of_le ha s1.next) (s1.dead a ha hd)
  wrs := fun a B' ha hg => by
    obtain ⟨B1,hg1,hw1⟩ := s2.wrs a B' (Nat.lt_of_lt_of_le ha s1.next) hg
    obtain ⟨B0,hg0,hw0⟩ := s1.wrs a B1 ha hg1
    exact ⟨B0,hg0,hw0.trans hw1⟩
  itd := fun a ha hd => s2.itd a (Nat.lt_of_lt_of_le ha s1.next) (s1.itd a ha hd)
theorem Sim.relow {m m' : BMap} {h h' : AHeap} {w w' : World} {k : Nat} (s : Sim m { h with low := k } w m' h' w') : Sim m h w m' { h' with low := Nat.min h.low h'.low } w' where
  ext := s.ext
  os := s.os
  output := s.output
  tape := s.tape
  size := s.size
  frame := fun r hlt hno hit => s.frame r hlt (fun a B L hg hw hm ha => hno a B L hg hw hm (Nat.le_trans (Nat.min_le_right _ _) ha)) (fun a x L hg hm ha => hit a x L hg hm (Nat.le_trans (Nat.min_le_right _ _) ha))
  img := fun a L hh => by
    rcases s.img a L hh with h0 | h0 | ⟨a0,B0,L0,g0,w0,m0,e0,l0⟩
    · exact .inl h0
    · exact .inr (.inl h0)
    · exact .inr (.inr ⟨a0,B0,L0,g0,w0,m0,e0,Nat.le_trans (Nat.min_le_right _ _) l0⟩)
  low := Nat.min_le_left _ _
  next := s.next
  newm := s.newm
  old := fun a ha hl => s.old a ha (Nat.lt_of_lt_of_le hl (Nat.min_le_right _ _))
  dead := s.dead
  wrs := s.wrs
  itd := s.itd
theorem Rel.relow {P : Program} {m : BMap} {h : AHeap} {w : World} (k : Nat) (r : Rel P m h w) : Rel P m { h with low := k } w :=
  ⟨r.lt,r.fresh,r.blk,r.inj,r.glob,r.wf,⟨r.its.at_,r.its.inj,r.its.wf⟩⟩
theorem BlkRel.mono {P : Program} {m m' : BMap} (hm : ∀ a L,m a = some L → m' a = some L) {w : World} {B : Blk} {L : Loc} (h : BlkRel P m w B L) : BlkRel P m' w B L :=
  let ⟨C,e,fr,h1,h2,h3,h4,h5⟩ := h; ⟨C,e,fr,h1,h2,h3,fun i hi => (h4 i hi).mono hm,h5⟩
theorem BlkRel.same {P : Program} {m : BMap} {w w' : World} {B : Blk} {L : Loc} (h : BlkRel P m w B L) (hw : w'.heap[L.b]? = w.heap[L.b]?) : BlkRel P m w' B L :=
  let ⟨C,e,fr,h1,h2,h3,h4,h5⟩ := h; ⟨C,e,fr,hw.trans h1,h2,h3,h4,h5⟩
theorem BlkRel.cells {P : Program} {m : BMap} {w : World} {B : Blk} {L : Loc} (h : BlkRel P m w B L) : ∃ cs : List Value,LRel m B.cells cs ∧ w.rangeAt L.b L.base cs := by
  obtain ⟨C,e,fr,h1,h2,h3,h4,h5⟩ := h
  refine ⟨(C.extract L.base (L.base + B.cells.length)).toList,LRel.of_get (by simp; omega) (fun i v v' hv hv' => ?_),World.rangeAt_of_block h1 _ _⟩
  obtain ⟨hi,he⟩ := List.getElem?_eq_some_iff.1 hv
  have := h4 i hi
  have hlt : L.base + i < C.size := by omega
  simp only [Array.getElem?_toList,Array.getElem?_extract] at hv'
  split at hv'
  · rw [Array.getElem?_eq_getElem hlt] at hv'
    simp only [List.getD_eq_getElem?_getD,List.getElem?_eq_getElem hi,Option.getD_some,Array.getD,hlt,dif_pos,he] at this
    cases hv'
    exact this
  · cases hv'
theorem takeN_some {n : Nat} {l r : List Value} (h : takeN n l = some r) : r = l.take n ∧ n ≤ l.length := by
  induction n generalizing l r with
  | zero => simp [takeN] at h; simp [← h]
  | succ n ih =>
    cases l with
    | nil => simp [takeN] at h
    | cons x l =>
      simp only [takeN] at h
      split at h
      · rename_i r' hr
        cases h
        obtain ⟨h1,h2⟩ := ih hr
        exact ⟨by simp [h1],by simpa using h2⟩
      · cases h
theorem spliceR_some {n : Nat} {acc vs l r : List Value} (h : spliceR n acc vs l = some r) : n + vs.length ≤ l.length ∧ r = acc.reverse ++ (l.take n ++ (vs ++ l.drop (n + vs.length))) := by
  induction n generalizing acc l with
  | zero =>
    simp only [spliceR] at h
    split at h
    · rename_i hb
      cases h
      exact ⟨by simpa using Nat.le_of_ble_eq_true hb,by simp [List.reverseAux_eq]⟩
    · cases h
  | succ n ih =>
    cases l with
    | nil => simp [spliceR] at h
    | cons x l =>
      obtain ⟨h1,h2⟩ := ih (acc := x :: acc) (by simpa [spliceR] using h)
      refine ⟨by simp; omega, ?_⟩
      rw [h2,show n + 1 + vs.length = (n + vs.length) + 1 by omega]
      simp
theorem splice_some {n : Nat} {vs l r : List Value} (h : splice n vs l = some r) : n + vs.length ≤ l.length ∧ r = l.take n ++ (vs ++ l.drop (n + vs.length)) := by
  simpa using spliceR_some h
end Go.Abs
namespace Go.Abs
def tget (ts : Tr Value) (t : Tmp) : Value :=
  match ts.get t with
  | some v => v
  | none => undef
structure TRel (m : BMap) (nt : Nat) (ts : Tr Value) (a : Act) : Prop where
  size : a.tmps.size = nt
  defers : a.defers = []
  val : ∀ t,VRel m (tget ts t) (a.tmps.getD t undef)
theorem TRel.mono {m m' : BMap} (hm : ∀ a L,m a = some L → m' a = some L) {nt : Nat} {ts : Tr Value} {a : Act} (h : TRel m nt ts a) : TRel m' nt ts a :=
  ⟨h.size,h.defers,fun t => (h.val t).mono hm⟩
theorem tget_set (ts : Tr Value) (d t : Tmp) (v : Value) : tget (ts.set d v) t = if t = d then v else tget ts t := by
  simp only [tget,Tr.get_set]
  split <;> rename_i h <;> split at h <;> simp_all
theorem TRel.put {m : BMap} {nt : Nat} {ts ts' : Tr Value} {a : Act} {v v' : Value} {dst : Option Tmp} (h : TRel m nt ts a) (hp : putA nt ts dst v = some ts') (hv : VRel m v v') : TRel m nt ts' (a.put dst v') := by
  cases dst with
  | none => cases hp; exact h
  | some d =>
    simp only [putA] at hp
    split at hp
    · rename_i hb
      cases hp
      have hd : d < nt := by simpa [Nat.blt_eq] using hb
      refine ⟨by simpa [Act.put] using h.size,h.defers,fun t => ?_⟩
      rw [tget_set]
      have := h.val t
      have hs := h.size
      by_cases e : t = d
      · subst e
        simp [Act.put,Array.getD,hs,hd,hv]
      · rw [if_neg e]
        simp only [Act.put,Array.getD_eq_getD_getElem?]
        rw [Array.getElem?_setIfInBounds_ne (Ne.symm e),← Array.getD_eq_getD_getElem?]
        exact this
    · cases hp
section
variable {P : Program} {m : BMap} {nt : Nat} {ts : Tr Value} {a : Act}
theorem ev_rel (hT : TRel m nt ts a) (hg : ∀ g,g < P.globals.size → m g = some ⟨g,0,0⟩) {x : Operand} {v : Value} (h : ev P ts x = some v) : VRel m v (a.eval x) := by
  cases x with
  | tmp t =>
    have : v = tget ts t := by
      simp only [ev] at h
      unfold tget
      split at h <;> simp_all
    rw [this]
    exact hT.val t
  | const c =>
    simp only [ev] at h
    split at h
    · cases h; exact .plain _ ‹_›
    · cases h
  | global g =>
    simp only [ev] at h
    split at h
    · rename_i hb
      cases h
      have := VRel.ptr (m := m) ⟨g,0,none⟩ ⟨g,0,0⟩ (hg g (by simpa [Nat.blt_eq] using hb)) rfl
      simpa [Act.eval] using this
    · cases h
  | func f =>
    cases h
    exact VRel.func_of (LRel.nil m) (LRel.nil m)
theorem evs_rel (hT : TRel m nt ts a) (hg : ∀ g,g < P.globals.size → m g = some ⟨g,0,0⟩) : ∀ {l : List Operand} {vs : List Value},evs P ts l = some vs → LRel m vs (l.map a.eval)
  | [],vs,h => by cases h; exact LRel.nil m
  | x :: l,vs,h => by
    simp only [evs] at h
    split at h
    · rename_i v hv
      split at h
      · rename_i us hus
        cases h
        exact LRel.cons (ev_rel hT hg hv) (evs_rel hT hg hus)
      · cases h
    · cases h
def PRel (m : BMap) : List (Nat × Value) → List (Nat × Value) → Prop
  | [],[] => True
  | (i,v) :: l,(j,u) :: r => i = j ∧ VRel m v u ∧ PRel m l r
  | _,_ => False
theorem evParts_rel (hT : TRel m nt ts a) (hg : ∀ g,g < P.globals.size → m g = some ⟨g,0,0⟩) : ∀ {l : List (Nat × Operand)} {vs : List (Nat × Value)},evParts P ts l = some vs → PRel m vs (l.map fun (i,x) => (i,a.eval x))
  | [],vs,h => by cases h; trivial
  | (i,x) :: l,vs,h => by
    simp only [evParts] at h
    split at h
    · rename_i v hv
      split at h
      · rename_i us hus
        cases h
        exact ⟨rfl,ev_rel hT hg hv,evParts_rel hT hg hus⟩
      · cases h
    · cases h
theorem optEv_rel (hT : TRel m nt ts a) (hg : ∀ g,g < P.globals.size → m g = some ⟨g,0,0⟩) {x : Option Operand} {v : Option Value} (h : optEv P ts x = some v) : x.map a.eval = v := by
  cases x with
  | none => cases h; rfl
  | some x =>
    simp only [optEv] at h
    split at h
    · rename_i u hu
      split at h
      · rename_i hp
        cases h
        rw [Option.map_some,(ev_rel hT hg hu).inv_plain hp]
      · cases h
    · cases h
theorem prun_run {α : Type} (s : Sem α) (x : α) (w : World) (h : prun P s = some x) : s.run P w = .ok x w := by
  induction s with
  | pure a => cases h; rfl
  | program k ih => exact ih P h
  | mark _ k ih => exact ih h
  | _ => cases h
theorem prunP_run {s : Sem Value} {v : Value} (w : World) (h : prunP P s = some v) : s.run P w = .ok v w ∧ plain v = true := by
  simp only [prunP] at h
  split at h
  · rename_i u hu
    split at h
    · cases h; exact ⟨prun_run s _ w hu,‹_›⟩
    · cases h
  · cases h
theorem LRel.set {l l' : List Value} (h : LRel m l l') (i : Nat) {v v' : Value} (hv : VRel m v v') : LRel m (l.set i v) (l'.set i v') :=
  LRel.of_get (by simp [h.1]) (fun j u u' h1 h2 => by
    rw [List.getElem?_set] at h1 h2
    split at h1
    · rw [if_pos ‹_›] at h2
      split at h1
      · split at h2
        · cases h1; cases h2; exact hv
        · cases h2
      · cases h1
    · rw [if_neg ‹_›] at h2
      obtain ⟨q,hq,hr⟩ := h.get h1
      rw [hq] at h2; cases h2; exact hr)
theorem foldl_set_rel (off : Nat) : ∀ {l l' : List Value} (_ : LRel m l l') (k : Nat) {cs cs' : Array Value} (_ : LRel m cs.toList cs'.toList),
    LRel m ((l.zipIdx k).foldl (fun cs (c,j) => cs.setIfInBounds (off + j) c) cs).toList ((l'.zipIdx k).foldl (fun cs (c,j) => cs.setIfInBounds (off + j) c) cs').toList := by
  intro l
  induction l with
  | nil => intro l' h k cs cs' hc; rcases h.ind with ⟨_,rfl⟩ | ⟨_,_,_,_,h,_⟩
           · exact hc
           · cases h
  | cons v l ih =>
    intro l' h k cs cs' hc
    rcases h.ind with ⟨h,_⟩ | ⟨v,v',q,q',h1,rfl,hv,hq⟩
    · cases h
    · cases h1
      simp only [List.zipIdx_cons,List.foldl_cons]
      refine ih hq (k + 1) ?_
      rw [Array.toList_setIfInBounds,Array.toList_setIfInBounds]
      exact hc.set _ hv
theorem cells_toList (v : Value) : v.cells.toList = vcells v := by cases v <;> rfl
theorem VRel.cells' {v v' : Value} (h : VRel m v v') : LRel m v.cells.toList v'.cells.toList := by
  rw [cells_toList v]; exact h.cells
theorem fill_rel (place : Nat → Option (Nat × Nat)) : ∀ {ps ps' : List (Nat × Value)} (_ : PRel m ps ps') {cs cs' out : Array Value} (_ : LRel m cs.toList cs'.toList),
    Instr.fill place cs ps = some out → ∃ out',Instr.fill place cs' ps' = some out' ∧ LRel m out.toList out'.toList := by
  intro ps
  induction ps with
  | nil => intro ps' h cs cs' out hc ho
           cases ps' with
           | nil => cases ho; exact ⟨cs',rfl,hc⟩
           | cons _ _ => exact h.elim
  | cons p ps ih =>
    obtain ⟨i,v⟩ := p
    intro ps' h cs cs' out hc ho
    cases ps' with
    | nil => exact h.elim
    | cons p' ps' =>
      obtain ⟨j,u⟩ := p'
      obtain ⟨rfl,hv,hr⟩ := h
      simp only [Instr.fill] at ho ⊢
      cases hp : place i with
      | none => simp [hp] at ho
      | some q =>
        obtain ⟨off,size⟩ := q
        simp only [hp] at ho ⊢
        have e1 : u.cells.size = v.cells.size := by have := hv.cells'.1; simpa using this.symm
        have e2 : cs'.size = cs.size := by have := hc.1; simpa using this.symm
        rw [e1,e2]
        split at ho
        · cases ho
        · rename_i hn
          rw [if_neg hn]
          refine ih hr ?_ ho
          rw [← Array.foldl_toList,← Array.foldl_toList,Array.toList_zipIdx,Array.toList_zipIdx]
          exact foldl_set_rel off hv.cells' 0 hc
theorem built_rel {t : TypeId} {ps ps' : List (Nat × Value)} (hp : PRel m ps ps') {out : Array Value} {i : TypeInfo} {z : Value} (hi : P.info? t = some i) (hz : i.zero = some z) (hpl : plainV z = true)
    (h : P.built t ps = some out) : ∃ out',P.built t ps' = some out' ∧ LRel m out.toList out'.toList := by
  have hzz : LRel m z.cells.toList z.cells.toList := (VRel.of_plainV (m := m) hpl).cells'
  unfold Program.built at h ⊢
  split at h
  · rename_i it n e h1 h2
    cases h1.symm.trans hi
    simp only [hz] at h
    cases he : P.info? e with
    | none => simp [he] at h
    | some ie =>
      simp only [he] at h
      obtain ⟨out',ho,hr⟩ := fill_rel _ hp hzz h
      exact ⟨out',by simp only [hi,h2,hz,he,ho],hr⟩
  · rename_i it fs h1 h2
    cases h1.symm.trans hi
    simp only [hz] at h
    cases hpl : fs.toList.mapM (fun f => (P.info? f.type).map fun i => (f.offset,i.size)) with
    | none => simp [hpl] at h
    | some places =>
      simp only [hpl] at h
      obtain ⟨out',ho,hr⟩ := fill_rel _ hp hzz h
      exact ⟨out',by simp only [hi,h2,hz,hpl,ho],hr⟩
  · cases h
end
section
variable {P : Program} {m : BMap} {h : AHeap} {w : World}
theorem rangeAt_sub {w : World} {b o : Nat} {cs : List Value} (hr : w.rangeAt b o cs) (k n : Nat) : w.rangeAt b (o + k) ((cs.drop k).take n) := fun j v hv => by
  rw [List.getElem?_take] at hv
  split at hv
  · rw [List.getElem?_drop] at hv
    have := hr (k + j) v hv
    rwa [show o + (k + j) = o + k + j by omega] at this
  · cases hv
theorem live_cells (hR : Rel P m h w) {a : Addr} {L : Loc} {B : Blk} (hm : m a.block = some L) (hg : h.get a.block = some B) :
    ∃ cs : List Value,LRel m B.cells cs ∧ w.rangeAt L.b L.base cs := (hR.blk _ _ _ hg hm).cells
theorem isRowT_some {t : TypeId} {b : Bool} (hr : isRowT P t = some b) : ∃ d,P.underlying t = some d ∧ d.isRow = b := by
  unfold isRowT at hr
  cases hu : P.underlying t with
  | none => simp [hu] at hr
  | some d => cases d <;> simp [hu] at hr <;> exact ⟨_,rfl,by simp [TypeDesc.isRow,← hr]⟩
theorem cellsAt_rel (hR : Rel P m h w) {a : Addr} {L : Loc} {n : Nat} {vs : List Value} (hm : m a.block = some L) (hc : cellsAt h a n = some vs) :
    ∃ cs : List Value,LRel m vs cs ∧ w.rangeAt L.b (L.base + a.off) cs ∧ vs.length = n := by
  unfold cellsAt at hc
  split at hc
  · rename_i B hg
    obtain ⟨cs,h1,h2⟩ := live_cells hR hm hg
    obtain ⟨h3,h4⟩ := takeN_some hc
    refine ⟨(cs.drop a.off).take n, ?_,rangeAt_sub h2 a.off n,by rw [h3]; simp at h4 ⊢; omega⟩
    rw [h3]
    exact (h1.drop a.off).take n
  · cases hc
theorem aload_rel (hR : Rel P m h w) {t : TypeId} {p p' v : Value} (hp : VRel m p p') (hl : aload P t p h = some v) :
    ∃ v',(Instr.loadAt t p').run P w = .ok v' w ∧ VRel m v v' := by
  unfold aload at hl
  split at hl
  · rename_i a
    obtain ⟨L,hm,hs,rfl⟩ := hp.inv_ptr
    split at hl
    · rename_i B hg
      obtain ⟨cs,hcs,hrange⟩ := live_cells hR hm hg
      split at hl
      · rename_i hrow
        obtain ⟨d,hu,hd⟩ := isRowT_some hrow
        split at hl
        · rename_i i hi
          split at hl
          · rename_i vs hvs
            cases hl
            obtain ⟨h3,h4⟩ := takeN_some hvs
            have hrel : LRel m vs ((cs.drop a.off).take i.size) := by rw [h3]; exact (hcs.drop a.off).take i.size
            refine ⟨.agg ((cs.drop a.off).take i.size).toArray, ?_,VRel.agg_of hrel⟩
            refine run_loadAt_mid w L.b (L.base + a.off) t _ d (rangeAt_sub hrange a.off i.size) hu hd ?_
            rw [hi]
            have e1 : vs.length = i.size := by rw [h3]; simp at h4 ⊢; omega
            simp only [Option.map_some,← hrel.1,e1]
          · cases hl
        · cases hl
      · rename_i hrow
        obtain ⟨d,hu,hd⟩ := isRowT_some hrow
        obtain ⟨v',hv',hr⟩ := hcs.get hl
        refine ⟨v', ?_,hr⟩
        have hcell := hrange a.off v' hv'
        have hagg : (isAgg t).run P w = .ok false w := by
          unfold isAgg
          rw [Sem.run_bind,run_underlying hu w]
          cases d <;> simp_all
        simp only [Instr.loadAt,Instr.sureAddr,Sem.run_bind,Sem.run_pure,Result.andThen_ok,loadVar,hagg,Bool.false_eq_true,if_false,run_load,hcell]
      · cases hl
    · cases hl
  · cases hl
theorem apart'_rel {t : TypeId} {cs cs' : List Value} {off : Nat} {v : Value} (hc : LRel m cs cs') (hl : apart' P t cs off = some v) :
    ∃ v',(part t cs'.toArray off).run P w = .ok v' w ∧ VRel m v v' := by
  unfold apart' at hl
  split at hl
  · rename_i hrow
    obtain ⟨d,hu,hd⟩ := isRowT_some hrow
    split at hl
    · rename_i i hi
      split at hl
      · rename_i vs hvs
        cases hl
        obtain ⟨h3,h4⟩ := takeN_some hvs
        have hagg : (isAgg t).run P w = .ok true w := by
          unfold isAgg
          rw [Sem.run_bind,run_underlying hu w]
          cases d <;> simp_all
        refine ⟨.agg (cs'.toArray.extract off (off + i.size)), ?_, ?_⟩
        · simp [part,hagg,sizeOf,typeInfo,hi]
        · have hrel : LRel m vs ((cs'.drop off).take i.size) := by rw [h3]; exact (hc.drop off).take i.size
          have e : cs'.toArray.extract off (off + i.size) = ((cs'.drop off).take i.size).toArray := by
            apply Array.ext'
            simp [List.extract_eq_take_drop]
          rw [e]
          exact VRel.agg_of hrel
      · cases hl
    · cases hl
  · rename_i hrow
    obtain ⟨d,hu,hd⟩ := isRowT_some hrow
    obtain ⟨v',hv',hr⟩ := hc.get hl
    have hagg : (isAgg t).run P w = .ok false w := by
      unfold isAgg
      rw [Sem.run_bind,run_underlying hu w]
      cases d <;> simp_all
    exact ⟨v',by simp [part,hagg,hv'],hr⟩
  · cases hl
end
end Go.Abs
namespace Go.Abs
section
variable {P : Program} {m : BMap} {h : AHeap} {w : World}
theorem add_lit (b o k : Nat) : (⟨b,o,none⟩ : Addr).add k = ⟨b,o + k,none⟩ := by
  unfold Addr.add; split <;> simp_all
theorem add_block (a : Addr) (k : Nat) : (a.add k).block = a.block := by unfold Addr.add; split <;> rfl
theorem add_off (a : Addr) (k : Nat) : (a.add k).off = a.off + k := by unfold Addr.add; split <;> simp_all
theorem add_spot (a : Addr) (k : Nat) (hs : a.spot = none) : (a.add k).spot = none := by unfold Addr.add; split <;> simp_all
theorem natOf_some {lo hi n : Nat} {v : Value} (hv : natOf lo hi v = some n) : ∃ k,v = .int k (n : Int) ∧ n ≤ hi := by
  unfold natOf at hv
  split at hv
  · rename_i k q
    split at hv
    · rename_i hb
      cases hv
      simp only [Bool.and_eq_true] at hb
      exact ⟨k,rfl,Nat.le_of_ble_eq_true hb.2⟩
    · cases hv
  · cases hv
theorem natOfO_some {lo hi d n : Nat} {v : Option Value} (hv : natOfO lo hi d v = some n) : (v = none ∧ n = d) ∨ ∃ k,v = some (.int k (n : Int)) ∧ n ≤ hi := by
  cases v with
  | none => cases hv; exact .inl ⟨rfl,rfl⟩
  | some v => obtain ⟨k,h1,h2⟩ := natOf_some hv; exact .inr ⟨k,by rw [h1],h2⟩
theorem run_sliceBound (k : IntKind) (n y : Nat) (code : BoundsCode) (hn : n ≤ y) : (Instr.sliceBound (.int k (n : Int)) y code).run P w = .ok n w := by
  have h1 : (0 : Int) ≤ (n : Int) ∧ (n : Int) ≤ (y : Int) := by omega
  simp [Instr.sliceBound,asIntOf,h1]
theorem run_sliceBounds (isSlice : Bool) (len cap : Nat) {lo hi mx : Option Value} {l hh mm : Nat}
    (hm : (mx = none ∧ mm = cap) ∨ ∃ k,mx = some (.int k (mm : Int)) ∧ mm ≤ cap)
    (hh' : (hi = none ∧ mx = none ∧ hh = len) ∨ ∃ k,hi = some (.int k (hh : Int)) ∧ hh ≤ mm)
    (hl : (lo = none ∧ l = 0) ∨ ∃ k,lo = some (.int k (l : Int)) ∧ l ≤ hh) :
    (Instr.sliceBounds isSlice len cap lo hi mx).run P w = .ok (l,hh,mm) w := by
  unfold Instr.sliceBounds
  rcases hm with ⟨rfl,rfl⟩ | ⟨k,rfl,hle⟩
  · rcases hh' with ⟨rfl,_,rfl⟩ | ⟨k2,rfl,hle2⟩ <;> rcases hl with ⟨rfl,rfl⟩ | ⟨k3,rfl,hle3⟩ <;> simp [run_sliceBound, *]
  · rcases hh' with ⟨rfl,h0,rfl⟩ | ⟨k2,rfl,hle2⟩
    · cases h0
    · rcases hl with ⟨rfl,rfl⟩ | ⟨k3,rfl,hle3⟩ <;> simp [run_sliceBound, *]
theorem hiOk_some {hi mx : Option Value} (h : hiOk hi mx = true) (hn : hi = none) : mx = none := by
  subst hn; cases mx <;> simp_all [hiOk]
theorem pickB_beq {α : Type} (x y : Nat) (p q : α) : pickB (Nat.beq x y) p q = if x = y then p else q := by
  unfold pickB
  cases hb : Nat.beq x y with
  | true => simp [Nat.eq_of_beq_eq_true hb]
  | false => have := Nat.ne_of_beq_eq_false hb; simp [this]
theorem aslice_rel {size len cap : Nat} {a : Option Addr} {lo hi mx : Option Value} {u v' : Value} (isSlice : Bool) (hv : VRel m (.slice a len cap) v')
    (hs : aslice size a len cap lo hi mx = some u) : ∃ a' cap' l hh mm,v' = .slice a' len cap' ∧ (Instr.sliceBounds isSlice len cap' lo hi mx).run P w = .ok (l,hh,mm) w ∧
      VRel m u (.slice (if mm = l then a' else a'.map (·.add (l * size))) (hh - l) (mm - l)) := by
  unfold aslice at hs
  split at hs
  · rename_i hc
    have hc' : cap < unkCap := by simpa [Nat.blt_eq] using hc
    split at hs
    · rename_i mm hmm
      split at hs
      · rename_i hh hhh
        split at hs
        · rename_i l hl
          split at hs
          case h_2 => cases hs
          rename_i hle0
          simp only [Bool.and_eq_true] at hle0
          have hle' := Nat.le_of_ble_eq_true hle0.1
          have b1 := natOfO_some hmm
          have b2 := natOfO_some hhh
          have b3 := natOfO_some hl
          have b2' : (hi = none ∧ mx = none ∧ hh = len) ∨ ∃ k,hi = some (.int k (hh : Int)) ∧ hh ≤ mm := by
            rcases b2 with ⟨e1,e2⟩ | e
            · exact .inl ⟨e1,hiOk_some hle0.2 e1,e2⟩
            · exact .inr e
          have hl' : l ≤ hh := by rcases b3 with ⟨_,e⟩ | ⟨_,_,e⟩ <;> omega
          have hm' : mm ≤ cap := by rcases b1 with ⟨_,e⟩ | ⟨_,_,e⟩ <;> omega
          rw [pickB_beq] at hs
          cases hs
          cases a with
          | none =>
            obtain rfl := hv.inv_snil
            refine ⟨none,cap,l,hh,mm,rfl,run_sliceBounds isSlice len cap b1 b2' b3, ?_⟩
            simp only [Option.map_none,ite_self]
            exact .plain _ rfl
          | some a =>
            obtain ⟨a',c',rfl,h1,h2,_⟩ := hv.inv_slice
            obtain rfl := h2 hc'
            obtain ⟨L,hm,hsp,rfl,_⟩ := h1 (.inr (Nat.lt_trans hc' (by decide)))
            refine ⟨_,_,l,hh,mm,rfl,run_sliceBounds isSlice len c' b1 b2' b3, ?_⟩
            split
            · exact .slice a L _ _ hm hsp (by omega)
            · simp only [Option.map_some,add_lit]
              have := VRel.slice (m := m) (a.add (l * size)) L (hh - l) (mm - l) (by rw [add_block]; exact hm) (add_spot _ _ hsp) (by omega)
              rwa [add_off,← Nat.add_assoc] at this
        · cases hs
      · cases hs
    · cases hs
  · rename_i hc
    have hc' : unkCap ≤ cap := by
      rcases Nat.lt_or_ge cap unkCap with h' | h'
      · have : Nat.blt cap unkCap = true := by rw [Nat.blt_eq]; exact h'
        rw [hc] at this; cases this
      · exact h'
    split at hs
    · cases hs
    · rename_i a
      obtain ⟨a',c',rfl,h1,_,h3⟩ := hv.inv_slice
      obtain ⟨hk,hn⟩ := h3 hc'
      split at hs
      · split at hs
        · rename_i hh hhh
          split at hs
          · rename_i l hl
            have b2 := natOfO_some hhh
            have b3 := natOfO_some hl
            have hlen : hh ≤ len := by rcases b2 with ⟨_,e⟩ | ⟨_,_,e⟩ <;> omega
            have b2' : (hi = none ∧ (none : Option Value) = none ∧ hh = len) ∨ ∃ k,hi = some (.int k (hh : Int)) ∧ hh ≤ c' := by
              rcases b2 with ⟨e1,e2⟩ | ⟨k,e1,e2⟩
              · exact .inl ⟨e1,rfl,e2⟩
              · exact .inr ⟨k,e1,by omega⟩
            have hl' : l ≤ hh := by rcases b3 with ⟨_,e⟩ | ⟨_,_,e⟩ <;> omega
            have hrun := run_sliceBounds (P := P) (w := w) isSlice len c' (mx := none) (.inl ⟨rfl,rfl⟩) b2' b3
            refine ⟨_,_,l,hh,c',rfl,hrun, ?_⟩
            split at hs
            · rename_i hl0
              have hl0' : l = 0 := Nat.eq_of_beq_eq_true hl0
              subst hl0'
              cases hs
              simp only [Nat.zero_mul,Option.map_some,Nat.sub_zero]
              have e0 : (if c' = 0 then some a' else some (a'.add 0)) = some a' := by simp [Addr.add]
              rw [e0]
              rcases hk with rfl | hk
              · obtain ⟨L,hm,hsp,rfl,hu,_⟩ := h1 (.inr (by decide))
                obtain ⟨h0,rfl⟩ := hu rfl
                rw [h0]
                exact .unk a L hh hm hsp h0 (by omega)
              · obtain ⟨s0,rfl⟩ := Nat.exists_eq_add_of_le hk
                refine .ro a a' hh c' s0 (by omega) (fun hne => ?_)
                obtain ⟨L,hm,hsp,he,_,hj⟩ := h1 (.inl (by omega))
                refine ⟨L,hm,hsp,he,fun hs0 => ?_⟩
                have := hj (by omega)
                rwa [Nat.add_sub_cancel_left] at this
            · cases hs
              rcases Nat.lt_or_ge l hh with hlt | hge
              · have hne : ¬ c' = l := by omega
                rw [if_neg hne]
                obtain ⟨L,hm,hsp,rfl,hu,hj⟩ := h1 (.inl (by omega))
                simp only [Option.map_some,add_lit]
                have fin : ∀ s0,(s0 ≠ 0 → ∃ j,a.off + l * size = j * s0 ∧ c' - l + j = L.cap) → VRel m (.slice (some (a.add (l * size))) (hh - l) (roCap + s0)) (.slice (some ⟨L.b,L.base + a.off + l * size,none⟩) (hh - l) (c' - l)) := fun s0 h0 => by
                  refine .ro _ _ _ _ s0 (by omega) (fun _ => ⟨L,by rw [add_block]; exact hm,add_spot _ _ hsp, ?_,fun hs0 => ?_⟩)
                  · rw [add_off,Nat.add_assoc]
                  · rw [add_off]; exact h0 hs0
                unfold subCap
                split
                · rename_i hb
                  obtain ⟨h0,hc0⟩ := hu (Nat.eq_of_beq_eq_true hb)
                  exact fin size fun _ => ⟨l,by rw [h0,Nat.zero_add],by omega⟩
                · split
                  · rename_i hb
                    have hb := Nat.eq_of_beq_eq_true hb
                    refine fin size fun hs0 => ?_
                    obtain ⟨j,j1,j2⟩ := hj (by omega)
                    rw [hb,Nat.add_sub_cancel_left] at j1
                    exact ⟨j + l,by rw [j1,Nat.add_mul],by omega⟩
                  · exact fin 0 fun h => absurd rfl h
              · have e : hh - l = 0 := by omega
                rw [e]
                obtain ⟨s0,hs0⟩ : ∃ s0,subCap cap size = roCap + s0 := by
                  unfold subCap
                  split
                  · exact ⟨size,rfl⟩
                  · split
                    · exact ⟨size,rfl⟩
                    · exact ⟨0,rfl⟩
                rw [hs0]
                split
                · exact .ro _ _ _ _ _ (Nat.zero_le _) (fun hne => absurd rfl hne)
                · exact .ro _ _ _ _ _ (Nat.zero_le _) (fun hne => absurd rfl hne)
          · cases hs
        · cases hs
      · rename_i v
        split at hs
        · rename_i mm hmm hlen
          split at hs
          · rename_i hh hhh
            split at hs
            · rename_i l hl
              split at hs
              · rename_i hv0
                rw [pickB_beq] at hs
                cases hs
                simp only [Bool.and_eq_true,Nat.blt_eq] at hlen
                obtain ⟨k,rfl,hle⟩ := natOf_some hmm
                have b2 := natOfO_some hhh
                have b3 := natOfO_some hl
                have b2' : (some hv0 = none ∧ some (Value.int k (mm : Int)) = none ∧ hh = len) ∨ ∃ k,some hv0 = some (.int k (hh : Int)) ∧ hh ≤ mm := by
                  rcases b2 with ⟨e1,_⟩ | e
                  · cases e1
                  · exact .inr e
                have hl' : l ≤ hh := by rcases b3 with ⟨_,e⟩ | ⟨_,_,e⟩ <;> omega
                have hrun := run_sliceBounds (P := P) (w := w) isSlice len c' (.inr ⟨k,rfl,by omega⟩) b2' b3
                refine ⟨_,_,l,hh,mm,rfl,hrun, ?_⟩
                obtain ⟨L,hm,hsp,rfl,_⟩ := h1 (.inl (by omega))
                split
                · exact .slice a L _ _ hm hsp (by omega)
                · simp only [Option.map_some,add_lit]
                  have := VRel.slice (m := m) (a.add (l * size)) L (hh - l) (mm - l) (by rw [add_block]; exact hm) (add_spot _ _ hsp) (by omega)
                  rwa [add_off,← Nat.add_assoc] at this
              · cases hs
            · cases hs
          · cases hs
        · cases hs
theorem intIn_some {n k : Nat} {v : Value} (hv : intIn n v = some k) : ∃ kd,v = .int kd (k : Int) ∧ k < n := by
  unfold intIn at hv
  split at hv
  · rename_i kd q
    split at hv
    · rename_i hb
      cases hv
      exact ⟨kd,rfl,by rw [Nat.blt_eq] at hb; exact hb⟩
    · cases hv
  · cases hv
theorem VRel.inv_iface {t : TypeId} {v v' : Value} (h : VRel m (.iface t v) v') : ∃ u,v' = .iface t u ∧ VRel m v u := by
  cases h with
  | plain _ h => simp [Abs.plain] at h
  | iface _ _ u h => exact ⟨u,rfl,h⟩
theorem nilEq_some {d : TypeDesc} {x y x' y' : Value} {r : Bool} (hx : VRel m x x') (hy : VRel m y y') (h : nilEq d x y = some r) : nilEq d x' y' = some r := by
  unfold nilEq at h
  split at h <;> cases h
  · obtain ⟨_,_,rfl,_⟩ := hx.inv_slice
    obtain rfl := hy.inv_snil
    rfl
  · obtain ⟨_,_,rfl,_⟩ := hy.inv_slice
    obtain rfl := hx.inv_snil
    rfl
  · obtain ⟨_,_,rfl,_⟩ := hx.inv_func
    obtain rfl := hy.inv_plain rfl
    rfl
  · obtain ⟨_,_,rfl,_⟩ := hy.inv_func
    obtain rfl := hx.inv_plain rfl
    rfl
  · obtain ⟨_,_,_,rfl⟩ := hx.inv_ptr
    obtain rfl := hy.inv_plain rfl
    rfl
  · obtain ⟨_,_,_,rfl⟩ := hy.inv_ptr
    obtain rfl := hx.inv_plain rfl
    rfl
  · obtain ⟨_,rfl,_⟩ := VRel.inv_iface hx
    obtain rfl := hy.inv_plain rfl
    rfl
  · obtain ⟨_,rfl,_⟩ := VRel.inv_iface hy
    obtain rfl := hx.inv_plain rfl
    rfl
theorem run_equalIn_nil {t : TypeId} {d : TypeDesc} {x y : Value} {r : Bool} (n : Nat) (hu : P.underlying t = some d) (h : nilEq d x y = some r) :
    (Op.equalIn (n + 1) t x y).run P w = .ok r w := by
  unfold nilEq at h
  split at h <;> cases h <;> unfold Op.equalIn <;> simp [run_underlying hu]
theorem run_equal_nil {t : TypeId} {d : TypeDesc} {x y : Value} {r : Bool} (hu : P.underlying t = some d) (h : nilEq d x y = some r) :
    (Op.equal t x y).run P w = .ok r w := run_equalIn_nil 9999 hu h
theorem run_nilEq {op : BinOp} {t : TypeId} {X Y : Operand} {d : TypeDesc} {x y : Value} {r : Bool} (hu : P.underlying t = some d) (h : nilEq d x y = some r) (ho : op = .eql ∨ op = .neq) :
    (do eqGuard op t X Y x y; binOp op t x y : Sem Value).run P w = .ok (.bool (match op with | .eql => r | _ => !r)) w := by
  have he := run_equal_nil (w := w) hu h
  have hg : eqGuard op t X Y x y = pure () := by
    unfold nilEq at h
    split at h <;> (try (cases h; done)) <;> rcases ho with rfl | rfl <;> rfl
  rcases ho with rfl | rfl
  · have hb : binOp .eql t x y = (do pure (.bool (← Op.equal t x y))) := by
      unfold nilEq at h
      split at h <;> (try (cases h; done)) <;> rfl
    rw [hg,hb]; simp [he]
  · have hb : binOp .neq t x y = (do pure (.bool (!(← Op.equal t x y)))) := by
      unfold nilEq at h
      split at h <;> (try (cases h; done)) <;> rfl
    rw [hg,hb]; simp [he]
theorem intFast_run {op : BinOp} {t : TypeId} {X Y : Operand} {x y v : Value} (h : intFast op x y = some v) :
    (do eqGuard op t X Y x y; binOp op t x y : Sem Value).run P w = .ok v w ∧ plain v = true ∧ plain x = true ∧ plain y = true := by
  unfold intFast at h
  split at h
  · rename_i k a j b
    split at h
    · rename_i hk
      obtain rfl : k = j := by simpa using hk
      unfold intBin at h
      have hne : ∀ s : Sem Value, (if k ≠ k then stuck "BinOp: operands of different kinds" else s) = s := fun s => if_neg (by simp)
      split at h <;> cases h <;> refine ⟨?_,rfl,rfl,rfl⟩ <;> simp [eqGuard,binOp,Op.intArith,Op.intCmp]
    · cases h
  · cases h
theorem abinS_rel {op : BinOp} {t : TypeId} {X Y : Operand} {x y x' y' v : Value} (hx : VRel m x x') (hy : VRel m y y') (h : abinS P op t X Y x y = some v) :
    (do eqGuard op t X Y x' y'; binOp op t x' y' : Sem Value).run P w = .ok v w ∧ plain v = true := by
  unfold abinS at h
  split at h
  · rename_i hp
    simp only [Bool.and_eq_true] at hp
    obtain rfl := hx.inv_plainV hp.1
    obtain rfl := hy.inv_plainV hp.2
    exact prunP_run w h
  · split at h
    · rename_i d hu
      split at h
      · rename_i r hr
        have hr' := nilEq_some hx hy hr
        split at h <;> cases h
        · exact ⟨run_nilEq hu hr' (.inl rfl),rfl⟩
        · exact ⟨run_nilEq hu hr' (.inr rfl),rfl⟩
      · cases h
    · cases h
theorem abin_rel {op : BinOp} {t : TypeId} {X Y : Operand} {x y x' y' v : Value} (hx : VRel m x x') (hy : VRel m y y') (h : abin P op t X Y x y = some v) :
    (do eqGuard op t X Y x' y'; binOp op t x' y' : Sem Value).run P w = .ok v w ∧ plain v = true := by
  unfold abin at h
  split at h
  · rename_i u hu
    cases h
    obtain ⟨h1,h2,h3,h4⟩ := intFast_run (P := P) (w := w) (t := t) (X := X) (Y := Y) hu
    rw [hx.inv_plain h3,hy.inv_plain h4]
    exact ⟨h1,h2⟩
  · exact abinS_rel hx hy h
theorem run_val {s : Sem Value} {v : Value} (hs : s.run P w = .ok v w) : (do pure (Next.value (← s)) : Sem Next).run P w = .ok (.value v) w := by
  simp [hs]
theorem LRel.all_plain : ∀ {l l' : List Value} (_ : LRel m l l'),l.all plain = true → l' = l := by
  intro l
  induction l with
  | nil => intro l' h _; rcases h.ind with ⟨_,rfl⟩ | ⟨_,_,_,_,h,_⟩
           · rfl
           · cases h
  | cons v l ih =>
    intro l' h hp
    rcases h.ind with ⟨h,_⟩ | ⟨v,v',q,q',h1,rfl,hv,hq⟩
    · cases h
    · cases h1
      simp only [List.all_cons,Bool.and_eq_true] at hp
      rw [hv.inv_plain hp.1,ih hq hp.2]
theorem run_sizeOf {t : TypeId} {i : TypeInfo} (hi : P.info? t = some i) : (sizeOf t).run P w = .ok i.size w := by
  simp [sizeOf,typeInfo,hi]
theorem run_indexAt_arr {t e : TypeId} {n : Nat} {i : TypeInfo} {b o : Nat} {kd : IntKind} {k : Nat} (hu : P.underlying t = some (.array n e)) (hi : P.info? e = some i) (hk : k < n) :
    (Instr.indexAt t (.pointer (some ⟨b,o,none⟩)) (.int kd (k : Int))).run P w = .ok (.pointer (some ⟨b,o + k * i.size,none⟩)) w := by
  simp [Instr.indexAt,asIntOf,run_underlying hu,Instr.sureAddr,run_sizeOf hi,add_lit]
  intro hc; omega
theorem run_indexAt_slice {t e : TypeId} {n c : Nat} {i : TypeInfo} {b o : Nat} {kd : IntKind} {k : Nat} (hu : P.underlying t = some (.slice e)) (hi : P.info? e = some i) (hk : k < n) :
    (Instr.indexAt t (.slice (some ⟨b,o,none⟩) n c) (.int kd (k : Int))).run P w = .ok (.pointer (some ⟨b,o + k * i.size,none⟩)) w := by
  simp [Instr.indexAt,asIntOf,run_underlying hu,run_sizeOf hi,add_lit]
  intro hc; omega
theorem VRel.ptr_add {a : Addr} {L : Loc} (hm : m a.block = some L) (hs : a.spot = none) (k : Nat) :
    VRel m (.pointer (some (a.add k))) (.pointer (some ⟨L.b,L.base + a.off + k,none⟩)) := by
  have := VRel.ptr (m := m) (a.add k) L (by rw [add_block]; exact hm) (add_spot _ _ hs)
  rwa [add_off,← Nat.add_assoc] at this
variable {nt : Nat} {ts : Tr Value} {a : Act}
theorem bytesV_map : ∀ {cs : List Value} {ns : List Int},bytesV cs = some ns → cs = ns.map (Value.int .u8)
  | [],ns,h => by cases h; rfl
  | c :: cs,ns,h => by
    unfold bytesV at h
    split at h
    · rename_i e; cases e
    · rename_i n l e
      cases e
      split at h
      · rename_i ns' h'; cases h; rw [bytesV_map h']; rfl
      · cases h
    · cases h
theorem abytes_rel (hR : Rel P m h w) {x x' v : Value} {s d e : TypeId} (hx : VRel m x x') (hs : P.underlying s = some (.slice e)) (he : P.underlying e = some (.int .u8)) (hd : P.underlying d = some .string) (ha : abytes h x = some v) :
    (convert s d x').run P w = .ok v w ∧ plain v = true := by
  unfold abytes at ha
  split at ha
  · rename_i a n c
    obtain ⟨a',c',rfl,h1,_⟩ := hx.inv_slice
    rw [run_convert_bytes_string w s d e _ _ _ hs he hd]
    split at ha
    · rename_i hn
      have hn' := Nat.eq_of_beq_eq_true hn
      subst hn'
      cases ha
      refine ⟨?_,rfl⟩
      rw [run_bytesToString w a' 0 c' [] (by simp [loadCells,loadCellsFrom])]
      rfl
    · rename_i hn
      have hn' := Nat.ne_of_beq_eq_false hn
      split at ha
      · rename_i cs hcs
        split at ha
        · rename_i ns hns
          cases ha
          refine ⟨?_,rfl⟩
          obtain ⟨L,hm,hsp,rfl,_⟩ := h1 (.inl hn')
          obtain ⟨cs',hr,hrange,hlen⟩ := cellsAt_rel hR hm hcs
          have hb := bytesV_map hns
          have he' : cs' = ns.map (Value.int .u8) := by
            refine List.ext_getElem (by rw [← hr.1,hb]) fun i h1 h2 => ?_
            have h3 := hr.2 i (by rw [hr.1]; exact h1)
            have h4 : cs.getD i undef = Value.int .u8 (ns[i]'(by simpa using h2)) := by
              subst hb; simp [List.getD,List.getElem?_eq_getElem (by simpa using h2 : i < ns.length)]
            rw [h4] at h3
            have h5 := h3.inv_plain rfl
            simpa [List.getD,List.getElem?_eq_getElem h1] using h5
          subst he'
          have hl : (loadCells ⟨L.b,L.base + a.off,none⟩ n).run P w = .ok (ns.map (Value.int .u8)).toArray w := by
            have := run_loadCells_list (P := P) (w := w) ⟨L.b,L.base + a.off,none⟩ (ns.map (Value.int .u8)) (fun j v hj => by rw [add_lit]; exact hrange j v hj)
            rwa [← hr.1,hlen] at this
          rw [run_bytesToString w _ n c' ns hl,foldl_push_bytes]
          simp [strOfNums,ByteArray.empty,ByteArray.emptyWithCapacity]
          rfl
        · cases ha
      · cases ha
  · cases ha
set_option maxHeartbeats 1000000 in
theorem aq_rel (hR : Rel P m h w) (hT : TRel m nt ts a) (o : Oper) {v : Value} (hq : aq P o.op ts h = some v) :
    ∃ v',(execOp a.eval o).run P w = .ok (.value v') w ∧ VRel m v v' := by
  have hG := hR.glob
  obtain ⟨dst,op,type,pos,after,guard⟩ := o
  cases op with
  | move x => exact ⟨_,rfl,ev_rel hT hG hq⟩
  | assign x => exact ⟨_,rfl,ev_rel hT hG hq⟩
  | pick c x y =>
    simp only [aq,aqPick,aqLoad,aqBuild,aqNil,aqBin,aqUn,aqConv,aqIface,aqFunc,aqSlice,aqFieldAddr,aqField,aqIndexAddr,aqIndex,aqExtract] at hq
    split at hq
    · rename_i t p q hc hx hy
      have h1 := (ev_rel hT hG hc).inv_bool
      have h2 := ev_rel hT hG hx
      have h3 := ev_rel hT hG hy
      cases t <;> cases hq
      · exact ⟨a.eval y,by simp [execOp,h1,asBool],h3⟩
      · exact ⟨a.eval x,by simp [execOp,h1,asBool],h2⟩
    · cases hq
  | load t x =>
    simp only [aq,aqPick,aqLoad,aqBuild,aqNil,aqBin,aqUn,aqConv,aqIface,aqFunc,aqSlice,aqFieldAddr,aqField,aqIndexAddr,aqIndex,aqExtract] at hq
    split at hq
    · rename_i p hp
      obtain ⟨v',h1,h2⟩ := aload_rel hR (ev_rel hT hG hp) hq
      exact ⟨v',run_val h1,h2⟩
    · cases hq
  | build t parts =>
    simp only [aq,aqPick,aqLoad,aqBuild,aqNil,aqBin,aqUn,aqConv,aqIface,aqFunc,aqSlice,aqFieldAddr,aqField,aqIndexAddr,aqIndex,aqExtract] at hq
    split at hq
    · rename_i ps hps
      split at hq
      · rename_i cells i hb hi
        split at hq
        · rename_i z hz
          split at hq
          · rename_i hpl
            cases hq
            obtain ⟨out',ho,hr⟩ := built_rel (evParts_rel hT hG hps) hi hz hpl hb
            refine ⟨.agg out', ?_, ?_⟩
            · refine run_val (run_build w t _ out' ?_)
              rw [Array.toList_map]; exact ho
            · have := VRel.agg_of hr; simpa using this
          · cases hq
        · cases hq
      · cases hq
    · cases hq
  | nilCheck x =>
    simp only [aq,aqPick,aqLoad,aqBuild,aqNil,aqBin,aqUn,aqConv,aqIface,aqFunc,aqSlice,aqFieldAddr,aqField,aqIndexAddr,aqIndex,aqExtract] at hq
    split at hq
    · rename_i ad hx
      cases hq
      obtain ⟨L,hm,hs,he⟩ := (ev_rel hT hG hx).inv_ptr
      exact ⟨a.eval x,by simp [execOp,he],ev_rel hT hG hx⟩
    · rename_i f as bs hx
      cases hq
      obtain ⟨as',bs',he,_⟩ := (ev_rel hT hG hx).inv_func
      exact ⟨a.eval x,by simp [execOp,he],ev_rel hT hG hx⟩
    · cases hq
  | binOp op t x y yt =>
    simp only [aq,aqPick,aqLoad,aqBuild,aqNil,aqBin,aqUn,aqConv,aqIface,aqFunc,aqSlice,aqFieldAddr,aqField,aqIndexAddr,aqIndex,aqExtract] at hq
    split at hq
    · rename_i p q hp hq'
      obtain ⟨h1,h2⟩ := abin_rel (w := w) (ev_rel hT hG hp) (ev_rel hT hG hq') hq
      exact ⟨v,run_val h1,.plain _ h2⟩
    · cases hq
  | unOp op t x =>
    simp only [aq,aqPick,aqLoad,aqBuild,aqNil,aqBin,aqUn,aqConv,aqIface,aqFunc,aqSlice,aqFieldAddr,aqField,aqIndexAddr,aqIndex,aqExtract] at hq
    split at hq
    · rename_i p hp
      split at hq
      · rename_i hpl
        have he := (ev_rel hT hG hp).inv_plain hpl
        obtain ⟨h1,h2⟩ := prunP_run w hq
        exact ⟨v,run_val (by rw [he]; exact h1),.plain _ h2⟩
      · cases hq
    · cases hq
  | convert s d x =>
    simp only [aq,aqPick,aqLoad,aqBuild,aqNil,aqBin,aqUn,aqConv,aqIface,aqFunc,aqSlice,aqFieldAddr,aqField,aqIndexAddr,aqIndex,aqExtract] at hq
    split at hq
    · rename_i p hp
      split at hq
      · rename_i hpl
        have he := (ev_rel hT hG hp).inv_plain hpl
        obtain ⟨h1,h2⟩ := prunP_run w hq
        exact ⟨v,run_val (by rw [he]; exact h1),.plain _ h2⟩
      · split at hq
        · rename_i e hs hd
          split at hq
          · rename_i hu
            obtain ⟨h1,h2⟩ := abytes_rel hR (ev_rel hT hG hp) hs hu hd hq
            exact ⟨v,run_val h1,.plain _ h2⟩
          · cases hq
        · cases hq
    · cases hq
  | makeInterface t x =>
    simp only [aq,aqPick,aqLoad,aqBuild,aqNil,aqBin,aqUn,aqConv,aqIface,aqFunc,aqSlice,aqFieldAddr,aqField,aqIndexAddr,aqIndex,aqExtract] at hq
    split at hq
    · cases hq
    · rename_i p d hd hp hu
      cases hq
      refine ⟨.iface t (a.eval x),run_val ?_,.iface t _ _ (ev_rel hT hG hp)⟩
      unfold Instr.makeInterface
      rw [Sem.run_bind,run_underlying hu w]
      cases d <;> first | rfl | exact (hd _ rfl).elim
    · cases hq
  | makeFunc fn first captured =>
    simp only [aq,aqPick,aqLoad,aqBuild,aqNil,aqBin,aqUn,aqConv,aqIface,aqFunc,aqSlice,aqFieldAddr,aqField,aqIndexAddr,aqIndex,aqExtract] at hq
    split at hq
    · rename_i as bs h1 h2
      cases hq
      refine ⟨.func fn (first.map a.eval) (captured.map a.eval),rfl, ?_⟩
      have := VRel.func_of (fn := fn) (evs_rel hT hG h1) (evs_rel hT hG h2)
      simpa [← Array.toList_map] using this
    · cases hq
  | slice t x lo hi mx =>
    simp only [aq,aqPick,aqLoad,aqBuild,aqNil,aqBin,aqUn,aqConv,aqIface,aqFunc,aqSlice,aqFieldAddr,aqField,aqIndexAddr,aqIndex,aqExtract] at hq
    split at hq
    · rename_i p l hh mm hx hlo hhi hmx
      have elo := optEv_rel hT hG hlo
      have ehi := optEv_rel hT hG hhi
      have emx := optEv_rel hT hG hmx
      split at hq
      · rename_i n e ad hu
        split at hq
        · rename_i i hi
          split at hq
          · rename_i hb
            rw [Nat.blt_eq] at hb
            obtain ⟨L,hm,hs,he⟩ := (ev_rel hT hG hx).inv_ptr
            have hv : VRel m (.slice (some ad) n n) (.slice (some ⟨L.b,L.base + ad.off,none⟩) n n) := .slice ad L n n hm hs hb
            obtain ⟨a',c',l',h',m',e1,e2,e3⟩ := aslice_rel (w := w) (P := P) false hv hq
            cases e1
            refine ⟨_,run_val ?_,e3⟩
            rw [elo,ehi,emx,he]
            simp only [Instr.sliceAt,Sem.run_bind,run_underlying hu w,Result.andThen_ok,Instr.sureAddr,Sem.run_pure,e2,run_sizeOf hi,Option.map_some]
            split <;> rfl
          · cases hq
        · cases hq
      · rename_i e ad n c hu
        split at hq
        · rename_i i hi
          obtain ⟨a',c',l',h',m',e1,e2,e3⟩ := aslice_rel (w := w) (P := P) true (ev_rel hT hG hx) hq
          refine ⟨_,run_val ?_,e3⟩
          rw [elo,ehi,emx,e1]
          simp only [Instr.sliceAt,Instr.slice,Sem.run_bind,run_underlying hu w,Result.andThen_ok,Sem.run_pure,e2,run_sizeOf hi]
        · cases hq
      · rename_i s hu
        split at hq
        · obtain ⟨h1,h2⟩ := prunP_run w hq
          have he := (ev_rel hT hG hx).inv_string
          refine ⟨v,run_val ?_,.plain _ h2⟩
          rw [elo,ehi,emx,he]
          simp only [Instr.sliceAt,Sem.run_bind,run_underlying hu w,Result.andThen_ok]
          exact h1
        · cases hq
      · cases hq
    · cases hq
  | fieldAddr s x f =>
    simp only [aq,aqPick,aqLoad,aqBuild,aqNil,aqBin,aqUn,aqConv,aqIface,aqFunc,aqSlice,aqFieldAddr,aqField,aqIndexAddr,aqIndex,aqExtract] at hq
    split at hq
    · rename_i ad fields hx hu
      split at hq
      · rename_i fd hf
        split at hq
        · rename_i i hi
          split at hq
          · cases hq
          · rename_i hz
            cases hq
            obtain ⟨L,hm,hs,he⟩ := (ev_rel hT hG hx).inv_ptr
            have hz' := Nat.ne_of_beq_eq_false hz
            refine ⟨_,run_val ?_,VRel.ptr_add hm hs fd.offset⟩
            simp [Instr.fieldAt,run_underlying hu,hf,he,Instr.sureAddr,fieldPlace,run_sizeOf hi,hz',add_lit]
        · cases hq
      · cases hq
    · cases hq
  | field t x f =>
    simp only [aq,aqPick,aqLoad,aqBuild,aqNil,aqBin,aqUn,aqConv,aqIface,aqFunc,aqSlice,aqFieldAddr,aqField,aqIndexAddr,aqIndex,aqExtract] at hq
    split at hq
    · rename_i cs fields hx hu
      split at hq
      · rename_i fd hf
        obtain ⟨cs',he,hr⟩ := (ev_rel hT hG hx).inv_agg
        obtain ⟨v',h1,h2⟩ := apart'_rel (w := w) hr hq
        refine ⟨v',run_val ?_,h2⟩
        simp only [Array.toArray_toList] at h1
        simp [Instr.field,run_underlying hu,hf,he,asAgg,h1]
      · cases hq
    · cases hq
  | indexAddr t x ix =>
    simp only [aq,aqPick,aqLoad,aqBuild,aqNil,aqBin,aqUn,aqConv,aqIface,aqFunc,aqSlice,aqFieldAddr,aqField,aqIndexAddr,aqIndex,aqExtract] at hq
    split at hq
    · rename_i ad i n e hx hi hu
      split at hq
      · rename_i k inf hk hinf
        cases hq
        obtain ⟨kd,rfl,hlt⟩ := intIn_some hk
        have he2 := (ev_rel hT hG hi).inv_int
        obtain ⟨L,hm,hs,he⟩ := (ev_rel hT hG hx).inv_ptr
        refine ⟨_,run_val ?_,VRel.ptr_add hm hs (k * inf.size)⟩
        rw [he,he2]
        exact run_indexAt_arr hu hinf hlt
      · cases hq
    · rename_i ad n c i e hx hi hu
      split at hq
      · rename_i k inf hk hinf
        cases hq
        obtain ⟨kd,rfl,hlt⟩ := intIn_some hk
        have he2 := (ev_rel hT hG hi).inv_int
        obtain ⟨a',c',he,h1,_,_⟩ := (ev_rel hT hG hx).inv_slice
        obtain ⟨L,hm,hs,rfl,_⟩ := h1 (.inl (by omega))
        refine ⟨_,run_val ?_,VRel.ptr_add hm hs (k * inf.size)⟩
        rw [he,he2]
        exact run_indexAt_slice hu hinf hlt
      · cases hq
    · cases hq
  | index t x ix =>
    simp only [aq,aqPick,aqLoad,aqBuild,aqNil,aqBin,aqUn,aqConv,aqIface,aqFunc,aqSlice,aqFieldAddr,aqField,aqIndexAddr,aqIndex,aqExtract] at hq
    split at hq
    · rename_i cs i n e hx hi hu
      split at hq
      · rename_i k inf hk hinf
        obtain ⟨kd,rfl,hlt⟩ := intIn_some hk
        have he2 := (ev_rel hT hG hi).inv_int
        obtain ⟨cs',he,hr⟩ := (ev_rel hT hG hx).inv_agg
        obtain ⟨v',h1,h2⟩ := apart'_rel (w := w) hr hq
        refine ⟨v',run_val ?_,h2⟩
        simp only [Array.toArray_toList] at h1
        simp [Instr.index,run_underlying hu,he,he2,asIntOf,run_sizeOf hinf,h1]
        intro hc; omega
      · cases hq
    · rename_i s i hx hi hu
      split at hq
      · rename_i hpl
        have he := (ev_rel hT hG hx).inv_string
        have he2 := (ev_rel hT hG hi).inv_plain hpl
        obtain ⟨h1,h2⟩ := prunP_run w hq
        exact ⟨v,run_val (by rw [he,he2]; exact h1),.plain _ h2⟩
      · cases hq
    · cases hq
  | extract t ix =>
    simp only [aq,aqPick,aqLoad,aqBuild,aqNil,aqBin,aqUn,aqConv,aqIface,aqFunc,aqSlice,aqFieldAddr,aqField,aqIndexAddr,aqIndex,aqExtract] at hq
    split at hq
    · rename_i vs hx
      obtain ⟨cs',he,hr⟩ := (ev_rel hT hG hx).inv_tuple
      obtain ⟨v',h1,h2⟩ := hr.get (by simpa using hq)
      refine ⟨v',run_val ?_,h2⟩
      have h1' : cs'[ix]? = some v' := by simpa using h1
      simp [Instr.extract,he,h1']
    · cases hq
  | call c =>
    obtain ⟨callee,args,argTypes⟩ := c
    cases callee with
    | value f => simp only [aq,aqPick,aqLoad,aqBuild,aqNil,aqBin,aqUn,aqConv,aqIface,aqFunc,aqSlice,aqFieldAddr,aqField,aqIndexAddr,aqIndex,aqExtract] at hq; cases hq
    | invoke r s => simp only [aq,aqPick,aqLoad,aqBuild,aqNil,aqBin,aqUn,aqConv,aqIface,aqFunc,aqSlice,aqFieldAddr,aqField,aqIndexAddr,aqIndex,aqExtract] at hq; cases hq
    | builtin b =>
      simp only [aq,aqBuiltin,aqLen,aqCap,aqMax,aqMin] at hq
      have hone : ∀ {x : Operand},args.toList = [x] → args = #[x] := fun e => Array.ext' (by simpa using e)
      split at hq
      · rename_i x hx
        obtain rfl := hone hx
        split at hq
        · rename_i p t hp ht
          have hr := ev_rel hT hG hp
          have hcall : ∀ {r : Value},(Builtin.len_ argTypes type #[a.eval x]).run P w = .ok r w → (execOp a.eval ⟨dst,.call ⟨.builtin .len,#[x],argTypes⟩,type,pos,after,guard⟩).run P w = .ok (.value r) w := fun h => by
            simp [execOp,resolve,invoke,builtin,h]
          split at hq
          · rename_i s hu
            cases hq
            obtain he := hr.inv_string
            exact ⟨_,hcall (by simp [Builtin.len_,ht,he,run_underlying hu]),.plain _ rfl⟩
          · rename_i e b n c hu
            cases hq
            cases b with
            | none =>
              have he := hr.inv_snil
              exact ⟨_,hcall (by simp [Builtin.len_,ht,he,run_underlying hu]),.plain _ rfl⟩
            | some ad =>
              obtain ⟨_,_,he,_⟩ := hr.inv_slice
              exact ⟨_,hcall (by simp [Builtin.len_,ht,he,run_underlying hu]),.plain _ rfl⟩
          · rename_i n e hu
            cases hq
            exact ⟨_,hcall (by simp [Builtin.len_,ht,run_underlying hu]),.plain _ rfl⟩
          · cases hq
        · cases hq
      · rename_i x hx
        obtain rfl := hone hx
        split at hq
        · rename_i p t hp ht
          have hr := ev_rel hT hG hp
          have hcall : ∀ {r : Value},(Builtin.cap_ argTypes type #[a.eval x]).run P w = .ok r w → (execOp a.eval ⟨dst,.call ⟨.builtin .cap,#[x],argTypes⟩,type,pos,after,guard⟩).run P w = .ok (.value r) w := fun h => by
            simp [execOp,resolve,invoke,builtin,h]
          split at hq
          · rename_i e b n c hu
            split at hq
            · rename_i hb
              rw [Nat.blt_eq] at hb
              cases hq
              cases b with
              | none =>
                have he := hr.inv_snil
                exact ⟨_,hcall (by simp [Builtin.cap_,ht,he,run_underlying hu]),.plain _ rfl⟩
              | some ad =>
                obtain ⟨_,c',he,_,h2,_⟩ := hr.inv_slice
                rw [h2 hb] at he
                exact ⟨_,hcall (by simp [Builtin.cap_,ht,he,run_underlying hu]),.plain _ rfl⟩
            · cases hq
          · rename_i n e hu
            cases hq
            exact ⟨_,hcall (by simp [Builtin.cap_,ht,run_underlying hu]),.plain _ rfl⟩
          · cases hq
        · cases hq
      · split at hq
        · rename_i vs hvs
          split at hq
          · rename_i hpl
            have he := LRel.all_plain (evs_rel hT hG hvs) hpl
            obtain ⟨h1,h2⟩ := prunP_run w hq
            refine ⟨v, ?_,.plain _ h2⟩
            have e : args.map a.eval = vs.toArray := by apply Array.ext'; simpa using he
            have h1' : (Builtin.max_ argTypes type vs.toArray).run P w = .ok v w := h1
            simp [execOp,resolve,invoke,builtin,e,h1']
          · cases hq
        · cases hq
      · split at hq
        · rename_i vs hvs
          split at hq
          · rename_i hpl
            have he := LRel.all_plain (evs_rel hT hG hvs) hpl
            obtain ⟨h1,h2⟩ := prunP_run w hq
            refine ⟨v, ?_,.plain _ h2⟩
            have e : args.map a.eval = vs.toArray := by apply Array.ext'; simpa using he
            have h1' : (Builtin.min_ argTypes type vs.toArray).run P w = .ok v w := h1
            simp [execOp,resolve,invoke,builtin,e,h1']
          · cases hq
        · cases hq
      · cases hq
  | _ => simp only [aq,aqPick,aqLoad,aqBuild,aqNil,aqBin,aqUn,aqConv,aqIface,aqFunc,aqSlice,aqFieldAddr,aqField,aqIndexAddr,aqIndex,aqExtract] at hq; cases hq
end
end Go.Abs
namespace Go.Abs
section
variable {P : Program} {m : BMap} {h : AHeap} {w : World}
def upd (m : BMap) (id : Nat) (L : Loc) : BMap := fun a => if a = id then some L else m a
theorem upd_ext {id : Nat} {L : Loc} (hf : m id = none) : ∀ a K,m a = some K → upd m id L a = some K := fun a K hk => by
  unfold upd
  split
  · rename_i e; subst e; rw [hf] at hk; cases hk
  · exact hk
theorem cells_new (w : World) (C : Array Value) (e : TypeId) : (w.alloc (.cells C e)).heap[w.heap.size]? = some (.cells C e (0,0)) := heap_alloc_new w _
theorem heap_alloc_lt (w : World) (o : Obj) (r : Nat) (hr : r < w.heap.size) : (w.alloc o).heap[r]? = w.heap[r]? := by
  show (w.heap.push o)[r]? = _
  rw [Array.getElem?_push,if_neg (by omega)]
theorem blk_new {B : Blk} {C : Array Value} {e : TypeId} {w' : World} {r : Nat} (cap : Nat) (hw : w'.heap[r]? = some (.cells C e (0,0))) (hs : B.cells.length ≤ C.size) (hc : ∀ i,i < B.cells.length → VRel m (B.cells.getD i undef) (C.getD i undef))
    (hu : B.unk = true → B.wr = true ∧ C.size = cap * P.cellsOf B.elem) : BlkRel P m w' B ⟨r,0,cap⟩ :=
  ⟨C,e,(0,0),hw,fun _ => rfl,by simpa using hs,fun i hi => by simpa using hc i hi,fun h => ⟨(hu h).1,by rw [(hu h).2]; exact (Nat.zero_add _).symm⟩⟩
theorem rel_alloc {B : Blk} {C : Array Value} {e : TypeId} {n : Nat} (cap : Nat) (hR : Rel P m h w) (hs : B.cells.length ≤ C.size) (hc : ∀ i,i < B.cells.length → VRel m (B.cells.getD i undef) (C.getD i undef))
    (hu : B.unk = true → B.wr = true ∧ C.size = cap * P.cellsOf B.elem) (hn : n = w.heap.size) {w' : World} (hw : w' = w.alloc (.cells C e) ∨ w' = w.drew.alloc (.cells C e)) :
    Rel P (upd m h.next ⟨n,0,cap⟩) (h.alloc B) w' ∧ Sim m h w (upd m h.next ⟨n,0,cap⟩) (h.alloc B) w' := by
  subst hn
  have hf := hR.fresh h.next (Nat.le_refl _)
  have hext := upd_ext (L := ⟨w.heap.size,0,cap⟩) hf
  have hheap : ∀ r,r < w.heap.size → w'.heap[r]? = w.heap[r]? := by
    rcases hw with rfl | rfl
    · exact fun r hr => heap_alloc_lt w _ r hr
    · exact fun r hr => heap_alloc_lt w.drew _ r hr
  have hnew : w'.heap[w.heap.size]? = some (.cells C e (0,0)) := by
    rcases hw with rfl | rfl
    · exact cells_new w C e
    · exact cells_new w.drew C e
  have hsize : w'.heap.size = w.heap.size + 1 := by
    rcases hw with rfl | rfl <;> simp
  have hos : w'.os = w.os ∧ w'.output = w.output ∧ w'.tape = w.tape := by
    rcases hw with rfl | rfl <;> exact ⟨rfl,rfl,rfl⟩
  have hcase : ∀ a K,upd m h.next ⟨w.heap.size,0,cap⟩ a = some K → (a = h.next ∧ K = ⟨w.heap.size,0,cap⟩) ∨ (a ≠ h.next ∧ m a = some K) := fun a K hk => by
    unfold upd at hk
    split at hk
    · cases hk; exact .inl ⟨‹_›,rfl⟩
    · exact .inr ⟨‹_›,hk⟩
  have hits : ItRel (upd m h.next ⟨w.heap.size,0,cap⟩) (h.alloc B) w' := hR.its.keep rfl (Nat.le_succ _) (fun a K hk hs => by
      rcases hcase a K hk with ⟨rfl,_⟩ | ⟨_,hk⟩
      · rw [hR.its.wf _ (Nat.le_refl _)] at hs; cases hs
      · exact hk) (fun r x hr => by
      rw [hheap r (Array.getElem?_eq_some_iff.1 hr).1]; exact hr)
  refine ⟨⟨?_, ?_, ?_, ?_, ?_, ?_,hits⟩,⟨hext,hos.1,hos.2.1,hos.2.2,by omega,fun r hr _ _ => hheap r hr, ?_,Nat.le_refl _,Nat.le_succ _, ?_, ?_, ?_, ?_,fun _ _ h => h⟩⟩
  · intro a K hk
    rcases hcase a K hk with ⟨_,rfl⟩ | ⟨_,hk⟩
    · simp [hsize]
    · have := hR.lt a K hk; omega
  · intro a ha
    have ha' : h.next + 1 ≤ a := ha
    unfold upd
    rw [if_neg (by omega)]
    exact hR.fresh a (by omega)
  · intro a B' K hg hk
    rw [AHeap.get_alloc] at hg
    rcases hcase a K hk with ⟨rfl,rfl⟩ | ⟨hne,hk⟩
    · rw [if_pos rfl] at hg
      cases hg
      exact blk_new cap hnew hs (fun i hi => (hc i hi).mono hext) hu
    · rw [if_neg hne] at hg
      exact ((hR.blk a B' K hg hk).mono hext).same (hheap _ (hR.lt a K hk))
  · intro a a' B1 B2 K1 K2 g1 g2 k1 k2 he hne
    rw [AHeap.get_alloc] at g1 g2
    rcases hcase a K1 k1 with ⟨rfl,rfl⟩ | ⟨n1,k1⟩
    · rcases hcase a' K2 k2 with ⟨rfl,rfl⟩ | ⟨n2,k2⟩
      · exact absurd rfl hne
      · have := hR.lt a' K2 k2; simp at he; omega
    · rcases hcase a' K2 k2 with ⟨rfl,rfl⟩ | ⟨n2,k2⟩
      · have := hR.lt a K1 k1; simp at he; omega
      · rw [if_neg n1] at g1
        rw [if_neg n2] at g2
        exact hR.inj a a' B1 B2 K1 K2 g1 g2 k1 k2 he hne
  · intro g hg
    exact hext _ _ (hR.glob g hg)
  · intro a ha
    have ha' : h.next + 1 ≤ a := ha
    rw [AHeap.get_alloc,if_neg (by omega)]
    exact hR.wf a (by omega)
  · intro a K hk
    rcases hcase a K hk with ⟨_,rfl⟩ | ⟨_,hk⟩
    · exact .inr (.inl (Nat.le_refl _))
    · exact .inl hk
  · intro a ha
    unfold upd
    rw [if_neg (by omega)]
  · intro a ha _
    rw [AHeap.get_alloc,if_neg (by omega)]
  · intro a ha hd
    rw [AHeap.get_alloc,if_neg (by omega)]; exact hd
  · intro a B' ha hg
    rw [AHeap.get_alloc,if_neg (by omega)] at hg
    exact ⟨B',hg,rfl⟩
theorem rel_ro {B : Blk} {C : Array Value} {e : TypeId} {fr : Nat × Nat} (cap : Nat) (hR : Rel P m h w) (hs : B.cells.length ≤ C.size) (hc : ∀ i,i < B.cells.length → VRel m (B.cells.getD i undef) (C.getD i undef))
    (hu : B.unk = false) (hwr : B.wr = false) {w' : World} (hheap : ∀ r,r < w.heap.size → w'.heap[r]? = w.heap[r]?) (hnew : w'.heap[w.heap.size]? = some (.cells C e fr)) (hsize : w'.heap.size = w.heap.size + 1) (hos : w'.os = w.os ∧ w'.output = w.output ∧ w'.tape = w.tape) :
    Rel P (upd m h.next ⟨w.heap.size,0,cap⟩) (h.alloc B) w' ∧ Sim m h w (upd m h.next ⟨w.heap.size,0,cap⟩) (h.alloc B) w' := by
  have hf := hR.fresh h.next (Nat.le_refl _)
  have hext := upd_ext (L := ⟨w.heap.size,0,cap⟩) hf
  have hcase : ∀ a K,upd m h.next ⟨w.heap.size,0,cap⟩ a = some K → (a = h.next ∧ K = ⟨w.heap.size,0,cap⟩) ∨ (a ≠ h.next ∧ m a = some K) := fun a K hk => by
    unfold upd at hk
    split at hk
    · cases hk; exact .inl ⟨‹_›,rfl⟩
    · exact .inr ⟨‹_›,hk⟩
  have hits : ItRel (upd m h.next ⟨w.heap.size,0,cap⟩) (h.alloc B) w' := hR.its.keep rfl (Nat.le_succ _) (fun a K hk hs => by
      rcases hcase a K hk with ⟨rfl,_⟩ | ⟨_,hk⟩
      · rw [hR.its.wf _ (Nat.le_refl _)] at hs; cases hs
      · exact hk) (fun r x hr => by
      rw [hheap r (Array.getElem?_eq_some_iff.1 hr).1]; exact hr)
  refine ⟨⟨?_, ?_, ?_, ?_, ?_, ?_,hits⟩,⟨hext,hos.1,hos.2.1,hos.2.2,by omega,fun r hr _ _ => hheap r hr, ?_,Nat.le_refl _,Nat.le_succ _, ?_, ?_, ?_, ?_,fun _ _ h => h⟩⟩
  · intro a K hk
    rcases hcase a K hk with ⟨_,rfl⟩ | ⟨_,hk⟩
    · simp [hsize]
    · have := hR.lt a K hk; omega
  · intro a ha
    have ha' : h.next + 1 ≤ a := ha
    unfold upd
    rw [if_neg (by omega)]
    exact hR.fresh a (by omega)
  · intro a B' K hg hk
    rw [AHeap.get_alloc] at hg
    rcases hcase a K hk with ⟨rfl,rfl⟩ | ⟨hne,hk⟩
    · rw [if_pos rfl] at hg
      cases hg
      exact ⟨C,e,fr,hnew,(fun hh => by rw [hwr] at hh; cases hh),by simpa using hs,(fun i hi => by simpa using (hc i hi).mono hext),fun hh => by rw [hu] at hh; cases hh⟩
    · rw [if_neg hne] at hg
      exact ((hR.blk a B' K hg hk).mono hext).same (hheap _ (hR.lt a K hk))
  · intro a a' B1 B2 K1 K2 g1 g2 k1 k2 he hne
    rw [AHeap.get_alloc] at g1 g2
    rcases hcase a K1 k1 with ⟨rfl,rfl⟩ | ⟨n1,k1⟩
    · rcases hcase a' K2 k2 with ⟨rfl,rfl⟩ | ⟨n2,k2⟩
      · exact absurd rfl hne
      · have := hR.lt a' K2 k2; simp at he; omega
    · rcases hcase a' K2 k2 with ⟨rfl,rfl⟩ | ⟨n2,k2⟩
      · have := hR.lt a K1 k1; simp at he; omega
      · rw [if_neg n1] at g1
        rw [if_neg n2] at g2
        exact hR.inj a a' B1 B2 K1 K2 g1 g2 k1 k2 he hne
  · intro g hg
    exact hext _ _ (hR.glob g hg)
  · intro a ha
    have ha' : h.next + 1 ≤ a := ha
    rw [AHeap.get_alloc,if_neg (by omega)]
    exact hR.wf a (by omega)
  · intro a K hk
    rcases hcase a K hk with ⟨_,rfl⟩ | ⟨_,hk⟩
    · exact .inr (.inl (Nat.le_refl _))
    · exact .inl hk
  · intro a ha
    unfold upd
    rw [if_neg (by omega)]
  · intro a ha _
    rw [AHeap.get_alloc,if_neg (by omega)]
  · intro a ha hd
    rw [AHeap.get_alloc,if_neg (by omega)]; exact hd
  · intro a B' ha hg
    rw [AHeap.get_alloc,if_neg (by omega)] at hg
    exact ⟨B',hg,rfl⟩
theorem zeros_length (z : List Value) : ∀ n,(zeros z n).length = n * z.length
  | 0 => by simp [zeros]
  | n + 1 => by simp [zeros,zeros_length z n,Nat.succ_mul,Nat.add_comm]
theorem zeros_get (z : List Value) (hz : 0 < z.length) : ∀ n j,j < n * z.length → (zeros z n)[j]? = z[j % z.length]?
  | 0,j,hj => by simp at hj
  | n + 1,j,hj => by
    rw [zeros]
    rcases Nat.lt_or_ge j z.length with h' | h'
    · rw [List.getElem?_append_left h',Nat.mod_eq_of_lt h']
    · rw [List.getElem?_append_right h',zeros_get z hz n (j - z.length) (by rw [Nat.succ_mul] at hj; omega)]
      congr 1
      rw [Nat.mod_eq_sub_mod h']
theorem zeros_eq (z : Array Value) (n : Nat) : (Array.range (n * z.size)).map (fun j => z[j % z.size]!) = (zeros z.toList n).toArray := by
  apply Array.ext
  · simp [zeros_length]
  · intro j h1 h2
    have hj : j < n * z.size := by simpa using h1
    have hz : 0 < z.size := by
      rcases Nat.eq_zero_or_pos z.size with h0 | h0
      · rw [h0] at hj; simp at hj
      · exact h0
    have hm : j % z.size < z.size := Nat.mod_lt _ hz
    have hg := zeros_get z.toList (by simpa using hz) n j (by simpa using hj)
    simp only [Array.length_toList,Array.getElem?_toList] at hg
    rw [Array.getElem?_eq_getElem hm,List.getElem?_eq_getElem (by simpa [zeros_length] using hj)] at hg
    simp only [Array.getElem_map,Array.getElem_range,List.getElem_toArray]
    rw [getElem!_pos z (j % z.size) hm]
    exact (Option.some.inj hg).symm
theorem LRel.zeros {z z' : List Value} (hz : LRel m z z') : ∀ n,LRel m (zeros z n) (zeros z' n)
  | 0 => LRel.nil m
  | n + 1 => hz.append (LRel.zeros hz n)
theorem lrel_arr {l : List Value} {C : Array Value} (hl : LRel m l C.toList) : l.length = C.size ∧ ∀ i,i < l.length → VRel m (l.getD i undef) (C.getD i undef) := by
  refine ⟨by simpa using hl.1,fun i hi => ?_⟩
  have h2 := hl.2 i hi
  have hi' : i < C.size := by have := hl.1; simp at this; omega
  simpa [List.getD_eq_getElem?_getD,Array.getD,hi,hi'] using h2
variable {nt : Nat} {ts : Tr Value} {a : Act}
theorem zero_cells {i : TypeInfo} {z : Value} (n : Nat) (hs : z.cells.size = i.size) :
    (n * i.size = 0 ∧ (Array.range (n * i.size)).map (fun x => (#[] : Array Value)[x % (#[] : Array Value).size]!) = (zeros (vcells z) n).toArray) ∨
    (n * i.size ≠ 0 ∧ (Array.range (n * i.size)).map (fun x => z.cells[x % z.cells.size]!) = (zeros (vcells z) n).toArray) := by
  rcases Nat.eq_zero_or_pos (n * i.size) with h0 | h0
  · refine .inl ⟨h0, ?_⟩
    have he0 : zeros (vcells z) n = [] := by
      apply List.eq_nil_of_length_eq_zero
      rw [zeros_length,← cells_toList]
      simpa [hs] using h0
    rw [he0,h0]
    simp
  · refine .inr ⟨by omega, ?_⟩
    rw [← hs,zeros_eq,cells_toList]
theorem run_val' {s : Sem Value} {v : Value} {w' : World} (hs : s.run P w = .ok v w') : (do pure (Next.value (← s)) : Sem Next).run P w = .ok (.value v) w' := by
  simp [hs]
theorem anew_rel (hR : Rel P m h w) (hT : TRel m nt ts a) (o : Oper) {id : Nat} {v : Value} {B : Blk} (hf : m id = none) (hq : anew P o.op ts id = some (v,B)) :
    ∃ v' C e,(execOp a.eval o).run P w = .ok (.value v') (w.alloc (.cells C e)) ∧ VRel (upd m id ⟨w.heap.size,0,0⟩) v v' ∧ LRel m B.cells C.toList ∧ B.wr = true ∧ B.unk = false := by
  have hG := hR.glob
  have hptr : VRel (upd m id ⟨w.heap.size,0,0⟩) (.pointer (some ⟨id,0,none⟩)) (.pointer (some ⟨w.heap.size,0,none⟩)) := by
    have := VRel.ptr (m := upd m id ⟨w.heap.size,0,0⟩) ⟨id,0,none⟩ ⟨w.heap.size,0,0⟩ (by simp [upd]) rfl
    simpa using this
  have hsl : ∀ n c,c < unkCap → VRel (upd m id ⟨w.heap.size,0,0⟩) (.slice (some ⟨id,0,none⟩) n c) (.slice (some ⟨w.heap.size,0,none⟩) n c) := fun n c hc => by
    have := VRel.slice (m := upd m id ⟨w.heap.size,0,0⟩) ⟨id,0,none⟩ ⟨w.heap.size,0,0⟩ n c (by simp [upd]) rfl hc
    simpa using this
  have hlim : ∀ {k c x : Nat},Nat.ble (c * (x + k + 1)) limit = true → c < unkCap ∧ c * x ≤ limit := fun {k c x} hb => by
    have hb := Nat.le_of_ble_eq_true hb
    have h1 : c ≤ c * (x + k + 1) := Nat.le_mul_of_pos_right _ (by omega)
    have h2 : c * x ≤ c * (x + k + 1) := Nat.mul_le_mul_left _ (by omega)
    exact ⟨Nat.lt_of_le_of_lt (Nat.le_trans h1 hb) (by decide),Nat.le_trans h2 hb⟩
  obtain ⟨dst,op,type,pos,after,guard⟩ := o
  cases op with
  | box e x =>
    simp only [anew] at hq
    split at hq
    · rename_i u hu
      cases hq
      have hr := ev_rel hT hG hu
      exact ⟨_,(a.eval x).cells,e,by simp [execOp,Instr.box,newVar,newRow],hptr,by simpa [cells_toList] using hr.cells,rfl,rfl⟩
    · cases hq
  | alloc e =>
    simp only [anew] at hq
    split at hq
    · rename_i i hi
      split at hq
      · rename_i z hz
        split at hq
        · rename_i hpl
          cases hq
          have hr : VRel m z z := VRel.of_plainV hpl
          exact ⟨_,z.cells,e,by simp [execOp,Instr.alloc,newVar,newRow,zeroValue,typeInfo,hi,hz],hptr,by simpa [cells_toList] using hr.cells,rfl,rfl⟩
        · cases hq
      · cases hq
    · cases hq
  | buildSlice t len parts =>
    simp only [anew] at hq
    split at hq
    · rename_i ps hps
      unfold abuildSlice at hq
      split at hq
      · rename_i e hu
        split at hq
        · rename_i i hi
          split at hq
          · rename_i z hz
            split at hq
            · rename_i hb
              simp only [Bool.and_eq_true] at hb
              obtain ⟨⟨hb0,hb2⟩,hb3⟩ := hb
              have hb0 := Nat.le_of_ble_eq_true hb0
              have hlen1 : len ≤ len * (i.size + 1) := Nat.le_mul_of_pos_right _ (by omega)
              have hlen2 : len * i.size ≤ len * (i.size + 1) := Nat.mul_le_mul_left _ (by omega)
              have hc1 : len < unkCap := Nat.lt_of_le_of_lt (Nat.le_trans hlen1 hb0) (by decide)
              have hno : ¬ (len * i.size > 2 ^ 24) := by unfold limit24 at hb0; omega
              split at hq
              · rename_i cells hfill
                cases hq
                have hz' : z.cells.size = i.size := by
                  have := Nat.eq_of_beq_eq_true hb3
                  rw [← cells_toList] at this
                  simpa using this
                have hrz : LRel m (zeros (vcells z) len) (zeros (vcells z) len) := by
                  have := (VRel.of_plainV (m := m) hb2).cells
                  rw [cells_toList] at this
                  exact this.zeros len
                obtain ⟨out',ho,hr⟩ := fill_rel _ (evParts_rel hT hG hps) (cs' := (zeros (vcells z) len).toArray) (by simpa using hrz) hfill
                have ho' : Instr.fill (fun j => some (j * i.size,i.size)) (zeros (vcells z) len).toArray (parts.toList.map fun p => (p.1,a.eval p.2)) = some out' := ho
                refine ⟨_,out',e, ?_,hsl len len hc1,hr,rfl,rfl⟩
                have hrun : (Instr.buildSlice t len (parts.map fun p => (p.1,a.eval p.2))).run P w = .ok (.slice (some ⟨w.heap.size,0,none⟩) len len) (w.alloc (.cells out' e)) := by
                  rcases zero_cells len hz' with ⟨h0,hm⟩ | ⟨h0,hm⟩
                  · simp only [Instr.buildSlice,Sem.run_bind,run_underlying hu w,Result.andThen_ok,run_sizeOf hi,if_neg hno,if_pos h0,Sem.run_pure,hm,Array.toList_map,ho',newRow,run_newObj]
                    rfl
                  · simp only [Instr.buildSlice,Sem.run_bind,run_underlying hu w,Result.andThen_ok,run_sizeOf hi,if_neg hno,if_neg h0,zeroValue,typeInfo,run_program,hi,hz,Sem.run_pure,hm,Array.toList_map,ho',newRow,run_newObj]
                    rfl
                exact run_val' hrun
              · cases hq
            · cases hq
          · cases hq
        · cases hq
      · cases hq
    · cases hq
  | makeSlice t l0 c0 =>
    simp only [anew] at hq
    split at hq
    · rename_i lv cv hl hc
      unfold amake at hq
      split at hq
      · rename_i e k1 l k2 c hu
        split at hq
        · rename_i i hi
          split at hq
          · rename_i z hz
            split at hq
            · rename_i hb
              simp only [Bool.and_eq_true] at hb
              obtain ⟨⟨⟨hb0,hb1⟩,hb2⟩,hb3⟩ := hb
              cases hq
              have hz' : z.cells.size = i.size := by
                have := Nat.eq_of_beq_eq_true hb3
                rw [← cells_toList] at this
                simpa using this
              have hrz : LRel m (zeros (vcells z) c) (zeros (vcells z) c) := by
                have := (VRel.of_plainV (m := m) hb2).cells
                rw [cells_toList] at this
                exact this.zeros c
              obtain ⟨hc1,hc2⟩ := hlim hb1
              have hle := Nat.le_of_ble_eq_true hb0
              refine ⟨_,(zeros (vcells z) c).toArray,e, ?_,hsl l c hc1,by simpa using hrz,rfl,rfl⟩
              have e1 : a.eval l0 = .int k1 (l : Int) := (ev_rel hT hG hl).inv_int
              have e2 : a.eval c0 = .int k2 (c : Int) := (ev_rel hT hG hc).inv_int
              have hbytes : c * i.bytes ≤ c * (i.bytes + i.size + 1) := Nat.mul_le_mul_left _ (by omega)
              have hc3 : c ≤ c * (i.bytes + i.size + 1) := Nat.le_mul_of_pos_right _ (by omega)
              have hb1' := Nat.le_of_ble_eq_true hb1
              have hlimv : limit = 1099511627776 := by decide
              rw [hlimv] at hb1'
              have wr : ∀ n : Nat,n ≤ 1099511627776 → IntKind.i64.wrap (n : Int) = n := fun n hn => IntWalk.i64_in _ (by omega)
              have w1 := wr l (by omega)
              have w2 := wr c (by omega)
              have t1 : ¬ ((i.bytes : Int) * (c : Int) > 2 ^ 48) := by
                rw [← Int.natCast_mul,Nat.mul_comm]
                have hN := Nat.le_trans hbytes hb1'
                clear hb1' hbytes hb1
                generalize c * i.bytes = q at *
                omega
              have t2 : ¬ ((c : Int) < 0) := by omega
              have t3 : ¬ ((l : Int) < 0) := by omega
              have t4 : ¬ ((l : Int) > (c : Int)) := by omega
              have hrun : (Instr.makeSlice t (a.eval l0) (a.eval c0)).run P w = .ok (.slice (some ⟨w.heap.size,0,none⟩) l c) (w.alloc (.cells (zeros (vcells z) c).toArray e)) := by
                rcases zero_cells c hz' with ⟨h0,hm⟩ | ⟨h0,hm⟩
                · simp only [Instr.makeSlice,e1,e2,asInt,asIntOf,Sem.run_bind,run_underlying hu w,Result.andThen_ok,Sem.run_pure,typeInfo,run_program,hi,w1,w2,t1,t2,t3,t4,decide_false,Bool.or_false,Bool.false_eq_true,if_false,run_askRoom,run_sizeOf hi,Int.toNat_natCast,if_pos h0,hm,newRow,run_newObj]
                  rfl
                · simp only [Instr.makeSlice,e1,e2,asInt,asIntOf,Sem.run_bind,run_underlying hu w,Result.andThen_ok,Sem.run_pure,typeInfo,run_program,hi,w1,w2,t1,t2,t3,t4,decide_false,Bool.or_false,Bool.false_eq_true,if_false,run_askRoom,run_sizeOf hi,Int.toNat_natCast,if_neg h0,zeroValue,hz,hm,newRow,run_newObj]
                  rfl
              exact run_val' hrun
            · cases hq
          · cases hq
        · cases hq
      · cases hq
    · cases hq
  | _ => simp only [anew] at hq; cases hq
end
end Go.Abs
namespace Go.Abs
def setL (C : Array Value) : Nat → List Value → Array Value
  | _,[] => C
  | o,v :: r => setL (C.setIfInBounds o v) (o + 1) r
theorem setL_size : ∀ (vs : List Value) (C : Array Value) (o : Nat),(setL C o vs).size = C.size
  | [],_,_ => rfl
  | v :: r,C,o => by simp [setL,setL_size r]
theorem setL_getD : ∀ (vs : List Value) (C : Array Value) (o k : Nat),o + vs.length ≤ C.size → (setL C o vs).getD k undef = if o ≤ k ∧ k < o + vs.length then vs.getD (k - o) undef else C.getD k undef
  | [],C,o,k,_ => by
    rw [if_neg (by simp only [List.length_nil]; omega),setL]
  | v :: r,C,o,k,h => by
    have h' : o + 1 + r.length ≤ (C.setIfInBounds o v).size := by simp at h ⊢; omega
    rw [setL,setL_getD r _ _ _ h']
    simp only [List.length_cons] at h ⊢
    by_cases e : k = o
    · subst e
      rw [if_neg (by omega),if_pos (by omega)]
      have : k < C.size := by omega
      simp [Array.getD,this]
    · by_cases e2 : o + 1 ≤ k ∧ k < o + 1 + r.length
      · rw [if_pos e2,if_pos (by omega),show k - o = (k - (o + 1)) + 1 by omega]
        simp
      · rw [if_neg e2,if_neg (by omega)]
        simp only [Array.getD_eq_getD_getElem?]
        rw [Array.getElem?_setIfInBounds_ne (Ne.symm e)]
theorem heap_setCells (b : Nat) (e : TypeId) : ∀ (vs : List Value) (o : Nat) (w : World) (C : Array Value),w.heap[b]? = some (.cells C e (0,0)) →
    (w.setCells b o vs).heap[b]? = some (.cells (setL C o vs) e (0,0))
  | [],_,_,_,h => h
  | v :: r,o,w,C,h => by
    rw [World.setCells]
    exact heap_setCells b e r (o + 1) _ _ (heap_setCell_same w b o C e v h)
theorem heap_setCells_ne (b r : Nat) (hr : r ≠ b) : ∀ (vs : List Value) (o : Nat) (w : World),(w.setCells b o vs).heap[r]? = w.heap[r]?
  | [],_,_ => rfl
  | v :: vs,o,w => by
    rw [World.setCells,heap_setCells_ne b r hr vs]
    exact heap_setCell_other w _ r v hr
theorem size_setCells (b : Nat) : ∀ (vs : List Value) (o : Nat) (w : World),(w.setCells b o vs).heap.size = w.heap.size
  | [],_,_ => rfl
  | v :: vs,o,w => by rw [World.setCells,size_setCells b vs]; simp
theorem tape_setCells (b : Nat) : ∀ (vs : List Value) (o : Nat) (w : World),(w.setCells b o vs).tape = w.tape
  | [],_,_ => rfl
  | v :: vs,o,w => by rw [World.setCells,tape_setCells b vs]; rfl
theorem there_of_block {w : World} {b : Nat} {C : Array Value} {e : TypeId} (hb : w.heap[b]? = some (.cells C e (0,0))) {o n : Nat} (h : o + n ≤ C.size) : w.there b o n := fun j hj => by
  refine ⟨?_,frozen_of_row w b (o + j) C e hb⟩
  rw [cell_of_row w b (o + j) C e (0,0) hb,Array.getElem?_eq_getElem (by omega)]; rfl
section
variable {P : Program} {m : BMap} {h : AHeap} {w : World}
theorem getD_splice (l vs : List Value) (n i : Nat) (hn : n + vs.length ≤ l.length) :
    (l.take n ++ (vs ++ l.drop (n + vs.length))).getD i undef = if n ≤ i ∧ i < n + vs.length then vs.getD (i - n) undef else l.getD i undef := by
  have hl : (l.take n).length = n := by simp; omega
  simp only [List.getD_eq_getElem?_getD]
  rw [List.getElem?_append,hl]
  by_cases h1 : i < n
  · rw [if_pos h1,if_neg (by omega),List.getElem?_take,if_pos h1]
  · rw [if_neg h1,List.getElem?_append]
    by_cases h2 : i - n < vs.length
    · rw [if_pos h2,if_pos (by omega)]
    · rw [if_neg h2,if_neg (by omega),List.getElem?_drop]
      congr 2
      omega
theorem aput_rel (hR : Rel P m h w) {a : Addr} {L : Loc} {vs vs' : List Value} {h' : AHeap} (hm : m a.block = some L) (hv : LRel m vs vs') (hp : aput h a vs = some h') :
    w.there L.b (L.base + a.off) vs'.length ∧ (∀ v ∈ vs',v.oneCell' = true) ∧ Rel P m h' (w.setCells L.b (L.base + a.off) vs') ∧ Sim m h w m h' (w.setCells L.b (L.base + a.off) vs') := by
  unfold aput at hp
  split at hp
  · rename_i B hg
    split at hp
    · rename_i hwr
      split at hp
      · rename_i hone
        split at hp
        · rename_i cs hcs
          cases hp
          obtain ⟨hle,rfl⟩ := splice_some hcs
          obtain ⟨C,e,fr,h1,h2,h3,h4,h5⟩ := hR.blk _ _ _ hg hm
          obtain rfl := h2 hwr
          have hlen : vs.length = vs'.length := hv.1
          have hsz : L.base + a.off + vs'.length ≤ C.size := by omega
          have hheap := heap_setCells L.b e vs' (L.base + a.off) w C h1
          have hget : ∀ k,(h.put a.block (some { B with cells := B.cells.take a.off ++ (vs ++ B.cells.drop (a.off + vs.length)) })).get k = if k = a.block then some { B with cells := B.cells.take a.off ++ (vs ++ B.cells.drop (a.off + vs.length)) } else h.get k := fun k => AHeap.get_put _ _ _ _
          have hblk : BlkRel P m (w.setCells L.b (L.base + a.off) vs') { B with cells := B.cells.take a.off ++ (vs ++ B.cells.drop (a.off + vs.length)) } L := by
            have hl2 : (B.cells.take a.off ++ (vs ++ B.cells.drop (a.off + vs.length))).length = B.cells.length := by simp; omega
            refine ⟨setL C (L.base + a.off) vs',e,(0,0),hheap,fun _ => rfl,by simpa [setL_size,hl2] using h3,fun i hi => ?_,fun hu => by simpa [setL_size] using h5 hu⟩
            rw [hl2] at hi
            simp only []
            rw [getD_splice _ _ _ _ hle,setL_getD _ _ _ _ hsz,← hlen]
            by_cases hc : a.off ≤ i ∧ i < a.off + vs.length
            · rw [if_pos hc,if_pos (by omega),show L.base + i - (L.base + a.off) = i - a.off by omega]
              exact hv.2 _ (by omega)
            · rw [if_neg hc,if_neg (by omega)]
              exact h4 i hi
          have hother : ∀ r,r ≠ L.b → (w.setCells L.b (L.base + a.off) vs').heap[r]? = w.heap[r]? := fun r hr => heap_setCells_ne L.b r hr vs' _ w
          refine ⟨there_of_block h1 hsz,fun v hv' => ?_,⟨?_, ?_, ?_, ?_,hR.glob, ?_,hR.its.keep rfl (Nat.le_refl _) (fun _ _ h _ => h) (fun r x hr => by rw [hother r (fun he => by rw [he,h1] at hr; exact x.no_cells (Option.some.inj hr).symm)]; exact hr)⟩,⟨fun _ _ h => h,World.os_setCells w _ _ _,World.output_setCells w _ _ _,tape_setCells _ _ _ _, ?_, ?_,fun _ _ h => .inl h,Nat.min_le_left _ _,Nat.le_refl _,fun _ _ => rfl, ?_, ?_, ?_,fun _ _ h => h⟩⟩
          · obtain ⟨i,hi,rfl⟩ := List.getElem_of_mem hv'
            have hi' : i < vs.length := by omega
            have := hv.2 i hi'
            simp only [List.getD_eq_getElem?_getD,List.getElem?_eq_getElem hi,List.getElem?_eq_getElem hi',Option.getD_some] at this
            rw [this.oneCell]
            exact List.all_eq_true.1 hone _ (List.getElem_mem hi')
          · intro b K hk
            rw [size_setCells]; exact hR.lt b K hk
          · exact hR.fresh
          · intro b B' K hg' hk
            rw [hget] at hg'
            split at hg'
            · rename_i hb
              subst hb
              cases hg'
              rw [hm] at hk
              cases hk
              exact hblk
            · rename_i hb
              refine (hR.blk b B' K hg' hk).same (hother _ (fun he => ?_))
              have := (hR.inj b a.block B' B K L hg' hg hk hm he hb).2
              rw [hwr] at this; cases this
          · intro b b' B1 B2 K1 K2 g1 g2 k1 k2 he hne
            rw [hget] at g1 g2
            have key : ∀ {c : Nat} {D : Blk},(if c = a.block then some { B with cells := B.cells.take a.off ++ (vs ++ B.cells.drop (a.off + vs.length)) } else h.get c) = some D → ∃ D',h.get c = some D' ∧ D'.wr = D.wr := by
              intro c D hd
              split at hd
              · rename_i hc; subst hc; cases hd; exact ⟨B,hg,rfl⟩
              · exact ⟨D,hd,rfl⟩
            obtain ⟨D1,d1,e1⟩ := key g1
            obtain ⟨D2,d2,e2⟩ := key g2
            have := hR.inj b b' D1 D2 K1 K2 d1 d2 k1 k2 he hne
            rw [e1,e2] at this
            exact this
          · intro b hb
            rw [hget]
            split
            · rename_i he; subst he
              have := hR.wf _ hb
              rw [hg] at this; cases this
            · exact hR.wf b hb
          · rw [size_setCells]; exact Nat.le_refl _
          · intro r hr hno _
            exact hother r (fun he => hno a.block B L hg hwr hm (Nat.min_le_right _ _) he.symm)
          · intro b hb hl
            rw [hget,if_neg]
            intro he; subst he
            exact absurd hl (Nat.not_lt.2 (Nat.min_le_right _ _))
          · intro b hb hd
            rw [hget]
            split
            · rename_i he; subst he; rw [hg] at hd; cases hd
            · exact hd
          · intro b B' hb hg'
            rw [hget] at hg'
            split at hg'
            · rename_i he; subst he; cases hg'; exact ⟨B,hg,rfl⟩
            · exact ⟨B',hg',rfl⟩
        · cases hp
      · cases hp
    · cases hp
  · cases hp
theorem astore_rel (hR : Rel P m h w) {t : TypeId} {p p' v v' : Value} {h' : AHeap} (hp : VRel m p p') (hv : VRel m v v') (hs : astore P t p v h = some h') :
    ∃ w',(Instr.storeAt t p' v').run P w = .ok () w' ∧ Rel P m h' w' ∧ Sim m h w m h' w' := by
  unfold astore at hs
  split at hs
  · rename_i a
    obtain ⟨L,hm,hsp,rfl⟩ := hp.inv_ptr
    split at hs
    · rename_i i hi
      split at hs
      · rename_i hb
        have hsz := Nat.eq_of_beq_eq_true hb
        have hc : LRel m (vcells v) v'.cells.toList := hv.cells
        obtain ⟨h1,h2,h3,h4⟩ := aput_rel hR hm hc hs
        refine ⟨_, ?_,h3,h4⟩
        have hst := run_storeCells_cells (P := P) L.b (L.base + a.off) v'.cells.toList 0 w (fun j hj => by simpa using (h1 j hj).1) (fun j hj => by simpa using (h1 j hj).2) h2
        have hcs : v'.cells.size = i.size := by have := hc.1; rw [hsz] at this; simpa using this.symm
        simp only [Nat.add_zero] at hst
        simp [Instr.storeAt,Instr.sureAddr,storeVar,run_sizeOf hi,hcs,hst]
      · cases hs
    · cases hs
  · cases hs
theorem src_rel (hR : Rel P m h w) {size n : Nat} {tx : TypeId} {dx : TypeDesc} {x x' : Value} {new : List Value} (hu : P.underlying tx = some dx) (hk : isSrcT dx x = true) (hx : VRel m x x') (hl : srcLen x = some n) (hn : n ≠ 0)
    (hc : srcCells size n x h = some new) : ∃ new',Src P size tx x' n new' w ∧ LRel m new new' := by
  unfold srcCells at hc
  split at hc
  · rename_i a k c
    cases hl
    split at hc
    · rename_i cs hcs
      split at hc
      · rename_i hone
        cases hc
        obtain ⟨a',c',rfl,h1,_,_⟩ := hx.inv_slice
        obtain ⟨L,hm,hs,rfl,_⟩ := h1 (.inl hn)
        obtain ⟨cs',hr,hrange,hlen⟩ := cellsAt_rel hR hm hcs
        cases dx <;> try (cases hk; done)
        refine ⟨cs',Src.ofSlice w hu _ n c' cs' (by rw [← hr.1,hlen]) (fun j u hj => by rw [add_lit]; exact hrange j u hj) (fun v hv => ?_),hr⟩
        obtain ⟨i,hi,rfl⟩ := List.getElem_of_mem hv
        have hi' : i < new.length := by rw [hr.1]; exact hi
        have := hr.2 i hi'
        simp only [List.getD_eq_getElem?_getD,List.getElem?_eq_getElem hi,List.getElem?_eq_getElem hi',Option.getD_some] at this
        rw [this.oneCell]
        exact List.all_eq_true.1 hone _ (List.getElem_mem hi')
      · cases hc
    · cases hc
  · rename_i s
    cases hl
    split at hc
    · rename_i hb
      simp only [Bool.and_eq_true] at hb
      have h2 := Nat.eq_of_beq_eq_true hb.2
      cases hc
      subst h2
      have he := hx.inv_string
      subst he
      cases dx <;> try (cases hk; done)
      refine ⟨byteCells s,Src.ofString w hu s,LRel.of_get rfl (fun i v v' h1 h2 => ?_)⟩
      unfold byteCells at h2
      rw [h1] at h2; cases h2
      refine .plain _ ?_
      simp only [List.getElem?_map,Option.map_eq_some_iff] at h1
      obtain ⟨b,_,rfl⟩ := h1
      rfl
    · cases hc
  · cases hc
theorem src_zero {size : Nat} {tx : TypeId} {dx : TypeDesc} {x x' : Value} (hu : P.underlying tx = some dx) (hk : isSrcT dx x = true) (hx : VRel m x x') (hl : srcLen x = some 0) : Src P size tx x' 0 [] w := by
  cases x <;> try (cases dx <;> cases hk; done)
  case string s =>
    have h0 : s.size = 0 := Option.some.inj hl
    cases dx <;> try (cases hk; done)
    have he := hx.inv_string
    subst he
    have hc : ∀ w' : World,(Builtin.firstCells size 0 (.string s)).run P w' = .ok (#[] : Array Value) w' := fun w' => by
      simp [Builtin.firstCells]
    exact ⟨.inr hu,fun w' => by simp [Builtin.lenOf,h0],hc w,hc w.drew,by simp,fun u hu => by cases hu⟩
  case slice a n c =>
    cases hl
    cases dx <;> try (cases hk; done)
    cases a with
    | none =>
      have he := hx.inv_snil
      subst he
      exact Src.ofNil w hu c
    | some a =>
      obtain ⟨a',c',rfl,_⟩ := hx.inv_slice
      exact Src.ofSlice w hu a' 0 c' [] (by simp) (fun j u hj => by simp at hj) (fun v hv => by simp at hv)
theorem rel_kill (hR : Rel P m h w) {a : Nat} {B : Blk} (hg : h.get a = some B) : Rel P m (h.put a none) w ∧ Sim m h w m (h.put a none) w := by
  have hget : ∀ k,(h.put a none).get k = if k = a then none else h.get k := fun k => AHeap.get_put _ _ _ _
  have hsub : ∀ {k D},(h.put a none).get k = some D → h.get k = some D := fun {k D} hk => by
    rw [hget] at hk; split at hk
    · cases hk
    · exact hk
  refine ⟨⟨hR.lt,hR.fresh,fun b B' K hg' hk => hR.blk b B' K (hsub hg') hk,fun b b' B1 B2 K1 K2 g1 g2 => hR.inj b b' B1 B2 K1 K2 (hsub g1) (hsub g2),hR.glob,fun b hb => by
      rw [hget]; split
      · rfl
      · exact hR.wf b hb,hR.its.keep rfl (Nat.le_refl _) (fun _ _ h _ => h) (fun _ _ h => h)⟩,
    ⟨fun _ _ h => h,rfl,rfl,rfl,Nat.le_refl _,fun _ _ _ _ => rfl,fun _ _ h => .inl h,Nat.min_le_left _ _,Nat.le_refl _,fun _ _ => rfl, ?_, ?_, ?_,fun _ _ h => h⟩⟩
  · intro b hb hl
    rw [hget,if_neg]
    intro he; subst he
    exact absurd hl (Nat.not_lt.2 (Nat.min_le_right _ _))
  · intro b hb hd
    rw [hget]
    split
    · rfl
    · exact hd
  · intro b B' hb hg'
    exact ⟨B',hsub hg',rfl⟩
theorem rel_tip (hR : Rel P m h w) {a : Nat} {B : Blk} {L : Loc} {C : Array Value} {e0 e : TypeId} {new new' : List Value} (hg : h.get a = some B) (hwr : B.wr = true) (hm : m a = some L) (d cap : Nat) (hd : d ≤ B.cells.length)
    (hC : w.heap[L.b]? = some (.cells C e0 (0,0))) (hsz : L.base + B.cells.length + new'.length ≤ C.size) (hn : LRel m new new') (hcs : C.size = L.base + d + cap * P.cellsOf e) (hlt : a < h.next) :
    Rel P (upd m h.next ⟨L.b,L.base + d,cap⟩) ((h.put a none).alloc ⟨B.cells.drop d ++ new,e,true,true⟩) (w.setCells L.b (L.base + B.cells.length) new') ∧
      Sim m h w (upd m h.next ⟨L.b,L.base + d,cap⟩) ((h.put a none).alloc ⟨B.cells.drop d ++ new,e,true,true⟩) (w.setCells L.b (L.base + B.cells.length) new') := by
  have hf := hR.fresh h.next (Nat.le_refl _)
  have hext := upd_ext (L := ⟨L.b,L.base + d,cap⟩) hf
  have hget : ∀ k,((h.put a none).alloc ⟨B.cells.drop d ++ new,e,true,true⟩).get k = if k = h.next then some ⟨B.cells.drop d ++ new,e,true,true⟩ else if k = a then none else h.get k := fun k => by
    rw [AHeap.get_alloc,AHeap.get_put]; rfl
  have hlow : ((h.put a none).alloc ⟨B.cells.drop d ++ new,e,true,true⟩).low ≤ a := Nat.min_le_right _ _
  have hother : ∀ r,r ≠ L.b → (w.setCells L.b (L.base + B.cells.length) new').heap[r]? = w.heap[r]? := fun r hr => heap_setCells_ne L.b r hr new' _ w
  have hcase : ∀ b K,upd m h.next ⟨L.b,L.base + d,cap⟩ b = some K → (b = h.next ∧ K = ⟨L.b,L.base + d,cap⟩) ∨ (b ≠ h.next ∧ m b = some K) := fun b K hk => by
    unfold upd at hk
    split at hk
    · cases hk; exact .inl ⟨‹_›,rfl⟩
    · exact .inr ⟨‹_›,hk⟩
  have hold : ∀ {b D},b ≠ h.next → ((h.put a none).alloc ⟨B.cells.drop d ++ new,e,true,true⟩).get b = some D → b ≠ a ∧ h.get b = some D := fun {b D} hne hd => by
    rw [hget,if_neg hne] at hd
    split at hd
    · cases hd
    · exact ⟨‹_›,hd⟩
  obtain ⟨C1,e1,fr1,k1,k2,k3,k4,k5⟩ := hR.blk _ _ _ hg hm
  rw [hC] at k1
  cases k1
  have hblk : BlkRel P (upd m h.next ⟨L.b,L.base + d,cap⟩) (w.setCells L.b (L.base + B.cells.length) new') ⟨B.cells.drop d ++ new,e,true,true⟩ ⟨L.b,L.base + d,cap⟩ := by
    refine ⟨setL C (L.base + B.cells.length) new',e0,(0,0),heap_setCells L.b e0 new' _ w C hC,fun _ => rfl, ?_,fun i hi => ?_,fun _ => ⟨rfl,by rw [setL_size]; exact hcs⟩⟩
    · rw [setL_size]; simp only [List.length_append,List.length_drop,hn.1]; omega
    · refine VRel.mono hext ?_
      rw [setL_getD _ _ _ _ hsz]
      simp only [List.length_append,List.length_drop] at hi
      rw [List.getD_eq_getElem?_getD,List.getElem?_append,List.length_drop]
      by_cases hlt' : i < B.cells.length - d
      · rw [if_pos hlt',if_neg (by simp only []; omega),List.getElem?_drop,← List.getD_eq_getElem?_getD]
        have := k4 (d + i) (by omega)
        rwa [← Nat.add_assoc] at this
      · rw [if_neg hlt',if_pos (by simp only []; rw [← hn.1]; omega),← List.getD_eq_getElem?_getD]
        have e1 : L.base + d + i - (L.base + B.cells.length) = i - (B.cells.length - d) := by omega
        simp only [e1]
        exact hn.2 _ (by omega)
  have hits : ItRel (upd m h.next ⟨L.b,L.base + d,cap⟩) ((h.put a none).alloc ⟨B.cells.drop d ++ new,e,true,true⟩) (w.setCells L.b (L.base + B.cells.length) new') := hR.its.keep rfl (Nat.le_succ _) (fun b K hk hs => by
      rcases hcase b K hk with ⟨rfl,_⟩ | ⟨_,hk⟩
      · rw [hR.its.wf _ (Nat.le_refl _)] at hs; cases hs
      · exact hk) (fun r x hr => by
      rw [hother r (fun he => by rw [he,hC] at hr; exact x.no_cells (Option.some.inj hr).symm)]; exact hr)
  refine ⟨⟨?_, ?_, ?_, ?_,fun g hg => hext _ _ (hR.glob g hg),fun b hb => ?_,hits⟩,⟨hext,World.os_setCells w _ _ _,World.output_setCells w _ _ _,tape_setCells _ _ _ _,by rw [size_setCells]; exact Nat.le_refl _, ?_, ?_,Nat.min_le_left _ _,Nat.le_succ _, ?_, ?_, ?_, ?_,fun _ _ h => h⟩⟩
  · intro b K hk
    rw [size_setCells]
    rcases hcase b K hk with ⟨_,rfl⟩ | ⟨_,hk⟩
    · exact hR.lt a L hm
    · exact hR.lt b K hk
  · intro b hb
    have hb' : h.next + 1 ≤ b := hb
    unfold upd
    rw [if_neg (by omega)]
    exact hR.fresh b (by omega)
  · intro b D K hd hk
    rcases hcase b K hk with ⟨rfl,rfl⟩ | ⟨hne,hk⟩
    · rw [hget,if_pos rfl] at hd
      cases hd
      exact hblk
    · obtain ⟨hna,hd⟩ := hold hne hd
      refine ((hR.blk b D K hd hk).mono hext).same (hother _ (fun he => ?_))
      have := (hR.inj b a D B K L hd hg hk hm he hna).2
      rw [hwr] at this; cases this
  · intro b b' D1 D2 K1 K2 g1 g2 m1 m2 he hne
    rcases hcase b K1 m1 with ⟨rfl,rfl⟩ | ⟨n1,m1⟩
    · rcases hcase b' K2 m2 with ⟨rfl,rfl⟩ | ⟨n2,m2⟩
      · exact absurd rfl hne
      · obtain ⟨hna,hd⟩ := hold n2 g2
        have := (hR.inj b' a D2 B K2 L hd hg m2 hm he.symm hna).2
        rw [hwr] at this; cases this
    · rcases hcase b' K2 m2 with ⟨rfl,rfl⟩ | ⟨n2,m2⟩
      · obtain ⟨hna,hd⟩ := hold n1 g1
        have := (hR.inj b a D1 B K1 L hd hg m1 hm he hna).2
        rw [hwr] at this; cases this
      · exact hR.inj b b' D1 D2 K1 K2 (hold n1 g1).2 (hold n2 g2).2 m1 m2 he hne
  · have hb' : h.next + 1 ≤ b := hb
    rw [hget,if_neg (by omega)]
    split
    · rfl
    · exact hR.wf b (by omega)
  · intro r hr hno _
    exact hother r (fun he => hno a B L hg hwr hm hlow he.symm)
  · intro b K hk
    rcases hcase b K hk with ⟨_,rfl⟩ | ⟨_,hk⟩
    · exact .inr (.inr ⟨a,B,L,hg,hwr,hm,rfl,hlow⟩)
    · exact .inl hk
  · intro b hb
    unfold upd
    rw [if_neg (by omega)]
  · intro b hb hl
    rw [hget,if_neg (by omega),if_neg (by omega)]
  · intro b hb hd
    rw [hget,if_neg (by omega)]
    split
    · rfl
    · exact hd
  · intro b D hb hd
    exact ⟨D,(hold (by omega) hd).2,rfl⟩
theorem lim {size bytes n : Nat} (hb : Nat.ble (n * (bytes + size + 1)) limit = true) : n < unkCap ∧ n * bytes ≤ 140737488355328 ∧ (n : Int) ≤ 9223372036854775807 := by
  have hb := Nat.le_of_ble_eq_true hb
  have h1 : n ≤ n * (bytes + size + 1) := Nat.le_mul_of_pos_right _ (by omega)
  have h2 : n * bytes ≤ n * (bytes + size + 1) := Nat.mul_le_mul_left _ (by omega)
  have hv : limit = 1099511627776 := by decide
  rw [hv] at hb
  exact ⟨Nat.lt_of_le_of_lt (Nat.le_trans h1 hb) (by decide),by omega,by omega⟩
theorem lrel_getD {l : List Value} {C : Array Value} {cs : List Value} (h : LRel m l cs) (hC : ∀ i,i < cs.length → C.getD i undef = cs.getD i undef) : ∀ i,i < l.length → VRel m (l.getD i undef) (C.getD i undef) := fun i hi => by
  rw [hC i (by rw [← h.1]; exact hi)]
  exact h.2 i hi
theorem grown_getD (l r : List Value) (Z : Array Value) (i : Nat) (hi : i < (l ++ r).length) : ((l ++ r).toArray ++ Z).getD i undef = (l ++ r).getD i undef := by
  have h1 : i < (l ++ r).toArray.size := by simpa using hi
  simp only [Array.getD_eq_getD_getElem?,List.getD_eq_getElem?_getD]
  rw [Array.getElem?_append_left h1]
  simp
theorem agrow_rel (hR : Rel P m h w) {t tx ty e : TypeId} {dx : TypeDesc} {i : TypeInfo} {z : Value} {s s' x x' v : Value} {n : Nat} {new : List Value} {h' : AHeap}
    (ht : P.underlying t = some (.slice e)) (hu : P.underlying tx = some dx) (hi : P.info? e = some i) (hz : i.zero = some z) (hk : isSrcT dx x = true) (hx : VRel m x x') (hl : srcLen x = some n) (hn : n ≠ 0)
    (hc : srcCells i.size n x h = some new) (hs : VRel m s s') (hg : agrow P.cellsOf i.size i.bytes z e s n new h = some (v,h')) :
    ∃ m' v' w',(Builtin.append_ #[t,tx] ty #[s',x']).run P w = .ok v' w' ∧ VRel m' v v' ∧ Rel P m' h' w' ∧ Sim m h w m' h' w' := by
  obtain ⟨new',hsrc,hnew⟩ := src_rel hR hu hk hx hl hn hc
  have hnl : new.length = n * i.size := by rw [hnew.1]; exact hsrc.newsLen
  have hfresh := hR.fresh h.next (Nat.le_refl _)
  have grow : ∀ (h0 : AHeap) (s0 : Sim m h w m h0 w) (_ : Rel P m h0 w) (_ : h0.next = h.next) (base : Option Addr) (sLen sCap : Nat) (old olds : List Value) (_ : LRel m old olds) (_ : old.length = sLen * i.size)
      (_ : (Builtin.firstCells i.size sLen (.slice base sLen sCap)).run P w.drew = .ok olds.toArray w.drew) (_ : sCap < sLen + n) (_ : Nat.ble ((sLen + n) * (i.bytes + i.size + 1)) limit = true) (_ : Nat.beq (vcells z).length i.size = true),
      ∃ m' v' w',(Builtin.append_ #[t,tx] ty #[.slice base sLen sCap,x']).run P w = .ok v' w' ∧ VRel m' (.slice (some ⟨h.next,0,none⟩) (sLen + n) unkCap) v' ∧ Rel P m' (h0.alloc ⟨old ++ new,e,true,true⟩) w' ∧ Sim m h w m' (h0.alloc ⟨old ++ new,e,true,true⟩) w' := by
    intro h0 s0 r0 hnx base sLen sCap old olds hold hol hrun hlt hb hzs
    obtain ⟨hl1,hl2,hl3⟩ := lim hb
    have hzs' : z.cells.size = i.size := by
      have := Nat.eq_of_beq_eq_true hzs
      rw [← cells_toList] at this
      simpa using this
    have hr := run_append_grow_src (P := P) w t tx ty e i z ht hi hz base sLen sCap olds hrun x' n new' hsrc hlt hl3 (growslice_fits hlt hl2)
    have hcap := grownCap_ge w (sLen + n) sCap e
    have hsz : ((olds ++ new').toArray ++ Builtin.zeroCells z.cells (grownCap w (sLen + n) sCap e - (sLen + n))).size = grownCap w (sLen + n) sCap e * i.size := by
      have e1 : olds.length = sLen * i.size := by rw [← hold.1]; exact hol
      have e2 : new'.length = n * i.size := hsrc.newsLen
      simp only [Builtin.zeroCells,Array.size_append,List.size_toArray,List.length_append,Array.size_map,Array.size_range,e1,e2,hzs']
      rw [← Nat.add_mul,← Nat.add_mul,Nat.add_sub_cancel' hcap]
    obtain ⟨q1,q2⟩ := rel_alloc (h := h0) (B := ⟨old ++ new,e,true,true⟩) (C := (olds ++ new').toArray ++ Builtin.zeroCells z.cells (grownCap w (sLen + n) sCap e - (sLen + n))) (e := e) (n := w.heap.size) (grownCap w (sLen + n) sCap e) r0
      (by rw [hsz]; simp only [List.length_append,hol,hnl]; rw [← Nat.add_mul]; exact Nat.mul_le_mul_right _ hcap)
      (lrel_getD (hold.append hnew) (fun k hk => grown_getD _ _ _ k hk))
      (fun _ => ⟨rfl,by rw [hsz,Program.cellsOf,hi]; rfl⟩) rfl (.inr rfl)
    rw [hnx] at q1 q2
    refine ⟨_,_,_,hr, ?_,q1,s0.trans hR q2⟩
    have := VRel.unk (m := upd m h.next ⟨w.heap.size,0,grownCap w (sLen + n) sCap e⟩) ⟨h.next,0,none⟩ ⟨w.heap.size,0,grownCap w (sLen + n) sCap e⟩ (sLen + n) (by simp [upd]) rfl rfl hcap
    exact this
  unfold agrow at hg
  split at hg
  · rename_i sLen sCap
    split at hg
    · rename_i hb
      simp only [Bool.and_eq_true] at hb
      obtain ⟨⟨⟨hb1,hb2⟩,hb3⟩,hb4⟩ := hb
      obtain rfl := Nat.eq_of_beq_eq_true hb1
      obtain rfl := Nat.eq_of_beq_eq_true hb2
      cases hg
      have he := hs.inv_snil
      subst he
      have := grow h (Sim.refl _ _ _) hR rfl none 0 0 [] [] (LRel.nil m) (by simp) (run_firstCells_none w.drew i.size 0 0 0) (by omega) (by simpa using hb3) hb4
      simpa using this
    · cases hg
  · rename_i a sLen sCap
    obtain ⟨a',c',rfl,g1,g2,g3⟩ := hs.inv_slice
    split at hg
    · rename_i hb
      simp only [Bool.and_eq_true] at hb
      obtain ⟨hb3,hb4⟩ := hb
      split at hg
      · rename_i hcap
        rw [Nat.blt_eq] at hcap
        obtain rfl := g2 hcap
        obtain ⟨L,hm,hsp,rfl,_⟩ := g1 (.inr (Nat.lt_trans hcap (by decide)))
        split at hg
        · rename_i hroom
          have hroom' := Nat.le_of_ble_eq_true hroom
          split at hg
          · rename_i h1 hp
            cases hg
            obtain ⟨p1,p2,p3,p4⟩ := aput_rel hR (a := a.add (sLen * i.size)) (by rw [add_block]; exact hm) hnew hp
            rw [add_off,← Nat.add_assoc] at p1 p3 p4
            refine ⟨m,_,_,run_append_room_src w t tx ty e i ht hi L.b (L.base + a.off) sLen c' x' n new' hsrc hroom' (fun j hj => (p1 j hj).1) (fun j hj => (p1 j hj).2),.slice a L _ _ hm hsp hcap,p3,p4⟩
          · cases hg
        · rename_i hroom
          split at hg
          · rename_i old hold
            cases hg
            have hlt : c' < sLen + n := by
              rcases Nat.lt_or_ge c' (sLen + n) with h' | h'
              · exact h'
              · have := Nat.ble_eq_true_of_le h'; rw [hroom] at this; cases this
            have hold' : ∃ cs,cellsAt h a (sLen * i.size) = some cs ∧ old = cs := by
              unfold srcCells at hold
              simp only [] at hold
              split at hold
              · rename_i cs hcs
                split at hold
                · cases hold; exact ⟨_,hcs,rfl⟩
                · cases hold
              · cases hold
            obtain ⟨cs,hcs,rfl⟩ := hold'
            obtain ⟨olds,r1,r2,r3⟩ := cellsAt_rel hR hm hcs
            exact grow h (Sim.refl _ _ _) hR rfl _ sLen c' old olds r1 r3 (run_firstCells_some w.drew i.size sLen ⟨L.b,L.base + a.off,none⟩ sLen c' olds (by rw [← r1.1,r3]) (fun j u hj => by rw [add_lit]; exact r2 j u hj)) hlt hb3 hb4
          · cases hg
      · rename_i hcap
        have hcap' : unkCap ≤ sCap := by
          rcases Nat.lt_or_ge sCap unkCap with h' | h'
          · have : Nat.blt sCap unkCap = true := by rw [Nat.blt_eq]; exact h'
            rw [hcap] at this; cases this
          · exact h'
        split at hg
        · rename_i B hbq hgB
          split at hg
          · rename_i hb
            simp only [Bool.and_eq_true] at hb
            obtain ⟨⟨⟨⟨b1,b2⟩,b3⟩,b4⟩,_⟩ := hb
            cases hg
            obtain rfl := Nat.eq_of_beq_eq_true hbq
            have b2' := Nat.eq_of_beq_eq_true b2
            have b3' := Nat.eq_of_beq_eq_true b3
            rw [Nat.blt_eq] at b4
            obtain ⟨L,hm,hsp,rfl,hun,_⟩ := g1 (.inr (by decide))
            obtain ⟨h0,rfl⟩ := hun rfl
            obtain ⟨C,e0,fr,k1,k2,k3,k4,k5⟩ := hR.blk _ _ _ hgB hm
            obtain ⟨hwr,hCs⟩ := k5 b1
            obtain rfl := k2 hwr
            obtain ⟨q1,q2⟩ := rel_kill hR hgB
            obtain ⟨hl1,hl2,hl3⟩ := lim hb3
            have hcell : P.cellsOf B.elem = i.size := b3'
            rw [hcell] at hCs
            by_cases hroom : sLen + n ≤ L.cap
            ·
              have hroomC : (sLen + n) * i.size ≤ L.cap * i.size := Nat.mul_le_mul_right _ hroom
              have hlen' : new'.length = n * i.size := hsrc.newsLen
              rw [Nat.add_mul] at hroomC
              have hth : w.there L.b (L.base + a.off + sLen * i.size) new'.length := there_of_block k1 (by rw [h0,hlen']; omega)
              have hrun := run_append_room_src w t tx ty e i ht hi L.b (L.base + a.off) sLen L.cap x' n new' hsrc hroom (fun j hj => (hth j hj).1) (fun j hj => (hth j hj).2)
              obtain ⟨r1,r2⟩ := rel_tip hR (a := a.block) hgB hwr hm 0 L.cap (Nat.zero_le _) k1 (by rw [hlen',b2',hCs]; omega) hnew (by rw [hCs,Program.cellsOf,hi]; rfl) b4 (e := e)
              rw [show L.base + a.off + sLen * i.size = L.base + B.cells.length by rw [h0,b2']; omega] at hrun
              rw [List.drop_zero] at r1 r2
              refine ⟨_,_,_,hrun, ?_,r1,r2⟩
              have := VRel.unk (m := upd m h.next ⟨L.b,L.base + 0,L.cap⟩) ⟨h.next,0,none⟩ ⟨L.b,L.base + 0,L.cap⟩ (sLen + n) (by simp [upd]) rfl rfl hroom
              rw [h0]
              exact this
            · have hlt : L.cap < sLen + n := by omega
              obtain ⟨olds,r1,r2⟩ := (hR.blk _ _ _ hgB hm).cells
              have r3 : olds.length = sLen * i.size := by rw [← r1.1,b2']
              exact grow _ q2 q1 rfl _ sLen L.cap B.cells olds r1 b2' (run_firstCells_some w.drew i.size sLen ⟨L.b,L.base + a.off,none⟩ sLen L.cap olds r3 (fun j u hj => by rw [add_lit,h0,Nat.add_zero]; exact r2 j u hj)) hlt hb3 hb4
          ·
            split at hg
            · rename_i hb
              simp only [Bool.and_eq_true] at hb
              obtain ⟨⟨⟨b1,b2⟩,b3⟩,b4⟩ := hb
              obtain rfl := Nat.eq_of_beq_eq_true hbq
              have b2' := Nat.le_of_ble_eq_true b2
              have b3' := Nat.eq_of_beq_eq_true b3
              rw [Nat.blt_eq] at b4
              obtain ⟨L,hm,hsp,rfl,hun,_⟩ := g1 (.inr (by decide))
              obtain ⟨h0,rfl⟩ := hun rfl
              obtain ⟨C,e0,fr,k1,k2,k3,k4,k5⟩ := hR.blk _ _ _ hgB hm
              obtain ⟨hwr,hCs⟩ := k5 b1
              rw [b3'] at hCs
              have hroom : sLen + n ≤ L.cap := by
                refine Nat.le_of_mul_le_mul_right (c := i.size) ?_ b4
                omega
              split at hg
              · rename_i h1 hp
                cases hg
                obtain ⟨p1,p2,p3,p4⟩ := aput_rel hR (a := a.add (sLen * i.size)) (by rw [add_block]; exact hm) hnew hp
                rw [add_off,← Nat.add_assoc] at p1 p3 p4
                refine ⟨m,_,_,run_append_room_src w t tx ty e i ht hi L.b (L.base + a.off) sLen L.cap x' n new' hsrc hroom (fun j hj => (p1 j hj).1) (fun j hj => (p1 j hj).2), ?_,p3,p4⟩
                rw [h0]
                exact .unk a L _ hm hsp h0 hroom
              · cases hg
            · cases hg
        · rename_i B hbq hgB
          split at hg
          ·
            rename_i hb
            simp only [Bool.and_eq_true] at hb
            obtain ⟨⟨⟨⟨⟨⟨⟨b0,b1⟩,b2⟩,b3⟩,b4⟩,_⟩,b5⟩,b6⟩ := hb
            cases hg
            obtain rfl := Nat.eq_of_beq_eq_true b0
            have b2' := Nat.eq_of_beq_eq_true b2
            have b3' := Nat.eq_of_beq_eq_true b3
            rw [Nat.blt_eq] at b4 b5 b6
            obtain ⟨L,hm,hsp,rfl,_,hj⟩ := g1 (.inl (by omega))
            obtain ⟨j,hj1,hj2⟩ := hj (by omega)
            rw [Nat.add_sub_cancel_left] at hj1
            obtain ⟨C,e0,fr,k1,k2,k3,k4,k5⟩ := hR.blk _ _ _ hgB hm
            obtain ⟨hwr,hCs⟩ := k5 b1
            obtain rfl := k2 hwr
            obtain ⟨q1,q2⟩ := rel_kill hR hgB
            obtain ⟨hl1,hl2,hl3⟩ := lim hb3
            rw [b3',← hj2,Nat.add_mul,← hj1] at hCs
            by_cases hroom : sLen + n ≤ c'
            · have hroomC : (sLen + n) * i.size ≤ c' * i.size := Nat.mul_le_mul_right _ hroom
              have hlen' : new'.length = n * i.size := hsrc.newsLen
              rw [Nat.add_mul] at hroomC
              have hth : w.there L.b (L.base + a.off + sLen * i.size) new'.length := there_of_block k1 (by rw [hlen']; omega)
              have hrun := run_append_room_src w t tx ty e i ht hi L.b (L.base + a.off) sLen c' x' n new' hsrc hroom (fun j hj => (hth j hj).1) (fun j hj => (hth j hj).2)
              obtain ⟨r1,r2⟩ := rel_tip hR (a := a.block) hgB hwr hm a.off c' (by omega) k1 (by rw [hlen',b2',hCs]; omega) hnew (by rw [hCs,Program.cellsOf,hi]; simp only [Option.map_some,Option.getD_some]; omega) b4 (e := e)
              rw [show L.base + a.off + sLen * i.size = L.base + B.cells.length by rw [b2']; omega] at hrun
              refine ⟨_,_,_,hrun, ?_,r1,r2⟩
              exact VRel.unk (m := upd m h.next ⟨L.b,L.base + a.off,c'⟩) ⟨h.next,0,none⟩ ⟨L.b,L.base + a.off,c'⟩ (sLen + n) (by simp [upd]) rfl rfl hroom
            · have hlt : c' < sLen + n := by omega
              obtain ⟨olds,r1,r2⟩ := (hR.blk _ _ _ hgB hm).cells
              have hol : (B.cells.drop a.off).length = sLen * i.size := by rw [List.length_drop,b2']; omega
              have r3 : (olds.drop a.off).length = sLen * i.size := by rw [← (r1.drop a.off).1,hol]
              exact grow _ q2 q1 rfl _ sLen c' (B.cells.drop a.off) (olds.drop a.off) (r1.drop a.off) hol (run_firstCells_some w.drew i.size sLen ⟨L.b,L.base + a.off,none⟩ sLen c' (olds.drop a.off) r3 (fun k u hk => by
                rw [add_lit]
                rw [List.getElem?_drop] at hk
                have := r2 (a.off + k) u hk
                rwa [← Nat.add_assoc] at this)) hlt hb3 hb4
          · cases hg
        · cases hg
    · cases hg
  · cases hg
theorem aappend_rel (hR : Rel P m h w) {types : Array TypeId} {ty : TypeId} {s s' x x' v : Value} {h' : AHeap} (hs : VRel m s s') (hx : VRel m x x') (ha : aappend P types s x h = some (v,h')) :
    ∃ m' v' w',(Builtin.append_ types ty #[s',x']).run P w = .ok v' w' ∧ VRel m' v v' ∧ Rel P m' h' w' ∧ Sim m h w m' h' w' := by
  unfold aappend at ha
  split at ha
  · rename_i t tx htt
    obtain rfl : types = #[t,tx] := Array.ext' (by simpa using htt)
    split at ha
    · rename_i e dx ht hu
      split at ha
      · rename_i i hi hk
        split at ha
        · rename_i z n hz hl
          split at ha
          · rename_i hn
            obtain rfl := Nat.eq_of_beq_eq_true hn
            split at ha
            · rename_i base sLen sCap
              split at ha
              · rename_i hle
                have hle' := Nat.le_of_ble_eq_true hle
                cases ha
                cases base with
                | none =>
                  have he := hs.inv_snil
                  subst he
                  exact ⟨m,_,w,run_append_nothing w t tx ty e i ht hi none sLen sCap hle' x' (src_zero hu hk hx hl),hs,hR,Sim.refl _ _ _⟩
                | some a =>
                  obtain ⟨a',c',rfl,_,g2,g3⟩ := hs.inv_slice
                  have hle2 : sLen ≤ c' := by
                    rcases Nat.lt_or_ge sCap unkCap with hh | hh
                    · rw [g2 hh]; exact hle'
                    · exact (g3 hh).2
                  exact ⟨m,_,w,run_append_nothing w t tx ty e i ht hi (some a') sLen c' hle2 x' (src_zero hu hk hx hl),hs,hR,Sim.refl _ _ _⟩
              · cases ha
            · cases ha
          · rename_i hn
            split at ha
            · rename_i new hnew
              exact agrow_rel hR ht hu hi hz hk hx hl (Nat.ne_of_beq_eq_false hn) hnew hs ha
            · cases ha
        · cases ha
      · cases ha
    · cases ha
  · cases ha
theorem src_first (hR : Rel P m h w) {size n len : Nat} {x x' : Value} {new : List Value} (hx : VRel m x x') (hl : srcLen x = some len) (hn : n ≠ 0) (hle : n ≤ len)
    (hc : srcCells size n x h = some new) : ∃ new',(Builtin.firstCells size n x').run P w = .ok new'.toArray w ∧ LRel m new new' := by
  unfold srcCells at hc
  split at hc
  · rename_i a k c
    cases hl
    have hk : len ≠ 0 := fun e => hn (Nat.le_zero.1 (e ▸ hle))
    split at hc
    · rename_i cs hcs
      split at hc
      · cases hc
        obtain ⟨a',c',rfl,h1,_,_⟩ := hx.inv_slice
        obtain ⟨L,hm,hs,rfl,_⟩ := h1 (.inl hk)
        obtain ⟨cs',hr,hrange,hlen⟩ := cellsAt_rel hR hm hcs
        exact ⟨cs',run_firstCells_some w size n ⟨L.b,L.base + a.off,none⟩ _ c' cs' (by rw [← hr.1,hlen]) (fun j u hj => by rw [add_lit]; exact hrange j u hj),hr⟩
      · cases hc
    · cases hc
  · rename_i s
    cases hl
    split at hc
    · rename_i hb
      simp only [Bool.and_eq_true] at hb
      have h1 := Nat.eq_of_beq_eq_true hb.1
      have h2 := Nat.eq_of_beq_eq_true hb.2
      cases hc
      subst h1 h2
      have he := hx.inv_string
      subst he
      refine ⟨byteCells s,firstCells_string s w,LRel.of_get rfl (fun i v v' h1 h2 => ?_)⟩
      unfold byteCells at h2
      rw [h1] at h2; cases h2
      refine .plain _ ?_
      simp only [List.getElem?_map,Option.map_eq_some_iff] at h1
      obtain ⟨b,_,rfl⟩ := h1
      rfl
    · cases hc
  · cases hc
theorem lenOf_rel {x x' : Value} {n : Nat} (hx : VRel m x x') (hl : srcLen x = some n) : (Builtin.lenOf x').run P w = .ok n w ∧ (Builtin.firstCells (P.cellsOf 0) 0 x').run P w = .ok #[] w ∧ ∀ size,(Builtin.firstCells size 0 x').run P w = .ok #[] w := by
  cases x <;> try (cases hl; done)
  case string s =>
    cases hl
    have he := hx.inv_string
    subst he
    have hc : ∀ size,(Builtin.firstCells size 0 (.string s)).run P w = .ok (#[] : Array Value) w := fun size => by simp [Builtin.firstCells]
    exact ⟨rfl,hc _,hc⟩
  case slice a n c =>
    cases hl
    cases a with
    | none =>
      have he := hx.inv_snil
      subst he
      have hc : ∀ size,(Builtin.firstCells size 0 (.slice none n c)).run P w = .ok (#[] : Array Value) w := fun size => by simp [Builtin.firstCells]
      exact ⟨rfl,hc _,hc⟩
    | some a =>
      obtain ⟨a',c',rfl,_⟩ := hx.inv_slice
      have hc : ∀ size,(Builtin.firstCells size 0 (.slice (some a') n c')).run P w = .ok (#[] : Array Value) w := fun size => by
        simp [Builtin.firstCells,loadCells,loadCellsFrom]
      exact ⟨rfl,hc _,hc⟩
theorem acopy_rel (hR : Rel P m h w) {types : Array TypeId} {ty : TypeId} {d d' x x' v : Value} {h' : AHeap} (hd : VRel m d d') (hx : VRel m x x') (ha : acopy P types d x h = some (v,h')) :
    ∃ v' w',(Builtin.copy_ types ty #[d',x']).run P w = .ok v' w' ∧ VRel m v v' ∧ Rel P m h' w' ∧ Sim m h w m h' w' := by
  unfold acopy at ha
  split at ha
  · rename_i t tx htt
    obtain rfl : types = #[t,tx] := Array.ext' (by simpa using htt)
    split at ha
    · rename_i e dx ht hu
      split at ha
      · rename_i i hi hk
        split at ha
        · rename_i base dLen dCap n hl
          obtain ⟨l1,_,l3⟩ := lenOf_rel (P := P) (w := w) hx hl
          split at ha
          · rename_i hn
            have hn' := Nat.eq_of_beq_eq_true hn
            cases ha
            cases base with
            | none =>
              have he := hd.inv_snil
              subst he
              exact ⟨.int .i64 0,w,by simp [Builtin.copy_,run_underlying ht,run_sizeOf hi,l1,hn',l3,goInt],.plain _ rfl,hR,Sim.refl _ _ _⟩
            | some a =>
              obtain ⟨a',c',rfl,_⟩ := hd.inv_slice
              exact ⟨.int .i64 0,w,by simp [Builtin.copy_,run_underlying ht,run_sizeOf hi,l1,hn',l3,goInt,storeCells],.plain _ rfl,hR,Sim.refl _ _ _⟩
          · rename_i hn
            have hn' := Nat.ne_of_beq_eq_false hn
            split at ha
            · rename_i cs a hcs
              split at ha
              · rename_i h1 hp
                cases ha
                obtain ⟨a',c',rfl,g1,_,_⟩ := hd.inv_slice
                have hd0 : dLen ≠ 0 := by intro e; subst e; exact hn' (Nat.min_zero _)
                obtain ⟨L,hm,hsp,rfl,_⟩ := g1 (.inl hd0)
                obtain ⟨cs',f1,f2⟩ := src_first hR hx hl hn' (Nat.min_le_left _ _) hcs
                obtain ⟨p1,p2,p3,p4⟩ := aput_rel hR hm f2 hp
                have hst := run_storeCells_cells (P := P) L.b (L.base + a.off) cs' 0 w (fun j hj => by simpa using (p1 j hj).1) (fun j hj => by simpa using (p1 j hj).2) p2
                simp only [Nat.add_zero] at hst
                exact ⟨_,_,by simp [Builtin.copy_,run_underlying ht,run_sizeOf hi,l1,f1,hst,goInt],.plain _ rfl,p3,p4⟩
              · cases ha
            · cases ha
        · cases ha
      · cases ha
    · cases ha
  · cases ha
end
section
variable {P : Program} {m : BMap} {h : AHeap} {w : World}
def itSet (w : World) (r : Nat) (o : Obj) : World := { w with heap := w.heap.setIfInBounds r o }
theorem run_range {t : TypeId} {s : ByteArray} (ht : P.underlying t = some .string) : (Instr.range t (.string s)).run P w = .ok (.pointer (some ⟨w.heap.size,0,none⟩)) (w.alloc (.stringIter s 0)) := by
  simp [Instr.range,run_underlying ht,Result.andThen]
theorem run_next_more {r pos : Nat} {s : ByteArray} {ty : TypeId} (hr : w.heap[r]? = some (.stringIter s pos)) (hp : pos < s.size) :
    (Instr.next (.pointer (some ⟨r,0,none⟩)) true ty).run P w = .ok (.tuple #[.bool true,.int .i64 pos,.int .i32 (Utf8.decode s pos).1]) (itSet w r (.stringIter s (pos + (Utf8.decode s pos).2))) := by
  have hlt := (Array.getElem?_eq_some_iff.1 hr).1
  simp only [Instr.next,getObj,setObj,Sem.run_bind,Sem.run,hr,Result.andThen,hp,if_true]
  simp [goInt,itSet,hlt]
theorem run_next_over {r pos : Nat} {s : ByteArray} {ty : TypeId} (hr : w.heap[r]? = some (.stringIter s pos)) (hp : ¬ pos < s.size) :
    (Instr.next (.pointer (some ⟨r,0,none⟩)) true ty).run P w = .ok (.tuple #[.bool false]) w := by
  simp only [Instr.next,getObj,setObj,Sem.run_bind,Sem.run,hr,Result.andThen,hp,if_false]
  rfl
theorem vrel_bools {l : List Value} (hl : ∀ v ∈ l,plain v = true) : VRel m (.tuple l.toArray) (.tuple l.toArray) :=
  .tuple _ _ rfl (fun i hi => by
    have hi' : i < l.length := by simpa using hi
    have := hl l[i] (List.getElem_mem hi')
    simp only [Array.getD,hi,dif_pos]
    exact .plain _ (by simpa using this))
theorem rel_newIt (hR : Rel P m h w) (x : Oth) : Rel P (upd m h.next ⟨w.heap.size,0,0⟩) (h.newIt x) (w.alloc x.obj) ∧ Sim m h w (upd m h.next ⟨w.heap.size,0,0⟩) (h.newIt x) (w.alloc x.obj) := by
  have hf := hR.fresh h.next (Nat.le_refl _)
  have hext := upd_ext (L := ⟨w.heap.size,0,0⟩) hf
  have hcase : ∀ a K,upd m h.next ⟨w.heap.size,0,0⟩ a = some K → (a = h.next ∧ K = ⟨w.heap.size,0,0⟩) ∨ (a ≠ h.next ∧ m a = some K) := fun a K hk => by
    unfold upd at hk
    split at hk
    · cases hk; exact .inl ⟨‹_›,rfl⟩
    · exact .inr ⟨‹_›,hk⟩
  have hheap : ∀ r,r < w.heap.size → (w.alloc x.obj).heap[r]? = w.heap[r]? := fun r hr => heap_alloc_lt w _ r hr
  have hnew : (w.alloc x.obj).heap[w.heap.size]? = some x.obj := heap_alloc_new w _
  have hgn : h.get h.next = none := hR.wf _ (Nat.le_refl _)
  have hsize : (w.alloc x.obj).heap.size = w.heap.size + 1 := by simp
  refine ⟨⟨?_, ?_, ?_, ?_,fun g hg => hext _ _ (hR.glob g hg),fun a ha => hR.wf a (Nat.le_trans (Nat.le_succ _) ha),⟨?_, ?_, ?_⟩⟩,
    ⟨hext,rfl,rfl,rfl,by omega,fun r hr _ _ => hheap r hr, ?_,Nat.le_refl _,Nat.le_succ _, ?_,fun _ _ _ => rfl,fun _ _ h => h,fun _ B' _ h => ⟨B',h,rfl⟩, ?_⟩⟩
  · intro a K hk
    rcases hcase a K hk with ⟨_,rfl⟩ | ⟨_,hk⟩
    · simp [hsize]
    · have := hR.lt a K hk; omega
  · intro a ha
    have ha' : h.next + 1 ≤ a := ha
    unfold upd
    rw [if_neg (by omega)]
    exact hR.fresh a (by omega)
  · intro a B' K hg hk
    rw [AHeap.get_newIt] at hg
    rcases hcase a K hk with ⟨rfl,_⟩ | ⟨_,hk⟩
    · rw [hgn] at hg; cases hg
    · exact ((hR.blk a B' K hg hk).mono hext).same (hheap _ (hR.lt a K hk))
  · intro a a' B1 B2 K1 K2 g1 g2 k1 k2 he hne
    rw [AHeap.get_newIt] at g1 g2
    rcases hcase a K1 k1 with ⟨rfl,_⟩ | ⟨_,k1⟩
    · rw [hgn] at g1; cases g1
    · rcases hcase a' K2 k2 with ⟨rfl,_⟩ | ⟨_,k2⟩
      · rw [hgn] at g2; cases g2
      · exact hR.inj a a' B1 B2 K1 K2 g1 g2 k1 k2 he hne
  · intro a y K hx hk
    rw [AHeap.getIt_newIt] at hx
    rcases hcase a K hk with ⟨rfl,rfl⟩ | ⟨hne,hk⟩
    · rw [if_pos rfl] at hx
      cases hx
      exact ⟨hnew,rfl⟩
    · rw [if_neg hne] at hx
      obtain ⟨e1,e2⟩ := hR.its.at_ a y K hx hk
      exact ⟨(hheap _ (hR.lt a K hk)).trans e1,e2⟩
  · intro a a' y y' K K' hx hx' hk hk' he
    rw [AHeap.getIt_newIt] at hx hx'
    rcases hcase a K hk with ⟨rfl,rfl⟩ | ⟨n1,hk⟩
    · rcases hcase a' K' hk' with ⟨rfl,_⟩ | ⟨_,hk'⟩
      · rfl
      · have := hR.lt a' K' hk'; simp at he; omega
    · rcases hcase a' K' hk' with ⟨rfl,rfl⟩ | ⟨n2,hk'⟩
      · have := hR.lt a K hk; simp at he; omega
      · rw [if_neg n1] at hx
        rw [if_neg n2] at hx'
        exact hR.its.inj a a' y y' K K' hx hx' hk hk' he
  · intro a ha
    have ha' : h.next + 1 ≤ a := ha
    rw [AHeap.getIt_newIt,if_neg (by omega)]
    exact hR.its.wf a (by omega)
  · intro a K hk
    rcases hcase a K hk with ⟨_,rfl⟩ | ⟨_,hk⟩
    · exact .inr (.inl (Nat.le_refl _))
    · exact .inl hk
  · intro a ha
    unfold upd
    rw [if_neg (by omega)]
  · intro a ha hd
    rw [AHeap.getIt_newIt,if_neg (by omega)]; exact hd
theorem rel_setIt (hR : Rel P m h w) {a : Nat} {L : Loc} {y : Oth} (hy : h.getIt a = some y) (hm : m a = some L) (x : Oth) : Rel P m (h.setIt a x) (itSet w L.b x.obj) ∧ Sim m h w m (h.setIt a x) (itSet w L.b x.obj) := by
  obtain ⟨hr,hb⟩ := hR.its.at_ a y L hy hm
  have hrlt := (Array.getElem?_eq_some_iff.1 hr).1
  have hother : ∀ r,r ≠ L.b → (itSet w L.b x.obj).heap[r]? = w.heap[r]? := fun r hne => by
    unfold itSet
    rw [Array.getElem?_setIfInBounds_ne (Ne.symm hne)]
  have hself : (itSet w L.b x.obj).heap[L.b]? = some x.obj := by
    unfold itSet
    rw [Array.getElem?_setIfInBounds_self_of_lt hrlt]
  have hsz : (itSet w L.b x.obj).heap.size = w.heap.size := by simp [itSet]
  refine ⟨⟨?_,hR.fresh, ?_, ?_,hR.glob,hR.wf,⟨?_, ?_, ?_⟩⟩,
    ⟨fun _ _ h => h,rfl,rfl,rfl,by rw [hsz]; exact Nat.le_refl _, ?_,fun _ _ h => .inl h,Nat.min_le_left _ _,Nat.le_refl _,fun _ _ => rfl,fun _ _ _ => rfl,fun _ _ h => h,fun _ B' _ h => ⟨B',h,rfl⟩, ?_⟩⟩
  · intro b K hk
    rw [hsz]; exact hR.lt b K hk
  · intro b B K hg hk
    refine (hR.blk b B K hg hk).same (hother _ (fun he => ?_))
    obtain ⟨C,e,fr,c1,_⟩ := hR.blk b B K hg hk
    rw [he,hr] at c1
    exact y.no_cells (Option.some.inj c1)
  · exact fun b b' B1 B2 K1 K2 g1 g2 => hR.inj b b' B1 B2 K1 K2 g1 g2
  · intro b z K hx hk
    rw [AHeap.getIt_setIt] at hx
    split at hx
    · rename_i e; subst e
      cases hx
      rw [hm] at hk; cases hk
      exact ⟨hself,hb⟩
    · rename_i hne
      obtain ⟨e1,e2⟩ := hR.its.at_ b z K hx hk
      exact ⟨(hother _ (fun he => hne (hR.its.inj b a _ _ K L hx hy hk hm he))).trans e1,e2⟩
  · intro b b' z z' K K' hx hx' hk hk' he
    rw [AHeap.getIt_setIt] at hx hx'
    have key : ∀ {c : Nat} {z : Oth},(if c = a then some x else h.getIt c) = some z → ∃ z',h.getIt c = some z' := by
      intro c z hz
      split at hz
      · rename_i e; subst e; exact ⟨_,hy⟩
      · exact ⟨_,hz⟩
    obtain ⟨z1,q1⟩ := key hx
    obtain ⟨z2,q2⟩ := key hx'
    exact hR.its.inj b b' z1 z2 K K' q1 q2 hk hk' he
  · intro b hb'
    rw [AHeap.getIt_setIt]
    split
    · rename_i e; subst e
      have := hR.its.wf _ hb'
      rw [hy] at this; cases this
    · exact hR.its.wf b hb'
  · intro r hr' _ hit
    exact hother r (fun he => hit a _ L hy hm (Nat.min_le_right _ _) he.symm)
  · intro b hb' hd
    rw [AHeap.getIt_setIt]
    split
    · rename_i e; subst e; rw [hy] at hd; cases hd
    · exact hd
theorem arange_rel (hR : Rel P m h w) {t : TypeId} {s : ByteArray} {h' : AHeap} {v : Value} (hq : arange P t (some (.string s)) h = some (v,h')) :
    ∃ m' v' w',(Instr.range t (.string s)).run P w = .ok v' w' ∧ VRel m' v v' ∧ Rel P m' h' w' ∧ Sim m h w m' h' w' := by
  unfold arange at hq
  split at hq
  · rename_i s1 ht hs
    cases hs
    cases hq
    obtain ⟨r1,r2⟩ := rel_newIt hR (.it s 0)
    refine ⟨_,_,_,run_range ht, ?_,r1,r2⟩
    have := VRel.ptr (m := upd m h.next ⟨w.heap.size,0,0⟩) ⟨h.next,0,none⟩ ⟨w.heap.size,0,0⟩ (by unfold upd; rw [if_pos rfl]) rfl
    simpa using this
  · cases hq
theorem anext_rel (hR : Rel P m h w) {x x' v : Value} {isStr : Bool} {ty : TypeId} {h' : AHeap} (hx : VRel m x x') (hq : anext (some x) isStr h = some (v,h')) :
    ∃ v' w',(Instr.next x' isStr ty).run P w = .ok v' w' ∧ VRel m v v' ∧ Rel P m h' w' ∧ Sim m h w m h' w' := by
  unfold anext at hq
  split at hq
  · rename_i a hxa
    cases hxa
    obtain ⟨L,hm,hs,rfl⟩ := hx.inv_ptr
    split at hq
    · rename_i s pos h0 hy
      have h0 := Nat.eq_of_beq_eq_true h0
      obtain ⟨hr,hb⟩ := hR.its.at_ a.block _ L hy hm
      simp only [Oth.obj] at hr
      rw [h0,hb]
      split at hq
      · rename_i hlt
        have hlt := Nat.le_of_ble_eq_true hlt
        cases hq
        obtain ⟨r1,r2⟩ := rel_setIt hR hy hm (.it s (pos + (Utf8.decode s pos).2))
        exact ⟨_,_,run_next_more hr hlt,vrel_bools (l := [_,_,_]) (by intro v hv; simp at hv; rcases hv with rfl | rfl | rfl <;> rfl),r1,r2⟩
      · rename_i hlt
        cases hq
        have hlt : ¬ pos < s.size := fun hl => by
          rw [show Nat.blt pos s.size = true from Nat.ble_eq_true_of_le hl] at hlt; cases hlt
        exact ⟨_,_,run_next_over hr hlt,vrel_bools (l := [_]) (by intro v hv; simp at hv; rcases hv with rfl; rfl),hR,Sim.refl _ _ _⟩
    · cases hq
  · cases hq
theorem mapTy_some {t k e : TypeId} (ht : mapTy P t = some (k,e)) : P.underlying t = some (.map k e) := by
  unfold mapTy at ht
  split at ht
  · rename_i hu; cases ht; exact hu
  · cases ht
theorem run_afind {kt : TypeId} {emp : Bool} {k : Value} {es : List MapEntry} {r : Option (Nat × Value)} (ha : afind P kt emp k es = some r) (w : World) :
    (Instr.checkKey emp 10000 kt k).run P w = .ok () w ∧ (Instr.findKey kt k es).run P w = .ok r w := by
  unfold afind at ha
  split at ha
  · rename_i u hu
    exact ⟨prun_run _ _ w hu,prun_run _ _ w ha⟩
  · cases ha
theorem run_azero {t : TypeId} {z : Value} (hz : azero P t = some z) (w : World) : (zeroValue t).run P w = .ok z w := by
  unfold azero at hz
  split at hz
  · rename_i i hi
    simp [zeroValue,typeInfo,hi,hz]
  · cases hz
theorem mapAt_rel (hR : Rel P m h w) {x x' : Value} {es : List MapEntry} {c : Nat} (hx : VRel m x x') (hq : mapAt h x = some (es,c)) :
    (x = .map none ∧ x' = .map none ∧ es = []) ∨ ∃ r,x' = .map (some r) ∧ w.heap[r]? = some (.map es.toArray c) := by
  unfold mapAt at hq
  split at hq
  · cases hq
    exact .inl ⟨rfl,hx.inv_plain rfl,rfl⟩
  · rename_i a
    split at hq
    · rename_i es' c' hy
      cases hq
      obtain ⟨L,hm,rfl⟩ := hx.inv_map
      exact .inr ⟨L.b,rfl,(hR.its.at_ _ _ L hy hm).1⟩
    · cases hq
  · cases hq
theorem lookRes_rel {ok : Bool} {v : Value} {b : Bool} (hv : plainV v = true) : VRel m (lookRes ok v b) (lookRes ok v b) := by
  cases ok with
  | false => exact VRel.of_plainV hv
  | true => exact VRel.tuple_of (l := [_,_]) (l' := [_,_]) (LRel.cons (VRel.of_plainV hv) (LRel.cons (.plain _ rfl) (LRel.nil m)))
theorem alook_rel (hR : Rel P m h w) {t : TypeId} {x x' k v : Value} {es : List MapEntry} {c : Nat} {ok : Bool} (hx : VRel m x x') (hq : mapAt h x = some (es,c)) (ha : alook P t es k ok = some v) :
    (Instr.lookup t x' k ok).run P w = .ok v w ∧ VRel m v v := by
  unfold alook at ha
  split at ha
  · rename_i kt et ht
    have hu := mapTy_some ht
    split at ha
    · rename_i i u hf
      split at ha
      · rename_i hp
        cases ha
        refine ⟨?_,lookRes_rel hp⟩
        obtain ⟨c1,c2⟩ := run_afind hf w
        rcases mapAt_rel hR hx hq with ⟨_,rfl,rfl⟩ | ⟨r,rfl,hr⟩
        · simp only [List.isEmpty_nil] at c1
          simp [Instr.lookup,run_underlying hu,c1,c2,Result.andThen,lookRes]
          cases ok <;> rfl
        · simp [Instr.lookup,run_underlying hu,getObj,hr,Sem.run,c1,c2,Result.andThen,lookRes]
          cases ok <;> rfl
      · cases ha
    · rename_i hf
      split at ha
      · rename_i z hz
        split at ha
        · rename_i hp
          cases ha
          refine ⟨?_,lookRes_rel hp⟩
          obtain ⟨c1,c2⟩ := run_afind hf w
          have c3 := run_azero hz w
          rcases mapAt_rel hR hx hq with ⟨_,rfl,rfl⟩ | ⟨r,rfl,hr⟩
          · simp only [List.isEmpty_nil] at c1
            simp [Instr.lookup,run_underlying hu,c1,c2,c3,Result.andThen,lookRes]
            cases ok <;> rfl
          · simp [Instr.lookup,run_underlying hu,getObj,hr,Sem.run,c1,c2,c3,Result.andThen,lookRes]
            cases ok <;> rfl
        · cases ha
      · cases ha
    · cases ha
  · cases ha
theorem modify_eq {es : List MapEntry} {i : Nat} {e : MapEntry} {g : MapEntry → MapEntry} (he : es[i]? = some e) : es.modify i g = es.set i (g e) := by
  obtain ⟨hi,rfl⟩ := List.getElem?_eq_some_iff.1 he
  apply List.ext_getElem?
  intro j
  rw [List.getElem?_modify,List.getElem?_set]
  by_cases e : i = j
  · subst e; simp [hi]
  · simp [e]
theorem run_stays {old new : Value} (hs : Instr.sameBits 10000 old new = true) (w : World) : (Instr.keyThatStays old new).run P w = .ok new w := by
  unfold Instr.keyThatStays
  rw [if_pos hs]
  rfl
theorem aupd_run {t : TypeId} {es es' : List MapEntry} {c c' r : Nat} {k v : Value} (hr : w.heap[r]? = some (.map es.toArray c)) (ha : aupd P t es c k v = some (es',c')) :
    (Instr.mapUpdate t (.map (some r)) k v).run P w = .ok () (itSet w r (.map es'.toArray c')) := by
  obtain ⟨hlt,hg⟩ := Array.getElem?_eq_some_iff.1 hr
  unfold aupd at ha
  split at ha
  · rename_i kt et ht
    have hu := mapTy_some ht
    split at ha
    · rename_i i u hf
      obtain ⟨c1,c2⟩ := run_afind hf w
      split at ha
      · rename_i e he
        split at ha
        · rename_i hs
          cases ha
          have c3 := run_stays (P := P) hs w
          simp [Instr.mapUpdate,run_underlying hu,getObj,setObj,hr,Sem.run,c1,c2,he,c3,Result.andThen,itSet,modify_eq he,hlt,hg]
        · cases ha
      · cases ha
    · rename_i hf
      obtain ⟨c1,c2⟩ := run_afind hf w
      cases ha
      simp [Instr.mapUpdate,run_underlying hu,getObj,setObj,hr,Sem.run,c1,c2,Result.andThen,itSet,hlt,hg]
    · cases ha
  · cases ha
theorem aent_run {t : TypeId} {es es' : List MapEntry} {c c' r : Nat} {k v : Value} (hr : w.heap[r]? = some (.map es.toArray c)) (ha : aent P t es c k = some (v,es',c')) :
    (Instr.mapEntry t (.map (some r)) k).run P w = .ok v (itSet w r (.map es'.toArray c')) ∧ VRel m v v := by
  obtain ⟨hlt,hg⟩ := Array.getElem?_eq_some_iff.1 hr
  unfold aent at ha
  split at ha
  · rename_i kt et ht
    have hu := mapTy_some ht
    split at ha
    · rename_i i u hf
      obtain ⟨c1,c2⟩ := run_afind hf w
      split at ha
      · rename_i e he
        split at ha
        · rename_i hs
          simp only [Bool.and_eq_true] at hs
          cases ha
          have c3 := run_stays (P := P) hs.1 w
          refine ⟨?_,VRel.tuple_of (l := [_,_]) (l' := [_,_]) (LRel.cons (VRel.of_plainV hs.2) (LRel.cons (.plain _ rfl) (LRel.nil m)))⟩
          simp [Instr.mapEntry,run_underlying hu,getObj,setObj,hr,Sem.run,c1,c2,he,c3,Result.andThen,itSet,modify_eq he,hlt,hg]
        · cases ha
      · cases ha
    · rename_i hf
      obtain ⟨c1,c2⟩ := run_afind hf w
      split at ha
      · rename_i z hz
        split at ha
        · rename_i hp
          cases ha
          have c3 := run_azero hz w
          refine ⟨?_,VRel.tuple_of (l := [_,_]) (l' := [_,_]) (LRel.cons (VRel.of_plainV hp) (LRel.cons (.plain _ rfl) (LRel.nil m)))⟩
          simp [Instr.mapEntry,run_underlying hu,getObj,setObj,hr,Sem.run,c1,c2,c3,Result.andThen,itSet,hlt,hg]
        · cases ha
      · cases ha
    · cases ha
  · cases ha
theorem aest_run {t : TypeId} {es es' : List MapEntry} {c r : Nat} {k v : Value} (hr : w.heap[r]? = some (.map es.toArray c)) (ha : aest es k v = some es') :
    (Instr.entryStore t (.map (some r)) k v).run P w = .ok () (itSet w r (.map es'.toArray c)) := by
  obtain ⟨hlt,hg⟩ := Array.getElem?_eq_some_iff.1 hr
  unfold aest at ha
  split at ha
  · rename_i n
    split at ha
    · rename_i i hf
      split at ha
      · rename_i e he
        cases ha
        simp [Instr.entryStore,getObj,setObj,hr,Sem.run,asInt,asIntOf,hf,Result.andThen,itSet,modify_eq he,hlt,hg]
      · cases ha
    · cases ha
  · cases ha
theorem adel_run {types : Array TypeId} {t ty : TypeId} {es es' : List MapEntry} {c r : Nat} {k : Value} (ht : types[0]? = some t) (hr : w.heap[r]? = some (.map es.toArray c)) (ha : adel P t es k = some es') :
    (Builtin.delete_ types ty #[.map (some r),k]).run P w = .ok (.tuple #[]) (itSet w r (.map es'.toArray c)) := by
  obtain ⟨hlt,hg⟩ := Array.getElem?_eq_some_iff.1 hr
  unfold adel at ha
  split at ha
  · rename_i kt et hty
    have hu := mapTy_some hty
    split at ha
    · rename_i i u hf
      obtain ⟨c1,c2⟩ := run_afind hf w
      cases ha
      simp [Builtin.delete_,ht,run_underlying hu,getObj,setObj,hr,Sem.run,c1,c2,Result.andThen,itSet,hlt,hg]
    · rename_i hf
      obtain ⟨c1,c2⟩ := run_afind hf w
      cases ha
      simp [Builtin.delete_,ht,run_underlying hu,getObj,setObj,hr,Sem.run,c1,c2,Result.andThen,itSet,hlt,hg]
    · cases ha
  · cases ha
theorem amapTo_rel (hR : Rel P m h w) {x x' v : Value} {g : List MapEntry → Nat → Option (Value × List MapEntry × Nat)} {h' : AHeap} (hx : VRel m x x') (hq : amapTo h x g = some (v,h')) :
    ∃ r es c es' c',x' = .map (some r) ∧ w.heap[r]? = some (.map es.toArray c) ∧ g es c = some (v,es',c') ∧ Rel P m h' (itSet w r (.map es'.toArray c')) ∧ Sim m h w m h' (itSet w r (.map es'.toArray c')) := by
  unfold amapTo at hq
  split at hq
  · rename_i a
    split at hq
    · rename_i es c hy
      split at hq
      · rename_i u es' c' hg
        cases hq
        obtain ⟨L,hm,rfl⟩ := hx.inv_map
        obtain ⟨r1,r2⟩ := rel_setIt hR hy hm (.mp es' c')
        exact ⟨L.b,es,c,es',c',rfl,(hR.its.at_ _ _ L hy hm).1,hg,r1,r2⟩
      · cases hq
    · cases hq
  · cases hq
theorem amake_rel (hR : Rel P m h w) : Rel P (upd m h.next ⟨w.heap.size,0,0⟩) (h.newIt (.mp [] 0)) (w.alloc (.map #[] 0)) ∧ Sim m h w (upd m h.next ⟨w.heap.size,0,0⟩) (h.newIt (.mp [] 0)) (w.alloc (.map #[] 0)) ∧
    VRel (upd m h.next ⟨w.heap.size,0,0⟩) (.map (some h.next)) (.map (some w.heap.size)) := by
  obtain ⟨r1,r2⟩ := rel_newIt hR (.mp [] 0)
  exact ⟨r1,r2,.map _ ⟨w.heap.size,0,0⟩ (by unfold upd; rw [if_pos rfl])⟩
end
section
variable {P : Program} {m : BMap} {h : AHeap} {w : World}
theorem aclear_rel (hR : Rel P m h w) {types : Array TypeId} {t ty : TypeId} {x x' v : Value} {h' : AHeap} (ht : types[0]? = some t) (hx : VRel m x x') (ha : aclear P t x h = some (v,h')) :
    ∃ v' w',(Builtin.clear_ types ty #[x']).run P w = .ok v' w' ∧ VRel m v v' ∧ Rel P m h' w' ∧ Sim m h w m h' w' := by
  unfold aclear at ha
  split at ha
  · rename_i d hu
    cases ha
    have he := hx.inv_plain rfl
    subst he
    exact ⟨.tuple #[],w,by simp [Builtin.clear_,ht,run_underlying hu],.undef m,hR,Sim.refl _ _ _⟩
  · rename_i d a hu
    split at ha
    · rename_i es c hy
      cases ha
      obtain ⟨L,hm,rfl⟩ := hx.inv_map
      obtain ⟨r1,r2⟩ := rel_setIt hR hy hm (.mp [] c)
      have hr := (hR.its.at_ _ _ L hy hm).1
      obtain ⟨hlt,hg⟩ := Array.getElem?_eq_some_iff.1 hr
      refine ⟨.tuple #[],_, ?_,.undef m,r1,r2⟩
      simp only [Oth.obj] at hr hg
      simp [Builtin.clear_,ht,run_underlying hu,getObj,setObj,hr,Sem.run,Result.andThen,itSet,hlt,hg,Oth.obj]
    · cases ha
  · rename_i e n c hu
    cases ha
    have he := hx.inv_snil
    subst he
    exact ⟨.tuple #[],w,by simp [Builtin.clear_,ht,run_underlying hu],.undef m,hR,Sim.refl _ _ _⟩
  · rename_i e a n c hu
    obtain ⟨a',c',rfl,g1,_,_⟩ := hx.inv_slice
    split at ha
    · rename_i hn
      obtain rfl := Nat.eq_of_beq_eq_true hn
      cases ha
      exact ⟨.tuple #[],w,by simp [Builtin.clear_,ht,run_underlying hu],.undef m,hR,Sim.refl _ _ _⟩
    · rename_i hn
      have hn' := Nat.ne_of_beq_eq_false hn
      obtain ⟨L,hm,hsp,rfl,_⟩ := g1 (.inl hn')
      split at ha
      · rename_i i hi
        split at ha
        · rename_i z hz
          split at ha
          · rename_i hb
            simp only [Bool.and_eq_true] at hb
            split at ha
            · rename_i h1 hp
              cases ha
              have hr : LRel m (zeros (vcells z) n) (zeros z.cells.toList n) := LRel.zeros (VRel.of_plainV (m := m) hb.1).cells n
              obtain ⟨p1,p2,p3,p4⟩ := aput_rel hR hm hr hp
              have hst := run_storeCells_cells (P := P) L.b (L.base + a.off) (zeros z.cells.toList n) 0 w (fun j hj => by simpa using (p1 j hj).1) (fun j hj => by simpa using (p1 j hj).2) p2
              simp only [Nat.add_zero] at hst
              refine ⟨.tuple #[],_, ?_,.undef m,p3,p4⟩
              have hz0 : (Builtin.zeroCells z.cells n).toList = zeros z.cells.toList n := by
                unfold Builtin.zeroCells
                rw [zeros_eq]
              obtain ⟨k,rfl⟩ : ∃ k,n = k + 1 := by
                clear g1
                exact ⟨n - 1,by omega⟩
              simp [Builtin.clear_,ht,run_underlying hu,zeroValue,typeInfo,hi,hz,hz0,hst]
            · cases ha
          · cases ha
        · cases ha
      · cases ha
  · cases ha
end
end Go.Abs
