/-
  A runner for the kernel: the pure evaluator's steps in small pieces, with an oracle of calls that are known already; what it answers, the evaluator without fuel answers.
  Conditions: none; definitions and lemmas.
-/
import Derived.Test.YtcdhajbhpnbdkaaDoorPurC
set_option linter.unusedVariables false
set_option linter.unusedSimpArgs false
namespace Go.Pur
open Go.Abs
def fq_move (P : Program) (Y : Pol) (f : FuncId) (x : Operand) (σ : St) : Option PV := pev Y f σ x
def fq_pick (P : Program) (Y : Pol) (f : FuncId) (c : Operand) (x : Operand) (y : Operand) (σ : St) : Option PV := match pev Y f σ c with
    | some (.v (.bool true)) => match evSafe y with
      | true => pev Y f σ x
      | false => none
    | some (.v (.bool false)) => match evSafe x with
      | true => pev Y f σ y
      | false => none
    | _ => none
def fq_nilCheck (P : Program) (Y : Pol) (f : FuncId) (x : Operand) (σ : St) : Option PV := match pev Y f σ x with
    | some (.p b o) => some (.p b o)
    | some (.r k cs) => some (.r k cs)
    | some (.f g as1 bs) => some (.f g as1 bs)
    | _ => none
def fq_binOp (P : Program) (Y : Pol) (f : FuncId) (op : BinOp) (t : TypeId) (x : Operand) (y : Operand) (σ : St) : Option PV := match pev Y f σ x, pev Y f σ y with
    | some a, some b => pbin P op t x y a b
    | _, _ => none
def fq_unOp (P : Program) (Y : Pol) (f : FuncId) (op : UnOp) (x : Operand) (σ : St) : Option PV := match pev Y f σ x with
    | some (.v a) => match prunP P (Op.unary op a) with
      | some r => pvOf r
      | none => none
    | _ => none
def fq_convert (P : Program) (Y : Pol) (f : FuncId) (src : TypeId) (dst : TypeId) (x : Operand) (σ : St) : Option PV := match pev Y f σ x with
    | some (.v a) => match prunP P (convert src dst a) with
      | some r => pvOf r
      | none => none
    | _ => none
def fq_slice (P : Program) (Y : Pol) (f : FuncId) (t : TypeId) (x : Operand) (lo : Option Operand) (hi : Option Operand) (mx : Option Operand) (σ : St) : Option PV := match pev Y f σ x, optPlain Y f σ lo, optPlain Y f σ hi, optPlain Y f σ mx with
    | some v, some l, some h, some m => pqSlice P t v l h m
    | _, _, _, _ => none
def fq_fieldAddr (P : Program) (Y : Pol) (f : FuncId) (s : TypeId) (x : Operand) (fd : Nat) (σ : St) : Option PV := match pev Y f σ x with
    | some v => fldAddr P s v fd
    | none => none
def fq_field (P : Program) (Y : Pol) (f : FuncId) (s : TypeId) (x : Operand) (fd : Nat) (σ : St) : Option PV := match pev Y f σ x with
    | some v => pfield P s v fd
    | none => none
def fq_indexAddr (P : Program) (Y : Pol) (f : FuncId) (t : TypeId) (x : Operand) (ix : Operand) (σ : St) : Option PV := match pev Y f σ x, pev Y f σ ix with
    | some v, some (.v i) => idxAddr P t v i
    | _, _ => none
def fq_index (P : Program) (Y : Pol) (f : FuncId) (t : TypeId) (x : Operand) (ix : Operand) (σ : St) : Option PV := match pev Y f σ x, pev Y f σ ix with
    | some v, some (.v i) => pqIndex P t v i
    | _, _ => none
def fq_extract (P : Program) (Y : Pol) (f : FuncId) (x : Operand) (ix : Nat) (σ : St) : Option PV := match pev Y f σ x with
    | some (.t cs) => cs[ix]?
    | _ => none
def fq_len (P : Program) (Y : Pol) (f : FuncId) (args : Array Operand) (argTypes : Array TypeId) (σ : St) : Option PV := match args.toList, argTypes[0]? with
    | [x], some t => match pev Y f σ x with
      | some v => plen P t v
      | none => none
    | _, _ => none
def fq_max (P : Program) (Y : Pol) (f : FuncId) (args : Array Operand) (argTypes : Array TypeId) (σ : St) : Option PV := match pevs Y f σ args.toList with
    | some vs => match pplains vs with
      | some xs => match prunP P (Builtin.max_ argTypes 0 xs.toArray) with
        | some r => pvOf r
        | none => none
      | none => none
    | none => none
def fq_min (P : Program) (Y : Pol) (f : FuncId) (args : Array Operand) (argTypes : Array TypeId) (σ : St) : Option PV := match pevs Y f σ args.toList with
    | some vs => match pplains vs with
      | some xs => match prunP P (Builtin.min_ argTypes 0 xs.toArray) with
        | some r => pvOf r
        | none => none
      | none => none
    | none => none
def fq_call (P : Program) (Y : Pol) (f : FuncId) (b : Builtin) (args : Array Operand) (argTypes : Array TypeId) (σ : St) : Option PV :=
  match b with
  | .len => fq_len P Y f args argTypes σ
  | .max => fq_max P Y f args argTypes σ
  | .min => fq_min P Y f args argTypes σ
  | _ => none
def fq (P : Program) (Y : Pol) (f : FuncId) (op : Op) (σ : St) : Option PV :=
  match op with
  | .move x => fq_move P Y f x σ
  | .assign x => fq_move P Y f x σ
  | .pick c x y => fq_pick P Y f c x y σ
  | .nilCheck x => fq_nilCheck P Y f x σ
  | .binOp op t x y _ => fq_binOp P Y f op t x y σ
  | .unOp op _ x => fq_unOp P Y f op x σ
  | .convert src dst x => fq_convert P Y f src dst x σ
  | .slice t x lo hi mx => fq_slice P Y f t x lo hi mx σ
  | .fieldAddr s x fd => fq_fieldAddr P Y f s x fd σ
  | .field s x fd => fq_field P Y f s x fd σ
  | .indexAddr t x ix => fq_indexAddr P Y f t x ix σ
  | .index t x ix => fq_index P Y f t x ix σ
  | .extract x ix => fq_extract P Y f x ix σ
  | .call c => match c.callee with
    | .builtin b => fq_call P Y f b c.args c.argTypes σ
    | _ => none
  | _ => none
theorem fq_eq (P : Program) (Y : Pol) (f : FuncId) (op : Op) (σ : St) : fq P Y f op σ = pq P Y f op σ := by
  cases op with
  | call c =>
    obtain ⟨callee, args, types⟩ := c
    cases callee with
    | builtin b => cases b <;> rfl
    | _ => rfl
  | _ => rfl
def fo_load (P : Program) (Y : Pol) (f : FuncId) (call : PCallF) (draw : Dr) (t : TypeId) (x : Operand) (σ : St) : Option (PV × St) := match pev Y f σ x with
    | some v => match mayLoad draw v with
      | true => pload P t v σ
      | false => none
    | none => none
def fo_build (P : Program) (Y : Pol) (f : FuncId) (call : PCallF) (draw : Dr) (t : TypeId) (parts : Array (Nat × Operand)) (σ : St) : Option (PV × St) := match pevParts Y f σ parts.toList, zeroOf P t with
    | some (is, vs), some z => match stors Y f [] vs σ, pvCells z, partsOf P t with
      | some (vs', σ'), some zc, some pt => match pfill (partAt pt) (zipParts is vs') zc with
        | some cs => some (.a cs, σ')
        | none => none
      | _, _, _ => none
    | _, _ => none
def fo_makeInterface (P : Program) (Y : Pol) (f : FuncId) (call : PCallF) (draw : Dr) (t : TypeId) (x : Operand) (σ : St) : Option (PV × St) := match pev Y f σ x, P.underlying t with
    | some _, some (.interface _) => none
    | some v, some _ => match stor Y f v σ with
      | some (v', σ', _) => some (.i t v', σ')
      | none => none
    | _, _ => none
def fo_makeFunc (P : Program) (Y : Pol) (f : FuncId) (call : PCallF) (draw : Dr) (fn : Fn) (first : Array Operand) (captured : Array Operand) (σ : St) : Option (PV × St) := match fn, pevs Y f σ first.toList, pevs Y f σ captured.toList with
    | .func g, some as1, some bs => match stors Y f [] (as1 ++ bs) σ with
      | some (l, σ') => some (.f g (l.take as1.length) (l.drop as1.length), σ')
      | none => none
    | _, _, _ => none
def fo_box (P : Program) (Y : Pol) (f : FuncId) (call : PCallF) (draw : Dr) (e : TypeId) (x : Operand) (σ : St) : Option (PV × St) := match pev Y f σ x with
    | some v => match moved Y f v σ with
      | some (v', σ') => match refsTo σ'.hp.length v' with
        | true => some (pnewBlk (pcells v') σ')
        | false => none
      | none => none
    | none => none
def fo_alloc (P : Program) (Y : Pol) (f : FuncId) (call : PCallF) (draw : Dr) (e : TypeId) (σ : St) : Option (PV × St) := match zeroOf P e with
    | some z => match pvCells z with
      | some zc => some (pnewBlk zc σ)
      | none => none
    | none => none
def fo_buildSlice (P : Program) (Y : Pol) (f : FuncId) (call : PCallF) (draw : Dr) (t : TypeId) (n : Nat) (parts : Array (Nat × Operand)) (σ : St) : Option (PV × St) := match pevParts Y f σ parts.toList, shapeOf P t with
    | some (is, vs), some (.slice e sz) => match zeroOf P e, stors Y f [] vs σ with
      | some z, some (vs', σ') => match Nat.ble (n * (sz + 1)) limit24 && Nat.beq (vcells z).length sz, pvCells z with
        | true, some zc => match pfill (fun i => some (i * sz, sz)) (zipParts is vs') (reps (zc.map ownFz) n) with
          | some cs => match cs.all cellOK with
            | true => some (.l .fz .full n cs, σ')
            | false => none
          | none => none
        | _, _ => none
      | _, _ => none
    | _, _ => none
def fo_makeSlice (P : Program) (Y : Pol) (f : FuncId) (call : PCallF) (draw : Dr) (t : TypeId) (l : Operand) (c : Operand) (σ : St) : Option (PV × St) := match pev Y f σ l, pev Y f σ c, shapeOf P t with
    | some (.v (.int _ (.ofNat l))), some (.v (.int _ (.ofNat c))), some (.slice e sz) => match zeroOf P e, byOf P e with
      | some z, some by_ => match Nat.ble l c && Nat.ble (c * (by_ + sz + 1)) limit && Nat.beq (vcells z).length sz, pvCells z with
        | true, some zc => some (.s σ.hp.length 0 l c, { σ with hp := σ.hp ++ [some (reps zc c)] })
        | _, _ => none
      | _, _ => none
    | _, _, _ => none
def fo_store (P : Program) (Y : Pol) (f : FuncId) (call : PCallF) (draw : Dr) (t : TypeId) (x : Operand) (y : Operand) (σ : St) : Option (PV × St) := match pev Y f σ x, pev Y f σ y, szOf P t with
    | some (.p b off), some v, some n => match moved Y f v σ with
      | some (v', σ') => match Nat.beq (pcells v').length n && refsTo b v' && (pcells v').all one && (mayTurn draw || mayStore Y f σ b draw) with
        | true => match pput b off (pcells v') σ' with
          | some σ'' => some (.dead, σ'')
          | none => none
        | false => none
      | none => none
    | _, _, _ => none
def fo_append (P : Program) (Y : Pol) (f : FuncId) (call : PCallF) (draw : Dr) (args : Array Operand) (argTypes : Array TypeId) (σ : St) : Option (PV × St) := match pevs Y f σ args.toList, argTypes.toList with
    | some [s, x], [t, tx] => match shapeOf P t, psrcLen x, srcFits P tx x with
      | some (.slice e sz), some n, true => match zeroOf P e, byOf P e, psrcLen s with
        | some z, some by_, some m => match Nat.beq n 0 with
          | true => match isList s with
            | true => some (s, σ)
            | false => none
          | false => match psrc sz n x σ with
            | some new => match Nat.ble ((m + n) * (by_ + sz + 1)) limit && Nat.beq (vcells z).length sz && (!(elder Y f s) || mayTurn draw) with
              | true => pgrow Y f sz s n new σ
              | false => none
            | none => none
        | _, _, _ => none
      | _, _, _ => none
    | _, _ => none
def fo_copy (P : Program) (Y : Pol) (f : FuncId) (call : PCallF) (draw : Dr) (args : Array Operand) (argTypes : Array TypeId) (σ : St) : Option (PV × St) := match pevs Y f σ args.toList, argTypes.toList with
    | some [d, x], [t, tx] => match shapeOf P t, psrcLen x, srcFits P tx x, d with
      | some (.slice e sz), some n, true, .s b off m cap => match Nat.beq (Nat.min n m) 0 with
        | true => some (.v (.int .i64 0), σ)
        | false => match psrc sz (Nat.min n m) x σ with
          | some cs => match pput b off cs σ with
            | some σ' => match mayTurn draw with
              | true => some (.v (.int .i64 (Nat.min n m : Nat)), σ')
              | false => none
            | none => none
          | none => none
      | _, _, _, _ => none
    | _, _ => none
def fo_callv (P : Program) (Y : Pol) (f : FuncId) (call : PCallF) (draw : Dr) (fo : Operand) (args : Array Operand) (σ : St) : Option (PV × St) := pcallOp Y f call draw fo args.toList σ
def fo_range (P : Program) (Y : Pol) (f : FuncId) (call : PCallF) (draw : Dr) (t : TypeId) (x : Operand) (σ : St) : Option (PV × St) := match pev Y f σ x, P.underlying t with
    | some (.v (.string s)), some .string => some (.it s 0, σ)
    | _, _ => none
def fo_next (P : Program) (Y : Pol) (f : FuncId) (call : PCallF) (draw : Dr) (x : Operand) (isStr : Bool) (σ : St) : Option (PV × St) := match x, isStr with
    | .tmp t, true => match look Y f σ t with
      | some (.it s pos) => match Nat.blt pos s.size with
        | true => match mayTurn draw with
          | true => some (.t [.v (.bool true), .v (goInt pos), .v (.int .i32 (Utf8.decode s pos).1)], setPl Y f (.it s (pos + (Utf8.decode s pos).2)) σ (.tmp t))
          | false => none
        | false => some (.t [.v (.bool false)], σ)
      | _ => none
    | _, _ => none
def fo_convert (P : Program) (Y : Pol) (f : FuncId) (call : PCallF) (draw : Dr) (src : TypeId) (dst : TypeId) (x : Operand) (σ : St) : Option (PV × St) := match fq P Y f (.convert src dst x) σ with
    | some v => some (v, σ)
    | none => match pbytes P Y f draw src dst x σ with
      | some v => some (v, σ)
      | none => none
def fo_quiet (P : Program) (Y : Pol) (f : FuncId) (op : Op) (σ : St) : Option (PV × St) :=
  match fq P Y f op σ with
  | some v => some (v, σ)
  | none => none
def fo_call (P : Program) (Y : Pol) (f : FuncId) (call : PCallF) (draw : Dr) (c : Call) (σ : St) : Option (PV × St) :=
  match c.callee with
  | .value fo => fo_callv P Y f call draw fo c.args σ
  | .builtin b => match b with
    | .append => fo_append P Y f call draw c.args c.argTypes σ
    | .copy => fo_copy P Y f call draw c.args c.argTypes σ
    | _ => fo_quiet P Y f (.call c) σ
  | _ => none
def fo (P : Program) (Y : Pol) (f : FuncId) (call : PCallF) (draw : Dr) (op : Op) (σ : St) : Option (PV × St) :=
  match op with
  | .load t x => fo_load P Y f call draw t x σ
  | .build t parts => fo_build P Y f call draw t parts σ
  | .makeInterface t x => fo_makeInterface P Y f call draw t x σ
  | .makeFunc fn first captured => fo_makeFunc P Y f call draw fn first captured σ
  | .box e x => fo_box P Y f call draw e x σ
  | .alloc e => fo_alloc P Y f call draw e σ
  | .buildSlice t n parts => fo_buildSlice P Y f call draw t n parts σ
  | .makeSlice t l c => fo_makeSlice P Y f call draw t l c σ
  | .store t x y => fo_store P Y f call draw t x y σ
  | .range t x => fo_range P Y f call draw t x σ
  | .next x isStr => fo_next P Y f call draw x isStr σ
  | .convert src dst x => fo_convert P Y f call draw src dst x σ
  | .call c => fo_call P Y f call draw c σ
  | op => fo_quiet P Y f op σ
theorem fo_eq (P : Program) (Y : Pol) (f : FuncId) (call : PCallF) (draw : Dr) (op : Op) (σ : St) : fo P Y f call draw op σ = poper P Y f call draw op σ := by
  have q := fq_eq P Y f op σ
  cases op with
  | call c =>
    obtain ⟨callee, args, types⟩ := c
    cases callee with
    | builtin b => cases b <;> first | rfl | (simp only [fo, fo_call, fo_quiet, poper, q] <;> rfl)
    | _ => rfl
  | convert => simp only [fo, fo_convert, poper, q] <;> rfl
  | _ => first | rfl | (simp only [fo, fo_quiet, poper, q] <;> rfl)
end Go.Pur
namespace Go.Pur
open Go.Abs
def popsF (P : Program) (Y : Pol) (f : FuncId) (call : PCallF) (draw : Bool) (nt : Nat) (ops : Array Oper) (n : Nat) : Nat → List Oper → St → Option St
  | _, [], σ => some { σ with ls := [] }
  | k, o :: rest, σ => match pwanted Y f ops o σ with
    | some true => match fo P Y f call (drOf draw ops k n) o.op σ with
      | some (v, σ') => match pputT Y f nt (isAssign o.op) o.dst v σ' with
        | some σ'' => popsF P Y f call draw nt ops n (k + 1) rest σ''
        | none => none
      | none => none
    | some false => match pskip Y f nt o.dst σ with
      | some σ' => popsF P Y f call draw nt ops n (k + 1) rest σ'
      | none => none
    | none => none
theorem popsF_eq (P : Program) (Y : Pol) (f : FuncId) (call : PCallF) (draw : Bool) (nt : Nat) (ops : Array Oper) (n : Nat) : ∀ (l : List Oper) (k : Nat) (σ : St), popsF P Y f call draw nt ops n k l σ = pops P Y f call draw nt ops n k l σ
  | [], k, σ => rfl
  | o :: l, k, σ => by
    have h := popsF_eq P Y f call draw nt ops n l
    simp only [popsF, pops, fo_eq, h] <;> rfl
def fRegion (P : Program) (Y : Pol) (f : FuncId) (nt : Nat) (call : PCallF) (ops : Array Oper) (draw : Bool) (σ : St) : Option (AExit × St) :=
  match popsF P Y f call draw nt ops σ.hp.length 0 ops.toList { σ with ls := [] } with
  | some σ' => some (.normal, σ')
  | none => none
def fSeq (code : PCodeF) (a b : Code) (σ : St) : Option (AExit × St) :=
  match code a σ with
  | some (.normal, σ') => code b σ'
  | r => r
def fCond (Y : Pol) (f : FuncId) (code : PCodeF) (c : Operand) (a b : Code) (σ : St) : Option (AExit × St) :=
  match pcond Y f σ c with
  | some true => code a σ
  | some false => code b σ
  | none => none
def fBlock (code : PCodeF) (id : Nat) (b : Code) (σ : St) : Option (AExit × St) :=
  match code b σ with
  | some (.exit j, σ') => match Nat.beq j id with
    | true => some (.normal, σ')
    | false => some (.exit j, σ')
  | r => r
def pstepF (P : Program) (Y : Pol) (f : FuncId) (nt : Nat) (call : PCallF) (n : Nat) (code : PCodeF) (c : Code) (σ : St) : Option (AExit × St) :=
  match c with
  | .skip | .label _ => some (.normal, σ)
  | .region _ ops draw => fRegion P Y f nt call ops draw σ
  | .seq a b => fSeq code a b σ
  | .cond c a b => fCond Y f code c a b σ
  | .block id b => fBlock code id b σ
  | .loop b => ploop code b n σ
  | .exit id => some (.exit id, σ)
  | .ret => some (.ret, σ)
  | _ => none
theorem pstepF_eq (P : Program) (Y : Pol) (f : FuncId) (nt : Nat) (call : PCallF) (n : Nat) (code : PCodeF) (c : Code) (σ : St) : pstepF P Y f nt call n code c σ = pstep P Y f nt call n code c σ := by
  cases c with
  | region id ops draw => simp only [pstepF, pstep, fRegion, popsF_eq] <;> rfl
  | _ => rfl
def orc (O c : PCallF) : PCallF := fun g a hp => match O g a hp with
  | some r => some r
  | none => c g a hp
def codeO (P : Program) (Y : Pol) (O : PCallF) : Nat → FuncId → Nat → PCodeF
  | 0 => fun _ _ _ _ => none
  | n + 1 => fun f nt => pstepF P Y f nt (orc O (pcall P Y (codeO P Y O n))) n (codeO P Y O n f nt)
def runO (P : Program) (Y : Pol) (O : PCallF) (n : Nat) : PCallF := pcall P Y (codeO P Y O n)
def noOrc : PCallF := fun _ _ _ => none
section
variable {P : Program} {Y : Pol} {f : FuncId} {nt : Nat} {O : PCallF}
theorem noOrc_le : PLe noOrc (E P Y) := fun _ _ _ _ h => by cases h
theorem orc_le {c : PCallF} (hO : PLe O (E P Y)) (hc : PLe c (E P Y)) : PLe (orc O c) (E P Y) := fun g a hp r h => by
  unfold orc at h
  split at h
  · rename_i r' h'; cases h; exact hO _ _ _ _ h'
  · exact hc _ _ _ _ h
theorem ploop_EC {b : Code} : ∀ {n : Nat} {σ : St} {r : AExit × St}, ploop (EC P Y f nt) b n σ = some r → EC P Y f nt (.loop b) σ = some r
  | 0, σ, r, h => by cases h
  | n + 1, σ, r, h => by
    simp only [ploop] at h
    rw [EC_loop]
    split at h
    · rename_i σ' h1
      simp only [h1]
      exact ploop_EC h
    · rename_i hne
      rw [h]
      obtain ⟨x, σ'⟩ := r
      cases x with
      | normal => exact (hne _ h).elim
      | _ => rfl
theorem pstep_EC {n : Nat} {c : Code} {σ : St} {r : AExit × St} (h : pstep P Y f nt (E P Y) n (EC P Y f nt) c σ = some r) : EC P Y f nt c σ = some r := by
  cases c with
  | skip => rw [EC_skip]; exact h
  | label l => rw [EC_label]; exact h
  | exit id => rw [EC_exit]; exact h
  | ret => rw [EC_ret]; exact h
  | region id ops draw => rw [EC_region]; exact h
  | seq a b => rw [EC_seq]; exact h
  | cond c a b => rw [EC_cond]; exact h
  | block id b => rw [EC_block]; exact h
  | loop b => exact ploop_EC h
  | _ => simp only [pstep] at h; cases h
theorem codeO_EC (hO : PLe O (E P Y)) : ∀ n, CLe (codeO P Y O n) (fun f nt => EC P Y f nt)
  | 0 => fun f nt c σ r h => by cases h
  | n + 1 => fun f nt c σ r h => by
    have ih := codeO_EC hO n
    simp only [codeO, pstepF_eq] at h
    have hc : PLe (pcall P Y (codeO P Y O n)) (E P Y) := fun g a hp r h => by
      rw [E_eq]
      exact pcall_mono ih g a hp r h
    exact pstep_EC (pstep_mono (orc_le hO hc) (fun x σ r h => ih f nt x σ r h) (Nat.le_refl n) h)
theorem runO_E (hO : PLe O (E P Y)) {n : Nat} {g : FuncId} {a : List PV} {hp : List (Option (List PV))} {r : PV × List (Option (List PV)) × Option Nat} (h : runO P Y O n g a hp = some r) : E P Y g a hp = some r := by
  rw [E_eq]
  exact pcall_mono (codeO_EC hO n) g a hp r h
def kO (code : PCodeF) : List Fm → St → Option (AExit × St)
  | [], σ => some (.normal, σ)
  | .c c :: k, σ => match code c σ with
    | some (.normal, σ') => kO code k σ'
    | some (.exit j, σ') => kx j k σ'
    | r => r
  | .blk _ :: k, σ => kO code k σ
  | .lp b :: k, σ => match code (.loop b) σ with
    | some (.normal, σ') => kO code k σ'
    | some (.exit j, σ') => kx j k σ'
    | r => r
where kx (j : Nat) : List Fm → St → Option (AExit × St)
  | [], σ => some (.exit j, σ)
  | .c _ :: k, σ => kx j k σ
  | .blk id :: k, σ => match Nat.beq j id with
    | true => kO code k σ
    | false => kx j k σ
  | .lp _ :: k, σ => kx j k σ
mutual
theorem kO_EK {code : PCodeF} (hc : ∀ x σ r, code x σ = some r → EC P Y f nt x σ = some r) : ∀ {k : List Fm} {σ : St} {r : AExit × St}, kO code k σ = some r → EK P Y f nt k σ = some r
  | [], σ, r, h => by simpa only [kO, EK] using h
  | .c c :: k, σ, r, h => by
    simp only [kO] at h
    simp only [EK]
    split at h
    · rename_i σ' h1; rw [hc _ _ _ h1]; exact kO_EK hc h
    · rename_i j σ' h1; rw [hc _ _ _ h1]; exact kx_EK hc h
    · rename_i h1 h2
      rw [hc _ _ _ h]
      obtain ⟨x, σ'⟩ := r
      cases x with
      | normal => exact (h1 _ h).elim
      | exit j => exact (h2 _ _ h).elim
      | _ => rfl
  | .blk id :: k, σ, r, h => by
    simp only [kO] at h
    simp only [EK]
    exact kO_EK hc h
  | .lp b :: k, σ, r, h => by
    simp only [kO] at h
    simp only [EK]
    split at h
    · rename_i σ' h1; rw [hc _ _ _ h1]; exact kO_EK hc h
    · rename_i j σ' h1; rw [hc _ _ _ h1]; exact kx_EK hc h
    · rename_i h1 h2
      rw [hc _ _ _ h]
      obtain ⟨x, σ'⟩ := r
      cases x with
      | normal => exact (h1 _ h).elim
      | exit j => exact (h2 _ _ h).elim
      | _ => rfl
theorem kx_EK {code : PCodeF} (hc : ∀ x σ r, code x σ = some r → EC P Y f nt x σ = some r) {j : Nat} : ∀ {k : List Fm} {σ : St} {r : AExit × St}, kO.kx code j k σ = some r → EK.ex P Y f nt j k σ = some r
  | [], σ, r, h => by simpa only [kO.kx, EK.ex] using h
  | .c _ :: k, σ, r, h => by
    simp only [kO.kx] at h
    simp only [EK.ex]
    exact kx_EK hc h
  | .blk id :: k, σ, r, h => by
    simp only [kO.kx] at h
    simp only [EK.ex]
    split at h
    · rename_i e; rw [e]; exact kO_EK hc h
    · rename_i e; rw [e]; exact kx_EK hc h
  | .lp _ :: k, σ, r, h => by
    simp only [kO.kx] at h
    simp only [EK.ex]
    exact kx_EK hc h
end
theorem ER_run (hO : PLe O (E P Y)) (n : Nat) {rs : List ResultVar} {tys : List TypeId} {base : Nat} {k : List Fm} {σ : St} {R : PV × List (Option (List PV)) × Option Nat}
    (h : ER P Y f rs tys base (kO (codeO P Y O n f nt) k σ) = some R) : ER P Y f rs tys base (EK P Y f nt k σ) = some R := by
  cases hk : kO (codeO P Y O n f nt) k σ with
  | none => rw [hk] at h; cases h
  | some r => rw [kO_EK (fun x σ r h => codeO_EC hO n f nt x σ r h) hk, ← hk]; exact h
def isTrueR : Option (PV × List (Option (List PV)) × Option Nat) → Bool
  | some (.v (.bool true), [], none) => true
  | _ => false
theorem isTrueR_eq {r : Option (PV × List (Option (List PV)) × Option Nat)} (h : isTrueR r = true) : r = some (.v (.bool true), [], none) := by
  unfold isTrueR at h
  split at h
  · rfl
  · cases h
theorem ER_all (hO : PLe O (E P Y)) (n : Nat) {α : Type} {l : List α} {rs : List ResultVar} {tys : List TypeId} {base : Nat} {k : List Fm} {σ : α → St}
    (h : (l.all fun s => isTrueR (ER P Y f rs tys base (kO (codeO P Y O n f nt) k (σ s)))) = true) : ∀ s ∈ l, ER P Y f rs tys base (EK P Y f nt k (σ s)) = some (.v (.bool true), [], none) := fun s hs =>
  ER_run hO n (isTrueR_eq (List.all_eq_true.1 h s hs))
end
section
variable {P : Program} {t : TypeId} {x y : Operand} {k : IntKind}
theorem abinS_str {op : BinOp} {a b : ByteArray} {r : Value} (h1 : prun P (do eqGuard op t x y (.string a) (.string b); binOp op t (.string a) (.string b)) = some r) (h2 : plain r = true) : abin P op t x y (.string a) (.string b) = some r := by
  have h3 : abinS P op t x y (.string a) (.string b) = prunP P (do eqGuard op t x y (.string a) (.string b); binOp op t (.string a) (.string b)) := rfl
  have h0 : intFast op (.string a) (.string b) = none := rfl
  unfold abin
  rw [h0]
  simp only []
  rw [h3]
  unfold prunP
  rw [h1]
  simp only [h2]
theorem abin_rem {m n : Int} (hn : n ≠ 0) : abin P .rem t x y (.int k m) (.int k n) = some (.int k (m.tmod n)) :=
  abinS_of (fast_none fun _ _ _ => rfl) (by simp [eqGuard, binOp, Op.intDiv, hn]; rfl) rfl
theorem abin_quo {m n : Int} (hn : n ≠ 0) : abin P .quo t x y (.int k m) (.int k n) = some (.int k (k.wrap (m.tdiv n))) :=
  abinS_of (fast_none fun _ _ _ => rfl) (by simp [eqGuard, binOp, Op.intDiv, hn]; rfl) rfl
theorem abin_sadd {a b : ByteArray} (h : a.size + b.size ≤ 9223372036854775807) : abin P .add t x y (.string a) (.string b) = some (.string (a ++ b)) :=
  abinS_str (by simp [eqGuard, binOp, Op.stringOp, show ¬ (9223372036854775807 : Int) < a.size + b.size by omega]; rfl) rfl
theorem bytes_beq {a b : ByteArray} : (a.toList == b.toList) = decide (a = b) := by
  rw [Bool.eq_iff_iff]
  simp only [beq_iff_eq, decide_eq_true_eq]
  refine ⟨fun h => ?_, fun h => by rw [h]⟩
  rw [ByteArray.toList_eq, ByteArray.toList_eq] at h
  obtain ⟨⟨l⟩⟩ := a
  obtain ⟨⟨m⟩⟩ := b
  simp at h
  rw [h]
theorem abin_seql {a b : ByteArray} : abin P .eql t x y (.string a) (.string b) = some (.bool (decide (a = b))) :=
  abinS_str (by simp [eqGuard, binOp, Op.stringOp, bytes_beq]; rfl) rfl
theorem abin_sneq {a b : ByteArray} : abin P .neq t x y (.string a) (.string b) = some (.bool (!decide (a = b))) :=
  abinS_str (by simp [eqGuard, binOp, Op.stringOp, bytes_beq]; rfl) rfl
end
end Go.Pur
