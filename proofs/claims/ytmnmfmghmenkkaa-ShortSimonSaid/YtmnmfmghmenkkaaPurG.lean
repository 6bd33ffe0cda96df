/-
  A runner for the kernel: the pure evaluator's steps in small pieces, with an oracle of calls that are known already; what it answers, the evaluator without fuel answers.
  Strings in the pure evaluator: one byte, and parts.
  Side facts of walks, for simp with omega as discharger.
  Plain pieces of what functions compute, and what the walk needs of each; loops whose plain functions take fuel.
  Arrays of two elements, compared.
  Conditions: none; definitions and lemmas.
-/
import Derived.Test.YtmnmfmghmenkkaaPurC
set_option linter.unusedVariables false
set_option linter.unusedSimpArgs false
namespace Go.Pur
open Go.Abs
def fq_move (P : Program) (Y : Pol) (f : FuncId) (x : Operand) (σ : St) : Option PV := pev Y f σ x
def fq_pick (P : Program) (Y : Pol) (f : FuncId) (c : Operand) (x : Operand) (y : Operand) (σ : St) : Option PV := match pev Y f σ c with
  | some (.v (.bool true)) => match evSafe y with
   | true => pev Y f σ x
   | false => none
  | some (.v (.bool false)) => match evSafe x with
   | true => pev Y f σ y
   | false => none
  | _ => none
def fq_nilCheck (P : Program) (Y : Pol) (f : FuncId) (x : Operand) (σ : St) : Option PV := match pev Y f σ x with
  | some (.p b o) => some (.p b o)
  | some (.r k cs) => some (.r k cs)
  | some (.f g as1 bs) => some (.f g as1 bs)
  | _ => none
def fq_binOp (P : Program) (Y : Pol) (f : FuncId) (op : BinOp) (t : TypeId) (x : Operand) (y : Operand) (σ : St) : Option PV := match pev Y f σ x, pev Y f σ y with
  | some a, some b => pbin P op t x y a b
  | _, _ => none
def fq_unOp (P : Program) (Y : Pol) (f : FuncId) (op : UnOp) (x : Operand) (σ : St) : Option PV := match pev Y f σ x with
  | some (.v a) => match prunP P (Op.unary op a) with
   | some r => pvOf r
   | none => none
  | _ => none
def fq_convert (P : Program) (Y : Pol) (f : FuncId) (src : TypeId) (dst : TypeId) (x : Operand) (σ : St) : Option PV := match pev Y f σ x with
  | some (.v a) => match prunP P (convert src dst a) with
   | some r => pvOf r
   | none => none
  | _ => none
def fq_slice (P : Program) (Y : Pol) (f : FuncId) (t : TypeId) (x : Operand) (lo : Option Operand) (hi : Option Operand) (mx : Option Operand) (σ : St) : Option PV := match pev Y f σ x, optPlain Y f σ lo, optPlain Y f σ hi, optPlain Y f σ mx with
  | some v, some l, some h, some m => pqSlice P t v l h m
  | _, _, _, _ => none
def fq_fieldAddr (P : Program) (Y : Pol) (f : FuncId) (s : TypeId) (x : Operand) (fd : Nat) (σ : St) : Option PV := match pev Y f σ x with
  | some v => fldAddr P s v fd
  | none => none
def fq_field (P : Program) (Y : Pol) (f : FuncId) (s : TypeId) (x : Operand) (fd : Nat) (σ : St) : Option PV := match pev Y f σ x with
  | some v => pfield P s v fd
  | none => none
def fq_indexAddr (P : Program) (Y : Pol) (f : FuncId) (t : TypeId) (x : Operand) (ix : Operand) (σ : St) : Option PV := match pev Y f σ x, pev Y f σ ix with
  | some v, some (.v i) => idxAddr P t v i
  | _, _ => none
def fq_index (P : Program) (Y : Pol) (f : FuncId) (t : TypeId) (x : Operand) (ix : Operand) (σ : St) : Option PV := match pev Y f σ x, pev Y f σ ix with
  | some v, some (.v i) => pqIndex P t v i
  | _, _ => none
def fq_extract (P : Program) (Y : Pol) (f : FuncId) (x : Operand) (ix : Nat) (σ : St) : Option PV := match pev Y f σ x with
  | some (.t cs) => cs[ix]?
  | _ => none
def fq_len (P : Program) (Y : Pol) (f : FuncId) (args : Array Operand) (argTypes : Array TypeId) (σ : St) : Option PV := match args.toList, argTypes[0]? with
  | [x], some t => match pev Y f σ x with
   | some v => plen P t v
   | none => none
  | _, _ => none
def fq_max (P : Program) (Y : Pol) (f : FuncId) (args : Array Operand) (argTypes : Array TypeId) (σ : St) : Option PV := match pevs Y f σ args.toList with
  | some vs => match pplains vs with
   | some xs => match prunP P (Builtin.max_ argTypes 0 xs.toArray) with
    | some r => pvOf r
    | none => none
   | none => none
  | none => none
def fq_min (P : Program) (Y : Pol) (f : FuncId) (args : Array Operand) (argTypes : Array TypeId) (σ : St) : Option PV := match pevs Y f σ args.toList with
  | some vs => match pplains vs with
   | some xs => match prunP P (Builtin.min_ argTypes 0 xs.toArray) with
    | some r => pvOf r
    | none => none
   | none => none
  | none => none
def fq_call (P : Program) (Y : Pol) (f : FuncId) (b : Builtin) (args : Array Operand) (argTypes : Array TypeId) (σ : St) : Option PV :=
 match b with
 | .len => fq_len P Y f args argTypes σ
 | .max => fq_max P Y f args argTypes σ
 | .min => fq_min P Y f args argTypes σ
 | _ => none
def fq (P : Program) (Y : Pol) (f : FuncId) (op : Op) (σ : St) : Option PV :=
 match op with
 | .move x => fq_move P Y f x σ
 | .assign x => fq_move P Y f x σ
 | .pick c x y => fq_pick P Y f c x y σ
 | .nilCheck x => fq_nilCheck P Y f x σ
 | .binOp op t x y _ => fq_binOp P Y f op t x y σ
 | .unOp op _ x => fq_unOp P Y f op x σ
 | .convert src dst x => fq_convert P Y f src dst x σ
 | .slice t x lo hi mx => fq_slice P Y f t x lo hi mx σ
 | .fieldAddr s x fd => fq_fieldAddr P Y f s x fd σ
 | .field s x fd => fq_field P Y f s x fd σ
 | .indexAddr t x ix => fq_indexAddr P Y f t x ix σ
 | .index t x ix => fq_index P Y f t x ix σ
 | .extract x ix => fq_extract P Y f x ix σ
 | .call c => match c.callee with
  | .builtin b => fq_call P Y f b c.args c.argTypes σ
  | _ => none
 | _ => none
def fo_load (P : Program) (Y : Pol) (f : FuncId) (call : PCallF) (draw : Dr) (t : TypeId) (x : Operand) (σ : St) : Option (PV × St) := match pev Y f σ x with
  | some v => match mayLoad draw v || freeDr draw with
   | true => pload P t v σ
   | false => none
  | none => none
def fo_build (P : Program) (Y : Pol) (f : FuncId) (call : PCallF) (draw : Dr) (t : TypeId) (parts : Array (Nat × Operand)) (σ : St) : Option (PV × St) := match pevParts Y f σ parts.toList, zeroOf P t with
  | some (is, vs), some z => match hows Y f (Y.part f) vs σ with
   | some (vs0, σ0) => match stors Y f [] vs0 σ0, pvCells z, partsOf P t with
    | some (vs', σ'), some zc, some pt => match pfill (partAt pt) (zipParts is vs') zc with
     | some cs => some (.a cs, σ')
     | none => none
    | _, _, _ => none
   | none => none
  | _, _ => none
def fo_makeInterface (P : Program) (Y : Pol) (f : FuncId) (call : PCallF) (draw : Dr) (t : TypeId) (x : Operand) (σ : St) : Option (PV × St) := match pev Y f σ x, P.underlying t with
  | some _, some (.interface _) => none
  | some v, some _ => match stor Y f v σ with
   | some (v', σ', _) => some (.i t v', σ')
   | none => none
  | _, _ => none
def fo_makeFunc (P : Program) (Y : Pol) (f : FuncId) (call : PCallF) (draw : Dr) (fn : Fn) (first : Array Operand) (captured : Array Operand) (σ : St) : Option (PV × St) := match fn, pevs Y f σ first.toList, pevs Y f σ captured.toList with
  | .func g, some as1, some bs => match stors Y f [] (as1 ++ bs) σ with
   | some (l, σ') => some (.f g (l.take as1.length) (l.drop as1.length), σ')
   | none => none
  | _, _, _ => none
def fo_box (P : Program) (Y : Pol) (f : FuncId) (call : PCallF) (draw : Dr) (e : TypeId) (x : Operand) (σ : St) : Option (PV × St) := match pev Y f σ x with
  | some v => match moved Y f v σ with
   | some (v', σ') => match refsTo σ'.hp.length v' with
    | true => some (pnewBlk (pcells v') σ')
    | false => none
   | none => none
  | none => none
def fo_alloc (P : Program) (Y : Pol) (f : FuncId) (call : PCallF) (draw : Dr) (e : TypeId) (σ : St) : Option (PV × St) := match zeroOf P e with
  | some z => match pvCells z with
   | some zc => some (pnewBlk zc σ)
   | none => none
  | none => none
def fo_buildSlice (P : Program) (Y : Pol) (f : FuncId) (call : PCallF) (draw : Dr) (t : TypeId) (n : Nat) (parts : Array (Nat × Operand)) (σ : St) : Option (PV × St) := match pevParts Y f σ parts.toList, shapeOf P t with
  | some (is, vs), some (.slice e sz) => match zeroOf P e, stors Y f [] vs σ with
   | some z, some (vs', σ') => match Nat.ble (n * (sz + 1)) limit24 && Nat.beq (vcells z).length sz, pvCells z with
    | true, some zc => match pfill (fun i => some (i * sz, sz)) (zipParts is vs') (reps (zc.map ownFz) n) with
     | some cs => match cs.all cellOK with
      | true => some (.l .fz .full n cs, σ')
      | false => none
     | none => none
    | _, _ => none
   | _, _ => none
  | _, _ => none
def fo_makeSlice (P : Program) (Y : Pol) (f : FuncId) (call : PCallF) (draw : Dr) (t : TypeId) (l : Operand) (c : Operand) (σ : St) : Option (PV × St) := match pev Y f σ l, pev Y f σ c, shapeOf P t with
  | some (.v (.int _ (.ofNat l))), some (.v (.int _ (.ofNat c))), some (.slice e sz) => match zeroOf P e, byOf P e with
   | some z, some by_ => match Nat.ble l c && Nat.ble (c * (by_ + sz + 1)) limit && Nat.beq (vcells z).length sz, pvCells z with
    | true, some zc => some (.s σ.hp.length 0 l c, { σ with hp := σ.hp ++ [some (reps zc c)] })
    | _, _ => none
   | _, _ => none
  | _, _, _ => none
def fo_store (P : Program) (Y : Pol) (f : FuncId) (call : PCallF) (draw : Dr) (t : TypeId) (x : Operand) (y : Operand) (σ : St) : Option (PV × St) := match pev Y f σ x, pev Y f σ y, szOf P t with
  | some (.p b off), some v, some n => match moved Y f v σ with
   | some (v', σ') => match Nat.beq (pcells v').length n && refsTo b v' && (pcells v').all one && (mayTurn draw || mayStore Y f σ b draw) with
    | true => match pput b off (pcells v') σ' with
     | some σ'' => some (.dead, σ'')
     | none => none
    | false => none
   | none => none
  | _, _, _ => none
def fo_append (P : Program) (Y : Pol) (f : FuncId) (call : PCallF) (draw : Dr) (args : Array Operand) (argTypes : Array TypeId) (σ : St) : Option (PV × St) := match pevs Y f σ args.toList, argTypes.toList with
  | some [s, x], [t, tx] => match shapeOf P t, psrcLen x, srcFits P tx x with
   | some (.slice e sz), some n, true => match zeroOf P e, byOf P e, psrcLen s with
    | some z, some by_, some m => match Nat.beq n 0 with
     | true => match isList s with
      | true => some (s, σ)
      | false => none
     | false => match psrc sz n x σ with
      | some new => match Nat.ble ((m + n) * (by_ + sz + 1)) limit && Nat.beq (vcells z).length sz && (!(elder Y f s) || mayTurn draw) with
       | true => pgrow Y f sz s n new σ
       | false => none
      | none => none
    | _, _, _ => none
   | _, _, _ => none
  | _, _ => none
def fo_copy (P : Program) (Y : Pol) (f : FuncId) (call : PCallF) (draw : Dr) (args : Array Operand) (argTypes : Array TypeId) (σ : St) : Option (PV × St) := match pevs Y f σ args.toList, argTypes.toList with
  | some [d, x], [t, tx] => match shapeOf P t, psrcLen x, srcFits P tx x, d with
   | some (.slice e sz), some n, true, .s b off m cap => match Nat.beq (Nat.min n m) 0 with
    | true => some (.v (.int .i64 0), σ)
    | false => match psrc sz (Nat.min n m) x σ with
     | some cs => match pput b off cs σ with
      | some σ' => match mayTurn draw with
       | true => some (.v (.int .i64 (Nat.min n m : Nat)), σ')
       | false => none
      | none => none
     | none => none
   | _, _, _, _ => none
  | _, _ => none
def fo_callv (P : Program) (Y : Pol) (f : FuncId) (call : PCallF) (draw : Dr) (fo : Operand) (args : Array Operand) (σ : St) : Option (PV × St) := pcallOp Y f call draw fo args.toList σ
def fo_range (P : Program) (Y : Pol) (f : FuncId) (call : PCallF) (draw : Dr) (t : TypeId) (x : Operand) (σ : St) : Option (PV × St) := match pev Y f σ x, P.underlying t with
  | some (.v (.string s)), some .string => some (.it s 0, σ)
  | _, _ => none
def fo_next (P : Program) (Y : Pol) (f : FuncId) (call : PCallF) (draw : Dr) (x : Operand) (isStr : Bool) (σ : St) : Option (PV × St) := match x, isStr with
  | .tmp t, true => match look Y f σ t with
   | some (.it s pos) => match Nat.blt pos s.size with
    | true => match mayTurn draw with
     | true => some (.t [.v (.bool true), .v (goInt pos), .v (.int .i32 (Utf8.decode s pos).1)], setPl Y f (.it s (pos + (Utf8.decode s pos).2)) σ (.tmp t))
     | false => none
    | false => some (.t [.v (.bool false)], σ)
   | _ => none
  | _, _ => none
def fo_convert (P : Program) (Y : Pol) (f : FuncId) (call : PCallF) (draw : Dr) (src : TypeId) (dst : TypeId) (x : Operand) (σ : St) : Option (PV × St) := match fq P Y f (.convert src dst x) σ with
  | some v => some (v, σ)
  | none => match pbytes P Y f draw src dst x σ with
   | some v => some (v, σ)
   | none => none
def fo_quiet (P : Program) (Y : Pol) (f : FuncId) (op : Op) (σ : St) : Option (PV × St) :=
 match fq P Y f op σ with
 | some v => some (v, σ)
 | none => none
def fo_call (P : Program) (Y : Pol) (f : FuncId) (call : PCallF) (draw : Dr) (c : Call) (σ : St) : Option (PV × St) :=
 match c.callee with
 | .value fo => fo_callv P Y f call draw fo c.args σ
 | .builtin b => match b with
  | .append => fo_append P Y f call draw c.args c.argTypes σ
  | .copy => fo_copy P Y f call draw c.args c.argTypes σ
  | .delete => poper P Y f call draw (.call c) σ
  | .clear => poper P Y f call draw (.call c) σ
  | .len => match fq P Y f (.call c) σ with
   | some v => some (v, σ)
   | none => poper P Y f call draw (.call c) σ
  | _ => fo_quiet P Y f (.call c) σ
 | _ => none
def fo (P : Program) (Y : Pol) (f : FuncId) (call : PCallF) (draw : Dr) (op : Op) (σ : St) : Option (PV × St) :=
 match op with
 | .makeMap t r => poper P Y f call draw (.makeMap t r) σ
 | .mapUpdate t m k x => poper P Y f call draw (.mapUpdate t m k x) σ
 | .insert t m k x => poper P Y f call draw (.insert t m k x) σ
 | .lookup t m k ok => poper P Y f call draw (.lookup t m k ok) σ
 | .mapEntry t m k => poper P Y f call draw (.mapEntry t m k) σ
 | .entryStore t m s x => poper P Y f call draw (.entryStore t m s x) σ
 | .load t x => fo_load P Y f call draw t x σ
 | .build t parts => fo_build P Y f call draw t parts σ
 | .makeInterface t x => fo_makeInterface P Y f call draw t x σ
 | .makeFunc fn first captured => fo_makeFunc P Y f call draw fn first captured σ
 | .box e x => fo_box P Y f call draw e x σ
 | .alloc e => fo_alloc P Y f call draw e σ
 | .buildSlice t n parts => fo_buildSlice P Y f call draw t n parts σ
 | .makeSlice t l c => fo_makeSlice P Y f call draw t l c σ
 | .store t x y => fo_store P Y f call draw t x y σ
 | .range t x => fo_range P Y f call draw t x σ
 | .next x isStr => fo_next P Y f call draw x isStr σ
 | .convert src dst x => fo_convert P Y f call draw src dst x σ
 | .call c => fo_call P Y f call draw c σ
 | op => fo_quiet P Y f op σ
end Go.Pur
namespace Go.Pur
open Go.Abs
section
variable {P : Program} {Y : Pol} {f : FuncId} {nt : Nat} {O : PCallF}
def kO (code : PCodeF) : List Fm → St → Option (AExit × St)
 | [], σ => some (.normal, σ)
 | .c c :: k, σ => match code c σ with
  | some (.normal, σ') => kO code k σ'
  | some (.exit j, σ') => kx j k σ'
  | r => r
 | .blk _ :: k, σ => kO code k σ
 | .lp b :: k, σ => match code (.loop b) σ with
  | some (.normal, σ') => kO code k σ'
  | some (.exit j, σ') => kx j k σ'
  | r => r
where kx (j : Nat) : List Fm → St → Option (AExit × St)
 | [], σ => some (.exit j, σ)
 | .c _ :: k, σ => kx j k σ
 | .blk id :: k, σ => match Nat.beq j id with
  | true => kO code k σ
  | false => kx j k σ
 | .lp _ :: k, σ => kx j k σ
mutual
theorem kO_EK {code : PCodeF} (hc : ∀ x σ r, code x σ = some r → EC P Y f nt x σ = some r) : ∀ {k : List Fm} {σ : St} {r : AExit × St}, kO code k σ = some r → EK P Y f nt k σ = some r
 | [], σ, r, h => by simpa only [kO, EK] using h
 | .c c :: k, σ, r, h => by
  simp only [kO] at h
  simp only [EK]
  split at h
  ·rename_i σ' h1; rw [hc _ _ _ h1]; exact kO_EK hc h
  ·rename_i j σ' h1; rw [hc _ _ _ h1]; exact kx_EK hc h
  ·rename_i h1 h2
   rw [hc _ _ _ h]
   obtain ⟨x, σ'⟩ := r
   cases x with
   | normal => exact (h1 _ h).elim
   | exit j => exact (h2 _ _ h).elim
   | _ => rfl
 | .blk id :: k, σ, r, h => by
  simp only [kO] at h
  simp only [EK]
  exact kO_EK hc h
 | .lp b :: k, σ, r, h => by
  simp only [kO] at h
  simp only [EK]
  split at h
  ·rename_i σ' h1; rw [hc _ _ _ h1]; exact kO_EK hc h
  ·rename_i j σ' h1; rw [hc _ _ _ h1]; exact kx_EK hc h
  ·rename_i h1 h2
   rw [hc _ _ _ h]
   obtain ⟨x, σ'⟩ := r
   cases x with
   | normal => exact (h1 _ h).elim
   | exit j => exact (h2 _ _ h).elim
   | _ => rfl
theorem kx_EK {code : PCodeF} (hc : ∀ x σ r, code x σ = some r → EC P Y f nt x σ = some r) {j : Nat} : ∀ {k : List Fm} {σ : St} {r : AExit × St}, kO.kx code j k σ = some r → EK.ex P Y f nt j k σ = some r
 | [], σ, r, h => by simpa only [kO.kx, EK.ex] using h
 | .c _ :: k, σ, r, h => by
  simp only [kO.kx] at h
  simp only [EK.ex]
  exact kx_EK hc h
 | .blk id :: k, σ, r, h => by
  simp only [kO.kx] at h
  simp only [EK.ex]
  split at h
  ·rename_i e; rw [e]; exact kO_EK hc h
  ·rename_i e; rw [e]; exact kx_EK hc h
 | .lp _ :: k, σ, r, h => by
  simp only [kO.kx] at h
  simp only [EK.ex]
  exact kx_EK hc h
end
end
section
variable {P : Program} {t : TypeId} {x y : Operand} {k : IntKind}
theorem abinS_str {op : BinOp} {a b : ByteArray} {r : Value} (h1 : prun P (do eqGuard op t x y (.string a) (.string b); binOp op t (.string a) (.string b)) = some r) (h2 : plain r = true) : abin P op t x y (.string a) (.string b) = some r := by
 have h3 : abinS P op t x y (.string a) (.string b) = prunP P (do eqGuard op t x y (.string a) (.string b); binOp op t (.string a) (.string b)) := rfl
 have h0 : intFast op (.string a) (.string b) = none := rfl
 unfold abin
 rw [h0]
 simp only []
 rw [h3]
 unfold prunP
 rw [h1]
 simp only [h2]
theorem abin_rem {m n : Int} (hn : n ≠ 0) : abin P .rem t x y (.int k m) (.int k n) = some (.int k (m.tmod n)) :=
 abinS_of (fast_none fun _ _ _ => rfl) (by simp [eqGuard, binOp, Op.intDiv, hn]; rfl) rfl
theorem abin_quo {m n : Int} (hn : n ≠ 0) : abin P .quo t x y (.int k m) (.int k n) = some (.int k (k.wrap (m.tdiv n))) :=
 abinS_of (fast_none fun _ _ _ => rfl) (by simp [eqGuard, binOp, Op.intDiv, hn]; rfl) rfl
theorem bytes_beq {a b : ByteArray} : (a.toList == b.toList) = decide (a = b) := by
 rw [Bool.eq_iff_iff]
 simp only [beq_iff_eq, decide_eq_true_eq]
 refine ⟨fun h => ?_, fun h => by rw [h]⟩
 rw [ByteArray.toList_eq, ByteArray.toList_eq] at h
 obtain ⟨⟨l⟩⟩ := a
 obtain ⟨⟨m⟩⟩ := b
 simp at h
 rw [h]
theorem abin_seql {a b : ByteArray} : abin P .eql t x y (.string a) (.string b) = some (.bool (decide (a = b))) :=
 abinS_str (by simp [eqGuard, binOp, Op.stringOp, bytes_beq]; rfl) rfl
theorem abin_sneq {a b : ByteArray} : abin P .neq t x y (.string a) (.string b) = some (.bool (!decide (a = b))) :=
 abinS_str (by simp [eqGuard, binOp, Op.stringOp, bytes_beq]; rfl) rfl
end
end Go.Pur
set_option linter.unusedSimpArgs false
set_option linter.unusedVariables false
namespace Go.Pur
open Go.Abs
set_option linter.unusedSimpArgs false
section
variable {P : Program} {t : TypeId}
theorem prun_bnd {α β : Type} (x : Sem α) (f : α → Sem β) : prun P (x >>= f) = match prun P x with
  | some a => prun P (f a)
  | none => none := by
 show prun P (x.bind f) = _
 induction x with
 | pure a => rfl
 | program k ih => exact ih P
 | mark _ k ih => exact ih
 | _ => rfl
theorem prun_pure {α : Type} (a : α) : prun P (pure a) = some a := rfl
theorem prun_map {α β : Type} (g : α → β) (x : Sem α) : prun P (g <$> x) = (prun P x).map g := by
 show prun P (x.bind fun a => pure (g a)) = _
 rw [show x.bind (fun a => pure (g a)) = (x >>= fun a => pure (g a)) from rfl, prun_bnd]
 cases prun P x <;> rfl
theorem str_index (ht : P.underlying t = some .string) {s : ByteArray} {k : IntKind} {i : Nat} (h : i < s.size) : prunP P (Instr.index t (.string s) (.int k i)) = some (.int .u8 (s[i]'h).toNat) := by
 have : s[i]? = some (s[i]'h) := by simp [h]
 unfold prunP Instr.index
 simp [prun_bnd, prun_pure, prun_und ht, asIntOf, this, plain]
theorem prun_bound {k : IntKind} {a y : Nat} {c : BoundsCode} (h : a ≤ y) : prun P (Instr.sliceBound (.int k a) y c) = some a := by
 have h' : (a : Int) ≤ y := by omega
 unfold Instr.sliceBound
 simp [prun_bnd, prun_pure, asIntOf, h, h']
theorem str_from (ht : P.underlying t = some .string) {s : ByteArray} {k : IntKind} {a : Nat} (h1 : a ≤ s.size) : prunP P (Instr.slice t (.string s) (some (.int k a)) none none) = some (.string (s.extract a s.size)) := by
 unfold prunP Instr.slice Instr.sliceBounds
 simp [prun_bnd, prun_pure, prun_map, prun_und ht, prun_bound h1, plain]
end
end Go.Pur
set_option linter.unusedSimpArgs false
set_option linter.unusedVariables false
namespace Go.Pur
open Go.Abs
abbrev sv (s : ByteArray) : PV := .v (.string s)
abbrev bs (l : List UInt8) : ByteArray := ⟨l.toArray⟩
theorem bs_size {l : List UInt8} : (bs l).size = l.length := by simp [ByteArray.size]
theorem bs_get {l : List UInt8} {i : Nat} (h : i < (bs l).size) : (bs l)[i]'h = l[i]'(by rwa [bs_size] at h) := rfl
theorem bleF {a b : Nat} (h : b < a) : Nat.ble a b = false := by rw [nble]; exact decide_eq_false (by omega)
end Go.Pur
set_option linter.unusedSimpArgs false
set_option linter.unusedVariables false
set_option linter.unusedSectionVars false
namespace Go.Pur
open Go.Abs
theorem bind_ok {α β : Type} {x : Option α} {f : α → Option β} {r : β} (h : x.bind f = some r) : ∃ a, x = some a ∧ f a = some r := by
 cases x with
 | none => cases h
 | some a => exact ⟨a, rfl, h⟩
theorem bindT {α β : Type} {a : α} {f : α → Option β} {r : β} (h : (some a).bind f = some r) : ∃ x, a = x ∧ f x = some r := ⟨a, rfl, h⟩
theorem inj_ok {α : Type} {a b : α} (h : some a = some b) : a = b := Option.some.inj h
abbrev kv (k : IntKind) (z : Int) : PV := .v (.int k z)
def lv (p : Ck × List Int) : PV := .l .fz p.1 p.2.length (p.2.map iv)
def tv (l : List UInt8) : PV := .v (.string (bs l))
def rows (l : List (Int × Int)) : List PV := l.flatMap fun p => [iv p.1, iv p.2]
theorem rows_len : ∀ {l : List (Int × Int)}, (rows l).length = l.length * 2
 | [] => rfl
 | p :: l => by
  have := rows_len (l := l)
  simp only [rows, List.flatMap_cons, List.length_append, List.length_cons, List.length_nil] at this ⊢
  omega
theorem rows_nil : rows [] = [] := rfl
theorem rows_cons {p : Int × Int} {l : List (Int × Int)} : rows (p :: l) = iv p.1 :: iv p.2 :: rows l := rfl
section
variable {α : Type} {l l' r x : List α} {v y : α} {i z : Int} {n k : Nat} {f : α → PV}
def gI (l : List α) (i : Int) : Option α := match i with
 | .ofNat k => l[k]?
 | .negSucc _ => none
theorem gI_ok (hn : l.length = n) (h : gI l i = some y) : (∀ k, intIn n (.int k i) = some i.toNat) ∧ i.toNat < n ∧ Nat.ble (i.toNat + 1) n = true ∧ l[i.toNat]? = some y ∧ i = (i.toNat : Int) := by
 cases i with
 | negSucc k => cases h
 | ofNat k =>
  have h1 : k < l.length := (List.getElem?_eq_some_iff.1 h).1
  rw [hn] at h1
  exact ⟨fun _ => intIn_nat h1, h1, ble_true h1, h, rfl⟩
def gS (s : List UInt8) (i : Int) : Option Int := match i with
 | .ofNat k => match s[k]? with
  | some c => some (c.toNat : Int)
  | none => none
 | .negSucc _ => none
theorem gS_ok {P : Program} {t : TypeId} {s : List UInt8} {c : Int} {k : IntKind} (ht : P.underlying t = some .string) (hs : shapeOf P t = some .string) (h : gS s i = some c) : pqIndex P t (.v (.string (bs s))) (.int k i) = some (.v (.int .u8 c)) ∧ 0 ≤ c ∧ c < 256 := by
 cases i with
 | negSucc k => cases h
 | ofNat j =>
  unfold gS at h
  cases e : s[j]? with
  | none => simp [e] at h
  | some b =>
   simp [e] at h
   subst h
   have hj : j < (bs s).size := by rw [bs_size]; exact (List.getElem?_eq_some_iff.1 e).1
   have h1 := str_index (P := P) (t := t) ht (s := bs s) (k := k) (i := j) hj
   have h2 : (bs s)[j]'hj = b := by rw [bs_get]; exact (List.getElem?_eq_some_iff.1 e).2
   rw [h2] at h1
   refine ⟨?_, by omega, by have := b.toNat_lt; omega⟩
   unfold pqIndex
   rw [hs]
   show (match prunP P (Instr.index t (.string (bs s)) (.int k (j : Int))) with | some r => pvOf r | none => none) = _
   rw [h1]
   rfl
end
section
variable {α : Type} {l r x : List α} {n k : Nat} {f : α → PV}
end
def vlOf : Ck → Vl
 | .full => .fz
 | _ => .own
theorem bs_eq {l m : List UInt8} : (bs l = bs m) ↔ l = m := ⟨fun h => by simpa using congrArg (fun b : ByteArray => b.data.toList) h, fun h => by rw [h]⟩
def shlO (k : IntKind) (m n : Int) : Option Int := match n with
 | .ofNat j => some (shlI k m j)
 | .negSucc _ => none
theorem shlO_ok {k : IntKind} {m n z : Int} (h : shlO k m n = some z) : 0 ≤ n ∧ shlI k m n = z := by
 cases n with
 | negSucc j => cases h
 | ofNat j => exact ⟨Int.natCast_nonneg j, Option.some.inj h⟩
theorem ble_add {n a b : Nat} : Nat.ble (n + a) (n + b) = decide (a ≤ b) := by rw [nble]; congr 1; simp
theorem ble_add0 {n b : Nat} : Nat.ble n (n + b) = true := ble_true (by omega)
theorem beq_add {n a b : Nat} : Nat.beq (n + a) (n + b) = decide (a = b) := by rw [nbeq]; congr 1; simp
theorem beq_add0 {n b : Nat} : Nat.beq n (n + b) = decide (b = 0) := by rw [nbeq]; congr 1; simp
theorem beq_add1 {n b : Nat} : Nat.beq (n + b) n = decide (b = 0) := by rw [nbeq]; congr 1; simp
theorem ble_same {n : Nat} : Nat.ble n n = true := ble_true (Nat.le_refl _)
theorem ak_true : ak true = .bor := rfl
theorem ak_false : ak false = .fz := rfl
theorem argv_s {Y : Pol} {f : FuncId} {b o n c : Nat} {σ : St} : argv Y f (.s b o n c) σ = some (.s b o n c, σ, none) := rfl
theorem intIn2_0 : intIn 2 (.int .i64 0) = some 0 := rfl
theorem intIn2_1 : intIn 2 (.int .i64 1) = some 1 := rfl
theorem ble12 {n : Nat} : Nat.ble 1 (n + 1 + 1) = true := ble_true (by omega)
theorem ble22 {n : Nat} : Nat.ble 2 (n + 1 + 1) = true := ble_true (by omega)
theorem max_int {P : Program} {ts : Array TypeId} {t : TypeId} {a b : Int} : prunP P (Builtin.max_ ts t #[.int .i64 a, .int .i64 b]) = some (.int .i64 (max a b)) := by
 unfold prunP Builtin.max_
 simp [Builtin.max2, prun_bnd, prun_pure]
 rw [show (if a < b then b else a) = max a b by rw [Int.max_def]; split <;> split <;> omega]
 rfl
theorem min_int {P : Program} {ts : Array TypeId} {t : TypeId} {a b : Int} : prunP P (Builtin.min_ ts t #[.int .i64 a, .int .i64 b]) = some (.int .i64 (min a b)) := by
 unfold prunP Builtin.min_
 simp [Builtin.min2, prun_bnd, prun_pure]
 rw [show (if b < a then b else a) = min a b by rw [Int.min_def]; split <;> split <;> omega]
 rfl
def gA (s : List UInt8) (k : Nat) : Option Nat := match s[k]? with
 | some c => match Nat.blt c.toNat 128 with
  | true => some c.toNat
  | false => none
 | none => none
theorem gA_ok {s : List UInt8} {k c : Nat} (h : gA s k = some c) : Utf8.decode (bs s) k = (c, 1) := by
 unfold gA at h
 cases e : s[k]? with
 | none => simp [e] at h
 | some b =>
  cases hb : Nat.blt b.toNat 128 with
  | false => simp [e, hb] at h
  | true =>
   simp [e, hb] at h
   subst h
   have h1 : b.toNat < 128 := Nat.le_of_ble_eq_true hb
   have h2 : (bs s).get! k = b := by
    obtain ⟨hk, hk2⟩ := List.getElem?_eq_some_iff.1 e
    subst hk2
    simp [ByteArray.get!, hk]
   unfold Utf8.decode
   simp [h2, h1]
def wok (base : Nat) (w : Option Nat) : Prop := w = none ∨ ∃ k, w = some k ∧ base ≤ k
theorem wok_none {base : Nat} : wok base none := .inl rfl
theorem wok_low {base b : Nat} {w : Option Nat} (hw : wok base w) (hb : base ≤ b) : wok base (lowB w b) := by
 rcases hw with rfl | ⟨k, rfl, hk⟩
 ·exact .inr ⟨b, rfl, hb⟩
 ·exact .inr ⟨_, rfl, Nat.le_min.2 ⟨hk, hb⟩⟩
theorem wok_low_iff {base b : Nat} {w : Option Nat} : wok base (lowB w b) ↔ wok base w ∧ base ≤ b := by
 refine ⟨fun h => ?_, fun h => wok_low h.1 h.2⟩
 cases w with
 | none =>
  rcases h with h | ⟨k, h, hk⟩
  ·cases h
  ·cases h; exact ⟨.inl rfl, hk⟩
 | some a =>
  rcases h with h | ⟨k, h, hk⟩
  ·cases h
  ·cases h
   exact ⟨.inr ⟨a, rfl, (Nat.le_min.1 hk).1⟩, (Nat.le_min.1 hk).2⟩
theorem lowOf_none {base : Nat} : lowOf base none = none := rfl
theorem lowOf_wok {base : Nat} {w : Option Nat} (hw : wok base w) : lowOf base w = none := by
 rcases hw with rfl | ⟨k, rfl, hk⟩
 ·rfl
 ·show (match Nat.blt k base with | true => some k | false => none) = none
  rw [show Nat.blt k base = false from by rw [Nat.blt, nble]; exact decide_eq_false (by omega)]
section
variable {P : Program} {Y : Pol} {f : FuncId} {nt : Nat} {k : List Fm}
theorem loopS {V U ρ : Type} {S : (U → Option ρ) → Nat → V → Option ρ} {K : U → Option ρ} {r : ρ} {R : Option (PV × List (Option (List PV)) × Option Nat)} {g : FuncId} {rs : List ResultVar} {tys : List TypeId} {base id : Nat} {b : Code} {σ0 : St}
  (Fact : V → St → Prop) (FactO : U → St → Prop) {n0 : Nat} {v0 : V} (hz : ∀ v, S K 0 v = none) (h : S K n0 v0 = some r) (h0 : Fact v0 σ0)
  (hc : ∀ o σ, FactO o σ → K o = some r → ER P Y g rs tys base (EK P Y f nt k σ) = R)
  (hs : ∀ k' n v σ, Fact v σ → S K (n + 1) v = some r → (∀ v' σ', Fact v' σ' → S K n v' = some r → ER P Y g rs tys base (EK P Y f nt (.lp b :: .blk id :: k') σ') = R) →
   (∀ o σ', FactO o σ' → K o = some r → ER P Y g rs tys base (EK P Y f nt k' σ') = R) → ER P Y g rs tys base (EK P Y f nt (.c b :: .lp b :: .blk id :: k') σ) = R) :
  ER P Y g rs tys base (EK P Y f nt (.lp b :: .blk id :: k) σ0) = R := by
 induction n0 generalizing v0 σ0 with
 | zero => rw [hz] at h; cases h
 | succ n ih =>
  rw [EK_lp]
  exact hs k n v0 σ0 h0 h (fun v' σ' hf hh => ih hh hf) hc
end
end Go.Pur
set_option linter.unusedSimpArgs false
set_option linter.unusedVariables false
namespace Go.Pur
open Go.Abs
section
variable {P : Program} {t e : TypeId} {d n : Nat} {xs ys : Array Value} {x0 x1 y0 y1 v w : Value} {p q : Bool} {a b : Int} {x y : Operand}
end
end Go.Pur
