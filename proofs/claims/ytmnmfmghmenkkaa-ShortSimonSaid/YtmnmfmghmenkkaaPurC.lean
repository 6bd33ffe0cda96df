/-
  What simp needs to carry the pure evaluator through code with symbolic values.
  Unary operations, operations on bits, for the pure evaluator's walk.
  From a call of the pure evaluator that answers true to the row's own words.
  Arguments of a law, as the row reads them, for the pure evaluator.
  Conditions: none; definitions and lemmas.
-/
import Derived.Test.YtmnmfmghmenkkaaPurB
import Derived.Carry
import Derived.Deep.Slices
set_option linter.unusedSimpArgs false
set_option linter.unusedVariables false
set_option linter.unusedSectionVars false
namespace Go.Pur
open Go.Abs
def ak : Bool → Vl
 | true => .bor
 | false => .fz
section
variable {p : Pl} {b : Bool} {c : Ck} {n : Nat} {cs : List PV}
theorem rdv_ak : rdv p (.l (ak b) c n cs) = some (.l (ak b) c n cs) := by cases b <;> rfl
theorem notOwn_ak : notOwn (ak b) = true := by cases b <;> rfl
theorem prt_ak : prt (ak b) = ak b := by cases b <;> rfl
theorem loose_ak : loose (.l (ak b) c n cs) = false := by cases b <;> rfl
theorem rdv_own : rdv p (.l .own c n cs) = some (.l (.rf p) c n cs) := rfl
theorem rdv_fz : rdv p (.l .fz c n cs) = some (.l .fz c n cs) := rfl
theorem rdv_bor : rdv p (.l .bor c n cs) = some (.l .bor c n cs) := rfl
theorem rdv_rf {q : Pl} : rdv p (.l (.rf q) c n cs) = some (.l (.rf q) c n cs) := rfl
theorem rdv_pt {q : Pl} : rdv p (.l (.pt q) c n cs) = some (.l (.pt q) c n cs) := rfl
theorem rdv_v {x : Value} : rdv p (.v x) = some (.v x) := rfl
theorem rdv_a : rdv p (.a cs) = some (.a cs) := rfl
theorem rdv_t : rdv p (.t cs) = some (.t cs) := rfl
theorem rdv_r {k : Vl} : rdv p (.r k cs) = some (.r k cs) := rfl
theorem rdv_p {i o : Nat} : rdv p (.p i o) = some (.p i o) := rfl
theorem rdv_s {i o m d : Nat} : rdv p (.s i o m d) = some (.s i o m d) := rfl
theorem rdv_f {g : FuncId} {as bs : List PV} : rdv p (.f g as bs) = some (.f g as bs) := rfl
end
theorem get_nil {α : Type} {k : Nat} : (Tr.nil : Tr α).get k = none := rfl
theorem pvOf_int {k : IntKind} {n : Int} : pvOf (.int k n) = some (.v (.int k n)) := rfl
theorem pvOf_bool {b : Bool} : pvOf (.bool b) = some (.v (.bool b)) := rfl
theorem pvOf_str {s : ByteArray} : pvOf (.string s) = some (.v (.string s)) := rfl
theorem pvOf_nil : pvOf (.slice none 0 0) = some (.l .own .nz 0 []) := rfl
abbrev iv (n : Int) : PV := .v (.int .i64 n)
theorem blt_true {a b : Nat} (h : a < b) : Nat.blt a b = true := Nat.ble_eq_true_of_le h
theorem ble_true {a b : Nat} (h : a ≤ b) : Nat.ble a b = true := Nat.ble_eq_true_of_le h
theorem wrap64 {z : Int} (h1 : -9223372036854775808 ≤ z) (h2 : z < 9223372036854775808) : IntKind.i64.wrap z = z := by
 have e : IntKind.i64.wrap z = if z % 18446744073709551616 ≥ 9223372036854775808 then z % 18446744073709551616 - 18446744073709551616 else z % 18446744073709551616 := by
  unfold IntKind.wrap
  by_cases h : z % 18446744073709551616 ≥ 9223372036854775808
  ·rw [if_pos h]
   simp [IntKind.bits, IntKind.signed]
   omega
  ·rw [if_neg h]
   simp [IntKind.bits, IntKind.signed]
   omega
 rw [e]
 split <;> omega
theorem wrap_nat {n : Nat} (h : n < 1000000000000) : IntKind.i64.wrap ((n : Int) + 1) = ((n + 1 : Nat) : Int) := by
 rw [wrap64 (by omega) (by omega)]; omega
theorem intIn_nat {n i : Nat} {k : IntKind} (h : i < n) : intIn n (.int k (i : Int)) = some i := by
 show (match Nat.blt i n with | true => some i | false => none) = some i
 rw [blt_true h]
theorem goInt_eq {n : Int} : goInt n = .int .i64 n := rfl
section
variable {sz : TypeId → Option Nat} {base t : Nat} {hp : List (Option (List PV))}
theorem settle_v {x : Value} : settle sz base hp t (.v x) = some (.v x) := rfl
theorem settle_l {k : Vl} {c : Ck} {n : Nat} {cs : List PV} : settle sz base hp t (.l k c n cs) = some (.l k c n cs) := rfl
theorem settle_a {cs : List PV} : settle sz base hp t (.a cs) = some (.a cs) := rfl
theorem settle_p {b o : Nat} : settle sz base hp t (.p b o) = some (.p b o) := rfl
theorem settle_f {g : FuncId} {as bs : List PV} : settle sz base hp t (.f g as bs) = some (.f g as bs) := rfl
theorem noref_v {x : Value} : noref (.v x) = true := by simp [noref]
theorem noref_fz {c : Ck} {n : Nat} {cs : List PV} : noref (.l .fz c n cs) = true := by simp [noref]
theorem noref_a {cs : List PV} : noref (.a cs) = noref.norefs cs := by simp [noref]
theorem norefs_nil : noref.norefs [] = true := by simp [noref.norefs]
theorem norefs_cons {c : PV} {cs : List PV} : noref.norefs (c :: cs) = (noref c && noref.norefs cs) := by simp [noref.norefs]
end
section
variable {P : Program} {Y : Pol} {f : FuncId} {nt : Nat} {k : List Fm}
def presL (P : Program) (Y : Pol) (f : FuncId) (base : Nat) (rs : List ResultVar) (ts : List TypeId) (σ : St) : Option (PV × St × Bool) :=
 match rs, ts with
 | [r], [t] => match presOne P Y f σ r with
  | some (v, σ1) => match moved Y f v σ1 with
   | some (v', σ2) => match okDrop base v' with
    | true => match settle (elemSz P) base σ2.hp t v' with
     | some u => some (u, σ2, true)
     | none => none
    | false => some (v', σ2, false)
   | none => none
  | none => none
 | rs, ts => match Nat.beq rs.length 1 with
  | true => none
  | false => match presM P Y f rs σ with
   | some (vs, σ1) => match vs.all (okDrop base) with
    | true => match settles P base σ1.hp ts vs with
     | some us => some (.t us, σ1, true)
     | none => none
    | false => some (.t vs, σ1, false)
   | none => none
def ER (P : Program) (Y : Pol) (g : FuncId) (rs : List ResultVar) (ts : List TypeId) (base : Nat) (r : Option (AExit × St)) : Option (PV × List (Option (List PV)) × Option Nat) :=
 match r with
 | some (.normal, σ) | some (.ret, σ) => match presL P Y g base rs ts σ with
  | some (v, σ', drop) => some (pclose base drop v σ')
  | none => none
 | _ => none
theorem pres_eq {g : FuncId} {fn : Func} {base : Nat} {σ : St} : pres P Y g base fn σ = presL P Y g base fn.results.toList fn.resultTypes.toList σ := rfl
theorem E_bodyR {g : FuncId} {fn : Func} {c : Code} {a : List PV} {hp : List (Option (List PV))} (hb : bodyOf P g = some (fn, c)) (hk : (Nat.ble a.length fn.ntmps && keepsTo Y g a.length) = true) (hy : Y.yes g = false := by rfl) :
  E P Y g a hp = ER P Y g fn.results.toList fn.resultTypes.toList hp.length (EK P Y g fn.ntmps [.c c] ⟨[], pinit 0 a .nil, hp, none⟩) := by
 rw [E_body hb hk hy]
 unfold EF ER
 simp only [pres_eq]
 cases EK P Y g fn.ntmps [.c c] ⟨[], pinit 0 a .nil, hp, none⟩ with
 | none => rfl
 | some r =>
  obtain ⟨x, σ⟩ := r
  cases x with
  | normal => simp only []; cases presL P Y g hp.length fn.results.toList fn.resultTypes.toList σ <;> rfl
  | ret => simp only []; cases presL P Y g hp.length fn.results.toList fn.resultTypes.toList σ <;> rfl
  | _ => rfl
theorem E_bodyN {g : FuncId} {fn : Func} {c : Code} {a : List PV} {hp : List (Option (List PV))} (n : Nat) (hb : bodyOf P g = some (fn, c)) (h1 : Nat.ble n fn.ntmps = true) (h2 : keepsTo Y g n = true) (hn : a.length = n) (hy : Y.yes g = false := by rfl) :
  E P Y g a hp = ER P Y g fn.results.toList fn.resultTypes.toList hp.length (EK P Y g fn.ntmps [.c c] ⟨[], pinit 0 a .nil, hp, none⟩) := by
 refine E_bodyR hb ?_ hy
 rw [hn, h1, h2]
 rfl
theorem E_known {g : FuncId} {a : List PV} {hp : List (Option (List PV))} {r : PV × List (Option (List PV)) × Option Nat} (hy : Y.yes g = true) (hv : Y.ext g a hp = some r) : E P Y g a hp = some r := by
 rw [E_eq]
 unfold pcall
 rw [hy]
 simp only [hv]
theorem ER_ret {g : FuncId} {rs : List ResultVar} {tys : List TypeId} {base : Nat} {σ : St} : ER P Y g rs tys base (some (.ret, σ)) = match presL P Y g base rs tys σ with
  | some (v, σ', drop) => some (pclose base drop v σ')
  | none => none := rfl
theorem ER_normal {g : FuncId} {rs : List ResultVar} {tys : List TypeId} {base : Nat} {σ : St} : ER P Y g rs tys base (some (.normal, σ)) = match presL P Y g base rs tys σ with
  | some (v, σ', drop) => some (pclose base drop v σ')
  | none => none := rfl
theorem loop_ind {R : Option (PV × List (Option (List PV)) × Option Nat)} {g : FuncId} {rs : List ResultVar} {tys : List TypeId} {base : Nat} {b : Code} {σ0 : St} (Inv : Nat → St → Prop) {n0 : Nat} (h0 : Inv n0 σ0)
  (hs : ∀ n σ, Inv n σ → (∀ m σ', m < n → Inv m σ' → ER P Y g rs tys base (EK P Y f nt (.lp b :: k) σ') = R) → ER P Y g rs tys base (EK P Y f nt (.c b :: .lp b :: k) σ) = R) :
  ER P Y g rs tys base (EK P Y f nt (.lp b :: k) σ0) = R := by
 induction n0 using Nat.strongRecOn generalizing σ0 with
 | ind n ih =>
  rw [EK_lp]
  exact hs n σ0 h0 fun m σ' hm hi => ih m hm hi
end
section
variable {k : IntKind} {a b : Int}
theorem intBin_add : intBin .add k a b = some (.int k (k.wrap (a + b))) := rfl
theorem intBin_sub : intBin .sub k a b = some (.int k (k.wrap (a - b))) := rfl
theorem intBin_eql : intBin .eql k a b = some (.bool (decide (a = b))) := by simp [intBin]; rfl
theorem intBin_neq : intBin .neq k a b = some (.bool (!decide (a = b))) := by simp [intBin, bne]; rfl
theorem intBin_lss : intBin .lss k a b = some (.bool (decide (a < b))) := rfl
theorem intBin_leq : intBin .leq k a b = some (.bool (decide (a ≤ b))) := rfl
theorem intBin_gtr : intBin .gtr k a b = some (.bool (decide (b < a))) := rfl
theorem intBin_geq : intBin .geq k a b = some (.bool (decide (b ≤ a))) := rfl
end
theorem ble_lim24 {n : Nat} : Nat.ble n limit24 = decide (n ≤ 16777216) := by
 rw [Bool.eq_iff_iff]
 simp [limit24]
theorem nble {n m : Nat} : Nat.ble n m = decide (n ≤ m) := by
 rw [Bool.eq_iff_iff]
 simp
theorem nbeq {n m : Nat} : Nat.beq n m = decide (n = m) := by
 rw [Bool.eq_iff_iff]
 simp
section
variable {p : Pl}
theorem killV_v {x : Value} : killV p (.v x) = (.v x) := rfl
theorem killV_a {cs : List PV} : killV p (.a cs) = (.a cs) := rfl
theorem killV_t {cs : List PV} : killV p (.t cs) = (.t cs) := rfl
theorem killV_f {g : FuncId} {as bs : List PV} : killV p (.f g as bs) = (.f g as bs) := rfl
theorem killV_i {ty : TypeId} {x : PV} : killV p (.i ty x) = (.i ty x) := rfl
theorem killV_p {b o : Nat} : killV p (.p b o) = (.p b o) := rfl
theorem killV_s {b o n m : Nat} : killV p (.s b o n m) = (.s b o n m) := rfl
theorem killV_un  : killV p .un = .un := rfl
theorem killV_dead  : killV p .dead = .dead := rfl
theorem killV_lfz {c : Ck} {n : Nat} {cs : List PV} : killV p (.l .fz c n cs) = (.l .fz c n cs) := rfl
theorem killV_lbor {c : Ck} {n : Nat} {cs : List PV} : killV p (.l .bor c n cs) = (.l .bor c n cs) := rfl
theorem killV_lown {c : Ck} {n : Nat} {cs : List PV} : killV p (.l .own c n cs) = (.l .own c n cs) := rfl
theorem killV_rfz {cs : List PV} : killV p (.r .fz cs) = (.r .fz cs) := rfl
theorem killV_rbor {cs : List PV} : killV p (.r .bor cs) = (.r .bor cs) := rfl
theorem killV_lak {b : Bool} {c : Ck} {n : Nat} {cs : List PV} : killV p (.l (ak b) c n cs) = .l (ak b) c n cs := by cases b <;> rfl
theorem killV_rak {b : Bool} {cs : List PV} : killV p (.r (ak b) cs) = .r (ak b) cs := by cases b <;> rfl
theorem frzV_v {x : Value} : frzV p (.v x) = (.v x) := rfl
theorem frzV_a {cs : List PV} : frzV p (.a cs) = (.a cs) := rfl
theorem frzV_t {cs : List PV} : frzV p (.t cs) = (.t cs) := rfl
theorem frzV_f {g : FuncId} {as bs : List PV} : frzV p (.f g as bs) = (.f g as bs) := rfl
theorem frzV_i {ty : TypeId} {x : PV} : frzV p (.i ty x) = (.i ty x) := rfl
theorem frzV_p {b o : Nat} : frzV p (.p b o) = (.p b o) := rfl
theorem frzV_s {b o n m : Nat} : frzV p (.s b o n m) = (.s b o n m) := rfl
theorem frzV_un  : frzV p .un = .un := rfl
theorem frzV_dead  : frzV p .dead = .dead := rfl
theorem frzV_lfz {c : Ck} {n : Nat} {cs : List PV} : frzV p (.l .fz c n cs) = (.l .fz c n cs) := rfl
theorem frzV_lbor {c : Ck} {n : Nat} {cs : List PV} : frzV p (.l .bor c n cs) = (.l .bor c n cs) := rfl
theorem frzV_lown {c : Ck} {n : Nat} {cs : List PV} : frzV p (.l .own c n cs) = (.l .own c n cs) := rfl
theorem frzV_rfz {cs : List PV} : frzV p (.r .fz cs) = (.r .fz cs) := rfl
theorem frzV_rbor {cs : List PV} : frzV p (.r .bor cs) = (.r .bor cs) := rfl
theorem frzV_lak {b : Bool} {c : Ck} {n : Nat} {cs : List PV} : frzV p (.l (ak b) c n cs) = .l (ak b) c n cs := by cases b <;> rfl
theorem frzV_rak {b : Bool} {cs : List PV} : frzV p (.r (ak b) cs) = .r (ak b) cs := by cases b <;> rfl
theorem killCell_v {x : Value} : killCell (.v x) = (.v x) := rfl
theorem killCell_a {cs : List PV} : killCell (.a cs) = (.a cs) := rfl
theorem killCell_t {cs : List PV} : killCell (.t cs) = (.t cs) := rfl
theorem killCell_f {g : FuncId} {as bs : List PV} : killCell (.f g as bs) = (.f g as bs) := rfl
theorem killCell_i {ty : TypeId} {x : PV} : killCell (.i ty x) = (.i ty x) := rfl
theorem killCell_p {b o : Nat} : killCell (.p b o) = (.p b o) := rfl
theorem killCell_s {b o n m : Nat} : killCell (.s b o n m) = (.s b o n m) := rfl
theorem killCell_un  : killCell .un = .un := rfl
theorem killCell_dead  : killCell .dead = .dead := rfl
theorem killCell_lfz {c : Ck} {n : Nat} {cs : List PV} : killCell (.l .fz c n cs) = (.l .fz c n cs) := rfl
theorem killCell_lbor {c : Ck} {n : Nat} {cs : List PV} : killCell (.l .bor c n cs) = (.l .bor c n cs) := rfl
theorem killCell_lown {c : Ck} {n : Nat} {cs : List PV} : killCell (.l .own c n cs) = (.l .own c n cs) := rfl
theorem killCell_rfz {cs : List PV} : killCell (.r .fz cs) = (.r .fz cs) := rfl
theorem killCell_rbor {cs : List PV} : killCell (.r .bor cs) = (.r .bor cs) := rfl
theorem killCell_lak {b : Bool} {c : Ck} {n : Nat} {cs : List PV} : killCell (.l (ak b) c n cs) = .l (ak b) c n cs := by cases b <;> rfl
theorem killCell_rak {b : Bool} {cs : List PV} : killCell (.r (ak b) cs) = .r (ak b) cs := by cases b <;> rfl
theorem killV_lrf {q : Pl} {c : Ck} {n : Nat} {cs : List PV} : killV p (.l (.rf q) c n cs) = match plEq q p with
  | true => .dead
  | false => .l (.rf q) c n cs := rfl
theorem killV_lpt {q : Pl} {c : Ck} {n : Nat} {cs : List PV} : killV p (.l (.pt q) c n cs) = match plEq q p with
  | true => .dead
  | false => .l (.pt q) c n cs := rfl
theorem killV_rpt {q : Pl} {cs : List PV} : killV p (.r (.pt q) cs) = match plEq q p with
  | true => .dead
  | false => .r (.pt q) cs := rfl
theorem frzV_lrf {q : Pl} {c : Ck} {n : Nat} {cs : List PV} : frzV p (.l (.rf q) c n cs) = match plEq q p with
  | true => .l .fz c n cs
  | false => .l (.rf q) c n cs := rfl
theorem frzV_lpt {q : Pl} {c : Ck} {n : Nat} {cs : List PV} : frzV p (.l (.pt q) c n cs) = match plEq q p with
  | true => .l .fz c n cs
  | false => .l (.pt q) c n cs := rfl
theorem frzV_rpt {q : Pl} {cs : List PV} : frzV p (.r (.pt q) cs) = match plEq q p with
  | true => .r .fz cs
  | false => .r (.pt q) cs := rfl
theorem killCell_lrft {t : Nat} {c : Ck} {n : Nat} {cs : List PV} : killCell (.l (.rf (.tmp t)) c n cs) = .l (.rf (.tmp t)) c n cs := rfl
theorem killCell_lptt {t : Nat} {c : Ck} {n : Nat} {cs : List PV} : killCell (.l (.pt (.tmp t)) c n cs) = .l (.pt (.tmp t)) c n cs := rfl
theorem killCell_rptt {t : Nat} {cs : List PV} : killCell (.r (.pt (.tmp t)) cs) = .r (.pt (.tmp t)) cs := rfl
theorem killCell_lrfc {a i : Nat} {c : Ck} {n : Nat} {cs : List PV} : killCell (.l (.rf (.cell a i)) c n cs) = .dead := rfl
theorem killCell_lptc {a i : Nat} {c : Ck} {n : Nat} {cs : List PV} : killCell (.l (.pt (.cell a i)) c n cs) = .dead := rfl
theorem killCell_rptc {a i : Nat} {cs : List PV} : killCell (.r (.pt (.cell a i)) cs) = .dead := rfl
theorem argv_lak {Y : Pol} {f : FuncId} {b : Bool} {c : Ck} {n : Nat} {cs : List PV} {σ : St} : argv Y f (.l (ak b) c n cs) σ = some (.l (ak b) c n cs, σ, none) := by cases b <;> rfl
theorem argv_rak {Y : Pol} {f : FuncId} {b : Bool} {cs : List PV} {σ : St} : argv Y f (.r (ak b) cs) σ = some (.r (ak b) cs, σ, none) := by cases b <;> rfl
theorem argv_v {Y : Pol} {f : FuncId} {x : Value} {σ : St} : argv Y f (.v x) σ = some (.v x, σ, none) := rfl
theorem argv_a {Y : Pol} {f : FuncId} {cs : List PV} {σ : St} : argv Y f (.a cs) σ = some (.a cs, σ, none) := rfl
theorem argv_p {Y : Pol} {f : FuncId} {b o : Nat} {σ : St} : argv Y f (.p b o) σ = some (.p b o, σ, none) := rfl
theorem argv_f {Y : Pol} {f : FuncId} {g : FuncId} {as bs : List PV} {σ : St} : argv Y f (.f g as bs) σ = some (.f g as bs, σ, none) := rfl
theorem argv_fz {Y : Pol} {f : FuncId} {c : Ck} {n : Nat} {cs : List PV} {σ : St} : argv Y f (.l .fz c n cs) σ = some (.l .fz c n cs, σ, none) := rfl
theorem argv_bor {Y : Pol} {f : FuncId} {c : Ck} {n : Nat} {cs : List PV} {σ : St} : argv Y f (.l .bor c n cs) σ = some (.l .bor c n cs, σ, none) := rfl
theorem argv_rf {Y : Pol} {f : FuncId} {t : Nat} {c : Ck} {n : Nat} {cs : List PV} {σ : St} : argv Y f (.l (.rf (.tmp t)) c n cs) σ = match Y.keep f t with
  | true => some (.l .bor c n cs, σ, none)
  | false => stor Y f (.l (.rf (.tmp t)) c n cs) σ := rfl
theorem argv_pt {Y : Pol} {f : FuncId} {t : Nat} {c : Ck} {n : Nat} {cs : List PV} {σ : St} : argv Y f (.l (.pt (.tmp t)) c n cs) σ = some (.l .bor c n cs, σ, none) := rfl
theorem argv_rc {Y : Pol} {f : FuncId} {a i : Nat} {c : Ck} {n : Nat} {cs : List PV} {σ : St} : argv Y f (.l (.rf (.cell a i)) c n cs) σ = stor Y f (.l (.rf (.cell a i)) c n cs) σ := rfl
theorem argv_own {Y : Pol} {f : FuncId} {c : Ck} {n : Nat} {cs : List PV} {σ : St} : argv Y f (.l .own c n cs) σ = stor Y f (.l .own c n cs) σ := rfl
theorem mayTurn_none : mayTurn none = true := rfl
end
section
variable {p : Pl} {es : List MapEntry} {c d : Nat} {ls : List (Nat × PV)}
theorem rdv_mown : rdv p (.m .own es c) = some (.m (.rf p) es c) := rfl
theorem rdv_mfz : rdv p (.m .fz es c) = some (.m .fz es c) := rfl
theorem rdv_mbor : rdv p (.m .bor es c) = some (.m .bor es c) := rfl
theorem rdv_mrf {q : Pl} : rdv p (.m (.rf q) es c) = some (.m (.rf q) es c) := rfl
theorem killV_mown : killV p (.m .own es c) = .m .own es c := rfl
theorem killV_mfz : killV p (.m .fz es c) = .m .fz es c := rfl
theorem killV_mbor : killV p (.m .bor es c) = .m .bor es c := rfl
theorem killV_mrf {q : Pl} : killV p (.m (.rf q) es c) = match plEq q p with
  | true => .dead
  | false => .m (.rf q) es c := rfl
theorem frzV_mown : frzV p (.m .own es c) = .m .own es c := rfl
theorem frzV_mfz : frzV p (.m .fz es c) = .m .fz es c := rfl
theorem frzV_mbor : frzV p (.m .bor es c) = .m .bor es c := rfl
theorem frzV_mrf {q : Pl} : frzV p (.m (.rf q) es c) = match plEq q p with
  | true => .m .fz es c
  | false => .m (.rf q) es c := rfl
theorem killCell_mown : killCell (.m .own es c) = .m .own es c := rfl
theorem killCell_mfz : killCell (.m .fz es c) = .m .fz es c := rfl
theorem killCell_mbor : killCell (.m .bor es c) = .m .bor es c := rfl
theorem killCell_mrf {t : Nat} : killCell (.m (.rf (.tmp t)) es c) = .m (.rf (.tmp t)) es c := rfl
theorem argv_mfz {Y : Pol} {f : FuncId} {σ : St} : argv Y f (.m .fz es c) σ = some (.m .fz es c, σ, none) := rfl
theorem argv_mbor {Y : Pol} {f : FuncId} {σ : St} : argv Y f (.m .bor es c) σ = some (.m .bor es c, σ, none) := rfl
theorem argv_mrf {Y : Pol} {f : FuncId} {t : Nat} {σ : St} : argv Y f (.m (.rf (.tmp t)) es c) σ = match Y.keep f t with
  | true => some (.m .bor es c, σ, none)
  | false => stor Y f (.m (.rf (.tmp t)) es c) σ := rfl
theorem settle_m {sz : TypeId → Option Nat} {base t : Nat} {hp : List (Option (List PV))} {k : Vl} : settle sz base hp t (.m k es c) = some (.m k es c) := rfl
theorem kls_v {x : Value} : kls d (.v x) ls = ls := rfl
theorem kls_l {k : Vl} {c : Ck} {n : Nat} {cs : List PV} : kls d (.l k c n cs) ls = ls := rfl
theorem kls_a {cs : List PV} : kls d (.a cs) ls = ls := rfl
theorem kls_t {cs : List PV} : kls d (.t cs) ls = ls := rfl
theorem kls_r {k : Vl} {cs : List PV} : kls d (.r k cs) ls = ls := rfl
theorem kls_p {b o : Nat} : kls d (.p b o) ls = ls := rfl
theorem kls_s {b o n m : Nat} : kls d (.s b o n m) ls = ls := rfl
theorem kls_f {g : FuncId} {as bs : List PV} : kls d (.f g as bs) ls = ls := rfl
theorem kls_i {ty : TypeId} {x : PV} : kls d (.i ty x) ls = ls := rfl
theorem kls_it {s : ByteArray} {pos : Nat} : kls d (.it s pos) ls = ls := rfl
theorem kls_un : kls d .un ls = ls := rfl
theorem kls_dead : kls d .dead ls = ls := rfl
theorem kls_mown : kls d (.m .own es c) ls = mapL (killV (.tmp d)) ls := rfl
theorem kls_mrf {q : Pl} : kls d (.m (.rf q) es c) ls = ls := rfl
theorem kls_mbor : kls d (.m .bor es c) ls = ls := rfl
theorem kls_mfz : kls d (.m .fz es c) ls = ls := rfl
end
section
variable {b : Nat}
theorem refsTo_v {x : Value} : refsTo b (.v x) = true := by simp [refsTo]
theorem refsTo_l {k : Vl} {c : Ck} {n : Nat} {cs : List PV} : refsTo b (.l k c n cs) = true := by simp [refsTo]
theorem refsTo_p {d o : Nat} : refsTo b (.p d o) = Nat.ble d b := by simp [refsTo]
theorem refsTo_s {d o n m : Nat} : refsTo b (.s d o n m) = Nat.ble d b := by simp [refsTo]
theorem refsTo_a {cs : List PV} : refsTo b (.a cs) = refsTo.go b cs := by simp [refsTo]
theorem refsTo_dead : refsTo b .dead = true := by simp [refsTo]
theorem refsTo_nil : refsTo.go b [] = true := by simp [refsTo.go]
theorem refsTo_cons {c : PV} {cs : List PV} : refsTo.go b (c :: cs) = (refsTo b c && refsTo.go b cs) := by simp [refsTo.go]
theorem isOwn_lak {b : Bool} {c : Ck} {n : Nat} {cs : List PV} : isOwn (.l (ak b) c n cs) = false := by cases b <;> rfl
theorem ownFz_lak {b : Bool} {c : Ck} {n : Nat} {cs : List PV} : ownFz (.l (ak b) c n cs) = .l (ak b) c n cs := by cases b <;> rfl
end
theorem notOwn_fz : notOwn .fz = true := rfl
theorem notOwn_bor : notOwn .bor = true := rfl
theorem notOwn_own : notOwn .own = false := rfl
theorem notOwn_rf {p : Pl} : notOwn (.rf p) = true := rfl
theorem notOwn_pt {p : Pl} : notOwn (.pt p) = true := rfl
theorem prt_fz : prt .fz = .fz := rfl
theorem prt_bor : prt .bor = .bor := rfl
theorem prt_own : prt .own = .own := rfl
theorem prt_rf {p : Pl} : prt (.rf p) = .pt p := rfl
theorem prt_pt {p : Pl} : prt (.pt p) = .pt p := rfl
end Go.Pur
namespace Go.Pur
open Go.Abs
def andI (k : IntKind) (m n : Int) : Int := k.wrap (BitVec.ofInt k.bits m &&& BitVec.ofInt k.bits n).toNat
def orI (k : IntKind) (m n : Int) : Int := k.wrap (BitVec.ofInt k.bits m ||| BitVec.ofInt k.bits n).toNat
def andNotI (k : IntKind) (m n : Int) : Int := k.wrap (BitVec.ofInt k.bits m &&& ~~~ BitVec.ofInt k.bits n).toNat
def shrI (k : IntKind) (m n : Int) : Int := m.fdiv (2 ^ min n.toNat k.bits)
def shlI (k : IntKind) (m n : Int) : Int := k.wrap (m * 2 ^ min n.toNat k.bits)
def mulI (k : IntKind) (m n : Int) : Int := k.wrap (m * n)
section
variable {P : Program} {t : TypeId} {x y : Operand}
theorem prun_not {b : Bool} : prunP P (Op.unary .not (.bool b)) = some (.bool (!b)) := rfl
theorem prun_neg {n : Int} {k : IntKind} : prunP P (Op.unary .neg (.int k n)) = some (.int k (k.wrap (0 - n))) := rfl
theorem abinS_of {op : BinOp} {k j : IntKind} {m n : Int} {r : Value} (h0 : intFast op (.int k m) (.int j n) = none) (h1 : prun P (do eqGuard op t x y (.int k m) (.int j n); binOp op t (.int k m) (.int j n)) = some r) (h2 : plain r = true) : abin P op t x y (.int k m) (.int j n) = some r := by
 have h3 : abinS P op t x y (.int k m) (.int j n) = prunP P (do eqGuard op t x y (.int k m) (.int j n); binOp op t (.int k m) (.int j n)) := rfl
 unfold abin
 rw [h0]
 simp only []
 rw [h3]
 unfold prunP
 rw [h1]
 simp only []
 rw [h2]
theorem fast_none {op : BinOp} {k j : IntKind} {m n : Int} (h : ∀ k m n, intBin op k m n = none) : intFast op (.int k m) (.int j n) = none := by
 unfold intFast
 simp only [h]
 split <;> rfl
theorem abin_and {m n : Int} {k : IntKind} : abin P .and t x y (.int k m) (.int k n) = some (.int k (andI k m n)) := abinS_of (fast_none fun _ _ _ => rfl) (by simp [eqGuard, binOp]; rfl) rfl
theorem abin_or {m n : Int} {k : IntKind} : abin P .or t x y (.int k m) (.int k n) = some (.int k (orI k m n)) := abinS_of (fast_none fun _ _ _ => rfl) (by simp [eqGuard, binOp]; rfl) rfl
theorem abin_andNot {m n : Int} {k : IntKind} : abin P .andNot t x y (.int k m) (.int k n) = some (.int k (andNotI k m n)) := abinS_of (fast_none fun _ _ _ => rfl) (by simp [eqGuard, binOp]; rfl) rfl
theorem abin_mul {m n : Int} {k : IntKind} : abin P .mul t x y (.int k m) (.int k n) = some (.int k (mulI k m n)) := abinS_of (fast_none fun _ _ _ => rfl) (by simp [eqGuard, binOp]; rfl) rfl
theorem abin_shr {m n : Int} {k j : IntKind} (h : 0 ≤ n) : abin P .shr t x y (.int k m) (.int j n) = some (.int k (shrI k m n)) := by
 obtain ⟨n, rfl⟩ := Int.eq_ofNat_of_zero_le h
 exact abinS_of (fast_none fun _ _ _ => rfl) rfl rfl
theorem abin_shl {m n : Int} {k j : IntKind} (h : 0 ≤ n) : abin P .shl t x y (.int k m) (.int j n) = some (.int k (shlI k m n)) := by
 obtain ⟨n, rfl⟩ := Int.eq_ofNat_of_zero_le h
 exact abinS_of (fast_none fun _ _ _ => rfl) rfl rfl
theorem abin_add {m n : Int} {k : IntKind} : abin P .add t x y (.int k m) (.int k n) = some (.int k (k.wrap (m + n))) := by
 unfold abin intFast
 simp [intBin_add]
theorem abin_sub {m n : Int} {k : IntKind} : abin P .sub t x y (.int k m) (.int k n) = some (.int k (k.wrap (m - n))) := by
 unfold abin intFast
 simp [intBin_sub]
theorem abin_eql {m n : Int} {k : IntKind} : abin P .eql t x y (.int k m) (.int k n) = some (.bool (decide (m = n))) := by
 unfold abin intFast
 simp [intBin_eql]
theorem abin_neq {m n : Int} {k : IntKind} : abin P .neq t x y (.int k m) (.int k n) = some (.bool (!decide (m = n))) := by
 unfold abin intFast
 simp [intBin_neq]
theorem abin_lss {m n : Int} {k : IntKind} : abin P .lss t x y (.int k m) (.int k n) = some (.bool (decide (m < n))) := by
 unfold abin intFast
 simp [intBin_lss]
theorem abin_leq {m n : Int} {k : IntKind} : abin P .leq t x y (.int k m) (.int k n) = some (.bool (decide (m ≤ n))) := by
 unfold abin intFast
 simp [intBin_leq]
theorem abin_gtr {m n : Int} {k : IntKind} : abin P .gtr t x y (.int k m) (.int k n) = some (.bool (decide (n < m))) := by
 unfold abin intFast
 simp [intBin_gtr]
theorem abin_geq {m n : Int} {k : IntKind} : abin P .geq t x y (.int k m) (.int k n) = some (.bool (decide (n ≤ m))) := by
 unfold abin intFast
 simp [intBin_geq]
end
theorem noMaker_eq {ops : Array Oper} {q : Nat} : noMaker ops q = ops.toList.zipIdx.all fun (o, i) => decide (q ≤ i) || decide (kindOf o.op = 0) := by
 unfold noMaker
 congr 1
 funext x
 obtain ⟨o, i⟩ := x
 simp only [nble, nbeq]
section
variable {α : Type} {l r : List α} {k : Nat} {v : α}
theorem gAt : (l ++ r)[l.length + k]? = r[k]? := by rw [List.getElem?_append_right (by omega)]; congr 1; omega
theorem gAt0 : (l ++ r)[l.length]? = r[0]? := gAt (k := 0)
theorem sAt : (l ++ r).set (l.length + k) v = l ++ r.set k v := by rw [List.set_append, if_neg (by omega), Nat.add_sub_cancel_left]
theorem sAt0 : (l ++ r).set l.length v = l ++ r.set 0 v := sAt (k := 0)
end
end Go.Pur
namespace Go.Pur
open Go.Abs Go.RowKit
inductive CellIn (W : World) : Value → PV → Prop where
 | plain (x : Value) (hp : Abs.plain x = true) (hn : ∀ n c, x ≠ .slice none n c) : CellIn W x (.v x)
 | nil : CellIn W (.slice none 0 0) (.l .fz .any 0 [])
 | slice (a : Addr) (n cap : Nat) (xs : List Value) (hn : n ≤ cap) (hc : n < unkCap) (h0 : n = 0 → xs = []) (h1 : n ≠ 0 → xs ≠ []) (hx : ∀ k v, xs[k]? = some v → W.cell? (a.add k) = some v ∧ Abs.plain v = true ∧ ∀ n c, v ≠ .slice none n c) : CellIn W (.slice (some a) n cap) (.l .fz .any n (xs.map .v))
inductive CellsIn (W : World) : List Value → List PV → Prop where
 | nil : CellsIn W [] []
 | cons (v : Value) (u : PV) (vs : List Value) (us : List PV) (h : CellIn W v u) (ht : CellsIn W vs us) : CellsIn W (v :: vs) (u :: us)
inductive ArgIn (W : World) : Value → PV → Prop where
 | one (v : Value) (u : PV) (h : CellIn W v u) : ArgIn W v u
 | agg (cs : Array Value) (us : List PV) (h : CellsIn W cs.toList us) : ArgIn W (.agg cs) (.a us)
def C0 (P : Program) (n : Nat) : Ctx := ⟨P.cellsOf, fun _ => none, fun id => id < n, fun id => id < n, fun _ => none⟩
section
variable {P : Program} {W : World} {Y : Pol}
theorem cell_in {v : Value} {u : PV} (h : CellIn W v u) {G : List Blk} {GL : List Abs.Loc} (hG : G ≠ []) (hlen : G.length = GL.length) :
  ∃ (l : List Blk) (ls : List Abs.Loc) (x : Value), l.length = ls.length ∧ (∀ (i : Nat) (B : Blk) (L : Abs.Loc), l[i]? = some B → ls[i]? = some L → Lies W B L) ∧
   ∀ l2 ls2, VRel (mapOf (GL ++ ls ++ ls2)) x v ∧ ∀ π, VR (C0 P (G ++ l ++ l2).length) (heapOf (G ++ l ++ l2)) π u x := by
 cases h with
 | plain x hp hn => exact ⟨[], [], v, rfl, by simp, fun l2 ls2 => ⟨.plain _ hp, fun π => .v _ _ hp hn⟩⟩
 | nil => exact ⟨[], [], .slice none 0 0, rfl, by simp, fun l2 ls2 => ⟨.plain _ rfl, fun π => .nil _ _ _⟩⟩
 | slice a n cap xs hn hc h0 h1 hx =>
  by_cases hn0 : n = 0
  ·have := h0 hn0
   subst this; subst hn0
   have hlt : 0 < G.length := List.length_pos_iff.2 hG
   refine ⟨[], [], .slice (some ⟨0, 0, none⟩) 0 roCap, rfl, by simp, fun l2 ls2 => ⟨.ro _ _ _ _ 0 hn (fun h => (h rfl).elim), fun π => ?_⟩⟩
   have hb : (heapOf (G ++ [] ++ l2)).get 0 = some G[0] := by
    rw [heapOf_get, List.append_nil, List.getElem?_append_left hlt, List.getElem?_eq_getElem hlt]
   exact .lst _ _ _ _ _ _ _ _ hb rfl (by show 0 < _; simp only [List.length_append]; omega) hc ⟨fun h => by (cases h), fun h => by (cases h), fun h => by (exact absurd h (by decide)), .inr (.inr (Nat.le_refl _)), fun h => by (cases h), by simp⟩ (by simp) (fun i hi => by (simp at hi))
  ·have hne := h1 hn0
   obtain ⟨v0, r, hvr⟩ := List.exists_cons_of_ne_nil hne
   have hc0 := (hx 0 v0 (by rw [hvr]; rfl)).1
   have hsp : a.spot = none := by
    unfold World.cell? at hc0
    split at hc0
    ·split at hc0
     ·cases hc0
     ·rename_i hs; simpa [Addr.add] using hs
    ·cases hc0
   have hadd : ∀ k, a.add k = ⟨a.block, a.off + k, none⟩ := fun k => by
    cases a with
    | mk b o s => simp only at hsp; subst hsp; exact WideShapes.add_plain b o k
   refine ⟨[⟨xs, 0, false, false⟩], [⟨a.block, a.off, 0⟩], .slice (some ⟨G.length, 0, none⟩) n roCap, rfl, ?_, fun l2 ls2 => ⟨.ro _ _ _ _ 0 hn (fun _ => ⟨⟨a.block, a.off, 0⟩, ?_, rfl, ?_, fun h => absurd rfl h⟩), fun π => ?_⟩⟩
   ·intro i B L hB hL
    cases i with
    | succ i => simp at hB
    | zero =>
     simp at hB hL
     subst hB; subst hL
     refine ⟨rfl, rfl, ?_, .inl hne, fun k v hk => ?_⟩
     ·rw [hadd] at hc0
      have := block_lt_of_cell hc0
      exact this
     ·obtain ⟨a1, a2, _⟩ := hx k v hk
      rw [hadd] at a1
      exact ⟨a1, a2⟩
   ·unfold mapOf
    rw [List.append_assoc, List.getElem?_append_right (by simp [hlen])]
    simp [hlen]
   ·cases a with
    | mk b o s => simp at hsp; subst hsp; simp
   ·have hb : (heapOf (G ++ [⟨xs, 0, false, false⟩] ++ l2)).get G.length = some ⟨xs, 0, false, false⟩ := by
     rw [heapOf_get, List.append_assoc, List.getElem?_append_right (Nat.le_refl _)]
     simp
    refine .lst _ _ _ _ _ _ _ _ hb rfl (by show G.length < _; simp only [List.length_append, List.length_cons]; omega) hc ⟨fun h => by (cases h), fun h => by (cases h), fun h => by (exact absurd h (by decide)), .inr (.inr (Nat.le_refl _)), fun h => by (cases h), ?_⟩ (by simp) (fun i hi => ?_)
    ·intro v hv
     obtain ⟨y, _, rfl⟩ := List.mem_map.1 hv
     rfl
    ·have hi' : i < xs.length := by simpa using hi
     have e : xs[i]? = some xs[i] := List.getElem?_eq_getElem hi'
     obtain ⟨_, p1, p2⟩ := hx i _ e
     simp [List.getD_eq_getElem?_getD, e]
     exact .v _ _ p1 p2
theorem cells_in {vs : List Value} {us : List PV} (h : CellsIn W vs us) : ∀ {G : List Blk} {GL : List Abs.Loc}, G ≠ [] → G.length = GL.length →
  ∃ (l : List Blk) (ls : List Abs.Loc) (xs : List Value), l.length = ls.length ∧ (∀ (i : Nat) (B : Blk) (L : Abs.Loc), l[i]? = some B → ls[i]? = some L → Lies W B L) ∧
   ∀ l2 ls2, LRel (mapOf (GL ++ ls ++ ls2)) xs vs ∧ ∀ π, LR (C0 P (G ++ l ++ l2).length) (heapOf (G ++ l ++ l2)) π us xs := by
 induction h with
 | nil => exact fun {G GL} hG hlen => ⟨[], [], [], rfl, by simp, fun l2 ls2 => ⟨LRel.nil _, fun π => LR.nil _ _ _⟩⟩
 | cons v u vs us h ht ih =>
  intro G GL hG hlen
  obtain ⟨l, ls, x, a1, a2, a3⟩ := cell_in (P := P) h hG hlen
  obtain ⟨k, ks, xs, b1, b2, b3⟩ := ih (G := G ++ l) (GL := GL ++ ls) (by simp [hG]) (by simp [hlen, a1])
  refine ⟨l ++ k, ls ++ ks, x :: xs, by simp [a1, b1], fun i B L hB hL => ?_, fun l2 ls2 => ?_⟩
  ·by_cases hi : i < l.length
   ·rw [List.getElem?_append_left hi] at hB
    rw [List.getElem?_append_left (a1 ▸ hi)] at hL
    exact a2 i B L hB hL
   ·rw [List.getElem?_append_right (by omega)] at hB
    rw [List.getElem?_append_right (by omega), ← a1] at hL
    exact b2 _ B L hB hL
  ·obtain ⟨c1, c2⟩ := a3 (k ++ l2) (ks ++ ls2)
   obtain ⟨d1, d2⟩ := b3 l2 ls2
   simp only [List.append_assoc] at c1 c2 d1 d2 ⊢
   exact ⟨LRel.cons c1 d1, fun π => LR.cons (c2 π) (d2 π)⟩
inductive ArgsIn (W : World) : List Value → List PV → Prop where
 | nil : ArgsIn W [] []
 | cons (v : Value) (u : PV) (vs : List Value) (us : List PV) (h : ArgIn W v u) (ht : ArgsIn W vs us) : ArgsIn W (v :: vs) (u :: us)
theorem arg_in {v : Value} {u : PV} (h : ArgIn W v u) {G : List Blk} {GL : List Abs.Loc} (hG : G ≠ []) (hlen : G.length = GL.length) :
  loose u = false ∧ ∃ (l : List Blk) (ls : List Abs.Loc) (x : Value), l.length = ls.length ∧ (∀ (i : Nat) (B : Blk) (L : Abs.Loc), l[i]? = some B → ls[i]? = some L → Lies W B L) ∧
   ∀ l2 ls2, VRel (mapOf (GL ++ ls ++ ls2)) x v ∧ ∀ π, VR (C0 P (G ++ l ++ l2).length) (heapOf (G ++ l ++ l2)) π u x := by
 cases h with
 | one _ _ h => exact ⟨by cases h <;> rfl, cell_in h hG hlen⟩
 | agg cs us h =>
  refine ⟨rfl, ?_⟩
  obtain ⟨l, ls, xs, a1, a2, a3⟩ := cells_in (P := P) h hG hlen
  refine ⟨l, ls, .agg xs.toArray, a1, a2, fun l2 ls2 => ?_⟩
  obtain ⟨b1, b2⟩ := a3 l2 ls2
  exact ⟨by simpa using VRel.agg_of b1, fun π => VR.agg_of (b2 none)⟩
theorem args_in {vs : List Value} {us : List PV} (h : ArgsIn W vs us) : ∀ {G : List Blk} {GL : List Abs.Loc}, G ≠ [] → G.length = GL.length →
  ∃ (l : List Blk) (ls : List Abs.Loc) (xs : List Value), l.length = ls.length ∧ (∀ (i : Nat) (B : Blk) (L : Abs.Loc), l[i]? = some B → ls[i]? = some L → Lies W B L) ∧
   ∀ l2 ls2, LRel (mapOf (GL ++ ls ++ ls2)) xs vs ∧ LP1 (C0 P (G ++ l ++ l2).length) (heapOf (G ++ l ++ l2)) us xs := by
 induction h with
 | nil => exact fun {G GL} hG hlen => ⟨[], [], [], rfl, by simp, fun l2 ls2 => ⟨LRel.nil _, trivial⟩⟩
 | cons v u vs us h ht ih =>
  intro G GL hG hlen
  obtain ⟨hlo, l, ls, x, a1, a2, a3⟩ := arg_in (P := P) h hG hlen
  obtain ⟨k, ks, xs, b1, b2, b3⟩ := ih (G := G ++ l) (GL := GL ++ ls) (by simp [hG]) (by simp [hlen, a1])
  refine ⟨l ++ k, ls ++ ks, x :: xs, by simp [a1, b1], fun i B L hB hL => ?_, fun l2 ls2 => ?_⟩
  ·by_cases hi : i < l.length
   ·rw [List.getElem?_append_left hi] at hB
    rw [List.getElem?_append_left (a1 ▸ hi)] at hL
    exact a2 i B L hB hL
   ·rw [List.getElem?_append_right (by omega)] at hB
    rw [List.getElem?_append_right (by omega), ← a1] at hL
    exact b2 _ B L hB hL
  ·obtain ⟨c1, c2⟩ := a3 (k ++ l2) (ks ++ ls2)
   obtain ⟨d1, d2⟩ := b3 l2 ls2
   simp only [List.append_assoc] at c1 c2 d1 d2 ⊢
   exact ⟨LRel.cons c1 d1, ⟨fun d => c2 _, hlo⟩, d2⟩
theorem pure_true (hmix : P.follows .mixedOrders = true) (hok : progOK P = true) (hlib : ∀ g, Y.yes g = true → FnOK P Y g) {G : List Blk} {GL : List Abs.Loc} (hG : G ≠ []) (hlen : G.length = GL.length) (hw : ∀ B ∈ G, B.wr = false)
  (hstart : ∀ (l : List Blk) (ls : List Abs.Loc), l.length = ls.length → (∀ (i : Nat) (B : Blk) (L : Abs.Loc), l[i]? = some B → ls[i]? = some L → Lies W B L) → Rel P (mapOf (GL ++ ls)) (heapOf (G ++ l)) W)
  (hgr : ∀ l : List Blk, GR P Y (C0 P (G ++ l).length) (heapOf (G ++ l)))
  {f : FuncId} {us : List PV} {vs : List Value} {hp' : List (Option (List PV))} {wl : Option Nat} (hA : ArgsIn W vs us) (hE : E P Y f us [] = some (.v (.bool true), hp', wl)) :
  Calls P f vs.toArray W fun e W' => e = .returned (.bool true) ∧ Below W.heap.size W W' := by
 obtain ⟨l, ls, xs, a1, a2, a3⟩ := args_in (P := P) hA hG hlen
 obtain ⟨b1, b2⟩ := a3 [] []
 simp only [List.append_nil] at b1 b2
 obtain ⟨n, hn⟩ := E_iff.1 hE
 obtain ⟨O, hl, hO, hOe⟩ := lib_of hlib
 obtain ⟨C', h', x', r1, r2⟩ := purRun_sim hl hok n f us [] _ hp' wl hn (C0 P (G ++ l).length) (heapOf (G ++ l)) xs 0
  ⟨rfl, ⟨fun _ h => h, fun id h => ⟨h, rfl⟩, fun _ _ h => (by cases h), fun _ _ h => (by cases h), fun _ _ _ h => (by cases h), fun _ _ h => (by simp at h), fun _ _ h => (by simp at h)⟩, hgr l, fun _ _ h => (by cases h), b2⟩
 have hx : x' = .bool true := by
  have := r2.res
  cases this
  rfl
 subst hx
 refine call_true hmix hOe hO (hstart l ls a1 a2) (fun B hB => ?_) b1 r1
 rw [List.mem_append] at hB
 rcases hB with hB | hB
 ·exact hw B hB
 ·obtain ⟨i, hi, rfl⟩ := List.mem_iff_getElem.1 hB
  exact (a2 i _ (ls[i]'(a1 ▸ hi)) (List.getElem?_eq_getElem hi) (List.getElem?_eq_getElem _)).1
end
end Go.Pur
namespace Go.Pur
open Go.Abs Go.RowKit Go.ChangeShapes Go.WideShapes
section
variable {H : Type} {enc : TypeId × Value → H} {P : Program} {W : World} {held : Bool}
def intOf : Value → Int
 | .int _ n => n
 | _ => 0
theorem arg_int {t : TypeId} {k : IntKind} {v : Value} {d : DataW H} {ps : List MemPlace} {r : Reach} {b0 : Nat} (ht : P.underlying t = some (.int k)) (hv : Value.okWide P W r b0 t v)
  (h : DataW.Trod enc P W 0 (fun _ => true) held t v d ps) : ∃ z : Int, v = .int k z ∧ ArgIn W v (.v (.int k z)) ∧ (Lit.int k z).wf = true := by
 obtain ⟨z, rfl⟩ := okWide_int ht hv
 obtain ⟨fuel, h⟩ := h
 obtain ⟨z', e1, _, e3⟩ := DataW.trod_int ht h
 simp [Value.cells] at e1
 subst e1
 exact ⟨z, rfl, .one _ _ (.plain _ rfl (fun _ _ e => by cases e)), e3⟩
end
end Go.Pur
