/-
  What simp needs to carry the pure evaluator through code with symbolic values.
  Conditions: none; lemmas.
-/
import Derived.Test.YtcdhajbhpnbdkaaDoorPurLim
set_option linter.unusedSimpArgs false
set_option linter.unusedVariables false
set_option linter.unusedSectionVars false
namespace Go.Pur
open Go.Abs

/-- How a list comes in as an argument. -/
def ak : Bool → Vl
  | true => .bor
  | false => .fz
section
variable {p : Pl} {b : Bool} {c : Ck} {n : Nat} {cs : List PV}
theorem rdv_ak : rdv p (.l (ak b) c n cs) = some (.l (ak b) c n cs) := by cases b <;> rfl
theorem notOwn_ak : notOwn (ak b) = true := by cases b <;> rfl
theorem prt_ak : prt (ak b) = ak b := by cases b <;> rfl
theorem loose_ak : loose (.l (ak b) c n cs) = false := by cases b <;> rfl
theorem rdv_own : rdv p (.l .own c n cs) = some (.l (.rf p) c n cs) := rfl
theorem rdv_fz : rdv p (.l .fz c n cs) = some (.l .fz c n cs) := rfl
theorem rdv_bor : rdv p (.l .bor c n cs) = some (.l .bor c n cs) := rfl
theorem rdv_rf {q : Pl} : rdv p (.l (.rf q) c n cs) = some (.l (.rf q) c n cs) := rfl
theorem rdv_pt {q : Pl} : rdv p (.l (.pt q) c n cs) = some (.l (.pt q) c n cs) := rfl
theorem rdv_v {x : Value} : rdv p (.v x) = some (.v x) := rfl
theorem rdv_a : rdv p (.a cs) = some (.a cs) := rfl
theorem rdv_t : rdv p (.t cs) = some (.t cs) := rfl
theorem rdv_r {k : Vl} : rdv p (.r k cs) = some (.r k cs) := rfl
theorem rdv_p {i o : Nat} : rdv p (.p i o) = some (.p i o) := rfl
theorem rdv_s {i o m d : Nat} : rdv p (.s i o m d) = some (.s i o m d) := rfl
theorem rdv_f {g : FuncId} {as bs : List PV} : rdv p (.f g as bs) = some (.f g as bs) := rfl
end

theorem lget_same {t : Nat} {v : PV} {l : List (Nat × PV)} : lget ((t, v) :: l) t = some v := by simp [lget]
theorem lget_ne {k t : Nat} {v : PV} {l : List (Nat × PV)} (h : k ≠ t) : lget ((k, v) :: l) t = lget l t := by
  have : Nat.beq k t = false := Bool.eq_false_iff.2 fun e => h (Nat.eq_of_beq_eq_true e)
  simp [lget, this]
theorem get_set_same {α : Type} {t : Tr α} {k : Nat} {a : α} : (t.set k a).get k = some a := by rw [Tr.get_set, if_pos rfl]
theorem get_set_ne {α : Type} {t : Tr α} {n k : Nat} {a : α} (h : k ≠ n) : (t.set n a).get k = t.get k := by rw [Tr.get_set, if_neg h]
theorem get_nil {α : Type} {k : Nat} : (Tr.nil : Tr α).get k = none := rfl

theorem pvOf_int {k : IntKind} {n : Int} : pvOf (.int k n) = some (.v (.int k n)) := rfl
theorem pvOf_bool {b : Bool} : pvOf (.bool b) = some (.v (.bool b)) := rfl
theorem pvOf_str {s : ByteArray} : pvOf (.string s) = some (.v (.string s)) := rfl
theorem pvOf_nil : pvOf (.slice none 0 0) = some (.l .own .nz 0 []) := rfl

/-- An int. -/
abbrev iv (n : Int) : PV := .v (.int .i64 n)

theorem blt_true {a b : Nat} (h : a < b) : Nat.blt a b = true := Nat.ble_eq_true_of_le h
theorem ble_true {a b : Nat} (h : a ≤ b) : Nat.ble a b = true := Nat.ble_eq_true_of_le h
theorem wrap64 {z : Int} (h1 : -9223372036854775808 ≤ z) (h2 : z < 9223372036854775808) : IntKind.i64.wrap z = z := by
  have e : IntKind.i64.wrap z = if z % 18446744073709551616 ≥ 9223372036854775808 then z % 18446744073709551616 - 18446744073709551616 else z % 18446744073709551616 := by
    unfold IntKind.wrap
    by_cases h : z % 18446744073709551616 ≥ 9223372036854775808
    · rw [if_pos h]
      simp [IntKind.bits, IntKind.signed]
      omega
    · rw [if_neg h]
      simp [IntKind.bits, IntKind.signed]
      omega
  rw [e]
  split <;> omega
theorem wrap_nat {n : Nat} (h : n < 1000000000000) : IntKind.i64.wrap ((n : Int) + 1) = ((n + 1 : Nat) : Int) := by
  rw [wrap64 (by omega) (by omega)]; omega

theorem intIn_nat {n i : Nat} {k : IntKind} (h : i < n) : intIn n (.int k (i : Int)) = some i := by
  show (match Nat.blt i n with | true => some i | false => none) = some i
  rw [blt_true h]
theorem goInt_eq {n : Int} : goInt n = .int .i64 n := rfl

section
variable {sz : TypeId → Option Nat} {base t : Nat} {hp : List (Option (List PV))}
theorem settle_v {x : Value} : settle sz base hp t (.v x) = some (.v x) := rfl
theorem settle_l {k : Vl} {c : Ck} {n : Nat} {cs : List PV} : settle sz base hp t (.l k c n cs) = some (.l k c n cs) := rfl
theorem settle_a {cs : List PV} : settle sz base hp t (.a cs) = some (.a cs) := rfl
theorem settle_p {b o : Nat} : settle sz base hp t (.p b o) = some (.p b o) := rfl
theorem settle_f {g : FuncId} {as bs : List PV} : settle sz base hp t (.f g as bs) = some (.f g as bs) := rfl
theorem noref_v {x : Value} : noref (.v x) = true := by simp [noref]
theorem noref_fz {c : Ck} {n : Nat} {cs : List PV} : noref (.l .fz c n cs) = true := by simp [noref]
theorem noref_a {cs : List PV} : noref (.a cs) = noref.norefs cs := by simp [noref]
theorem norefs_nil : noref.norefs [] = true := by simp [noref.norefs]
theorem norefs_cons {c : PV} {cs : List PV} : noref.norefs (c :: cs) = (noref c && noref.norefs cs) := by simp [noref.norefs]
end
section
variable {P : Program} {Y : Pol} {f : FuncId} {nt : Nat} {k : List Fm}
def presL (P : Program) (Y : Pol) (f : FuncId) (base : Nat) (rs : List ResultVar) (ts : List TypeId) (σ : St) : Option (PV × St × Bool) :=
  match rs, ts with
  | [r], [t] => match presOne P Y f σ r with
    | some (v, σ1) => match moved Y f v σ1 with
      | some (v', σ2) => match okDrop base v' with
        | true => match settle (elemSz P) base σ2.hp t v' with
          | some u => some (u, σ2, true)
          | none => none
        | false => some (v', σ2, false)
      | none => none
    | none => none
  | rs, ts => match Nat.beq rs.length 1 with
    | true => none
    | false => match presM P Y f rs σ with
      | some (vs, σ1) => match vs.all (okDrop base) with
        | true => match settles P base σ1.hp ts vs with
          | some us => some (.t us, σ1, true)
          | none => none
        | false => some (.t vs, σ1, false)
      | none => none
def ER (P : Program) (Y : Pol) (g : FuncId) (rs : List ResultVar) (ts : List TypeId) (base : Nat) (r : Option (AExit × St)) : Option (PV × List (Option (List PV)) × Option Nat) :=
  match r with
  | some (.normal, σ) | some (.ret, σ) => match presL P Y g base rs ts σ with
    | some (v, σ', drop) => some (pclose base drop v σ')
    | none => none
  | _ => none
theorem pres_eq {g : FuncId} {fn : Func} {base : Nat} {σ : St} : pres P Y g base fn σ = presL P Y g base fn.results.toList fn.resultTypes.toList σ := rfl
theorem E_bodyR {g : FuncId} {fn : Func} {c : Code} {a : List PV} {hp : List (Option (List PV))} (hb : bodyOf P g = some (fn, c)) (hk : (Nat.ble a.length fn.ntmps && keepsTo Y g a.length) = true) :
    E P Y g a hp = ER P Y g fn.results.toList fn.resultTypes.toList hp.length (EK P Y g fn.ntmps [.c c] ⟨[], pinit 0 a .nil, hp, none⟩) := by
  rw [E_body hb hk]
  unfold EF ER
  simp only [pres_eq]
  cases EK P Y g fn.ntmps [.c c] ⟨[], pinit 0 a .nil, hp, none⟩ with
  | none => rfl
  | some r =>
    obtain ⟨x, σ⟩ := r
    cases x with
    | normal => simp only []; cases presL P Y g hp.length fn.results.toList fn.resultTypes.toList σ <;> rfl
    | ret => simp only []; cases presL P Y g hp.length fn.results.toList fn.resultTypes.toList σ <;> rfl
    | _ => rfl
theorem E_bodyN {g : FuncId} {fn : Func} {c : Code} {a : List PV} {hp : List (Option (List PV))} (n : Nat) (hb : bodyOf P g = some (fn, c)) (h1 : Nat.ble n fn.ntmps = true) (h2 : keepsTo Y g n = true) (hn : a.length = n) :
    E P Y g a hp = ER P Y g fn.results.toList fn.resultTypes.toList hp.length (EK P Y g fn.ntmps [.c c] ⟨[], pinit 0 a .nil, hp, none⟩) := by
  refine E_bodyR hb ?_
  rw [hn, h1, h2]
  rfl
theorem ER_ret {g : FuncId} {rs : List ResultVar} {tys : List TypeId} {base : Nat} {σ : St} : ER P Y g rs tys base (some (.ret, σ)) = match presL P Y g base rs tys σ with
    | some (v, σ', drop) => some (pclose base drop v σ')
    | none => none := rfl
theorem ER_normal {g : FuncId} {rs : List ResultVar} {tys : List TypeId} {base : Nat} {σ : St} : ER P Y g rs tys base (some (.normal, σ)) = match presL P Y g base rs tys σ with
    | some (v, σ', drop) => some (pclose base drop v σ')
    | none => none := rfl
theorem loop_ind {R : Option (PV × List (Option (List PV)) × Option Nat)} {g : FuncId} {rs : List ResultVar} {tys : List TypeId} {base : Nat} {b : Code} {σ0 : St} (Inv : Nat → St → Prop) {n0 : Nat} (h0 : Inv n0 σ0)
    (hs : ∀ n σ, Inv n σ → (∀ m σ', m < n → Inv m σ' → ER P Y g rs tys base (EK P Y f nt (.lp b :: k) σ') = R) → ER P Y g rs tys base (EK P Y f nt (.c b :: .lp b :: k) σ) = R) :
    ER P Y g rs tys base (EK P Y f nt (.lp b :: k) σ0) = R := by
  induction n0 using Nat.strongRecOn generalizing σ0 with
  | ind n ih =>
    rw [EK_lp]
    exact hs n σ0 h0 fun m σ' hm hi => ih m hm hi
end
section
variable {k : IntKind} {a b : Int}
theorem intBin_add : intBin .add k a b = some (.int k (k.wrap (a + b))) := rfl
theorem intBin_sub : intBin .sub k a b = some (.int k (k.wrap (a - b))) := rfl
theorem intBin_eql : intBin .eql k a b = some (.bool (decide (a = b))) := by simp [intBin]; rfl
theorem intBin_neq : intBin .neq k a b = some (.bool (!decide (a = b))) := by simp [intBin, bne]; rfl
theorem intBin_lss : intBin .lss k a b = some (.bool (decide (a < b))) := rfl
theorem intBin_leq : intBin .leq k a b = some (.bool (decide (a ≤ b))) := rfl
theorem intBin_gtr : intBin .gtr k a b = some (.bool (decide (b < a))) := rfl
theorem intBin_geq : intBin .geq k a b = some (.bool (decide (b ≤ a))) := rfl
end
theorem ble_lim24 {n : Nat} : Nat.ble n limit24 = decide (n ≤ 16777216) := by
  rw [Bool.eq_iff_iff]
  simp [limit24]
theorem nble {n m : Nat} : Nat.ble n m = decide (n ≤ m) := by
  rw [Bool.eq_iff_iff]
  simp
theorem nbeq {n m : Nat} : Nat.beq n m = decide (n = m) := by
  rw [Bool.eq_iff_iff]
  simp
section
variable {p : Pl}
theorem killV_v {x : Value} : killV p (.v x) = (.v x) := rfl
theorem killV_a {cs : List PV} : killV p (.a cs) = (.a cs) := rfl
theorem killV_t {cs : List PV} : killV p (.t cs) = (.t cs) := rfl
theorem killV_f {g : FuncId} {as bs : List PV} : killV p (.f g as bs) = (.f g as bs) := rfl
theorem killV_i {ty : TypeId} {x : PV} : killV p (.i ty x) = (.i ty x) := rfl
theorem killV_p {b o : Nat} : killV p (.p b o) = (.p b o) := rfl
theorem killV_s {b o n m : Nat} : killV p (.s b o n m) = (.s b o n m) := rfl
theorem killV_un  : killV p .un = .un := rfl
theorem killV_dead  : killV p .dead = .dead := rfl
theorem killV_lfz {c : Ck} {n : Nat} {cs : List PV} : killV p (.l .fz c n cs) = (.l .fz c n cs) := rfl
theorem killV_lbor {c : Ck} {n : Nat} {cs : List PV} : killV p (.l .bor c n cs) = (.l .bor c n cs) := rfl
theorem killV_lown {c : Ck} {n : Nat} {cs : List PV} : killV p (.l .own c n cs) = (.l .own c n cs) := rfl
theorem killV_rfz {cs : List PV} : killV p (.r .fz cs) = (.r .fz cs) := rfl
theorem killV_rbor {cs : List PV} : killV p (.r .bor cs) = (.r .bor cs) := rfl
theorem killV_lak {b : Bool} {c : Ck} {n : Nat} {cs : List PV} : killV p (.l (ak b) c n cs) = .l (ak b) c n cs := by cases b <;> rfl
theorem killV_rak {b : Bool} {cs : List PV} : killV p (.r (ak b) cs) = .r (ak b) cs := by cases b <;> rfl
theorem frzV_v {x : Value} : frzV p (.v x) = (.v x) := rfl
theorem frzV_a {cs : List PV} : frzV p (.a cs) = (.a cs) := rfl
theorem frzV_t {cs : List PV} : frzV p (.t cs) = (.t cs) := rfl
theorem frzV_f {g : FuncId} {as bs : List PV} : frzV p (.f g as bs) = (.f g as bs) := rfl
theorem frzV_i {ty : TypeId} {x : PV} : frzV p (.i ty x) = (.i ty x) := rfl
theorem frzV_p {b o : Nat} : frzV p (.p b o) = (.p b o) := rfl
theorem frzV_s {b o n m : Nat} : frzV p (.s b o n m) = (.s b o n m) := rfl
theorem frzV_un  : frzV p .un = .un := rfl
theorem frzV_dead  : frzV p .dead = .dead := rfl
theorem frzV_lfz {c : Ck} {n : Nat} {cs : List PV} : frzV p (.l .fz c n cs) = (.l .fz c n cs) := rfl
theorem frzV_lbor {c : Ck} {n : Nat} {cs : List PV} : frzV p (.l .bor c n cs) = (.l .bor c n cs) := rfl
theorem frzV_lown {c : Ck} {n : Nat} {cs : List PV} : frzV p (.l .own c n cs) = (.l .own c n cs) := rfl
theorem frzV_rfz {cs : List PV} : frzV p (.r .fz cs) = (.r .fz cs) := rfl
theorem frzV_rbor {cs : List PV} : frzV p (.r .bor cs) = (.r .bor cs) := rfl
theorem frzV_lak {b : Bool} {c : Ck} {n : Nat} {cs : List PV} : frzV p (.l (ak b) c n cs) = .l (ak b) c n cs := by cases b <;> rfl
theorem frzV_rak {b : Bool} {cs : List PV} : frzV p (.r (ak b) cs) = .r (ak b) cs := by cases b <;> rfl
theorem killCell_v {x : Value} : killCell (.v x) = (.v x) := rfl
theorem killCell_a {cs : List PV} : killCell (.a cs) = (.a cs) := rfl
theorem killCell_t {cs : List PV} : killCell (.t cs) = (.t cs) := rfl
theorem killCell_f {g : FuncId} {as bs : List PV} : killCell (.f g as bs) = (.f g as bs) := rfl
theorem killCell_i {ty : TypeId} {x : PV} : killCell (.i ty x) = (.i ty x) := rfl
theorem killCell_p {b o : Nat} : killCell (.p b o) = (.p b o) := rfl
theorem killCell_s {b o n m : Nat} : killCell (.s b o n m) = (.s b o n m) := rfl
theorem killCell_un  : killCell .un = .un := rfl
theorem killCell_dead  : killCell .dead = .dead := rfl
theorem killCell_lfz {c : Ck} {n : Nat} {cs : List PV} : killCell (.l .fz c n cs) = (.l .fz c n cs) := rfl
theorem killCell_lbor {c : Ck} {n : Nat} {cs : List PV} : killCell (.l .bor c n cs) = (.l .bor c n cs) := rfl
theorem killCell_lown {c : Ck} {n : Nat} {cs : List PV} : killCell (.l .own c n cs) = (.l .own c n cs) := rfl
theorem killCell_rfz {cs : List PV} : killCell (.r .fz cs) = (.r .fz cs) := rfl
theorem killCell_rbor {cs : List PV} : killCell (.r .bor cs) = (.r .bor cs) := rfl
theorem killCell_lak {b : Bool} {c : Ck} {n : Nat} {cs : List PV} : killCell (.l (ak b) c n cs) = .l (ak b) c n cs := by cases b <;> rfl
theorem killCell_rak {b : Bool} {cs : List PV} : killCell (.r (ak b) cs) = .r (ak b) cs := by cases b <;> rfl
theorem killV_lrf {q : Pl} {c : Ck} {n : Nat} {cs : List PV} : killV p (.l (.rf q) c n cs) = match plEq q p with
    | true => .dead
    | false => .l (.rf q) c n cs := rfl
theorem killV_lpt {q : Pl} {c : Ck} {n : Nat} {cs : List PV} : killV p (.l (.pt q) c n cs) = match plEq q p with
    | true => .dead
    | false => .l (.pt q) c n cs := rfl
theorem killV_rpt {q : Pl} {cs : List PV} : killV p (.r (.pt q) cs) = match plEq q p with
    | true => .dead
    | false => .r (.pt q) cs := rfl
theorem frzV_lrf {q : Pl} {c : Ck} {n : Nat} {cs : List PV} : frzV p (.l (.rf q) c n cs) = match plEq q p with
    | true => .l .fz c n cs
    | false => .l (.rf q) c n cs := rfl
theorem frzV_lpt {q : Pl} {c : Ck} {n : Nat} {cs : List PV} : frzV p (.l (.pt q) c n cs) = match plEq q p with
    | true => .l .fz c n cs
    | false => .l (.pt q) c n cs := rfl
theorem frzV_rpt {q : Pl} {cs : List PV} : frzV p (.r (.pt q) cs) = match plEq q p with
    | true => .r .fz cs
    | false => .r (.pt q) cs := rfl
theorem killCell_lrft {t : Nat} {c : Ck} {n : Nat} {cs : List PV} : killCell (.l (.rf (.tmp t)) c n cs) = .l (.rf (.tmp t)) c n cs := rfl
theorem killCell_lptt {t : Nat} {c : Ck} {n : Nat} {cs : List PV} : killCell (.l (.pt (.tmp t)) c n cs) = .l (.pt (.tmp t)) c n cs := rfl
theorem killCell_rptt {t : Nat} {cs : List PV} : killCell (.r (.pt (.tmp t)) cs) = .r (.pt (.tmp t)) cs := rfl
theorem killCell_lrfc {a i : Nat} {c : Ck} {n : Nat} {cs : List PV} : killCell (.l (.rf (.cell a i)) c n cs) = .dead := rfl
theorem killCell_lptc {a i : Nat} {c : Ck} {n : Nat} {cs : List PV} : killCell (.l (.pt (.cell a i)) c n cs) = .dead := rfl
theorem killCell_rptc {a i : Nat} {cs : List PV} : killCell (.r (.pt (.cell a i)) cs) = .dead := rfl
theorem argv_lak {Y : Pol} {f : FuncId} {b : Bool} {c : Ck} {n : Nat} {cs : List PV} {σ : St} : argv Y f (.l (ak b) c n cs) σ = some (.l (ak b) c n cs, σ, none) := by cases b <;> rfl
theorem argv_rak {Y : Pol} {f : FuncId} {b : Bool} {cs : List PV} {σ : St} : argv Y f (.r (ak b) cs) σ = some (.r (ak b) cs, σ, none) := by cases b <;> rfl
theorem argv_v {Y : Pol} {f : FuncId} {x : Value} {σ : St} : argv Y f (.v x) σ = some (.v x, σ, none) := rfl
theorem argv_a {Y : Pol} {f : FuncId} {cs : List PV} {σ : St} : argv Y f (.a cs) σ = some (.a cs, σ, none) := rfl
theorem argv_p {Y : Pol} {f : FuncId} {b o : Nat} {σ : St} : argv Y f (.p b o) σ = some (.p b o, σ, none) := rfl
theorem argv_f {Y : Pol} {f : FuncId} {g : FuncId} {as bs : List PV} {σ : St} : argv Y f (.f g as bs) σ = some (.f g as bs, σ, none) := rfl
theorem argv_fz {Y : Pol} {f : FuncId} {c : Ck} {n : Nat} {cs : List PV} {σ : St} : argv Y f (.l .fz c n cs) σ = some (.l .fz c n cs, σ, none) := rfl
theorem argv_bor {Y : Pol} {f : FuncId} {c : Ck} {n : Nat} {cs : List PV} {σ : St} : argv Y f (.l .bor c n cs) σ = some (.l .bor c n cs, σ, none) := rfl
theorem argv_rf {Y : Pol} {f : FuncId} {t : Nat} {c : Ck} {n : Nat} {cs : List PV} {σ : St} : argv Y f (.l (.rf (.tmp t)) c n cs) σ = match Y.keep f t with
    | true => some (.l .bor c n cs, σ, none)
    | false => stor Y f (.l (.rf (.tmp t)) c n cs) σ := rfl
theorem argv_pt {Y : Pol} {f : FuncId} {t : Nat} {c : Ck} {n : Nat} {cs : List PV} {σ : St} : argv Y f (.l (.pt (.tmp t)) c n cs) σ = some (.l .bor c n cs, σ, none) := rfl
theorem argv_rc {Y : Pol} {f : FuncId} {a i : Nat} {c : Ck} {n : Nat} {cs : List PV} {σ : St} : argv Y f (.l (.rf (.cell a i)) c n cs) σ = stor Y f (.l (.rf (.cell a i)) c n cs) σ := rfl
theorem argv_own {Y : Pol} {f : FuncId} {c : Ck} {n : Nat} {cs : List PV} {σ : St} : argv Y f (.l .own c n cs) σ = stor Y f (.l .own c n cs) σ := rfl
theorem mayTurn_none : mayTurn none = true := rfl
end
section
variable {b : Nat}
theorem refsTo_v {x : Value} : refsTo b (.v x) = true := by simp [refsTo]
theorem refsTo_l {k : Vl} {c : Ck} {n : Nat} {cs : List PV} : refsTo b (.l k c n cs) = true := by simp [refsTo]
theorem refsTo_p {d o : Nat} : refsTo b (.p d o) = Nat.ble d b := by simp [refsTo]
theorem refsTo_s {d o n m : Nat} : refsTo b (.s d o n m) = Nat.ble d b := by simp [refsTo]
theorem refsTo_a {cs : List PV} : refsTo b (.a cs) = refsTo.go b cs := by simp [refsTo]
theorem refsTo_dead : refsTo b .dead = true := by simp [refsTo]
theorem refsTo_nil : refsTo.go b [] = true := by simp [refsTo.go]
theorem refsTo_cons {c : PV} {cs : List PV} : refsTo.go b (c :: cs) = (refsTo b c && refsTo.go b cs) := by simp [refsTo.go]
theorem isOwn_lak {b : Bool} {c : Ck} {n : Nat} {cs : List PV} : isOwn (.l (ak b) c n cs) = false := by cases b <;> rfl
theorem ownFz_lak {b : Bool} {c : Ck} {n : Nat} {cs : List PV} : ownFz (.l (ak b) c n cs) = .l (ak b) c n cs := by cases b <;> rfl
end
theorem notOwn_fz : notOwn .fz = true := rfl
theorem notOwn_bor : notOwn .bor = true := rfl
theorem notOwn_own : notOwn .own = false := rfl
theorem notOwn_rf {p : Pl} : notOwn (.rf p) = true := rfl
theorem notOwn_pt {p : Pl} : notOwn (.pt p) = true := rfl
theorem prt_fz : prt .fz = .fz := rfl
theorem prt_bor : prt .bor = .bor := rfl
theorem prt_own : prt .own = .own := rfl
theorem prt_rf {p : Pl} : prt (.rf p) = .pt p := rfl
theorem prt_pt {p : Pl} : prt (.pt p) = .pt p := rfl
end Go.Pur
