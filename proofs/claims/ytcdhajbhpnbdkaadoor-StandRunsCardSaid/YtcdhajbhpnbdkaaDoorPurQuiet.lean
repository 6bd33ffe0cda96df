/-
  Operations that leave the state alone, one by one.
  Conditions: none; lemmas.
-/
import Derived.Test.YtcdhajbhpnbdkaaDoorPurOps
set_option linter.unusedSimpArgs false
set_option linter.unusedVariables false
set_option linter.unusedSectionVars false
namespace Go.Pur
open Go.Abs
section
variable {P : Program} {Y : Pol} {f : FuncId} {C : Ctx} {h : AHeap} {σ : St} {tv : Tr Value}

theorem shape_slice {t e : TypeId} {sz : Nat} (hq : shapeOf P t = some (.slice e sz)) : P.underlying t = some (.slice e) ∧ ∃ i, P.info? e = some i ∧ i.size = sz := by
  unfold shapeOf at hq
  split at hq
  · rename_i e' hu
    split at hq
    · rename_i i hi; cases hq; exact ⟨hu, i, hi, rfl⟩
    · cases hq
  · split at hq <;> cases hq
  · cases hq
  · cases hq
theorem shape_array {t e : TypeId} {n sz : Nat} (hq : shapeOf P t = some (.array n e sz)) : P.underlying t = some (.array n e) ∧ ∃ i, P.info? e = some i ∧ i.size = sz := by
  unfold shapeOf at hq
  split at hq
  · split at hq <;> cases hq
  · rename_i n' e' hu
    split at hq
    · rename_i i hi; cases hq; exact ⟨hu, i, hi, rfl⟩
    · cases hq
  · cases hq
  · cases hq
theorem shape_string {t : TypeId} (hq : shapeOf P t = some .string) : P.underlying t = some .string := by
  unfold shapeOf at hq
  split at hq
  · split at hq <;> cases hq
  · split at hq <;> cases hq
  · assumption
  · cases hq
theorem field_of {s ty : TypeId} {fd off sz : Nat} (hq : fieldOf P s fd = some (ty, off, sz)) : ∃ fields fl i, P.underlying s = some (.struct fields) ∧ fields[fd]? = some fl ∧ fl.type = ty ∧ fl.offset = off ∧ P.info? ty = some i ∧ i.size = sz := by
  unfold fieldOf at hq
  split at hq
  · rename_i fields hu
    split at hq
    · rename_i fl hf
      split at hq
      · rename_i i hi; cases hq; exact ⟨fields, fl, i, hu, hf, rfl, rfl, hi, rfl⟩
      · cases hq
    · cases hq
  · cases hq
theorem sz_of {t : TypeId} {n : Nat} (hq : szOf P t = some n) : ∃ i, P.info? t = some i ∧ i.size = n := by
  unfold szOf at hq
  split at hq
  · rename_i i hi; cases hq; exact ⟨i, hi, rfl⟩
  · cases hq
theorem by_of {t : TypeId} {n : Nat} (hq : byOf P t = some n) : ∃ i, P.info? t = some i ∧ i.bytes = n := by
  unfold byOf at hq
  split at hq
  · rename_i i hi; cases hq; exact ⟨i, hi, rfl⟩
  · cases hq
theorem zero_of {t : TypeId} {z : Value} (hq : zeroOf P t = some z) : ∃ i, P.info? t = some i ∧ i.zero = some z ∧ plainV z = true := by
  unfold zeroOf at hq
  split at hq
  · rename_i i hi
    split at hq
    · rename_i z' hz
      split at hq
      · cases hq; exact ⟨i, hi, hz, ‹_›⟩
      · cases hq
    · cases hq
  · cases hq

theorem LOK.prt {k : Vl} {d : Nat} {b : Nat} (hk : LOK C (some (.tmp d)) k b) (ho : notOwn k = true) : LOK C (some (.tmp d)) (prt k) b := by
  cases k <;> first | exact hk | cases ho
theorem prt_ref {k : Vl} (ho : notOwn k = true) : isRef (prt k) = false := by
  cases k <;> first | rfl | cases ho
theorem add_eq {a : Addr} (hs : a.spot = none) (k : Nat) : a.add k = ⟨a.block, a.off + k, none⟩ := by
  cases a; simp_all [Addr.add]

theorem pcells_drop {cs : List PV} {l : List Value} {off n k : Nat} (hl : off + cs.length ≤ l.length) (hr : LR C h none cs ((l.drop off).take cs.length)) (hk : k + n ≤ cs.length) : LR C h none ((cs.drop k).take n) ((l.drop (off + k)).take n) := by
  have h1 := (hr.drop k).take n
  rw [List.drop_take, List.drop_drop, List.take_take] at h1
  rwa [Nat.min_eq_left (by omega)] at h1

/-! ### Addresses of elements and fields -/
theorem idxAddr_sim {t : TypeId} {xo io : Operand} {x u : PV} {x' i : Value} (hx : ev P tv xo = some x') (hi : ev P tv io = some i) (hv : VA C h x x') (hq : idxAddr P t x i = some u) :
    ∃ y, aqIndexAddr P tv t xo io = some y ∧ VA C h u y := by
  unfold idxAddr at hq
  split at hq
  · rename_i k c n cs e sz hsh
    obtain ⟨hu, inf, hinf, rfl⟩ := shape_slice hsh
    split at hq
    · rename_i j hj
      split at hq
      · rename_i hle
        cases hq
        simp only [Bool.and_eq_true] at hle
        obtain ⟨hne, hle⟩ := hle
        have hle := Nat.le_of_ble_eq_true hle
        have hn0 : n ≠ 0 := by
          rintro rfl
          unfold intIn at hj
          split at hj
          · split at hj
            · rename_i h1; exact absurd (Nat.le_of_ble_eq_true h1) (Nat.not_succ_le_zero _)
            · cases hj
          · cases hj
        rcases (hv 0).inv_l with ⟨rfl, _⟩ | ⟨a, cap, B, rfl, _, hs0, _⟩
        · exact absurd rfl hn0
        · refine ⟨.pointer (some ⟨a.block, a.off + j * inf.size, none⟩), by simp [aqIndexAddr, hx, hi, hu, hinf, hj, add_eq hs0], fun d => ?_⟩
          rcases (hv d).inv_l with ⟨rfl, _⟩ | ⟨a', cap', B, e1, hb, hs, hk, hn, hc, hl, hr⟩
          · exact absurd rfl hn0
          · cases e1
            have hlen : j * inf.size ≤ cs.length := by rw [Nat.succ_mul] at hle; omega
            refine .r_of (a := ⟨a.block, a.off + j * inf.size, none⟩) hb rfl (LOK.prt hk hne) (prt_ref hne) ?_ ?_
            · simp only [List.length_drop]; omega
            · simp only [List.length_drop]
              have := pcells_drop (k := j * inf.size) (n := cs.length - j * inf.size) hl hr (by omega)
              rwa [List.take_of_length_le (by simp)] at this
      · cases hq
    · cases hq
  · rename_i b off n cap e sz hsh
    obtain ⟨hu, inf, hinf, rfl⟩ := shape_slice hsh
    split at hq
    · rename_i j hj
      cases hq
      obtain ⟨id, hb, rfl, _⟩ := (hv 0).inv_s
      exact ⟨.pointer (some ⟨id, off + j * inf.size, none⟩), by simp [aqIndexAddr, hx, hi, hu, hinf, hj, Addr.add], fun d => .p _ _ _ _ hb⟩
    · cases hq
  · rename_i k cs n e sz hsh
    obtain ⟨hu, inf, hinf, rfl⟩ := shape_array hsh
    split at hq
    · rename_i j hj
      split at hq
      · rename_i hle
        cases hq
        have hle := Nat.le_of_ble_eq_true hle
        have hlen : j * inf.size ≤ cs.length := by rw [Nat.succ_mul] at hle; omega
        obtain ⟨a, B, rfl, _, hs0, _⟩ := (hv 0).inv_r
        refine ⟨.pointer (some ⟨a.block, a.off + j * inf.size, none⟩), by simp [aqIndexAddr, hx, hi, hu, hinf, hj, add_eq hs0], fun d => ?_⟩
        obtain ⟨a', B, e1, hb, hs, hk, hir, hl, hr⟩ := (hv d).inv_r
        cases e1
        refine .r_of (a := ⟨a.block, a.off + j * inf.size, none⟩) hb rfl hk hir ?_ ?_
        · simp only [List.length_drop]; omega
        · simp only [List.length_drop]
          have := pcells_drop (k := j * inf.size) (n := cs.length - j * inf.size) hl hr (by omega)
          rwa [List.take_of_length_le (by simp)] at this
      · cases hq
    · cases hq
  · rename_i b off n e sz hsh
    obtain ⟨hu, inf, hinf, rfl⟩ := shape_array hsh
    split at hq
    · rename_i j hj
      cases hq
      obtain ⟨id, hb, rfl⟩ := (hv 0).inv_p
      exact ⟨.pointer (some ⟨id, off + j * inf.size, none⟩), by simp [aqIndexAddr, hx, hi, hu, hinf, hj, Addr.add], fun d => .p _ _ _ _ hb⟩
    · cases hq
  · cases hq

theorem fldAddr_sim {t : TypeId} {xo : Operand} {fd : Nat} {x u : PV} {x' : Value} (hx : ev P tv xo = some x') (hv : VA C h x x') (hq : fldAddr P t x fd = some u) :
    ∃ y, aqFieldAddr P tv t xo fd = some y ∧ VA C h u y := by
  unfold fldAddr at hq
  split at hq
  · rename_i ty off sz hf
    obtain ⟨fields, fl, inf, hu, hfl, rfl, rfl, hinf, rfl⟩ := field_of hf
    split at hq
    · cases hq
    · rename_i hz
      split at hq
      · rename_i b o
        cases hq
        obtain ⟨id, hb, rfl⟩ := (hv 0).inv_p
        exact ⟨.pointer (some ⟨id, o + fl.offset, none⟩), by simp [aqFieldAddr, hx, hu, hfl, hinf, hz, Addr.add], fun d => .p _ _ _ _ hb⟩
      · rename_i k cs
        split at hq
        · rename_i hle
          cases hq
          have hle := Nat.le_of_ble_eq_true hle
          obtain ⟨a, B, rfl, _, hs0, _⟩ := (hv 0).inv_r
          refine ⟨.pointer (some ⟨a.block, a.off + fl.offset, none⟩), by simp [aqFieldAddr, hx, hu, hfl, hinf, hz, add_eq hs0], fun d => ?_⟩
          obtain ⟨a', B, e1, hb, hs, hk, hir, hl, hr⟩ := (hv d).inv_r
          cases e1
          refine .r_of (a := ⟨a.block, a.off + fl.offset, none⟩) hb rfl hk hir ?_ ?_
          · simp only [List.length_drop]; omega
          · simp only [List.length_drop]
            have := pcells_drop (k := fl.offset) (n := cs.length - fl.offset) hl hr (by omega)
            rwa [List.take_of_length_le (by simp)] at this
        · cases hq
      · cases hq
  · cases hq

/-! ### Parts of rows -/
theorem ppart_sim {t : TypeId} {cs : List PV} {l : List Value} {off : Nat} {u : PV} (hr : LR C h none cs l) (hq : ppart P t cs off = some u) : ∃ y, apart' P t l off = some y ∧ VR C h none u y := by
  unfold ppart at hq
  unfold apart'
  split at hq
  · rename_i hrow
    split at hq
    · rename_i n hn
      obtain ⟨inf, hinf, rfl⟩ := sz_of hn
      split at hq
      · rename_i r htk
        cases hq
        obtain ⟨rfl, hle⟩ := takeP_some htk
        have h1 := hr.drop off
        have hle' : inf.size ≤ (l.drop off).length := by rw [h1.1]; exact hle
        exact ⟨_, by simp only [hrow, hinf, takeN_of hle'], VR.agg_of (h1.take _)⟩
      · cases hq
    · cases hq
  · rename_i hrow
    obtain ⟨y, h1, h2⟩ := hr.get hq
    exact ⟨y, by simp only [hrow, h1], h2⟩
  · cases hq

theorem pfield_sim {t : TypeId} {xo : Operand} {fd : Nat} {x u : PV} {x' : Value} (hx : ev P tv xo = some x') (hv : VA C h x x') (hq : pfield P t x fd = some u) :
    ∃ y, aqField P tv t xo fd = some y ∧ VA C h u y := by
  unfold pfield at hq
  split at hq
  · rename_i cs ty off sz hf
    obtain ⟨fields, fl, inf, hu, hfl, rfl, rfl, hinf, rfl⟩ := field_of hf
    obtain ⟨l, rfl, hr⟩ := (hv 0).inv_a
    obtain ⟨y, h1, h2⟩ := ppart_sim hr hq
    exact ⟨y, by simp [aqField, hx, hu, hfl, h1], fun d => h2.out _⟩
  · cases hq

theorem pqIndex_sim {t : TypeId} {xo io : Operand} {x u : PV} {x' i : Value} (hx : ev P tv xo = some x') (hi : ev P tv io = some i) (hpi : plain i = true) (hv : VA C h x x') (hq : pqIndex P t x i = some u) :
    ∃ y, aqIndex P tv t xo io = some y ∧ VA C h u y := by
  unfold pqIndex at hq
  split at hq
  · rename_i cs n e sz hsh
    obtain ⟨hu, inf, hinf, rfl⟩ := shape_array hsh
    split at hq
    · rename_i j hj
      obtain ⟨l, rfl, hr⟩ := (hv 0).inv_a
      obtain ⟨y, h1, h2⟩ := ppart_sim hr hq
      exact ⟨y, by simp [aqIndex, hx, hi, hu, hj, hinf, h1], fun d => h2.out _⟩
    · cases hq
  · rename_i s hsh
    have hu := shape_string hsh
    obtain ⟨rfl, _⟩ := (hv 0).inv_v
    split at hq
    · rename_i r hr
      exact ⟨r, by simp [aqIndex, hx, hi, hu, hpi, hr], fun d => (pvOf_some hq).2 _ _ _⟩
    · cases hq
  · cases hq

/-! ### Slices of slices -/
theorem natOfO_none {lo hi d : Nat} : natOfO lo hi d none = some d := rfl
theorem natOf_le {lo hi n : Nat} {v : Value} (hq : natOf lo hi v = some n) : lo ≤ n ∧ n ≤ hi := by
  unfold natOf at hq
  split at hq
  · split at hq
    · rename_i hb
      cases hq
      simp only [Bool.and_eq_true] at hb
      exact ⟨Nat.le_of_ble_eq_true hb.1, Nat.le_of_ble_eq_true hb.2⟩
    · cases hq
  · cases hq
theorem natOf_wide {lo hi hi' n : Nat} {v : Value} (hq : natOf lo hi v = some n) (h' : hi ≤ hi') : natOf lo hi' v = some n := by
  have h1 := natOf_le hq
  unfold natOf at hq ⊢
  split at hq
  · split at hq
    · cases hq
      rw [show (Nat.ble lo n && Nat.ble n hi') = true by simp only [Bool.and_eq_true]; exact ⟨Nat.ble_eq_true_of_le h1.1, Nat.ble_eq_true_of_le (Nat.le_trans h1.2 h')⟩]
    · cases hq
  · cases hq
theorem natOfO_le {hi d n : Nat} {v : Option Value} (hd : d ≤ hi) (hq : natOfO 0 hi d v = some n) : n ≤ hi := by
  cases v with
  | none => cases hq; exact hd
  | some v => exact (natOf_le hq).2

theorem slCk_some {mx : Option Value} {c c' : Ck} {n hh m : Nat} (hq : slCk mx c n hh m = some c') : (c' = .full → (mx = none ∧ c = .full ∧ hh = n) ∨ (mx ≠ none ∧ hh = m)) ∧ c' ≠ .nz ∧ (mx ≠ none → c = .any → n ≠ 0) := by
  have cap : ∀ b, capK b = .full → b = true := fun b e => by cases b; cases e; rfl
  have capn : ∀ b, capK b ≠ .nz := fun b e => by cases b <;> cases e
  unfold slCk at hq
  split at hq
  · cases hq; exact ⟨fun e => .inl ⟨rfl, rfl, Nat.eq_of_beq_eq_true (cap _ e)⟩, capn _, fun e => absurd rfl e⟩
  · cases hq; exact ⟨(fun e => by cases e), (fun e => by cases e), fun e => absurd rfl e⟩
  · split at hq
    · rename_i hb
      cases hq
      exact ⟨fun e => .inr ⟨by simp, (Nat.eq_of_beq_eq_true (cap _ e)).symm⟩, capn _, fun _ _ => Nat.ne_of_gt (Nat.le_of_ble_eq_true hb)⟩
    · cases hq
  · rename_i hca
    cases hq
    exact ⟨fun e => .inr ⟨by simp, (Nat.eq_of_beq_eq_true (cap _ e)).symm⟩, capn _, fun _ e => (hca e).elim⟩

theorem pslice_sim {sz : Nat} {k : Vl} {c : Ck} {n : Nat} {cs : List PV} {x' : Value} {lo hi mx : Option Value} {u : PV} (hv : VA C h (.l k c n cs) x') (hq : pslice sz k c n cs lo hi mx = some u) :
    ∃ a cap y, x' = .slice a n cap ∧ aslice sz a n cap lo hi mx = some y ∧ VA C h u y := by
  unfold pslice at hq
  split at hq
  · rename_i m hm
    split at hq
    · rename_i hh hhi
      split at hq
      · rename_i l hlo
        split at hq
        · rename_i hb
          simp only [Bool.and_eq_true] at hb
          obtain ⟨⟨⟨hle, hok⟩, hne⟩, hcl⟩ := hb
          have hle := Nat.le_of_ble_eq_true hle
          have hcl := Nat.le_of_ble_eq_true hcl
          split at hq
          · rename_i c' hc'
            cases hq
            obtain ⟨hfull, hnz, hany⟩ := slCk_some hc'
            have hmn : m ≤ n := natOfO_le (Nat.le_refl _) hm
            have hlh : l ≤ hh := natOfO_le (Nat.zero_le _) hlo
            have hm1 : mx = none → m = n := fun e => by subst e; cases hm; rfl
            have hm2 : hi = none → mx = none := fun e => by
              subst e
              cases mx with
              | none => rfl
              | some v => simp [hiOk] at hok
            have hls : l * sz + (hh - l) * sz = hh * sz := by rw [← Nat.add_mul]; congr 1; omega
            have hlen : ((cs.drop (l * sz)).take ((hh - l) * sz)).length = (hh - l) * sz := by simp; omega
            -- a value that comes out
            have mk : ∀ (a : Addr) (cap : Nat) (B : Blk) (d : Nat) (cap' off' : Nat), h.get a.block = some B → LOK C (some (.tmp d)) k a.block → n < unkCap → (∀ v ∈ cs, cellOK v = true) → a.off + cs.length ≤ B.cells.length →
                LR C h none cs ((B.cells.drop a.off).take cs.length) → (cap' < unkCap ∨ cap' = unkCap ∨ cap' = roCap) → (cap' < unkCap → hh - l ≤ cap') → (c' = .full → cap' ≤ hh - l) → (off' = a.off + l * sz ∨ hh - l = 0 ∧ off' = a.off) →
                VR C h (some (.tmp d)) (.l (prt k) c' (hh - l) ((cs.drop (l * sz)).take ((hh - l) * sz))) (.slice (some ⟨a.block, off', none⟩) (hh - l) cap') := by
              intro a cap B d cap' off' hb hk hn hone hl hr hkind hcl' hcf hoff
              refine .lst_of (a := ⟨a.block, off', none⟩) hb rfl (LOK.prt hk hne) (by omega) ⟨hcf, fun e => absurd e hnz, hcl', hkind, (fun e => by rw [prt_ref hne] at e; cases e), fun v hv => hone v (List.mem_of_mem_drop (List.mem_of_mem_take hv))⟩ ?_ ?_
              · rw [hlen]
                rcases hoff with rfl | ⟨h0, rfl⟩
                · simp only []; omega
                · simp only []; rw [h0]; simp only [Nat.zero_mul, Nat.add_zero]; omega
              · rw [hlen]
                rcases hoff with rfl | ⟨h0, rfl⟩
                · exact pcells_drop hl hr (by omega)
                · rw [h0]; simp only [Nat.zero_mul, List.take_zero]; exact LR.nil _ _ _
            have pick : ∀ (b : Bool) (a : Addr), a.spot = none → (b = true → hh - l = 0) → ∃ off', pickB b (some a) ((some a).map (·.add (l * sz))) = some ⟨a.block, off', none⟩ ∧ (off' = a.off + l * sz ∨ hh - l = 0 ∧ off' = a.off) := by
              intro b a hs hb0
              cases b with
              | true => exact ⟨a.off, by cases a; simp_all [pickB], .inr ⟨hb0 rfl, rfl⟩⟩
              | false => exact ⟨a.off + l * sz, by simp [pickB, add_eq hs], .inl rfl⟩
            rcases (hv 0).inv_l with ⟨rfl, rfl, rfl⟩ | ⟨a, cap, B, rfl, hb0, hs0, _, hn0, hc0, hl0, hr0⟩
            · -- nil
              have hm0 : m = 0 := by omega
              have hh0 : hh = 0 := by omega
              have hl00 : l = 0 := by omega
              subst hm0 hh0 hl00
              refine ⟨none, 0, .slice none 0 0, rfl, ?_, fun d => ?_⟩
              · unfold aslice
                simp only [show Nat.blt 0 unkCap = true by decide, hm, hhi, hlo, hok, pickB]
                simp
              · simp; exact .nil _ _ _
            · have hall := fun d => (hv d).inv_l
              have parts : ∀ d, LOK C (some (.tmp d)) k a.block := fun d => by
                rcases (hv d).inv_l with ⟨rfl, rfl, e⟩ | ⟨a', cap', B', e1, _, _, hk, _⟩
                · cases e
                · cases e1; exact hk
              cases hcap : Nat.blt cap unkCap with
              | true =>
                have hcu : cap < unkCap := Nat.le_of_ble_eq_true hcap
                have hnc := hc0.le hcu
                -- the evaluator's own numbers
                obtain ⟨m', hm', hmm, hm'2⟩ : ∃ m', natOfO 0 cap cap mx = some m' ∧ m ≤ m' ∧ (mx ≠ none → m' = m) := by
                  cases mx with
                  | none => cases hm; exact ⟨cap, rfl, hnc, fun e => absurd rfl e⟩
                  | some v => exact ⟨m, natOf_wide hm hnc, Nat.le_refl _, fun _ => rfl⟩
                have hm'c : m' ≤ cap := natOfO_le (Nat.le_refl _) hm'
                have hhi' : natOfO 0 m' n hi = some hh := by
                  cases hi with
                  | none => exact hhi
                  | some v => exact natOf_wide hhi hmm
                obtain ⟨off', hp1, hp2⟩ := pick (Nat.beq m' l) a hs0 (fun e => by have := Nat.eq_of_beq_eq_true e; omega)
                refine ⟨some a, cap, .slice (some ⟨a.block, off', none⟩) (hh - l) (m' - l), rfl, ?_, fun d => mk a cap B d _ off' hb0 (parts d) hn0 hc0.one hl0 hr0 (.inl (by omega)) (fun _ => by omega) (fun e => ?_) hp2⟩
                · unfold aslice
                  simp only [hcap, hm', hhi', hlo, hok, Nat.ble_eq_true_of_le (Nat.le_trans hle hmm), Bool.and_self, hp1]
                · rcases hfull e with ⟨e1, e2, e3⟩ | ⟨e1, e2⟩
                  · have := hc0.full e2
                    omega
                  · rw [hm'2 e1]; omega
              | false =>
                have hcu : ¬ cap < unkCap := fun e => by rw [show Nat.blt cap unkCap = true from Nat.ble_eq_true_of_le e] at hcap; cases hcap
                cases mx with
                | none =>
                  cases hm
                  by_cases hl1 : l = 0
                  · subst hl1
                    refine ⟨some a, cap, .slice (some a) hh cap, rfl, ?_, fun d => ?_⟩
                    · unfold aslice; simp only [hcap, hhi, hlo]; try rfl
                    · have := mk a cap B d cap a.off hb0 (parts d) hn0 hc0.one hl0 hr0 hc0.kind (fun e => absurd e hcu) (fun e => by
                        rcases hfull e with ⟨_, e2, _⟩ | ⟨e1, _⟩
                        · have := hc0.full e2; omega
                        · exact absurd rfl e1) (.inl (by omega))
                      rw [Nat.sub_zero] at this ⊢
                      have ea : a = ⟨a.block, a.off, none⟩ := by cases a; simp_all
                      rw [ea]; exact this
                  · refine ⟨some a, cap, .slice (some ⟨a.block, a.off + l * sz, none⟩) (hh - l) roCap, rfl, ?_, fun d => mk a cap B d roCap _ hb0 (parts d) hn0 hc0.one hl0 hr0 (.inr (.inr rfl)) (fun e => absurd e (by decide)) (fun e => by
                        rcases hfull e with ⟨_, e2, _⟩ | ⟨e1, _⟩
                        · have := hc0.full e2; omega
                        · exact absurd rfl e1) (.inl rfl)⟩
                    unfold aslice
                    simp only [hcap, hhi, hlo, add_eq hs0]
                    rw [show Nat.beq l 0 = false from Bool.eq_false_iff.2 fun e => hl1 (Nat.eq_of_beq_eq_true e)]
                | some v =>
                  have hn1 : n ≠ 0 := by
                    rintro rfl
                    cases c with
                    | full => exact absurd (hc0.full rfl) (by omega)
                    | nz => exact hc0.nz rfl rfl
                    | any => exact hany (by simp) rfl rfl
                  have hi2 : hi ≠ none := fun e => by have := hm2 e; cases this
                  obtain ⟨off', hp1, hp2⟩ := pick (Nat.beq m l) a hs0 (fun e => by have := Nat.eq_of_beq_eq_true e; omega)
                  refine ⟨some a, cap, .slice (some ⟨a.block, off', none⟩) (hh - l) (m - l), rfl, ?_, fun d => mk a cap B d _ off' hb0 (parts d) hn0 hc0.one hl0 hr0 (.inl (by omega)) (fun _ => by omega) (fun e => by
                        rcases hfull e with ⟨e1, _⟩ | ⟨_, e1⟩
                        · cases e1
                        · omega) hp2⟩
                  have hhi' : natOfO 0 m m hi = some hh := by
                    cases hi with
                    | none => exact absurd rfl hi2
                    | some v => exact hhi
                  have hm' : natOf 0 n v = some m := hm
                  unfold aslice
                  simp only [hcap, hm', show (Nat.blt 0 n && Nat.blt n unkCap) = true by
                    simp only [Bool.and_eq_true]; exact ⟨Nat.ble_eq_true_of_le (by omega), Nat.ble_eq_true_of_le hn0⟩, hhi', hlo]
                  cases hi with
                  | none => exact absurd rfl hi2
                  | some w =>
                    simp only [Option.map] at hp1
                    have e4 : (some (pickB (Nat.beq m l) a (a.add (l * sz))) : Option Addr) = some ⟨a.block, off', none⟩ := by
                      rw [← hp1]; cases Nat.beq m l <;> rfl
                    rw [e4]
          · cases hq
        · cases hq
      · cases hq
    · cases hq
  · cases hq

theorem aslice_out {sz : Nat} {a : Addr} {n cap : Nat} {lo hi mx : Option Value} {y : Value} (hs : a.spot = none) (hq : aslice sz (some a) n cap lo hi mx = some y) (hc : cap < unkCap) :
    ∃ a' n' c', y = .slice (some a') n' c' ∧ a'.block = a.block ∧ a'.spot = none ∧ c' < unkCap ∧ n' ≤ c' ∧ ∀ b : Nat, aslice sz (some ⟨b, a.off, none⟩) n cap lo hi mx = some (.slice (some ⟨b, a'.off, none⟩) n' c') := by
  have hcap : Nat.blt cap unkCap = true := Nat.ble_eq_true_of_le hc
  unfold aslice at hq
  simp only [hcap] at hq
  split at hq
  · rename_i m hm
    split at hq
    · rename_i hh hhi
      split at hq
      · rename_i l hl
        split at hq
        · rename_i hok
          cases hq
          have hm' : m ≤ cap := natOfO_le (Nat.le_refl _) hm
          simp only [Bool.and_eq_true] at hok
          have hle := Nat.le_of_ble_eq_true hok.1
          cases hb : Nat.beq m l with
          | true => exact ⟨a, hh - l, m - l, by simp [pickB], rfl, hs, by omega, by omega, fun b => by unfold aslice; simp only [hcap, hm, hhi, hl, hok.1, hok.2, Bool.and_self, hb, pickB]⟩
          | false => exact ⟨a.add (l * sz), hh - l, m - l, by simp [pickB], by simp [add_eq hs], by simp [add_eq hs], by omega, by omega, fun b => by unfold aslice; simp only [hcap, hm, hhi, hl, hok.1, hok.2, Bool.and_self, hb, pickB, Option.map, add_eq hs, add_eq (a := ⟨b, a.off, none⟩) rfl]⟩
        · cases hq
      · cases hq
    · cases hq
  · cases hq

theorem pqSlice_sim {t : TypeId} {xo : Operand} {lo hi mx : Option Operand} {l r m : Option Value} {x u : PV} {x' : Value} (hx : ev P tv xo = some x') (hl : optEv P tv lo = some l) (hr : optEv P tv hi = some r) (hm : optEv P tv mx = some m) (hv : VA C h x x')
    (hq : pqSlice P t x l r m = some u) : ∃ y, aqSlice P tv t xo lo hi mx = some y ∧ VA C h u y := by
  unfold pqSlice at hq
  split at hq
  · rename_i k c n cs e sz hsh
    obtain ⟨hu, inf, hinf, rfl⟩ := shape_slice hsh
    obtain ⟨a, cap, y, rfl, h1, h2⟩ := pslice_sim hv hq
    exact ⟨y, by simp [aqSlice, hx, hl, hr, hm, hu, hinf, h1], h2⟩
  · rename_i b off n cap e sz hsh
    obtain ⟨hu, inf, hinf, rfl⟩ := shape_slice hsh
    split at hq
    · rename_i a n' c' has
      split at hq
      · cases hq
        obtain ⟨id, hb, rfl, hc, hn⟩ := (hv 0).inv_s
        obtain ⟨a', n'', c'', e1, e2, e3, e4, e5, e6⟩ := aslice_out rfl has hc
        cases e1
        exact ⟨_, by simp only [aqSlice, hx, hl, hr, hm, hu, hinf]; exact e6 id, fun d => .s _ _ _ _ _ id (by rw [e2]; exact hb) e4 e5⟩
      · cases hq
    · cases hq
  · rename_i b off n e sz hsh
    obtain ⟨hu, inf, hinf, rfl⟩ := shape_array hsh
    split at hq
    · rename_i hnu
      split at hq
      · rename_i a n' c' has
        cases hq
        obtain ⟨id, hb, rfl⟩ := (hv 0).inv_p
        obtain ⟨a', n'', c'', e1, e2, e3, e4, e5, e6⟩ := aslice_out rfl has (Nat.le_of_ble_eq_true hnu)
        cases e1
        exact ⟨_, by simp only [aqSlice, hx, hl, hr, hm, hu, hinf, hnu]; exact e6 id, fun d => .s _ _ _ _ _ id (by rw [e2]; exact hb) e4 e5⟩
      · cases hq
    · cases hq
  · rename_i s hsh
    have hu := shape_string hsh
    obtain ⟨rfl, _⟩ := (hv 0).inv_v
    split at hq
    · split at hq
      · rename_i y hy
        exact ⟨y, by simp [aqSlice, hx, hl, hr, hm, hu, hy], fun d => (pvOf_some hq).2 _ _ _⟩
      · cases hq
    · cases hq
  · cases hq

theorem VR.goInt {π : Option Pl} (n : Nat) : VR C h π (.v (goInt n)) (goInt n) := .v _ _ rfl (fun _ _ e => by simp [Go.goInt] at e)

theorem plen_sim {types : Array TypeId} {t : TypeId} {xo : Operand} {x u : PV} {x' : Value} (ht : types[0]? = some t) (hx : ev P tv xo = some x') (hv : VA C h x x') (hq : plen P t x = some u) : ∃ y, aqLen P tv types xo = some y ∧ VA C h u y := by
  unfold plen at hq
  split at hq
  · rename_i k c n cs e sz hsh
    obtain ⟨hu, _⟩ := shape_slice hsh
    cases hq
    rcases (hv 0).inv_l with ⟨rfl, rfl, rfl⟩ | ⟨a, cap, B, rfl, _⟩
    · exact ⟨_, by simp only [aqLen, hx, ht, hu], fun d => .goInt 0⟩
    · exact ⟨_, by simp only [aqLen, hx, ht, hu], fun d => .goInt n⟩
  · rename_i b off n cap e sz hsh
    obtain ⟨hu, _⟩ := shape_slice hsh
    cases hq
    obtain ⟨id, hb, rfl, _⟩ := (hv 0).inv_s
    exact ⟨_, by simp only [aqLen, hx, ht, hu], fun d => .goInt n⟩
  · rename_i s hsh
    have hu := shape_string hsh
    cases hq
    obtain ⟨rfl, _⟩ := (hv 0).inv_v
    exact ⟨_, by simp only [aqLen, hx, ht, hu], fun d => .goInt _⟩
  · rename_i n e sz hsh
    obtain ⟨hu, _⟩ := shape_array hsh
    cases hq
    refine ⟨_, ?_, fun d => .goInt n⟩
    simp only [aqLen, hx, ht, hu]
  · cases hq

theorem pplains_rel : ∀ {us : List PV} {xs ys : List Value}, LA C h us xs → pplains us = some ys → xs = ys ∧ ys.all plain = true
  | [], [], ys, _, hq => by cases hq; exact ⟨rfl, rfl⟩
  | u :: us, x :: xs, ys, hl, hq => by
    cases u with
    | v y =>
      simp only [pplains] at hq
      split at hq
      · rename_i r hr
        cases hq
        obtain ⟨rfl, hp, _⟩ := (hl.1 0).inv_v
        obtain ⟨rfl, h2⟩ := pplains_rel hl.2 hr
        exact ⟨rfl, by simp [hp]; simpa using h2⟩
      · cases hq
    | _ => simp [pplains] at hq
  | [], _ :: _, _, hl, _ => hl.elim
  | _ :: _, [], _, hl, _ => hl.elim

/-! ### Comparisons with nil, and all else of two operands -/
theorem plainV_of_plain {x : Value} (hp : plain x = true) : plainV x = true := by
  cases x <;> first | exact hp | simp [plain] at hp

theorem abin_nil {op : BinOp} {t : TypeId} {d : TypeDesc} {x y : Operand} {a b : Value} {r : Bool} (hu : P.underlying t = some d) (hf : intFast op a b = none) (hp : (plainV a && plainV b) = false) (hn : nilEq d a b = some r) (ho : op = .eql ∨ op = .neq) :
    abin P op t x y a b = some (.bool (match op with | .eql => r | _ => !r)) := by
  rcases ho with rfl | rfl <;> simp only [abin, hf, abinS, hp, hu, hn]

theorem intFast_none {op : BinOp} {a b : Value} (ha : ∀ k n, a ≠ .int k n) : intFast op a b = none := by
  unfold intFast
  split
  · exact absurd rfl (ha _ _)
  · rfl

theorem VR.bool {π : Option Pl} (b : Bool) : VR C h π (.v (.bool b)) (.bool b) := .v _ _ rfl (fun _ _ e => by cases e)

theorem plnil_sim {op : BinOp} {t : TypeId} {x y : Operand} {k : Vl} {c : Ck} {n : Nat} {cs : List PV} {a b : Value} {u : PV} (hv : VA C h (.l k c n cs) a) (hw : VA C h (.l .own .nz 0 []) b) (hq : plnil P op t c n = some u) : ∃ r, abin P op t x y a b = some r ∧ VA C h u r := by
  unfold plnil at hq
  split at hq
  · rename_i e bb hu hn
    have hb : b = .slice none 0 0 := by
      rcases (hw 0).inv_l with ⟨_, _, rfl⟩ | ⟨a', cap, B, rfl, _, _, _, _, hc, _⟩
      · rfl
      · exact absurd rfl (hc.nz rfl)
    subst hb
    have ho : op = .eql ∨ op = .neq := by
      split at hq
      · exact .inl rfl
      · exact .inr rfl
      · cases hq
    rcases (hv 0).inv_l with ⟨rfl, rfl, rfl⟩ | ⟨a', cap, B, rfl, _, _, _, _, hc, _⟩
    · have hbb : bb = true := by
        unfold isNil at hn
        split at hn
        · cases hn; rfl
        · split at hn
          · rename_i h0; exact absurd (Nat.le_of_ble_eq_true h0) (by omega)
          · cases hn
      subst hbb
      refine ⟨_, nil_eq_nil hu ho, fun d => ?_⟩
      rcases ho with rfl | rfl <;> (cases hq; exact .bool _)
    · have hbb : bb = false := by
        unfold isNil at hn
        split at hn
        · cases hn
          exact Bool.eq_false_iff.2 fun e => hc.nz rfl (Nat.eq_of_beq_eq_true e)
        · split at hn
          · cases hn; rfl
          · cases hn
      subst hbb
      refine ⟨_, abin_nil hu (intFast_none (fun k n e => by cases e)) rfl (r := false) rfl ho, fun d => ?_⟩
      rcases ho with rfl | rfl <;> (cases hq; exact .bool _)
  · cases hq

theorem pnil_sim {op : BinOp} {t : TypeId} {x y : Operand} {p q : PV} {a b : Value} {u : PV} (hv : VA C h p a) (hw : VA C h q b) (hq : pnil P op t p q = some u) : ∃ r, abin P op t x y a b = some r ∧ VA C h u r := by
  unfold pnil at hq
  split at hq
  all_goals try (cases hq; done)
  all_goals
    rename_i hm
    cases hq
    split at hm
    all_goals try (cases hm; done)
  all_goals
    rename_i hu
    refine ⟨_, abin_nil hu (r := false) ?_ ?_ ?_ (by first | exact .inl rfl | exact .inr rfl), fun d => .bool _⟩
  all_goals first
    | (obtain ⟨id, _, rfl⟩ := (hv 0).inv_p; obtain ⟨rfl, _⟩ := (hw 0).inv_v; rfl)
    | (obtain ⟨rfl, _⟩ := (hv 0).inv_v; obtain ⟨id, _, rfl⟩ := (hw 0).inv_p; rfl)
    | (obtain ⟨a', B, rfl, _⟩ := (hv 0).inv_r; obtain ⟨rfl, _⟩ := (hw 0).inv_v; rfl)
    | (obtain ⟨rfl, _⟩ := (hv 0).inv_v; obtain ⟨a', B, rfl, _⟩ := (hw 0).inv_r; rfl)
    | (have h1 := hv 0; cases h1; obtain ⟨rfl, _⟩ := (hw 0).inv_v; rfl)
    | (have h1 := hw 0; cases h1; obtain ⟨rfl, _⟩ := (hv 0).inv_v; rfl)

theorem pbin_sim {op : BinOp} {t : TypeId} {x y : Operand} {p q : PV} {a b : Value} {u : PV} (hv : VA C h p a) (hw : VA C h q b) (hq : pbin P op t x y p q = some u) : ∃ r, abin P op t x y a b = some r ∧ VA C h u r := by
  unfold pbin at hq
  split at hq
  · obtain ⟨rfl, _⟩ := (hv 0).inv_v
    obtain ⟨rfl, _⟩ := (hw 0).inv_v
    split at hq
    · rename_i r hr; exact ⟨r, hr, fun d => (pvOf_some hq).2 _ _ _⟩
    · cases hq
  · exact plnil_sim hv hw hq
  · split at hq
    · rename_i a' b' h1 h2
      obtain rfl := toPlain_rel (hv 0) h1
      obtain rfl := toPlain_rel (hw 0) h2
      split at hq
      · rename_i r hr; exact ⟨r, hr, fun d => (pvOf_some hq).2 _ _ _⟩
      · cases hq
    · exact pnil_sim hv hw hq

/-! ### All of them -/
theorem pq_sim (hT : TR Y f C h σ tv) (hG : GR P Y C h) {op : Op} {u : PV} (hq : pq P Y f op σ = some u) : kindOf op = 0 ∧ ∃ x', aq P op tv h = some x' ∧ VA C h u x' := by
  cases op with
  | move x => exact ⟨rfl, pev_sim hT hG hq⟩
  | assign x => exact ⟨rfl, pev_sim hT hG hq⟩
  | pick c x y =>
    refine ⟨rfl, ?_⟩
    simp only [pq] at hq
    split at hq
    · rename_i hc
      obtain ⟨c', h1, h2⟩ := pev_sim hT hG hc
      obtain ⟨rfl, _⟩ := (h2 0).inv_v
      split at hq
      · rename_i hs
        obtain ⟨y', hy⟩ := evSafe_ev (P := P) (tv := tv) hs
        obtain ⟨x', h3, h4⟩ := pev_sim hT hG hq
        exact ⟨x', by simp [aq, aqPick, h1, h3, hy], h4⟩
      · cases hq
    · rename_i hc
      obtain ⟨c', h1, h2⟩ := pev_sim hT hG hc
      obtain ⟨rfl, _⟩ := (h2 0).inv_v
      split at hq
      · rename_i hs
        obtain ⟨y', hy⟩ := evSafe_ev (P := P) (tv := tv) hs
        obtain ⟨x', h3, h4⟩ := pev_sim hT hG hq
        exact ⟨x', by simp [aq, aqPick, h1, h3, hy], h4⟩
      · cases hq
    · cases hq
  | nilCheck x =>
    refine ⟨rfl, ?_⟩
    simp only [pq] at hq
    split at hq
    · rename_i b o hx
      cases hq
      obtain ⟨x', h1, h2⟩ := pev_sim hT hG hx
      obtain ⟨id, _, rfl⟩ := (h2 0).inv_p
      exact ⟨_, by simp only [aq, aqNil, h1], h2⟩
    · rename_i k cs hx
      cases hq
      obtain ⟨x', h1, h2⟩ := pev_sim hT hG hx
      obtain ⟨a, B, rfl, _⟩ := (h2 0).inv_r
      exact ⟨_, by simp only [aq, aqNil, h1], h2⟩
    · rename_i g as bs hx
      cases hq
      obtain ⟨x', h1, h2⟩ := pev_sim hT hG hx
      have h3 := h2 0
      cases h3
      exact ⟨_, by simp only [aq, aqNil, h1], h2⟩
    · cases hq
  | binOp bop t x y z =>
    refine ⟨rfl, ?_⟩
    simp only [pq] at hq
    split at hq
    · rename_i a b ha hb
      obtain ⟨a', h1, h2⟩ := pev_sim hT hG ha
      obtain ⟨b', h3, h4⟩ := pev_sim hT hG hb
      obtain ⟨r, h5, h6⟩ := pbin_sim (x := x) (y := y) h2 h4 hq
      exact ⟨r, by simp [aq, aqBin, h1, h3, h5], h6⟩
    · cases hq
  | unOp uop t x =>
    refine ⟨rfl, ?_⟩
    simp only [pq] at hq
    split at hq
    · rename_i a ha
      obtain ⟨a', h1, h2⟩ := pev_sim hT hG ha
      obtain ⟨rfl, hp, _⟩ := (h2 0).inv_v
      split at hq
      · rename_i r hr
        exact ⟨r, by simp [aq, aqUn, h1, hp, hr], fun d => (pvOf_some hq).2 _ _ _⟩
      · cases hq
    · cases hq
  | convert src dst x =>
    refine ⟨rfl, ?_⟩
    simp only [pq] at hq
    split at hq
    · rename_i a ha
      obtain ⟨a', h1, h2⟩ := pev_sim hT hG ha
      obtain ⟨rfl, hp, _⟩ := (h2 0).inv_v
      split at hq
      · rename_i r hr
        exact ⟨r, by simp [aq, aqConv, h1, hp, hr], fun d => (pvOf_some hq).2 _ _ _⟩
      · cases hq
    · cases hq
  | slice t x lo hi mx =>
    refine ⟨rfl, ?_⟩
    simp only [pq] at hq
    split at hq
    · rename_i v l r m hv hl hr hm
      obtain ⟨x', h1, h2⟩ := pev_sim hT hG hv
      exact pqSlice_sim h1 (optPlain_sim hT hG hl) (optPlain_sim hT hG hr) (optPlain_sim hT hG hm) h2 hq
    · cases hq
  | fieldAddr t x fd =>
    refine ⟨rfl, ?_⟩
    simp only [pq] at hq
    split at hq
    · rename_i v hv
      obtain ⟨x', h1, h2⟩ := pev_sim hT hG hv
      exact fldAddr_sim h1 h2 hq
    · cases hq
  | field t x fd =>
    refine ⟨rfl, ?_⟩
    simp only [pq] at hq
    split at hq
    · rename_i v hv
      obtain ⟨x', h1, h2⟩ := pev_sim hT hG hv
      exact pfield_sim h1 h2 hq
    · cases hq
  | indexAddr t x ix =>
    refine ⟨rfl, ?_⟩
    simp only [pq] at hq
    split at hq
    · rename_i v i hv hi
      obtain ⟨x', h1, h2⟩ := pev_sim hT hG hv
      obtain ⟨i', h3, h4⟩ := pev_sim hT hG hi
      obtain ⟨rfl, _⟩ := (h4 0).inv_v
      exact idxAddr_sim h1 h3 h2 hq
    · cases hq
  | index t x ix =>
    refine ⟨rfl, ?_⟩
    simp only [pq] at hq
    split at hq
    · rename_i v i hv hi
      obtain ⟨x', h1, h2⟩ := pev_sim hT hG hv
      obtain ⟨i', h3, h4⟩ := pev_sim hT hG hi
      obtain ⟨rfl, hp, _⟩ := (h4 0).inv_v
      exact pqIndex_sim h1 h3 hp h2 hq
    · cases hq
  | extract x ix =>
    refine ⟨rfl, ?_⟩
    simp only [pq] at hq
    split at hq
    · rename_i cs hv
      obtain ⟨x', h1, h2⟩ := pev_sim hT hG hv
      obtain ⟨l, rfl, hr⟩ := (h2 0).inv_t
      obtain ⟨y, h3, h4⟩ := hr.get hq
      exact ⟨y, by simp only [aq, aqExtract, h1]; rw [← Array.getElem?_toList]; exact h3, fun d => h4.out _⟩
    · cases hq
  | call c =>
    obtain ⟨callee, args, types⟩ := c
    cases callee with
    | builtin b =>
      cases b <;> try (simp only [pq] at hq; cases hq; done)
      case len =>
        refine ⟨rfl, ?_⟩
        simp only [pq] at hq
        split at hq
        · rename_i x t hargs ht
          split at hq
          · rename_i v hv
            obtain ⟨x', h1, h2⟩ := pev_sim hT hG hv
            obtain ⟨y, h3, h4⟩ := plen_sim ht h1 h2 hq
            exact ⟨y, by simp [aq, aqBuiltin, hargs, h3], h4⟩
          · cases hq
        · cases hq
      case max =>
        refine ⟨rfl, ?_⟩
        simp only [pq] at hq
        split at hq
        · rename_i vs hvs
          obtain ⟨xs, h1, h2⟩ := pevs_sim hT hG hvs
          split at hq
          · rename_i ys hys
            obtain ⟨rfl, hp⟩ := pplains_rel h2 hys
            split at hq
            · rename_i r hr
              exact ⟨r, by simp only [aq, aqBuiltin, aqMax, h1, hp, hr], fun d => (pvOf_some hq).2 _ _ _⟩
            · cases hq
          · cases hq
        · cases hq
      case min =>
        refine ⟨rfl, ?_⟩
        simp only [pq] at hq
        split at hq
        · rename_i vs hvs
          obtain ⟨xs, h1, h2⟩ := pevs_sim hT hG hvs
          split at hq
          · rename_i ys hys
            obtain ⟨rfl, hp⟩ := pplains_rel h2 hys
            split at hq
            · rename_i r hr
              exact ⟨r, by simp only [aq, aqBuiltin, aqMin, h1, hp, hr], fun d => (pvOf_some hq).2 _ _ _⟩
            · cases hq
          · cases hq
        · cases hq
    | _ => simp only [pq] at hq; cases hq
  | _ => simp only [pq] at hq; cases hq
end
end Go.Pur
