/-
  The operations that leave memory alone: what the abstract evaluator says of them, the model does.
  Conditions: none; lemmas.
-/
import Derived.Test.YtcdhajbhpnbdkaaDoorAbsOps
set_option linter.unusedSimpArgs false
set_option linter.unusedVariables false
set_option linter.unusedSectionVars false
namespace Go.Abs
section
variable {P : Program} {m : BMap} {h : AHeap} {w : World}

theorem add_lit (b o k : Nat) : (⟨b, o, none⟩ : Addr).add k = ⟨b, o + k, none⟩ := by
  unfold Addr.add; split <;> simp_all

theorem add_block (a : Addr) (k : Nat) : (a.add k).block = a.block := by unfold Addr.add; split <;> rfl
theorem add_off (a : Addr) (k : Nat) : (a.add k).off = a.off + k := by unfold Addr.add; split <;> simp_all
theorem add_spot (a : Addr) (k : Nat) (hs : a.spot = none) : (a.add k).spot = none := by unfold Addr.add; split <;> simp_all

theorem natOf_some {lo hi n : Nat} {v : Value} (hv : natOf lo hi v = some n) : ∃ k, v = .int k (n : Int) ∧ n ≤ hi := by
  unfold natOf at hv
  split at hv
  · rename_i k q
    split at hv
    · rename_i hb
      cases hv
      simp only [Bool.and_eq_true] at hb
      exact ⟨k, rfl, Nat.le_of_ble_eq_true hb.2⟩
    · cases hv
  · cases hv

theorem natOfO_some {lo hi d n : Nat} {v : Option Value} (hv : natOfO lo hi d v = some n) : (v = none ∧ n = d) ∨ ∃ k, v = some (.int k (n : Int)) ∧ n ≤ hi := by
  cases v with
  | none => cases hv; exact .inl ⟨rfl, rfl⟩
  | some v => obtain ⟨k, h1, h2⟩ := natOf_some hv; exact .inr ⟨k, by rw [h1], h2⟩

theorem run_sliceBound (k : IntKind) (n y : Nat) (code : BoundsCode) (hn : n ≤ y) : (Instr.sliceBound (.int k (n : Int)) y code).run P w = .ok n w := by
  have h1 : (0 : Int) ≤ (n : Int) ∧ (n : Int) ≤ (y : Int) := by omega
  simp [Instr.sliceBound, asIntOf, h1]

/-- The bounds of a slice expression, where they fit. -/
theorem run_sliceBounds (isSlice : Bool) (len cap : Nat) {lo hi mx : Option Value} {l hh mm : Nat}
    (hm : (mx = none ∧ mm = cap) ∨ ∃ k, mx = some (.int k (mm : Int)) ∧ mm ≤ cap)
    (hh' : (hi = none ∧ mx = none ∧ hh = len) ∨ ∃ k, hi = some (.int k (hh : Int)) ∧ hh ≤ mm)
    (hl : (lo = none ∧ l = 0) ∨ ∃ k, lo = some (.int k (l : Int)) ∧ l ≤ hh) :
    (Instr.sliceBounds isSlice len cap lo hi mx).run P w = .ok (l, hh, mm) w := by
  unfold Instr.sliceBounds
  rcases hm with ⟨rfl, rfl⟩ | ⟨k, rfl, hle⟩
  · rcases hh' with ⟨rfl, _, rfl⟩ | ⟨k2, rfl, hle2⟩ <;> rcases hl with ⟨rfl, rfl⟩ | ⟨k3, rfl, hle3⟩ <;> simp [run_sliceBound, *]
  · rcases hh' with ⟨rfl, h0, rfl⟩ | ⟨k2, rfl, hle2⟩
    · cases h0
    · rcases hl with ⟨rfl, rfl⟩ | ⟨k3, rfl, hle3⟩ <;> simp [run_sliceBound, *]

theorem hiOk_some {hi mx : Option Value} (h : hiOk hi mx = true) (hn : hi = none) : mx = none := by
  subst hn; cases mx <;> simp_all [hiOk]

theorem pickB_beq {α : Type} (x y : Nat) (p q : α) : pickB (Nat.beq x y) p q = if x = y then p else q := by
  unfold pickB
  cases hb : Nat.beq x y with
  | true => simp [Nat.eq_of_beq_eq_true hb]
  | false => have := Nat.ne_of_beq_eq_false hb; simp [this]

/-- A slice of a slice (or of an array: 'cap' is known), as the model reckons it. -/
theorem aslice_rel {size len cap : Nat} {a : Option Addr} {lo hi mx : Option Value} {u v' : Value} (isSlice : Bool) (hv : VRel m (.slice a len cap) v')
    (hs : aslice size a len cap lo hi mx = some u) : ∃ a' cap' l hh mm, v' = .slice a' len cap' ∧ (Instr.sliceBounds isSlice len cap' lo hi mx).run P w = .ok (l, hh, mm) w ∧
      VRel m u (.slice (if mm = l then a' else a'.map (·.add (l * size))) (hh - l) (mm - l)) := by
  unfold aslice at hs
  split at hs
  · rename_i hc
    have hc' : cap < unkCap := by simpa [Nat.blt_eq] using hc
    split at hs
    · rename_i mm hmm
      split at hs
      · rename_i hh hhh
        split at hs
        · rename_i l hl
          split at hs
          case h_2 => cases hs
          rename_i hle0
          simp only [Bool.and_eq_true] at hle0
          have hle' := Nat.le_of_ble_eq_true hle0.1
          have b1 := natOfO_some hmm
          have b2 := natOfO_some hhh
          have b3 := natOfO_some hl
          have b2' : (hi = none ∧ mx = none ∧ hh = len) ∨ ∃ k, hi = some (.int k (hh : Int)) ∧ hh ≤ mm := by
            rcases b2 with ⟨e1, e2⟩ | e
            · exact .inl ⟨e1, hiOk_some hle0.2 e1, e2⟩
            · exact .inr e
          have hl' : l ≤ hh := by rcases b3 with ⟨_, e⟩ | ⟨_, _, e⟩ <;> omega
          have hm' : mm ≤ cap := by rcases b1 with ⟨_, e⟩ | ⟨_, _, e⟩ <;> omega
          rw [pickB_beq] at hs
          cases hs
          cases a with
          | none =>
            obtain rfl := hv.inv_snil
            refine ⟨none, cap, l, hh, mm, rfl, run_sliceBounds isSlice len cap b1 b2' b3, ?_⟩
            simp only [Option.map_none, ite_self]
            exact .plain _ rfl
          | some a =>
            obtain ⟨a', c', rfl, h1, h2, _⟩ := hv.inv_slice
            obtain rfl := h2 hc'
            obtain ⟨L, hm, hsp, rfl, _⟩ := h1 (.inr (by intro e; rw [e] at hc'; exact absurd hc' (by decide)))
            refine ⟨_, _, l, hh, mm, rfl, run_sliceBounds isSlice len c' b1 b2' b3, ?_⟩
            split
            · exact .slice a L _ _ hm hsp (by omega)
            · simp only [Option.map_some, add_lit]
              have := VRel.slice (m := m) (a.add (l * size)) L (hh - l) (mm - l) (by rw [add_block]; exact hm) (add_spot _ _ hsp) (by omega)
              rwa [add_off, ← Nat.add_assoc] at this
        · cases hs
      · cases hs
    · cases hs
  · rename_i hc
    have hc' : unkCap ≤ cap := by
      rcases Nat.lt_or_ge cap unkCap with h' | h'
      · have : Nat.blt cap unkCap = true := by rw [Nat.blt_eq]; exact h'
        rw [hc] at this; cases this
      · exact h'
    split at hs
    · cases hs
    · rename_i a
      obtain ⟨a', c', rfl, h1, _, h3⟩ := hv.inv_slice
      obtain ⟨hk, hn⟩ := h3 hc'
      split at hs
      · split at hs
        · rename_i hh hhh
          split at hs
          · rename_i l hl
            have b2 := natOfO_some hhh
            have b3 := natOfO_some hl
            have hlen : hh ≤ len := by rcases b2 with ⟨_, e⟩ | ⟨_, _, e⟩ <;> omega
            have b2' : (hi = none ∧ (none : Option Value) = none ∧ hh = len) ∨ ∃ k, hi = some (.int k (hh : Int)) ∧ hh ≤ c' := by
              rcases b2 with ⟨e1, e2⟩ | ⟨k, e1, e2⟩
              · exact .inl ⟨e1, rfl, e2⟩
              · exact .inr ⟨k, e1, by omega⟩
            have hl' : l ≤ hh := by rcases b3 with ⟨_, e⟩ | ⟨_, _, e⟩ <;> omega
            have hrun := run_sliceBounds (P := P) (w := w) isSlice len c' (mx := none) (.inl ⟨rfl, rfl⟩) b2' b3
            refine ⟨_, _, l, hh, c', rfl, hrun, ?_⟩
            split at hs
            · rename_i hl0
              have hl0' : l = 0 := Nat.eq_of_beq_eq_true hl0
              subst hl0'
              cases hs
              simp only [Nat.zero_mul, Option.map_some, Nat.sub_zero]
              have e0 : (if c' = 0 then some a' else some (a'.add 0)) = some a' := by simp [Addr.add]
              rw [e0]
              rcases hk with rfl | rfl
              · obtain ⟨L, hm, hsp, rfl, hu⟩ := h1 (.inr (by decide))
                obtain ⟨h0, hb, rfl⟩ := hu rfl
                rw [hb, h0]
                exact .unk a L hh hm hsp h0 hb (by omega)
              · refine .ro a a' hh c' (by omega) (fun hne => ?_)
                obtain ⟨L, hm, hsp, he, _⟩ := h1 (.inl (by omega))
                exact ⟨L, hm, hsp, he⟩
            · cases hs
              rcases Nat.lt_or_ge l hh with hlt | hge
              · have hne : ¬ c' = l := by omega
                rw [if_neg hne]
                obtain ⟨L, hm, hsp, rfl, _⟩ := h1 (.inl (by omega))
                simp only [Option.map_some, add_lit]
                refine .ro _ _ _ _ (by omega) (fun _ => ⟨L, by rw [add_block]; exact hm, add_spot _ _ hsp, ?_⟩)
                rw [add_off, Nat.add_assoc]
              · have e : hh - l = 0 := by omega
                rw [e]
                split
                · exact .ro _ _ _ _ (Nat.zero_le _) (fun hne => absurd rfl hne)
                · exact .ro _ _ _ _ (Nat.zero_le _) (fun hne => absurd rfl hne)
          · cases hs
        · cases hs
      · rename_i v
        split at hs
        · rename_i mm hmm hlen
          split at hs
          · rename_i hh hhh
            split at hs
            · rename_i l hl
              split at hs
              · rename_i hv0
                rw [pickB_beq] at hs
                cases hs
                simp only [Bool.and_eq_true, Nat.blt_eq] at hlen
                obtain ⟨k, rfl, hle⟩ := natOf_some hmm
                have b2 := natOfO_some hhh
                have b3 := natOfO_some hl
                have b2' : (some hv0 = none ∧ some (Value.int k (mm : Int)) = none ∧ hh = len) ∨ ∃ k, some hv0 = some (.int k (hh : Int)) ∧ hh ≤ mm := by
                  rcases b2 with ⟨e1, _⟩ | e
                  · cases e1
                  · exact .inr e
                have hl' : l ≤ hh := by rcases b3 with ⟨_, e⟩ | ⟨_, _, e⟩ <;> omega
                have hrun := run_sliceBounds (P := P) (w := w) isSlice len c' (.inr ⟨k, rfl, by omega⟩) b2' b3
                refine ⟨_, _, l, hh, mm, rfl, hrun, ?_⟩
                obtain ⟨L, hm, hsp, rfl, _⟩ := h1 (.inl (by omega))
                split
                · exact .slice a L _ _ hm hsp (by omega)
                · simp only [Option.map_some, add_lit]
                  have := VRel.slice (m := m) (a.add (l * size)) L (hh - l) (mm - l) (by rw [add_block]; exact hm) (add_spot _ _ hsp) (by omega)
                  rwa [add_off, ← Nat.add_assoc] at this
              · cases hs
            · cases hs
          · cases hs
        · cases hs
theorem intIn_some {n k : Nat} {v : Value} (hv : intIn n v = some k) : ∃ kd, v = .int kd (k : Int) ∧ k < n := by
  unfold intIn at hv
  split at hv
  · rename_i kd q
    split at hv
    · rename_i hb
      cases hv
      exact ⟨kd, rfl, by rw [Nat.blt_eq] at hb; exact hb⟩
    · cases hv
  · cases hv

theorem VRel.inv_iface {t : TypeId} {v v' : Value} (h : VRel m (.iface t v) v') : ∃ u, v' = .iface t u ∧ VRel m v u := by
  cases h with
  | plain _ h => simp [Abs.plain] at h
  | iface _ _ u h => exact ⟨u, rfl, h⟩

theorem nilEq_some {d : TypeDesc} {x y x' y' : Value} {r : Bool} (hx : VRel m x x') (hy : VRel m y y') (h : nilEq d x y = some r) : nilEq d x' y' = some r := by
  unfold nilEq at h
  split at h <;> cases h
  · obtain ⟨_, _, rfl, _⟩ := hx.inv_slice
    obtain rfl := hy.inv_snil
    rfl
  · obtain ⟨_, _, rfl, _⟩ := hy.inv_slice
    obtain rfl := hx.inv_snil
    rfl
  · obtain ⟨_, _, rfl, _⟩ := hx.inv_func
    obtain rfl := hy.inv_plain rfl
    rfl
  · obtain ⟨_, _, rfl, _⟩ := hy.inv_func
    obtain rfl := hx.inv_plain rfl
    rfl
  · obtain ⟨_, _, _, rfl⟩ := hx.inv_ptr
    obtain rfl := hy.inv_plain rfl
    rfl
  · obtain ⟨_, _, _, rfl⟩ := hy.inv_ptr
    obtain rfl := hx.inv_plain rfl
    rfl
  · obtain ⟨_, rfl, _⟩ := VRel.inv_iface hx
    obtain rfl := hy.inv_plain rfl
    rfl
  · obtain ⟨_, rfl, _⟩ := VRel.inv_iface hy
    obtain rfl := hx.inv_plain rfl
    rfl

theorem run_equalIn_nil {t : TypeId} {d : TypeDesc} {x y : Value} {r : Bool} (n : Nat) (hu : P.underlying t = some d) (h : nilEq d x y = some r) :
    (Op.equalIn (n + 1) t x y).run P w = .ok r w := by
  unfold nilEq at h
  split at h <;> cases h <;> unfold Op.equalIn <;> simp [run_underlying hu]

theorem run_equal_nil {t : TypeId} {d : TypeDesc} {x y : Value} {r : Bool} (hu : P.underlying t = some d) (h : nilEq d x y = some r) :
    (Op.equal t x y).run P w = .ok r w := run_equalIn_nil 9999 hu h

theorem run_nilEq {op : BinOp} {t : TypeId} {X Y : Operand} {d : TypeDesc} {x y : Value} {r : Bool} (hu : P.underlying t = some d) (h : nilEq d x y = some r) (ho : op = .eql ∨ op = .neq) :
    (do eqGuard op t X Y x y; binOp op t x y : Sem Value).run P w = .ok (.bool (match op with | .eql => r | _ => !r)) w := by
  have he := run_equal_nil (w := w) hu h
  have hg : eqGuard op t X Y x y = pure () := by
    unfold nilEq at h
    split at h <;> (try (cases h; done)) <;> rcases ho with rfl | rfl <;> rfl
  rcases ho with rfl | rfl
  · have hb : binOp .eql t x y = (do pure (.bool (← Op.equal t x y))) := by
      unfold nilEq at h
      split at h <;> (try (cases h; done)) <;> rfl
    rw [hg, hb]; simp [he]
  · have hb : binOp .neq t x y = (do pure (.bool (!(← Op.equal t x y)))) := by
      unfold nilEq at h
      split at h <;> (try (cases h; done)) <;> rfl
    rw [hg, hb]; simp [he]

theorem intFast_run {op : BinOp} {t : TypeId} {X Y : Operand} {x y v : Value} (h : intFast op x y = some v) :
    (do eqGuard op t X Y x y; binOp op t x y : Sem Value).run P w = .ok v w ∧ plain v = true ∧ plain x = true ∧ plain y = true := by
  unfold intFast at h
  split at h
  · rename_i k a j b
    split at h
    · rename_i hk
      obtain rfl : k = j := by simpa using hk
      unfold intBin at h
      have hne : ∀ s : Sem Value, (if k ≠ k then stuck "BinOp: operands of different kinds" else s) = s := fun s => if_neg (by simp)
      split at h <;> cases h <;> refine ⟨?_, rfl, rfl, rfl⟩ <;> simp [eqGuard, binOp, Op.intArith, Op.intCmp]
    · cases h
  · cases h

theorem abinS_rel {op : BinOp} {t : TypeId} {X Y : Operand} {x y x' y' v : Value} (hx : VRel m x x') (hy : VRel m y y') (h : abinS P op t X Y x y = some v) :
    (do eqGuard op t X Y x' y'; binOp op t x' y' : Sem Value).run P w = .ok v w ∧ plain v = true := by
  unfold abinS at h
  split at h
  · rename_i hp
    simp only [Bool.and_eq_true] at hp
    obtain rfl := hx.inv_plainV hp.1
    obtain rfl := hy.inv_plainV hp.2
    exact prunP_run w h
  · split at h
    · rename_i d hu
      split at h
      · rename_i r hr
        have hr' := nilEq_some hx hy hr
        split at h <;> cases h
        · exact ⟨run_nilEq hu hr' (.inl rfl), rfl⟩
        · exact ⟨run_nilEq hu hr' (.inr rfl), rfl⟩
      · cases h
    · cases h

theorem abin_rel {op : BinOp} {t : TypeId} {X Y : Operand} {x y x' y' v : Value} (hx : VRel m x x') (hy : VRel m y y') (h : abin P op t X Y x y = some v) :
    (do eqGuard op t X Y x' y'; binOp op t x' y' : Sem Value).run P w = .ok v w ∧ plain v = true := by
  unfold abin at h
  split at h
  · rename_i u hu
    cases h
    obtain ⟨h1, h2, h3, h4⟩ := intFast_run (P := P) (w := w) (t := t) (X := X) (Y := Y) hu
    rw [hx.inv_plain h3, hy.inv_plain h4]
    exact ⟨h1, h2⟩
  · exact abinS_rel hx hy h

theorem run_val {s : Sem Value} {v : Value} (hs : s.run P w = .ok v w) : (do pure (Next.value (← s)) : Sem Next).run P w = .ok (.value v) w := by
  simp [hs]

theorem LRel.all_plain : ∀ {l l' : List Value} (_ : LRel m l l'), l.all plain = true → l' = l := by
  intro l
  induction l with
  | nil => intro l' h _; rcases h.ind with ⟨_, rfl⟩ | ⟨_, _, _, _, h, _⟩
           · rfl
           · cases h
  | cons v l ih =>
    intro l' h hp
    rcases h.ind with ⟨h, _⟩ | ⟨v, v', q, q', h1, rfl, hv, hq⟩
    · cases h
    · cases h1
      simp only [List.all_cons, Bool.and_eq_true] at hp
      rw [hv.inv_plain hp.1, ih hq hp.2]

theorem info_of {t : TypeId} {d : TypeDesc} (_ : P.underlying t = some d) : ∃ i, P.info? t = some i := by
  unfold Program.underlying at *
  cases hi : P.info? t with
  | none => simp [hi] at *
  | some i => exact ⟨i, rfl⟩

theorem run_sizeOf {t : TypeId} {i : TypeInfo} (hi : P.info? t = some i) : (sizeOf t).run P w = .ok i.size w := by
  simp [sizeOf, typeInfo, hi]

theorem run_indexAt_arr {t e : TypeId} {n : Nat} {i : TypeInfo} {b o : Nat} {kd : IntKind} {k : Nat} (hu : P.underlying t = some (.array n e)) (hi : P.info? e = some i) (hk : k < n) :
    (Instr.indexAt t (.pointer (some ⟨b, o, none⟩)) (.int kd (k : Int))).run P w = .ok (.pointer (some ⟨b, o + k * i.size, none⟩)) w := by
  simp [Instr.indexAt, asIntOf, run_underlying hu, Instr.sureAddr, run_sizeOf hi, add_lit]
  intro hc; omega

theorem run_indexAt_slice {t e : TypeId} {n c : Nat} {i : TypeInfo} {b o : Nat} {kd : IntKind} {k : Nat} (hu : P.underlying t = some (.slice e)) (hi : P.info? e = some i) (hk : k < n) :
    (Instr.indexAt t (.slice (some ⟨b, o, none⟩) n c) (.int kd (k : Int))).run P w = .ok (.pointer (some ⟨b, o + k * i.size, none⟩)) w := by
  simp [Instr.indexAt, asIntOf, run_underlying hu, run_sizeOf hi, add_lit]
  intro hc; omega

theorem VRel.ptr_add {a : Addr} {L : Loc} (hm : m a.block = some L) (hs : a.spot = none) (k : Nat) :
    VRel m (.pointer (some (a.add k))) (.pointer (some ⟨L.b, L.base + a.off + k, none⟩)) := by
  have := VRel.ptr (m := m) (a.add k) L (by rw [add_block]; exact hm) (add_spot _ _ hs)
  rwa [add_off, ← Nat.add_assoc] at this

variable {nt : Nat} {ts : Tr Value} {a : Act}

set_option maxHeartbeats 1000000 in
/-- What the abstract evaluator says of a quiet operation. -/
theorem aq_rel (hR : Rel P m h w) (hT : TRel m nt ts a) (o : Oper) {v : Value} (hq : aq P o.op ts h = some v) :
    ∃ v', (execOp a.eval o).run P w = .ok (.value v') w ∧ VRel m v v' := by
  have hG := hR.glob
  obtain ⟨dst, op, type, pos, after, guard⟩ := o
  cases op with
  | move x => exact ⟨_, rfl, ev_rel hT hG hq⟩
  | assign x => exact ⟨_, rfl, ev_rel hT hG hq⟩
  | pick c x y =>
    simp only [aq, aqPick, aqLoad, aqBuild, aqNil, aqBin, aqUn, aqConv, aqIface, aqFunc, aqSlice, aqFieldAddr, aqField, aqIndexAddr, aqIndex, aqExtract] at hq
    split at hq
    · rename_i t p q hc hx hy
      have h1 := (ev_rel hT hG hc).inv_bool
      have h2 := ev_rel hT hG hx
      have h3 := ev_rel hT hG hy
      cases t <;> cases hq
      · exact ⟨a.eval y, by simp [execOp, h1, asBool], h3⟩
      · exact ⟨a.eval x, by simp [execOp, h1, asBool], h2⟩
    · cases hq
  | load t x =>
    simp only [aq, aqPick, aqLoad, aqBuild, aqNil, aqBin, aqUn, aqConv, aqIface, aqFunc, aqSlice, aqFieldAddr, aqField, aqIndexAddr, aqIndex, aqExtract] at hq
    split at hq
    · rename_i p hp
      obtain ⟨v', h1, h2⟩ := aload_rel hR (ev_rel hT hG hp) hq
      exact ⟨v', run_val h1, h2⟩
    · cases hq
  | build t parts =>
    simp only [aq, aqPick, aqLoad, aqBuild, aqNil, aqBin, aqUn, aqConv, aqIface, aqFunc, aqSlice, aqFieldAddr, aqField, aqIndexAddr, aqIndex, aqExtract] at hq
    split at hq
    · rename_i ps hps
      split at hq
      · rename_i cells i hb hi
        split at hq
        · rename_i z hz
          split at hq
          · rename_i hpl
            cases hq
            obtain ⟨out', ho, hr⟩ := built_rel (evParts_rel hT hG hps) hi hz hpl hb
            refine ⟨.agg out', ?_, ?_⟩
            · refine run_val (run_build w t _ out' ?_)
              rw [Array.toList_map]; exact ho
            · have := VRel.agg_of hr; simpa using this
          · cases hq
        · cases hq
      · cases hq
    · cases hq
  | nilCheck x =>
    simp only [aq, aqPick, aqLoad, aqBuild, aqNil, aqBin, aqUn, aqConv, aqIface, aqFunc, aqSlice, aqFieldAddr, aqField, aqIndexAddr, aqIndex, aqExtract] at hq
    split at hq
    · rename_i ad hx
      cases hq
      obtain ⟨L, hm, hs, he⟩ := (ev_rel hT hG hx).inv_ptr
      exact ⟨a.eval x, by simp [execOp, he], ev_rel hT hG hx⟩
    · rename_i f as bs hx
      cases hq
      obtain ⟨as', bs', he, _⟩ := (ev_rel hT hG hx).inv_func
      exact ⟨a.eval x, by simp [execOp, he], ev_rel hT hG hx⟩
    · cases hq
  | binOp op t x y yt =>
    simp only [aq, aqPick, aqLoad, aqBuild, aqNil, aqBin, aqUn, aqConv, aqIface, aqFunc, aqSlice, aqFieldAddr, aqField, aqIndexAddr, aqIndex, aqExtract] at hq
    split at hq
    · rename_i p q hp hq'
      obtain ⟨h1, h2⟩ := abin_rel (w := w) (ev_rel hT hG hp) (ev_rel hT hG hq') hq
      exact ⟨v, run_val h1, .plain _ h2⟩
    · cases hq
  | unOp op t x =>
    simp only [aq, aqPick, aqLoad, aqBuild, aqNil, aqBin, aqUn, aqConv, aqIface, aqFunc, aqSlice, aqFieldAddr, aqField, aqIndexAddr, aqIndex, aqExtract] at hq
    split at hq
    · rename_i p hp
      split at hq
      · rename_i hpl
        have he := (ev_rel hT hG hp).inv_plain hpl
        obtain ⟨h1, h2⟩ := prunP_run w hq
        exact ⟨v, run_val (by rw [he]; exact h1), .plain _ h2⟩
      · cases hq
    · cases hq
  | convert s d x =>
    simp only [aq, aqPick, aqLoad, aqBuild, aqNil, aqBin, aqUn, aqConv, aqIface, aqFunc, aqSlice, aqFieldAddr, aqField, aqIndexAddr, aqIndex, aqExtract] at hq
    split at hq
    · rename_i p hp
      split at hq
      · rename_i hpl
        have he := (ev_rel hT hG hp).inv_plain hpl
        obtain ⟨h1, h2⟩ := prunP_run w hq
        exact ⟨v, run_val (by rw [he]; exact h1), .plain _ h2⟩
      · cases hq
    · cases hq
  | makeInterface t x =>
    simp only [aq, aqPick, aqLoad, aqBuild, aqNil, aqBin, aqUn, aqConv, aqIface, aqFunc, aqSlice, aqFieldAddr, aqField, aqIndexAddr, aqIndex, aqExtract] at hq
    split at hq
    · cases hq
    · rename_i p d hd hp hu
      cases hq
      refine ⟨.iface t (a.eval x), run_val ?_, .iface t _ _ (ev_rel hT hG hp)⟩
      unfold Instr.makeInterface
      rw [Sem.run_bind, run_underlying hu w]
      cases d <;> first | rfl | exact (hd _ rfl).elim
    · cases hq
  | makeFunc fn first captured =>
    simp only [aq, aqPick, aqLoad, aqBuild, aqNil, aqBin, aqUn, aqConv, aqIface, aqFunc, aqSlice, aqFieldAddr, aqField, aqIndexAddr, aqIndex, aqExtract] at hq
    split at hq
    · rename_i as bs h1 h2
      cases hq
      refine ⟨.func fn (first.map a.eval) (captured.map a.eval), rfl, ?_⟩
      have := VRel.func_of (fn := fn) (evs_rel hT hG h1) (evs_rel hT hG h2)
      simpa [← Array.toList_map] using this
    · cases hq
  | slice t x lo hi mx =>
    simp only [aq, aqPick, aqLoad, aqBuild, aqNil, aqBin, aqUn, aqConv, aqIface, aqFunc, aqSlice, aqFieldAddr, aqField, aqIndexAddr, aqIndex, aqExtract] at hq
    split at hq
    · rename_i p l hh mm hx hlo hhi hmx
      have elo := optEv_rel hT hG hlo
      have ehi := optEv_rel hT hG hhi
      have emx := optEv_rel hT hG hmx
      split at hq
      · rename_i n e ad hu
        split at hq
        · rename_i i hi
          split at hq
          · rename_i hb
            rw [Nat.blt_eq] at hb
            obtain ⟨L, hm, hs, he⟩ := (ev_rel hT hG hx).inv_ptr
            have hv : VRel m (.slice (some ad) n n) (.slice (some ⟨L.b, L.base + ad.off, none⟩) n n) := .slice ad L n n hm hs hb
            obtain ⟨a', c', l', h', m', e1, e2, e3⟩ := aslice_rel (w := w) (P := P) false hv hq
            cases e1
            refine ⟨_, run_val ?_, e3⟩
            rw [elo, ehi, emx, he]
            simp only [Instr.sliceAt, Sem.run_bind, run_underlying hu w, Result.andThen_ok, Instr.sureAddr, Sem.run_pure, e2, run_sizeOf hi, Option.map_some]
            split <;> rfl
          · cases hq
        · cases hq
      · rename_i e ad n c hu
        split at hq
        · rename_i i hi
          obtain ⟨a', c', l', h', m', e1, e2, e3⟩ := aslice_rel (w := w) (P := P) true (ev_rel hT hG hx) hq
          refine ⟨_, run_val ?_, e3⟩
          rw [elo, ehi, emx, e1]
          simp only [Instr.sliceAt, Instr.slice, Sem.run_bind, run_underlying hu w, Result.andThen_ok, Sem.run_pure, e2, run_sizeOf hi]
        · cases hq
      · rename_i s hu
        split at hq
        · obtain ⟨h1, h2⟩ := prunP_run w hq
          have he := (ev_rel hT hG hx).inv_string
          refine ⟨v, run_val ?_, .plain _ h2⟩
          rw [elo, ehi, emx, he]
          simp only [Instr.sliceAt, Sem.run_bind, run_underlying hu w, Result.andThen_ok]
          exact h1
        · cases hq
      · cases hq
    · cases hq
  | fieldAddr s x f =>
    simp only [aq, aqPick, aqLoad, aqBuild, aqNil, aqBin, aqUn, aqConv, aqIface, aqFunc, aqSlice, aqFieldAddr, aqField, aqIndexAddr, aqIndex, aqExtract] at hq
    split at hq
    · rename_i ad fields hx hu
      split at hq
      · rename_i fd hf
        split at hq
        · rename_i i hi
          split at hq
          · cases hq
          · rename_i hz
            cases hq
            obtain ⟨L, hm, hs, he⟩ := (ev_rel hT hG hx).inv_ptr
            have hz' := Nat.ne_of_beq_eq_false hz
            refine ⟨_, run_val ?_, VRel.ptr_add hm hs fd.offset⟩
            simp [Instr.fieldAt, run_underlying hu, hf, he, Instr.sureAddr, fieldPlace, run_sizeOf hi, hz', add_lit]
        · cases hq
      · cases hq
    · cases hq
  | field t x f =>
    simp only [aq, aqPick, aqLoad, aqBuild, aqNil, aqBin, aqUn, aqConv, aqIface, aqFunc, aqSlice, aqFieldAddr, aqField, aqIndexAddr, aqIndex, aqExtract] at hq
    split at hq
    · rename_i cs fields hx hu
      split at hq
      · rename_i fd hf
        obtain ⟨cs', he, hr⟩ := (ev_rel hT hG hx).inv_agg
        obtain ⟨v', h1, h2⟩ := apart'_rel (w := w) hr hq
        refine ⟨v', run_val ?_, h2⟩
        simp only [Array.toArray_toList] at h1
        simp [Instr.field, run_underlying hu, hf, he, asAgg, h1]
      · cases hq
    · cases hq
  | indexAddr t x ix =>
    simp only [aq, aqPick, aqLoad, aqBuild, aqNil, aqBin, aqUn, aqConv, aqIface, aqFunc, aqSlice, aqFieldAddr, aqField, aqIndexAddr, aqIndex, aqExtract] at hq
    split at hq
    · rename_i ad i n e hx hi hu
      split at hq
      · rename_i k inf hk hinf
        cases hq
        obtain ⟨kd, rfl, hlt⟩ := intIn_some hk
        have he2 := (ev_rel hT hG hi).inv_int
        obtain ⟨L, hm, hs, he⟩ := (ev_rel hT hG hx).inv_ptr
        refine ⟨_, run_val ?_, VRel.ptr_add hm hs (k * inf.size)⟩
        rw [he, he2]
        exact run_indexAt_arr hu hinf hlt
      · cases hq
    · rename_i ad n c i e hx hi hu
      split at hq
      · rename_i k inf hk hinf
        cases hq
        obtain ⟨kd, rfl, hlt⟩ := intIn_some hk
        have he2 := (ev_rel hT hG hi).inv_int
        obtain ⟨a', c', he, h1, _, _⟩ := (ev_rel hT hG hx).inv_slice
        obtain ⟨L, hm, hs, rfl, _⟩ := h1 (.inl (by omega))
        refine ⟨_, run_val ?_, VRel.ptr_add hm hs (k * inf.size)⟩
        rw [he, he2]
        exact run_indexAt_slice hu hinf hlt
      · cases hq
    · cases hq
  | index t x ix =>
    simp only [aq, aqPick, aqLoad, aqBuild, aqNil, aqBin, aqUn, aqConv, aqIface, aqFunc, aqSlice, aqFieldAddr, aqField, aqIndexAddr, aqIndex, aqExtract] at hq
    split at hq
    · rename_i cs i n e hx hi hu
      split at hq
      · rename_i k inf hk hinf
        obtain ⟨kd, rfl, hlt⟩ := intIn_some hk
        have he2 := (ev_rel hT hG hi).inv_int
        obtain ⟨cs', he, hr⟩ := (ev_rel hT hG hx).inv_agg
        obtain ⟨v', h1, h2⟩ := apart'_rel (w := w) hr hq
        refine ⟨v', run_val ?_, h2⟩
        simp only [Array.toArray_toList] at h1
        simp [Instr.index, run_underlying hu, he, he2, asIntOf, run_sizeOf hinf, h1]
        intro hc; omega
      · cases hq
    · rename_i s i hx hi hu
      split at hq
      · rename_i hpl
        have he := (ev_rel hT hG hx).inv_string
        have he2 := (ev_rel hT hG hi).inv_plain hpl
        obtain ⟨h1, h2⟩ := prunP_run w hq
        exact ⟨v, run_val (by rw [he, he2]; exact h1), .plain _ h2⟩
      · cases hq
    · cases hq
  | extract t ix =>
    simp only [aq, aqPick, aqLoad, aqBuild, aqNil, aqBin, aqUn, aqConv, aqIface, aqFunc, aqSlice, aqFieldAddr, aqField, aqIndexAddr, aqIndex, aqExtract] at hq
    split at hq
    · rename_i vs hx
      obtain ⟨cs', he, hr⟩ := (ev_rel hT hG hx).inv_tuple
      obtain ⟨v', h1, h2⟩ := hr.get (by simpa using hq)
      refine ⟨v', run_val ?_, h2⟩
      have h1' : cs'[ix]? = some v' := by simpa using h1
      simp [Instr.extract, he, h1']
    · cases hq
  | call c =>
    obtain ⟨callee, args, argTypes⟩ := c
    cases callee with
    | value f => simp only [aq, aqPick, aqLoad, aqBuild, aqNil, aqBin, aqUn, aqConv, aqIface, aqFunc, aqSlice, aqFieldAddr, aqField, aqIndexAddr, aqIndex, aqExtract] at hq; cases hq
    | invoke r s => simp only [aq, aqPick, aqLoad, aqBuild, aqNil, aqBin, aqUn, aqConv, aqIface, aqFunc, aqSlice, aqFieldAddr, aqField, aqIndexAddr, aqIndex, aqExtract] at hq; cases hq
    | builtin b =>
      simp only [aq, aqBuiltin, aqLen, aqCap, aqMax, aqMin] at hq
      have hone : ∀ {x : Operand}, args.toList = [x] → args = #[x] := fun e => Array.ext' (by simpa using e)
      split at hq
      · rename_i x hx
        obtain rfl := hone hx
        split at hq
        · rename_i p t hp ht
          have hr := ev_rel hT hG hp
          have hcall : ∀ {r : Value}, (Builtin.len_ argTypes type #[a.eval x]).run P w = .ok r w → (execOp a.eval ⟨dst, .call ⟨.builtin .len, #[x], argTypes⟩, type, pos, after, guard⟩).run P w = .ok (.value r) w := fun h => by
            simp [execOp, resolve, invoke, builtin, h]
          split at hq
          · rename_i s hu
            cases hq
            obtain he := hr.inv_string
            exact ⟨_, hcall (by simp [Builtin.len_, ht, he, run_underlying hu]), .plain _ rfl⟩
          · rename_i e b n c hu
            cases hq
            cases b with
            | none =>
              have he := hr.inv_snil
              exact ⟨_, hcall (by simp [Builtin.len_, ht, he, run_underlying hu]), .plain _ rfl⟩
            | some ad =>
              obtain ⟨_, _, he, _⟩ := hr.inv_slice
              exact ⟨_, hcall (by simp [Builtin.len_, ht, he, run_underlying hu]), .plain _ rfl⟩
          · rename_i n e hu
            cases hq
            exact ⟨_, hcall (by simp [Builtin.len_, ht, run_underlying hu]), .plain _ rfl⟩
          · cases hq
        · cases hq
      · rename_i x hx
        obtain rfl := hone hx
        split at hq
        · rename_i p t hp ht
          have hr := ev_rel hT hG hp
          have hcall : ∀ {r : Value}, (Builtin.cap_ argTypes type #[a.eval x]).run P w = .ok r w → (execOp a.eval ⟨dst, .call ⟨.builtin .cap, #[x], argTypes⟩, type, pos, after, guard⟩).run P w = .ok (.value r) w := fun h => by
            simp [execOp, resolve, invoke, builtin, h]
          split at hq
          · rename_i e b n c hu
            split at hq
            · rename_i hb
              rw [Nat.blt_eq] at hb
              cases hq
              cases b with
              | none =>
                have he := hr.inv_snil
                exact ⟨_, hcall (by simp [Builtin.cap_, ht, he, run_underlying hu]), .plain _ rfl⟩
              | some ad =>
                obtain ⟨_, c', he, _, h2, _⟩ := hr.inv_slice
                rw [h2 hb] at he
                exact ⟨_, hcall (by simp [Builtin.cap_, ht, he, run_underlying hu]), .plain _ rfl⟩
            · cases hq
          · rename_i n e hu
            cases hq
            exact ⟨_, hcall (by simp [Builtin.cap_, ht, run_underlying hu]), .plain _ rfl⟩
          · cases hq
        · cases hq
      · split at hq
        · rename_i vs hvs
          split at hq
          · rename_i hpl
            have he := LRel.all_plain (evs_rel hT hG hvs) hpl
            obtain ⟨h1, h2⟩ := prunP_run w hq
            refine ⟨v, ?_, .plain _ h2⟩
            have e : args.map a.eval = vs.toArray := by apply Array.ext'; simpa using he
            have h1' : (Builtin.max_ argTypes type vs.toArray).run P w = .ok v w := h1
            simp [execOp, resolve, invoke, builtin, e, h1']
          · cases hq
        · cases hq
      · split at hq
        · rename_i vs hvs
          split at hq
          · rename_i hpl
            have he := LRel.all_plain (evs_rel hT hG hvs) hpl
            obtain ⟨h1, h2⟩ := prunP_run w hq
            refine ⟨v, ?_, .plain _ h2⟩
            have e : args.map a.eval = vs.toArray := by apply Array.ext'; simpa using he
            have h1' : (Builtin.min_ argTypes type vs.toArray).run P w = .ok v w := h1
            simp [execOp, resolve, invoke, builtin, e, h1']
          · cases hq
        · cases hq
      · cases hq
  | _ => simp only [aq, aqPick, aqLoad, aqBuild, aqNil, aqBin, aqUn, aqConv, aqIface, aqFunc, aqSlice, aqFieldAddr, aqField, aqIndexAddr, aqIndex, aqExtract] at hq; cases hq

end
end Go.Abs
