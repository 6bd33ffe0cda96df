/-
  Regions that draw their order.
  Conditions: none; lemmas.
-/
import Derived.Test.YtcdhajbhpnbdkaaDoorPurRegion
set_option linter.unusedSimpArgs false
set_option linter.unusedVariables false
set_option linter.unusedSectionVars false
namespace Go.Pur
open Go.Abs

/-- An operation that notes what it reads or makes. -/
def marks (o : Oper) : Bool :=
  match o.op with
  | .load _ _ => true
  | op => Nat.beq (kindOf op) 1

theorem zip_mem {α : Type} {l : List α} {i : Nat} {o : α} (h : l[i]? = some o) : (o, i) ∈ l.zipIdx := by
  rw [List.mem_zipIdx_iff_getElem?]; exact h

theorem ordAll_get {ops : Array Oper} {q i : Nat} {o : Oper} (h : ordAll ops q = true) (ho : ops[i]? = some o) (hm : marks o = true) (hne : i ≠ q) : ordered ops i q = true := by
  have h1 := List.all_eq_true.1 h (o, i) (zip_mem (by simpa using ho))
  simp only [Bool.or_eq_true, Bool.not_eq_true'] at h1
  rcases h1 with (h1 | h1) | h1
  · exact absurd (Nat.eq_of_beq_eq_true h1) hne
  · exact h1
  · unfold marks at hm
    split at hm
    · rename_i he; rw [he] at h1; cases h1
    · rename_i hx
      split at h1
      · rename_i he; exact absurd he (hx _ _)
      · rw [hm] at h1; cases h1

theorem noMaker_get {ops : Array Oper} {k i : Nat} {o : Oper} (h : noMaker ops k = true) (ho : ops[i]? = some o) (hi : i < k) : kindOf o.op = 0 := by
  have h1 := List.all_eq_true.1 h (o, i) (zip_mem (by simpa using ho))
  simp only [Bool.or_eq_true] at h1
  rcases h1 with h1 | h1
  · exact absurd (Nat.le_of_ble_eq_true h1) (by omega)
  · exact Nat.eq_of_beq_eq_true h1
theorem noMaker_le {ops : Array Oper} {k : Nat} (h : noMaker ops (k + 1) = true) : noMaker ops k = true := by
  refine List.all_eq_true.2 fun p hp => ?_
  have h1 := List.all_eq_true.1 h p hp
  simp only [Bool.or_eq_true] at h1 ⊢
  rcases h1 with h1 | h1
  · exact .inl (Nat.ble_eq_true_of_le (by have := Nat.le_of_ble_eq_true h1; omega))
  · exact .inr h1

section
variable {P : Program} {Y : Pol} {f : FuncId} {B n nt : Nat} {ops : Array Oper}

structure DI (P : Program) (Y : Pol) (f : FuncId) (B n : Nat) (ops : Array Oper) (k : Nat) (C : Ctx) (h : AHeap) (σ : St) (tv : Tr Value) (rq rl : List (Nat × Nat)) : Prop where
  st : ST P Y f C h σ tv
  nx : B + ops.size ≤ h.next
  fr : ∀ id, Ids C id → id < B ∨ (∃ j, j < k ∧ id = B + j) ∨ B + ops.size ≤ id
  bo : ∀ b id, C.β b = some id → b < n → id < B
  nm : noMaker ops k = true → ∀ id, Ids C id → id < B
  len : n ≤ σ.hp.length
  lo : ∀ id t, C.ow id = some (.tmp t) → Y.keep f t = false → B + ops.size ≤ id
  rq : ∀ x ∈ rq, x.2 < B + ops.size ∧ ∃ o, ops[x.1]? = some o ∧ marks o = true
  rl : ∀ x ∈ rl, (B + ops.size ≤ x.2 ∨ ordAll ops x.1 = true) ∧ ∃ o, ops[x.1]? = some o ∧ marks o = false

theorem LOK.ids {C : Ctx} {hp : List (Option (List PV))} {h : AHeap} (hi : HI C h hp) {π : Option Pl} {k : Vl} {b : Nat} (hk : LOK C π k b) : Ids C b := by
  cases k with
  | fz => exact .inl (hi.fzx b hk)
  | bor => exact .inl hk.1
  | own => obtain ⟨p, _, h2⟩ := hk; exact .inr (.inl ⟨p, h2⟩)
  | rf p => exact .inr (.inl ⟨p, hk.1⟩)
  | pt p => exact .inr (.inl ⟨p, hk.1⟩)

/-- A block that is loaded was there ahead of the region. -/
theorem load_lt {call : PCallF} {C : Ctx} {h : AHeap} {σ σ' : St} {tv : Tr Value} {k : Nat} {rq rl : List (Nat × Nat)} {o : Oper} {v : PV} {b : Nat} (D : DI P Y f B n ops k C h σ tv rq rl) (hq : poper P Y f call (some ⟨ops, k, n⟩) o.op σ = some (v, σ'))
    (hb : loadBlock P o tv = some b) : b < B ∧ marks o = true := by
  unfold loadBlock at hb
  split at hb
  · rename_i t x hop
    rw [hop] at hq
    simp only [poper] at hq
    split at hq
    · rename_i u hu
      obtain ⟨x', h1, h2⟩ := pev_sim D.st.tr D.st.gr hu
      rw [h1] at hb
      split at hq
      · rename_i hm
        refine ⟨?_, by unfold marks; rw [hop]⟩
        unfold mayLoad at hm
        simp only [] at hm
        cases u with
        | p b' off =>
          obtain ⟨id, hβ, rfl⟩ := (h2 0).inv_p
          cases hb
          exact D.bo b' _ hβ (Nat.le_of_ble_eq_true hm)
        | r kk cs =>
          obtain ⟨a, Bk, rfl, _, _, hk, _⟩ := (h2 0).inv_r
          cases hb
          exact D.nm hm _ (hk.ids D.st.hi)
        | _ => simp [pload] at hq
      · cases hq
    · cases hq
  · cases hb

theorem get_m {h : AHeap} {i k : Nat} {b : Blk} : AHeap.get { h with m := h.m.set i (some b) } k = if k = i then some b else h.get k := by
  have := AHeap.get_put h i k (some b)
  exact this

theorem popsD_sim {call : PCallF} {ac : CallF} (hc : CallSim P Y call ac) (hreg : drawOK ops = true) : ∀ {l : List Oper} {k : Nat} {C : Ctx} {h : AHeap} {σ σ' : St} {tv : Tr Value} {rq rl : List (Nat × Nat)},
    (∀ j, l[j]? = ops[k + j]?) → k + l.length = ops.size → DI P Y f B n ops k C h σ tv rq rl → pops P Y f call true nt ops n k l σ = some σ' →
    ∃ C' h' tv' rq' rl', aopsD P ac nt B ops l k tv h rq rl = some (tv', h', rq', rl') ∧ DI P Y f B n ops ops.size C' h' σ' tv' rq' rl' ∧ Step (Y.keep f) (B ≤ ·) C h σ C' h' σ'
  | [], k, C, h, σ, σ', tv, rq, rl, hl, hk, D, hq => by
    cases hq
    have hke : k = ops.size := by simpa using hk
    subst hke
    refine ⟨C, h, tv, rq, rl, rfl, ⟨⟨D.st.sz, D.st.hi, fun t v hv => ?_, D.st.nl, D.st.gr⟩, D.nx, D.fr, D.bo, D.nm, D.len, D.lo, D.rq, D.rl⟩, (Step.refl _ _ _ _ _).same rfl rfl⟩
    refine D.st.tr t v ?_
    unfold look at hv ⊢
    cases hk : Y.keep f t with
    | true => simpa [hk] using hv
    | false => simp [hk, lget] at hv
  | o :: l, k, C, h, σ, σ', tv, rq, rl, hl, hk, D, hq => by
    have ho : ops[k]? = some o := by simpa using (hl 0).symm
    have hks : k < ops.size := (Array.getElem?_eq_some_iff.1 ho).1
    have hl' : ∀ j, l[j]? = ops[k + 1 + j]? := fun j => by
      have := hl (j + 1); simpa [Nat.add_assoc, Nat.add_comm 1 j] using this
    have hk' : k + 1 + l.length = ops.size := by simp at hk; omega
    have st := D.st
    have fr' : ∀ id, (id < B ∨ (∃ j, j < k ∧ id = B + j) ∨ B + ops.size ≤ id) → id < B ∨ (∃ j, j < k + 1 ∧ id = B + j) ∨ B + ops.size ≤ id := fun id h => by
      rcases h with h | ⟨j, h1, h2⟩ | h
      · exact .inl h
      · exact .inr (.inl ⟨j, by omega, h2⟩)
      · exact .inr (.inr h)
    simp only [pops] at hq
    split at hq
    · rename_i hw
      have hw' := pwanted_sim st hw
      split at hq
      · rename_i v σ1 hp
        rw [show drOf true ops k n = some ⟨ops, k, n⟩ from rfl] at hp
        split at hq
        · rename_i σ2 hput
          by_cases h0 : kindOf o.op = 0
          · -- it leaves the heap alone
            obtain ⟨C1, x1, k1, k2, k3, k4⟩ := kind0_sim st h0 hp
            obtain ⟨tv2, C2, p1, p2, p3⟩ := pputT_sim (σ1 := σ1) k2 (fun d _ => k4 d) hput
            have s2 := k3.trans p3 (N := fun _ => False) (fun _ h => h) (fun _ h => h)
            have ids2 : ∀ id, Ids C2 id → Ids C id := fun id hid => (s2.ids id hid).elim (fun h => h) (fun h => h.elim)
            cases hlb : loadBlock P o tv with
            | none =>
              have D2 : DI P Y f B n ops (k + 1) C2 h σ2 tv2 rq rl := ⟨p2, D.nx, fun id hid => fr' id (D.fr id (ids2 id hid)), fun b id hb hn => (s2.bnew b id hb).elim (fun h => D.bo b id h hn) (fun h => absurd D.len (by omega)),
                fun hnm id hid => D.nm (noMaker_le hnm) id (ids2 id hid), Nat.le_trans D.len s2.len, fun id t ho ht => (s2.loc id t ht ho).elim (fun h => D.lo id t h ht) (fun h => h.elim), D.rq, D.rl⟩
              obtain ⟨C3, h3, tv3, rq3, rl3, r1, r2, r3⟩ := popsD_sim hc hreg hl' hk' D2 hq
              refine ⟨C3, h3, tv3, rq3, rl3, ?_, r2, s2.trans r3 (fun _ h => h.elim) (fun _ h => h)⟩
              simp only [aopsD, hw', h0, k1, p1, hlb, r1]
            | some b =>
              obtain ⟨hbB, hmk⟩ := load_lt D hp hlb
              have D2 : DI P Y f B n ops (k + 1) C2 h σ2 tv2 ((k, b) :: rq) rl := ⟨p2, D.nx, fun id hid => fr' id (D.fr id (ids2 id hid)), fun b id hb hn => (s2.bnew b id hb).elim (fun h => D.bo b id h hn) (fun h => absurd D.len (by omega)),
                fun hnm id hid => D.nm (noMaker_le hnm) id (ids2 id hid), Nat.le_trans D.len s2.len, fun id t ho ht => (s2.loc id t ht ho).elim (fun h => D.lo id t h ht) (fun h => h.elim), fun x hx => (List.mem_cons.1 hx).elim (fun e => by subst e; exact ⟨by simp only []; omega, o, ho, hmk⟩) (D.rq x), D.rl⟩
              obtain ⟨C3, h3, tv3, rq3, rl3, r1, r2, r3⟩ := popsD_sim hc hreg hl' hk' D2 hq
              refine ⟨C3, h3, tv3, rq3, rl3, ?_, r2, s2.trans r3 (fun _ h => h.elim) (fun _ h => h)⟩
              simp only [aopsD, hw', h0, k1, p1, hlb, show Nat.blt b B = true from Nat.ble_eq_true_of_le hbB, r1]
          · by_cases h1 : kindOf o.op = 1
            · -- it makes a block
              have hfresh : ¬ Ids C (B + k) := fun hid => by
                rcases D.fr _ hid with h | ⟨j, h1, h2⟩ | h <;> omega
              obtain ⟨Bk, x1, k1, k2⟩ := new_sim st h1 hfresh hp
              have nh : NewH h (B + k) Bk { h with m := h.m.set (B + k) (some Bk) } := ⟨fun i => get_m, Nat.le_refl _, by have := D.nx; simp only []; omega, rfl⟩
              obtain ⟨C1, g1, g2, g3, g4⟩ := k2 _ nh
              obtain ⟨tv2, C2, p1, p2, p3⟩ := pputT_sim (σ1 := σ1) g1 (fun d _ => g3 d) hput
              have s2 := g2.trans p3 (N := (· = B + k)) (fun _ h => h) (fun _ h => h.elim)
              have hmk : marks o = true := by
                unfold marks
                split
                · rfl
                · rw [h1]; rfl
              have D2 : DI P Y f B n ops (k + 1) C2 { h with m := h.m.set (B + k) (some Bk) } σ2 tv2 ((k, B + k) :: rq) rl := ⟨p2, D.nx, fun id hid => (s2.ids id hid).elim (fun h => fr' id (D.fr id h)) (fun e => .inr (.inl ⟨k, by omega, e⟩)),
                fun b id hb hn => (s2.bnew b id hb).elim (fun h => D.bo b id h hn) (fun h => absurd D.len (by omega)),
                fun hnm => absurd (noMaker_get hnm ho (by omega)) h0, Nat.le_trans D.len s2.len, fun id t ho ht => D.lo id t (g4 id t ht ((p3.loc id t ht ho).elim (fun h => h) (fun h => h.elim))) ht, fun x hx => (List.mem_cons.1 hx).elim (fun e => by subst e; exact ⟨by simp only []; omega, o, ho, hmk⟩) (D.rq x), D.rl⟩
              obtain ⟨C3, h3, tv3, rq3, rl3, r1, r2, r3⟩ := popsD_sim hc hreg hl' hk' D2 hq
              refine ⟨C3, h3, tv3, rq3, rl3, ?_, r2, s2.trans r3 (fun id e => by omega) (fun _ h => h)⟩
              simp only [aopsD, hw', h1, k1, p1, r1]
            · -- it turns the heap
              have stL : ST P Y f C { h with low := h.next } σ tv := st.heap (fun _ => rfl) (Nat.le_refl _)
              obtain ⟨C1, h1', x1, k1, k2, k3, k4, k5⟩ := loud3_sim (o.dst.getD 0) hc stL h0 h1 hp
              have k2' : ST P Y f C1 { h1' with low := Nat.min h.low h1'.low } σ1 tv := k2.heap (fun _ => rfl) (Nat.le_refl _)
              have k4' := VR.heap (h := h1') (h' := { h1' with low := Nat.min h.low h1'.low }) (fun _ => rfl) k2.hi.fzx k4
              have k3' : Step (Y.keep f) (h.next ≤ ·) C h σ C1 { h1' with low := Nat.min h.low h1'.low } σ1 := by
                refine ⟨⟨k3.ext.sz, k3.ext.get, k3.ext.next, k3.ext.fz, k3.ext.fx, k3.ext.new, k3.ext.β⟩, k3.ids, k3.len, k3.bnew, k3.wlm, k3.loc, fun F hN l => ?_⟩
                have l0 : LP F C { h with low := h.next } σ.hp σ.wl := ⟨l.n0, l.base, fun hc => Nat.le_trans (Nat.min_le_right _ _) l.n0, l.mine, l.βm⟩
                have l1 := k3.lp F hN l0
                exact ⟨l1.n0, l1.base, fun hc => Nat.le_min.2 ⟨l.low (k3.wlm F hc), l1.low hc⟩, l1.mine, l1.βm⟩
              obtain ⟨tv2, C2, p1, p2, p3⟩ := pputT_sim (σ1 := σ1) k2' (fun d hd => by rw [hd] at k4'; exact k4') hput
              have s2 := k3'.trans p3 (N := (h.next ≤ ·)) (fun _ h => h) (fun _ h => h.elim)
              have hmk : marks o = false := by
                unfold marks
                split
                · rename_i he; rw [he] at h0; exact absurd rfl h0
                · exact Bool.eq_false_iff.2 fun e => h1 (Nat.eq_of_beq_eq_true e)
              have hlow : B + ops.size ≤ h1'.low ∨ ordAll ops k = true := by
                rcases k5 _ rfl with h2 | h2
                · exact .inr h2
                · exact .inl (h2 (B + ops.size) D.nx D.nx D.lo)
              have D2 : DI P Y f B n ops (k + 1) C2 { h1' with low := Nat.min h.low h1'.low } σ2 tv2 rq ((k, h1'.low) :: rl) := ⟨p2, Nat.le_trans D.nx k3.ext.next, fun id hid => (s2.ids id hid).elim (fun h => fr' id (D.fr id h)) (fun e => .inr (.inr (Nat.le_trans D.nx e))),
                fun b id hb hn => (s2.bnew b id hb).elim (fun h => D.bo b id h hn) (fun h => absurd D.len (by omega)),
                fun hnm => absurd (noMaker_get hnm ho (by omega)) h0, Nat.le_trans D.len s2.len, fun id t ho ht => (s2.loc id t ht ho).elim (fun h => D.lo id t h ht) (fun h => Nat.le_trans D.nx h), D.rq, fun x hx => (List.mem_cons.1 hx).elim (fun e => by subst e; exact ⟨hlow, o, ho, hmk⟩) (D.rl x)⟩
              obtain ⟨C3, h3, tv3, rq3, rl3, r1, r2, r3⟩ := popsD_sim hc hreg hl' hk' D2 hq
              refine ⟨C3, h3, tv3, rq3, rl3, ?_, r2, s2.trans r3 (fun id e => Nat.le_trans (by have := D.nx; omega) e) (fun _ h => h)⟩
              have hkk : ∃ kk, kindOf o.op = kk + 2 := ⟨kindOf o.op - 2, by omega⟩
              obtain ⟨kk, hkk⟩ := hkk
              simp only [aopsD, hw', hkk, k1, p1, r1]
        · cases hq
      · cases hq
    · rename_i hw
      have hw' := pwanted_sim st hw
      split at hq
      · rename_i σ1 hsk
        obtain ⟨tv2, p1, p2, p3⟩ := pskip_sim st hsk
        have D2 : DI P Y f B n ops (k + 1) C h σ1 tv2 rq rl := ⟨p2, D.nx, fun id hid => fr' id (D.fr id hid), D.bo, fun hnm => D.nm (noMaker_le hnm), Nat.le_trans D.len p3.len, D.lo, D.rq, D.rl⟩
        obtain ⟨C3, h3, tv3, rq3, rl3, r1, r2, r3⟩ := popsD_sim hc hreg hl' hk' D2 hq
        refine ⟨C3, h3, tv3, rq3, rl3, ?_, r2, p3.trans r3 (fun _ h => h.elim) (fun _ h => h)⟩
        simp only [aopsD, hw', p1, r1]
      · cases hq
    · cases hq

/-- Places that are forgotten between regions. -/
def locals (Y : Pol) (f : FuncId) : Pl → Bool
  | .tmp t => !(Y.keep f t)
  | .cell _ _ => false
def locC (Y : Pol) (f : FuncId) (C : Ctx) : Ctx := { C with ow := fun id => dropS (locals Y f) (C.ow id) }

theorem loc_sim {C : Ctx} {h : AHeap} {σ : St} {tv : Tr Value} (st : ST P Y f C h σ tv) : ST P Y f (locC Y f C) h { σ with ls := [] } tv ∧ Step (Y.keep f) (fun _ => False) C h σ (locC Y f C) h { σ with ls := [] } ∧
    ∀ id t, (locC Y f C).ow id = some (.tmp t) → Y.keep f t = true := by
  have ow : ∀ {id p}, (locC Y f C).ow id = some p → C.ow id = some p := fun h => (dropS_some.1 h).1
  have he : Ext C h (locC Y f C) h := ⟨rfl, fun _ _ => rfl, Nat.le_refl _, fun _ h => h, fun _ h => h, fun _ h => .inl h, fun _ _ h => h⟩
  have own : ∀ {π : Option Pl} {v : PV} {x : Value}, VR C h π v x → loose v = false → (∀ p, π = some p → locals Y f p = false) → VR (locC Y f C) h π v x := fun {π v x} hv hl hp =>
    VR.step (C := C) (C' := locC Y f C) rfl (fun _ _ h => h) (fun _ h => h) (fun _ h => h) st.hi.fzx (fun _ _ => rfl) (π := π) (π' := π) (fun t e => ⟨t, e⟩) hv (by
      cases v with
      | l k c n cs =>
        cases k with
        | own => exact fun id p h1 h2 => ⟨p, h1, dropS_some.2 ⟨h2, hp p h1⟩, rfl⟩
        | rf p => cases hl
        | pt p => cases hl
        | _ => trivial
      | r k cs =>
        cases k with
        | pt p => cases hl
        | _ => trivial
      | _ => trivial)
  refine ⟨⟨st.sz, ⟨st.hi.fzx, fun id hid => ⟨(st.hi.fxl id hid).1, by show dropS _ _ = none; rw [(st.hi.fxl id hid).2]; rfl⟩, fun id p hid => st.hi.owl id p (ow hid), fun b id hb => ?_, st.hi.inj, fun b cs hb => ?_, st.hi.rf⟩, fun t v hv => ?_, st.nl, st.gr.ext st.hi.fzx he⟩,
    ⟨he, fun id hid => .inl ?_, Nat.le_refl _, fun _ _ h => .inl h, fun _ h => h, fun _ _ _ ho => .inl (ow ho), fun F _ l => ⟨l.n0, l.base, l.low, fun hc id p hid => l.mine hc id p (ow hid), l.βm⟩⟩, fun id t hid => ?_⟩
  · obtain ⟨a1, a2, a3, a4⟩ := st.hi.βl b id hb
    exact ⟨a1, a2, by show dropS _ _ = none; rw [a3]; rfl, a4⟩
  · obtain ⟨id, B, h1, h2, h3, h4, h5, h6⟩ := st.hi.blk b cs hb
    refine ⟨id, B, h1, h2, h3, h4, h5, fun i hi => ?_⟩
    have h7 := h6 i hi
    rcases h7.cell_firm with e | ⟨k, c, e1, e2⟩
    · exact own h7 e (fun p e => by cases e; rfl)
    · rw [e1, e2]; exact .nil _ _ _
  · unfold look at hv
    split at hv
    · rename_i hk
      exact own (st.tr t v (by unfold look; rw [hk]; exact hv)) (st.nl t v hk hv) (fun p e => by cases e; simp [locals, hk])
    · cases hv
  · rcases hid with hid | ⟨p, hid⟩ | hid
    · exact .inl hid
    · exact .inr (.inl ⟨p, ow hid⟩)
    · exact .inr (.inr hid)
  · have := (dropS_some.1 hid).2
    simpa [locals] using this

/-- A region. -/
theorem preg_sim {call : PCallF} {ac : CallF} {draw : Bool} {C : Ctx} {h : AHeap} {σ σ' : St} {tv : Tr Value} (hc : CallSim P Y call ac) (hreg : draw = true → drawOK ops = true) (st : ST P Y f C h σ tv) (hq : pops P Y f call draw nt ops σ.hp.length 0 ops.toList { σ with ls := [] } = some σ') :
    ∃ C' h' tv', (match draw with
      | false => aops P ac nt ops ops.toList tv h
      | true => aregD P ac nt ops tv h) = some (tv', h') ∧ ST P Y f C' h' σ' tv' ∧ Step (Y.keep f) (h.next ≤ ·) C h σ C' h' σ' := by
  obtain ⟨st1, t1, l1⟩ := loc_sim st
  cases draw with
  | false =>
    obtain ⟨C', h', tv', r1, r2, r3⟩ := pops_sim hc st1 hq
    exact ⟨C', h', tv', r1, r2, t1.trans r3 (fun _ h => h.elim) (fun _ h => h)⟩
  | true =>
    have hreg := hreg rfl
    have D0 : DI P Y f h.next σ.hp.length ops 0 (locC Y f C) { h with next := h.next + ops.size } { σ with ls := [] } tv [] [] := by
      have ids : ∀ id, Ids (locC Y f C) id → id < h.next := fun id hid => hid.lt st1.hi
      exact ⟨st1.heap (fun _ => rfl) (Nat.le_add_right _ _), Nat.le_refl _, fun id hid => .inl (ids id hid), fun b id hb _ => ids id (.inr (.inr ⟨b, hb⟩)), fun _ => ids, Nat.le_refl _, (fun id t ho hk => by rw [l1 id t ho] at hk; cases hk), (fun _ h => by cases h), (fun _ h => by cases h)⟩
    obtain ⟨C', h', tv', rq, rl, h1, D, s⟩ := popsD_sim hc hreg (fun j => by simp) (by simp) D0 hq
    refine ⟨C', h', tv', ?_, D.st, ?_⟩
    · simp only [aregD, hreg, h1]
      rw [show stable ops rq rl = true from ?_]
      unfold stable
      refine List.all_eq_true.2 fun x hx => List.all_eq_true.2 fun y hy => ?_
      obtain ⟨a1, o1, a2, a3⟩ := D.rq x hx
      obtain ⟨b1, o2, b2, b3⟩ := D.rl y hy
      simp only [Bool.or_eq_true]
      rcases b1 with b1 | b1
      · exact .inl (Nat.ble_eq_true_of_le (by omega))
      · refine .inr (ordAll_get b1 a2 a3 (fun e => ?_))
        rw [e, b2] at a2
        cases a2
        rw [a3] at b3; cases b3
    · refine t1.trans (N2 := (h.next ≤ ·)) ⟨⟨s.ext.sz, s.ext.get, Nat.le_trans (Nat.le_add_right _ _) s.ext.next, s.ext.fz, s.ext.fx, s.ext.new, s.ext.β⟩, s.ids, s.len, s.bnew, s.wlm, s.loc, fun F hN l => ?_⟩ (fun _ h => h.elim) (fun _ h => h)
      exact s.lp F hN ⟨Nat.le_trans l.n0 (Nat.le_add_right _ _), l.base, l.low, l.mine, l.βm⟩
end
end Go.Pur
