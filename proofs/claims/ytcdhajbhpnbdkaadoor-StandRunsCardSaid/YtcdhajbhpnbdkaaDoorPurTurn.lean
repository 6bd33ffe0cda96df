/-
  Operations that turn blocks: store, append, copy.
  Conditions: none; lemmas.
-/
import Derived.Test.YtcdhajbhpnbdkaaDoorPurNew
set_option linter.unusedSimpArgs false
set_option linter.unusedVariables false
set_option linter.unusedSectionVars false
namespace Go.Pur
open Go.Abs
section
variable {P : Program} {Y : Pol} {f : FuncId} {C C' : Ctx} {h h' : AHeap} {σ σ' : St} {tv : Tr Value} {id : Nat} {B : Blk}

theorem spliceR_of : ∀ (n : Nat) (acc vs l : List Value), n + vs.length ≤ l.length → spliceR n acc vs l = some (acc.reverse ++ (l.take n ++ (vs ++ l.drop (n + vs.length))))
  | 0, acc, vs, l, hl => by
    simp only [spliceR, Nat.ble_eq_true_of_le (show vs.length ≤ l.length by omega)]
    simp [List.reverseAux_eq]
  | n + 1, acc, vs, [], hl => by simp at hl
  | n + 1, acc, vs, x :: l, hl => by
    simp only [spliceR]
    rw [spliceR_of n (x :: acc) vs l (by simp at hl; omega), show n + 1 + vs.length = (n + vs.length) + 1 by omega]
    simp
theorem splice_of {n : Nat} {vs l : List Value} (hl : n + vs.length ≤ l.length) : splice n vs l = some (l.take n ++ (vs ++ l.drop (n + vs.length))) := by
  unfold splice
  rw [spliceR_of n [] vs l hl]; rfl

theorem getD_splice3 {α : Type} (l vs : List α) (n i : Nat) (d : α) (hn : n + vs.length ≤ l.length) : (l.take n ++ (vs ++ l.drop (n + vs.length))).getD i d = if n ≤ i ∧ i < n + vs.length then vs.getD (i - n) d else l.getD i d := by
  have hm : (l.take n).length = n := by rw [List.length_take]; omega
  simp only [List.getD_eq_getElem?_getD]
  by_cases h1 : i < n
  · rw [List.getElem?_append_left (by omega), List.getElem?_take, if_pos h1, if_neg (by omega)]
  · rw [List.getElem?_append_right (by omega), hm]
    by_cases h2 : i < n + vs.length
    · rw [List.getElem?_append_left (by omega), if_pos ⟨by omega, h2⟩]
    · rw [List.getElem?_append_right (by omega), List.getElem?_drop, if_neg (by omega), show n + vs.length + (i - n - vs.length) = i by omega]

theorem put_sim {b off : Nat} {vs : List PV} {ys : List Value} (st : ST P Y f C h σ tv) (hβ : C.β b = some id) (hq : pput b off vs σ = some σ') (hlen : ys.length = vs.length) (hone : ∀ y ∈ ys, y.oneCell' = true) (hrf : ∀ v ∈ vs, refsTo b v = true)
    (hv : ∀ i, i < vs.length → VR C h (some (.cell b (off + i))) (vs.getD i .dead) (ys.getD i undef)) :
    ∃ h', aput h ⟨id, off, none⟩ ys = some h' ∧ ST P Y f C h' σ' tv ∧ Step (Y.keep f) (fun _ => False) C h σ C h' σ' ∧ Old C C h h' := by
  unfold pput at hq
  split at hq
  · rename_i cs hb
    split at hq
    · rename_i cs' hsp
      cases hq
      unfold spliceP at hsp
      split at hsp
      · rename_i hle
        cases hsp
        have hle := Nat.le_of_ble_eq_true hle
        obtain ⟨id', B, h1, h2, h3, h4, h5, h6⟩ := st.hi.blk b cs hb
        rw [hβ] at h1; cases h1
        obtain ⟨g1, g2, g3, g4⟩ := st.hi.βl b id hβ
        have hlt : b < σ.hp.length := g4
        have hspl := splice_of (n := off) (vs := ys) (l := B.cells) (by omega)
        have hnew : (B.cells.take off ++ (ys ++ B.cells.drop (off + ys.length))).length = cs.length := by
          simp only [List.length_append, List.length_take, List.length_drop]; omega
        have hnew' : (cs.take off ++ vs ++ cs.drop (off + vs.length)).length = cs.length := by
          simp only [List.length_append, List.length_take, List.length_drop]; omega
        obtain ⟨N, hN⟩ : ∃ N, N = B.cells.take off ++ (ys ++ B.cells.drop (off + ys.length)) := ⟨_, rfl⟩
        rw [← hN] at hspl hnew
        have hget : ∀ k, (h.put id (some { B with cells := N })).get k = if k = id then some { B with cells := N } else h.get k := fun k => AHeap.get_put _ _ _ _
        have o : Old C C h (h.put id (some { B with cells := N })) := ⟨rfl, fun _ _ h => h, fun _ h => h, fun _ h => h, fun _ _ h => h, fun k hk => by
          rw [hget, if_neg]
          rintro rfl
          rcases hk with hk | ⟨p, hk⟩
          · exact g2 hk
          · rw [g3] at hk; cases hk⟩
        refine ⟨h.put id (some { B with cells := N }), ?_, ?_, ⟨o.ext (Nat.le_refl _) (fun _ h => .inl h), fun _ h => .inl h, by simp, fun _ _ h => .inl h, fun F hc => (cleanW_low hc).1, fun _ _ _ h => .inl h, fun F _ l => ?_⟩, o⟩
        · unfold aput
          simp only [h2, h3, show ys.all (·.oneCell') = true from List.all_eq_true.2 hone, hspl]
        · refine Old.st st o (Nat.le_refl _) (fun _ h => .inl h) ⟨st.hi.fzx, st.hi.fxl, st.hi.owl, fun b' k hk => ?_, st.hi.inj, fun b' ds hb' => ?_, fun b' ds hb' v hv' => ?_⟩
          · obtain ⟨e1, e2, e3, e4⟩ := st.hi.βl b' k hk
            exact ⟨e1, e2, e3, by simpa using e4⟩
          · by_cases e : b = b'
            · subst e
              rw [List.getElem?_set_self hlt] at hb'
              cases hb'
              refine ⟨id, { B with cells := N }, hβ, by rw [hget, if_pos rfl], h3, h4, by rw [hnew']; exact hnew, fun i hi => ?_⟩
              rw [List.append_assoc, getD_splice3 cs vs off i .dead hle]
              have hgN : N.getD i undef = if off ≤ i ∧ i < off + vs.length then ys.getD (i - off) undef else B.cells.getD i undef := by
                rw [hN, getD_splice3 B.cells ys off i undef (by omega), hlen]
              show VR C _ _ _ (N.getD i undef)
              rw [hgN]
              split
              · rename_i hin
                have := hv (i - off) (by omega)
                rw [show off + (i - off) = i by omega] at this
                exact this.old st.hi.fzx o
              · exact (h6 i (by rw [hnew'] at hi; exact hi)).old st.hi.fzx o
            · rw [List.getElem?_set_ne e] at hb'
              obtain ⟨id2, B2, k1, k2, k3, k4, k5, k6⟩ := st.hi.blk b' ds hb'
              have hne : id2 ≠ id := fun e2 => e (st.hi.inj b b' id hβ (by rw [← e2]; exact k1))
              exact ⟨id2, B2, k1, by rw [hget, if_neg hne]; exact k2, k3, k4, k5, fun i hi => (k6 i hi).old st.hi.fzx o⟩
          · by_cases e : b = b'
            · subst e
              rw [List.getElem?_set_self hlt] at hb'
              cases hb'
              rcases List.mem_append.1 hv' with hv' | hv'
              · rcases List.mem_append.1 hv' with hv' | hv'
                · exact st.hi.rf b cs hb v (List.mem_of_mem_take hv')
                · exact hrf v hv'
              · exact st.hi.rf b cs hb v (List.mem_of_mem_drop hv')
            · rw [List.getElem?_set_ne e] at hb'
              exact st.hi.rf b' ds hb' v hv'
        · refine ⟨l.n0, by simpa using l.base, fun hc => ?_, fun hc => l.mine (cleanW_low hc).1, fun hc => l.βm (cleanW_low hc).1⟩
          obtain ⟨c1, c2⟩ := cleanW_low hc
          have a1 := l.low c1
          have a2 := l.βm c1 b id hβ c2
          show Nat.min F.l0 F.n0 ≤ Nat.min h.low id
          have : Nat.min F.l0 F.n0 ≤ F.n0 := Nat.min_le_right _ _
          exact Nat.le_min.2 ⟨a1, Nat.le_trans this a2⟩
      · cases hsp
    · cases hq
  · cases hq

/-- A block that nothing stands for any more goes. -/
theorem kill_sim {k : Nat} (st : ST P Y f C h σ tv) (hk : ¬ Ids C k) : ST P Y f C (h.put k none) σ tv ∧ Ext C h C (h.put k none) := by
  have hget : ∀ j, Ids C j → (h.put k none).get j = h.get j := fun j hj => by
    rw [AHeap.get_put, if_neg (show ¬ j = k from fun e => hk (e ▸ hj))]
  have o : Old C C h (h.put k none) := ⟨rfl, fun _ _ h => h, fun _ h => h, fun _ h => h, fun _ _ h => h, fun j hj => hget j (hj.elim .inl (fun h => .inr (.inl h)))⟩
  have := Old.st (hp' := σ.hp) (wl' := σ.wl) st o (Nat.le_refl _) (fun _ h => .inl h) ⟨st.hi.fzx, st.hi.fxl, st.hi.owl, st.hi.βl, st.hi.inj, fun b cs hb => st.hi.old_blk o (fun b j hj => hget j (.inr (.inr ⟨b, hj⟩))) hb, st.hi.rf⟩
  exact ⟨this, o.ext (Nat.le_refl _) (fun _ h => .inl h)⟩

/-! ### What is appended or copied -/
theorem lr_one {cs : List PV} {l : List Value} {π : Option Pl} (hr : LR C h π cs l) (h1 : ∀ v ∈ cs, cellOK v = true) : l.all (·.oneCell') = true := by
  refine List.all_eq_true.2 fun y hy => ?_
  obtain ⟨i, hi, rfl⟩ := List.getElem_of_mem hy
  have hi' : i < cs.length := by rw [← hr.1]; exact hi
  have h2 := hr.2 i hi'
  rw [List.getD_eq_getElem?_getD, List.getElem?_eq_getElem hi', List.getD_eq_getElem?_getD, List.getElem?_eq_getElem hi] at h2
  have h3 := h1 _ (List.getElem_mem hi')
  simp only [cellOK, Bool.and_eq_true] at h3
  exact one_oneCell h2 h3.1

theorem src_fits {tx : TypeId} {x : PV} {x' : Value} {n : Nat} (hf : srcFits P tx x = true) (hx : VA C h x x') (hl : psrcLen x = some n) : ∃ dx, P.underlying tx = some dx ∧ isSrcT dx x' = true ∧ srcLen x' = some n := by
  unfold srcFits at hf
  split at hf
  · rename_i k c m cs e sz hsh
    obtain ⟨hu, _⟩ := shape_slice hsh
    simp only [psrcLen, Option.some.injEq] at hl
    subst hl
    rcases (hx 0).inv_l with ⟨rfl, rfl, rfl⟩ | ⟨a, cap, B, rfl, _⟩ <;> exact ⟨_, hu, rfl, rfl⟩
  · rename_i b o m c e sz hsh
    obtain ⟨hu, _⟩ := shape_slice hsh
    simp only [psrcLen, Option.some.injEq] at hl
    subst hl
    obtain ⟨id, _, rfl, _⟩ := (hx 0).inv_s
    exact ⟨_, hu, rfl, rfl⟩
  · rename_i y hsh
    have hu := shape_string hsh
    cases y <;> simp [psrcLen] at hl
    subst hl
    obtain ⟨rfl, _⟩ := (hx 0).inv_v
    exact ⟨_, hu, rfl, rfl⟩
  · cases hf

theorem psrc_sim {sz n : Nat} {x : PV} {x' : Value} {new : List PV} (st : ST P Y f C h σ tv) (hx : VA C h x x') (hn : n ≠ 0) (hle : ∀ m, psrcLen x = some m → n ≤ m) (hq : psrc sz n x σ = some new) :
    ∃ ys, srcCells sz n x' h = some ys ∧ LR C h none new ys ∧ (∀ v ∈ new, cellOK v = true) := by
  unfold psrc at hq
  split at hq
  · rename_i k c m cs
    obtain ⟨rfl, hlen⟩ := takeP_some hq
    have hm : m ≠ 0 := by
      have := hle m rfl
      omega
    rcases (hx 0).inv_l with ⟨rfl, _⟩ | ⟨a, cap, B, rfl, hb, hs, hk, hnn, hc, hl, hr⟩
    · exact absurd rfl hm
    · have h1 := hr.take (n * sz)
      rw [List.take_take, Nat.min_eq_left hlen] at h1
      have hone : ∀ v ∈ cs.take (n * sz), cellOK v = true := fun v hv => hc.one v (List.mem_of_mem_take hv)
      refine ⟨_, ?_, h1, hone⟩
      simp only [srcCells, cellsAt, hb]
      rw [takeN_of (show n * sz ≤ (B.cells.drop a.off).length by simp; omega)]
      simp only [lr_one h1 hone]
  · rename_i b off m c
    split at hq
    · rename_i cs hb
      split at hq
      · rename_i r htk
        split at hq
        · rename_i hok
          cases hq
          obtain ⟨rfl, hlen⟩ := takeP_some htk
          obtain ⟨id, hβ, rfl, _⟩ := (hx 0).inv_s
          obtain ⟨id', B, h1, h2, h3, h4, h5, h6⟩ := st.hi.blk b cs hb
          rw [hβ] at h1; cases h1
          have hone : ∀ v ∈ (cs.drop off).take (n * sz), cellOK v = true := fun v hv => List.all_eq_true.1 hok v hv
          have hr : LR C h none ((cs.drop off).take (n * sz)) ((B.cells.drop off).take (n * sz)) := by
            refine LR.of_get (by simp; omega) (fun i v v' e1 e2 => ?_)
            have hmem := List.mem_of_getElem? e1
            rw [List.getElem?_take, List.getElem?_drop] at e1 e2
            split at e1
            · rw [if_pos ‹_›] at e2
              have hi := (List.getElem?_eq_some_iff.1 e1).1
              have h7 := h6 (off + i) hi
              rw [List.getD_eq_getElem?_getD, e1, List.getD_eq_getElem?_getD, e2] at h7
              refine h7.cell_in ?_
              have h8 := hone v hmem
              cases v with
              | l k c n cs => cases k <;> first | rfl | simp [cellOK, noref] at h8
              | _ => rfl
            · cases e1
          refine ⟨_, ?_, hr, hone⟩
          simp only [srcCells, cellsAt, h2]
          rw [takeN_of (show n * sz ≤ (B.cells.drop off).length by simp at hlen ⊢; omega)]
          simp only [lr_one hr hone]
        · cases hq
      · cases hq
    · cases hq
  · rename_i s
    split at hq
    · rename_i hb
      cases hq
      obtain ⟨rfl, _⟩ := (hx 0).inv_v
      refine ⟨s.data.toList.map fun b => .int .u8 b.toNat, by simp only [srcCells, hb], LR.of_get (by simp) (fun i v v' e1 e2 => ?_), fun v hv => ?_⟩
      · rw [List.getElem?_map] at e1 e2
        obtain ⟨w, hw, rfl⟩ := Option.map_eq_some_iff.1 e1
        rw [hw] at e2
        cases e2
        exact .v _ _ rfl (fun _ _ e => by cases e)
      · obtain ⟨w, _, rfl⟩ := List.mem_map.1 hv
        rfl
    · cases hq
  · cases hq

/-! ### append -/
theorem lim_of {m by_ sz : Nat} (hb : Nat.ble (m * (by_ + sz + 1)) limit = true) : m < unkCap := by
  have := Nat.le_of_ble_eq_true hb
  have h9 : m ≤ m * (by_ + sz + 1) := Nat.le_mul_of_pos_right _ (by omega)
  exact Nat.lt_of_le_of_lt (Nat.le_trans h9 this) (by decide)

theorem own_new {cs : List PV} {ys : List Value} {e : TypeId} {m d : Nat} {C2 : Ctx} {h2 : AHeap} (hsz : C2.sz = P.cellsOf) (ho : C2.ow id = some (.tmp d)) (hg : h2.get id = some ⟨ys, e, true, true⟩) (hr : LR C2 h2 none cs ys) (hone : ∀ v ∈ cs, cellOK v = true)
    (hm : m < unkCap) (hm0 : m ≠ 0) (hu : P.cellsOf e * m = cs.length) : VR C2 h2 (some (.tmp d)) (.l .own .nz m cs) (.slice (some ⟨id, 0, none⟩) m unkCap) := by
  refine .lst_of (a := ⟨id, 0, none⟩) hg rfl ⟨_, rfl, ho⟩ hm ⟨(fun e => by cases e), fun _ => hm0, fun e => absurd e (Nat.lt_irrefl _), .inr (.inl rfl), fun _ => ⟨rfl, rfl, rfl, rfl, hr.1, by rw [hsz]; exact hu, hm0⟩, hone⟩ ?_ ?_
  · simp only []; rw [hr.1]; omega
  · simp only [List.drop_zero]; rw [← hr.1, List.take_length]; exact hr

theorem alloc_new (h : AHeap) (B : Blk) : NewH h h.next B (h.alloc B) := ⟨fun k => AHeap.get_alloc _ _ _, Nat.le_succ _, Nat.lt_succ_self _, rfl⟩
theorem next_fresh {hp : List (Option (List PV))} (hi : HI C h hp) : ¬ Ids C h.next := fun hid => absurd (hid.lt hi) (Nat.lt_irrefl _)

theorem pgrow_sim {e : TypeId} {sz n by_ m : Nat} {z : Value} {s v : PV} {s' : Value} {new : List PV} {ys : List Value} (d : Nat) (st : ST P Y f C h σ tv) (hs : VA C h s s') (hm : psrcLen s = some m) (hce : P.cellsOf e = sz) (hn : n ≠ 0) (hnl : new.length = n * sz)
    (hr : LR C h none new ys) (hone : ∀ v ∈ new, cellOK v = true) (hrf : ∀ b, ∀ v ∈ new, refsTo b v = true) (hlim : Nat.ble ((m + n) * (by_ + sz + 1)) limit = true) (hz : Nat.beq (vcells z).length sz = true) (hq : pgrow Y f sz s n new σ = some (v, σ')) :
    ∃ C' h' x', agrow P.cellsOf sz by_ z e s' n ys h = some (x', h') ∧ ST P Y f C' h' σ' tv ∧ Step (Y.keep f) (h.next ≤ ·) C h σ C' h' σ' ∧ VR C' h' (some (.tmp d)) v x' ∧
      (elder Y f s = false → ∀ X, X ≤ h.low → (∀ id t, C.ow id = some (.tmp t) → Y.keep f t = false → X ≤ id) → X ≤ h'.low) := by
  have hys : ys.length = n * sz := by rw [hr.1, hnl]
  -- a new list
  have fresh : ∀ {C1 : Ctx} {h1 : AHeap} {σ1 : St} {old : List PV} {os : List Value} {k : Nat}, ST P Y f C1 h1 σ1 tv → Step (Y.keep f) (fun _ => False) C h σ C1 h1 σ1 → h1.next = h.next → LR C1 h1 none old os → (∀ v ∈ old, cellOK v = true) → old.length = k * sz → k + n < unkCap → LR C1 h1 none new ys →
      ∃ C', ST P Y f C' (h1.alloc ⟨os ++ ys, e, true, true⟩) σ1 tv ∧ Step (Y.keep f) (h.next ≤ ·) C h σ C' (h1.alloc ⟨os ++ ys, e, true, true⟩) σ1 ∧ VR C' (h1.alloc ⟨os ++ ys, e, true, true⟩) (some (.tmp d)) (.l .own .nz (k + n) (old ++ new)) (.slice (some ⟨h1.next, 0, none⟩) (k + n) unkCap) := by
    intro C1 h1 σ1 old os k s1 t1 hnx ho hoo hol hlt hr1
    obtain ⟨s2, t2, o2⟩ := newOw_sim (.tmp d) s1 (next_fresh s1.hi) (alloc_new h1 ⟨os ++ ys, e, true, true⟩)
    refine ⟨_, s2, t1.trans t2 (fun _ h => h.elim) (fun k hk => by rw [hk, hnx]; exact Nat.le_refl _), own_new s2.sz (by show (if _ = _ then _ else _) = _; rw [if_pos rfl]) (by rw [AHeap.get_alloc, if_pos rfl]) ?_ ?_ hlt (by omega) ?_⟩
    · have h0 := ho.append hr1
      exact ⟨h0.1, fun i hi => (h0.2 i hi).old s1.hi.fzx o2⟩
    · intro v hv
      rcases List.mem_append.1 hv with hv | hv
      · exact hoo v hv
      · exact hone v hv
    · rw [List.length_append, hol, hnl, hce, ← Nat.add_mul, Nat.mul_comm]
  unfold pgrow at hq
  split at hq
  · -- nil
    cases hq
    obtain ⟨_, _, rfl⟩ := hs.own
    simp only [psrcLen, Option.some.injEq] at hm
    subst hm
    rw [Nat.zero_add] at hlim
    obtain ⟨C', s2, t2, r2⟩ := fresh (old := []) (os := []) (k := 0) st (.refl _ _ _ _ _) rfl (LR.nil _ _ _) (fun _ h => by cases h) (by simp) (by rw [Nat.zero_add]; exact lim_of hlim) hr
    simp only [List.nil_append, Nat.zero_add] at s2 t2 r2
    refine ⟨C', _, _, ?_, s2, t2, r2, fun _ X hX _ => hX⟩
    simp only [agrow]
    rw [show (Nat.beq 0 0 && Nat.beq 0 0 && Nat.ble (n * (by_ + sz + 1)) limit && Nat.beq (vcells z).length sz) = true by
      simp only [Bool.and_eq_true]; exact ⟨⟨⟨rfl, rfl⟩, hlim⟩, hz⟩]
  · -- a list that is owned
    rename_i p c k cs
    split at hq
    · rename_i σ1 hcl htk
      cases hq
      simp only [psrcLen, Option.some.injEq] at hm
      subst hm
      have hcl := Nat.eq_of_beq_eq_true hcl
      obtain ⟨s1, t1, _, _⟩ := take_sim none (fun d e => by cases e) st htk
      have nest1 : ∀ {cs : List PV} {l : List Value}, LR C h none cs l → LR (moveC C p none) h none cs l := fun hl => ⟨hl.1, fun i hi => VR.nest (C := C) (C' := moveC C p none) (fun _ _ h => h) (fun _ h => h) (fun _ _ => rfl) (hl.2 i hi) rfl⟩
      rcases (hs 0).inv_l with ⟨rfl, rfl, rfl⟩ | ⟨a, cap, B, rfl, hb, hsp, hk, hnn, hc, hl, hrr⟩
      · -- nothing in it
        rw [Nat.zero_add] at hlim
        obtain ⟨C', s2, t2, r2⟩ := fresh (old := []) (os := []) (k := 0) s1 t1 rfl (LR.nil _ _ _) (fun _ h => by cases h) (by simp) (by rw [Nat.zero_add]; exact lim_of hlim) (nest1 hr)
        refine ⟨C', _, _, ?_, s2, t2, r2, fun _ X hX _ => hX⟩
        simp only [agrow, List.nil_append]
        rw [show (Nat.beq 0 0 && Nat.beq 0 0 && Nat.ble (n * (by_ + sz + 1)) limit && Nat.beq (vcells z).length sz) = true by
          simp only [Bool.and_eq_true]; exact ⟨⟨⟨rfl, rfl⟩, hlim⟩, hz⟩]
        simp only [Nat.zero_add]
      · obtain ⟨ho, _⟩ := hk
        obtain ⟨h00, rfl, hunk, hwr, hlen, hunit, hm0⟩ := hc.mine rfl
        rw [h00, List.drop_zero] at hrr
        have hcells : B.cells.take cs.length = B.cells := by rw [← hlen, List.take_length]
        rw [hcells] at hrr
        -- the old block goes
        have hg1 : ¬ Ids (moveC C p none) a.block := by
          rintro (hid | ⟨q, hid⟩ | ⟨b, hid⟩)
          · have := (st.hi.fxl a.block hid).2
            rw [ho] at this; cases this
          · rcases moveP_of hid with ⟨_, h2⟩ | ⟨h1, h2⟩
            · cases h2
            · rw [ho] at h1; cases h1; exact h2 rfl
          · have := (st.hi.βl b a.block hid).2.2.1
            rw [ho] at this; cases this
        obtain ⟨s2, e2⟩ := kill_sim s1 hg1
        have t2 : Step (Y.keep f) (fun _ => False) C h σ (moveC C p none) (h.put a.block none) σ' := by
          refine ⟨t1.ext.trans e2, t1.ids, t1.len, t1.bnew, t1.wlm, t1.loc, fun F hN l => ?_⟩
          have l1 := t1.lp F hN l
          refine ⟨l1.n0, l1.base, fun hc => ?_, l1.mine, l1.βm⟩
          have a1 := l1.low hc
          have hcl : cleanW F (lowP σ.wl p) := by
            unfold take at htk
            split at htk
            · cases htk; rwa [setPl_wl] at hc
            · cases htk
          obtain ⟨c1, c2⟩ := cleanW_lowP hcl
          have a2 := l.mine c1 a.block p ho c2
          have : Nat.min F.l0 F.n0 ≤ F.n0 := Nat.min_le_right _ _
          exact Nat.le_min.2 ⟨a1, Nat.le_trans this a2⟩
        have nest2 : ∀ {cs : List PV} {l : List Value}, LR C h none cs l → LR (moveC C p none) (h.put a.block none) none cs l := fun hl => ⟨hl.1, fun i hi => VR.nest t2.ext.β t2.ext.fz (fun id hid => t2.ext.get id (st.hi.fzx id hid)) (hl.2 i hi) rfl⟩
        obtain ⟨C', s3, t3, r3⟩ := fresh (h1 := h.put a.block none) (k := k) s2 t2 rfl (nest2 hrr) hc.one hcl (lim_of hlim) (nest2 hr)
        refine ⟨C', _, _, ?_, s3, t3, r3, fun he X hX hl => Nat.le_min.2 ⟨hX, by
          cases p with
          | tmp t => exact hl a.block t ho he
          | cell b i => cases he⟩⟩
        have hul : P.cellsOf B.elem = sz := by
          rw [st.sz, hcl, Nat.mul_comm k sz] at hunit
          exact Nat.eq_of_mul_eq_mul_right (Nat.pos_of_ne_zero hm0) hunit
        simp only [agrow]
        rw [show (Nat.ble ((k + n) * (by_ + sz + 1)) limit && Nat.beq (vcells z).length sz) = true by simp only [Bool.and_eq_true]; exact ⟨hlim, hz⟩]
        simp only [show Nat.blt unkCap unkCap = false from Bool.eq_false_iff.2 (fun e => absurd (Nat.le_of_ble_eq_true e) (Nat.lt_irrefl _)), show Nat.beq unkCap unkCap = true from Nat.beq_refl _, hb]
        rw [show (B.unk && Nat.beq B.cells.length (k * sz) && Nat.beq (P.cellsOf B.elem) sz && Nat.blt a.block h.next && B.wr) = true by
          simp only [Bool.and_eq_true]
          exact ⟨⟨⟨⟨hunk, by rw [hlen, hcl]; exact Nat.beq_refl _⟩, by rw [hul]; exact Nat.beq_refl _⟩, Nat.ble_eq_true_of_le (st.hi.owl _ _ ho)⟩, hwr⟩]
        rfl
    · cases hq
  · -- a list whose capacity is its length
    rename_i k' k cs hown hrf'
    split at hq
    · rename_i hcl
      cases hq
      simp only [psrcLen, Option.some.injEq] at hm
      subst hm
      have hcl := Nat.eq_of_beq_eq_true hcl
      rcases (hs 0).inv_l with ⟨rfl, rfl, rfl⟩ | ⟨a, cap, B, rfl, hb, hsp, hk, hnn, hc, hl, hrr⟩
      · rw [Nat.zero_add] at hlim
        obtain ⟨C', s2, t2, r2⟩ := fresh (old := []) (os := []) (k := 0) st (.refl _ _ _ _ _) rfl (LR.nil _ _ _) (fun _ h => by cases h) (by simp) (by rw [Nat.zero_add]; exact lim_of hlim) hr
        refine ⟨C', _, _, ?_, s2, t2, r2, fun _ X hX _ => hX⟩
        simp only [agrow, List.nil_append]
        rw [show (Nat.beq 0 0 && Nat.beq 0 0 && Nat.ble (n * (by_ + sz + 1)) limit && Nat.beq (vcells z).length sz) = true by
          simp only [Bool.and_eq_true]; exact ⟨⟨⟨rfl, rfl⟩, hlim⟩, hz⟩]
        simp only [Nat.zero_add]
      · have hcap := hc.full rfl
        obtain ⟨C', s3, t3, r3⟩ := fresh (k := k) st (.refl _ _ _ _ _) rfl hrr hc.one hcl (lim_of hlim) hr
        refine ⟨C', _, _, ?_, s3, t3, r3, fun _ X hX _ => hX⟩
        simp only [agrow]
        rw [show (Nat.ble ((k + n) * (by_ + sz + 1)) limit && Nat.beq (vcells z).length sz) = true by simp only [Bool.and_eq_true]; exact ⟨hlim, hz⟩]
        simp only [show Nat.blt cap unkCap = true from Nat.ble_eq_true_of_le (show cap < unkCap by omega), show Nat.ble (k + n) cap = false from Bool.eq_false_iff.2 (fun e => by have := Nat.le_of_ble_eq_true e; omega)]
        simp only [srcCells, cellsAt, hb]
        rw [takeN_of (show k * sz ≤ (B.cells.drop a.off).length by simp; omega), ← hcl]
        simp only [lr_one hrr hc.one]
    · cases hq
  · -- a slice with room
    rename_i b off k cap
    split at hq
    · rename_i hcond
      split at hq
      · rename_i σ1 hp
        cases hq
        simp only [psrcLen, Option.some.injEq] at hm
        subst hm
        simp only [Bool.and_eq_true] at hcond
        obtain ⟨id, hβ, rfl, hcu, hkc⟩ := (hs 0).inv_s
        have hle := Nat.le_of_ble_eq_true hcond.2
        obtain ⟨h', p1, p2, p3, p4⟩ := put_sim (ys := ys) st hβ hp hr.1 (fun y hy => List.all_eq_true.1 (lr_one hr hone) y hy) (hrf b) (fun i hi => (hr.2 i hi).out _)
        refine ⟨C, h', .slice (some ⟨id, off, none⟩) (k + n) cap, ?_, p2, ⟨p3.ext, fun id hid => (p3.ids id hid).imp (fun h => h) (fun h => h.elim), p3.len, p3.bnew, p3.wlm, fun id t ht ho => (p3.loc id t ht ho).imp (fun h => h) (fun h => h.elim), fun F _ l => p3.lp F (fun _ h => h.elim) l⟩, .s _ _ _ _ _ _ hβ hcu hle, fun he => by cases he⟩
        simp only [agrow]
        rw [show (Nat.ble ((k + n) * (by_ + sz + 1)) limit && Nat.beq (vcells z).length sz) = true by simp only [Bool.and_eq_true]; exact ⟨hlim, hz⟩]
        simp only [hcond.1, hcond.2, add_eq (a := ⟨id, off, none⟩) rfl, p1]
      · cases hq
    · cases hq
  · cases hq

mutual
theorem noref_refs (b : Nat) : ∀ v : PV, noref v = true → refsTo b v = true
  | .v _, _ => by simp [refsTo]
  | .l _ _ _ _, _ => by simp [refsTo]
  | .r _ _, h => by simp [noref] at h
  | .p _ _, h => by simp [noref] at h
  | .s _ _ _ _, h => by simp [noref] at h
  | .t _, h => by simp [noref] at h
  | .dead, _ => by simp [refsTo]
  | .un, _ => by simp [refsTo]
  | .a cs, h => by
    simp only [noref] at h
    simp only [refsTo]
    exact norefs_refs b cs h
  | .i _ x, h => by
    simp only [noref] at h
    simp only [refsTo]
    exact noref_refs b x h
  | .f _ as bs, h => by
    simp only [noref, Bool.and_eq_true] at h
    simp only [refsTo, Bool.and_eq_true]
    exact ⟨norefs_refs b as h.1, norefs_refs b bs h.2⟩
theorem norefs_refs (b : Nat) : ∀ l : List PV, noref.norefs l = true → refsTo.go b l = true
  | [], _ => by simp [refsTo.go]
  | c :: cs, h => by
    simp only [noref.norefs, Bool.and_eq_true] at h
    simp only [refsTo.go, Bool.and_eq_true]
    exact ⟨noref_refs b c h.1, norefs_refs b cs h.2⟩
end
theorem cellOK_refs {b : Nat} {v : PV} (h : cellOK v = true) : refsTo b v = true := by
  simp only [cellOK, Bool.and_eq_true] at h
  exact noref_refs b v h.2

theorem psrc_len {sz n : Nat} {x : PV} {new : List PV} (hq : psrc sz n x σ = some new) : new.length = n * sz := by
  unfold psrc at hq
  split at hq
  · obtain ⟨rfl, h1⟩ := takeP_some hq; simp; omega
  · split at hq
    · split at hq
      · rename_i htk
        split at hq
        · cases hq; obtain ⟨rfl, h1⟩ := takeP_some htk; simp at h1 ⊢; omega
        · cases hq
      · cases hq
    · cases hq
  · split at hq
    · rename_i s hb
      cases hq
      simp only [Bool.and_eq_true] at hb
      rw [Nat.eq_of_beq_eq_true hb.1, Nat.eq_of_beq_eq_true hb.2, List.length_map, Array.length_toList, Nat.mul_one]
      rfl
    · cases hq
  · cases hq

theorem LA.two {us : List PV} {xs : List Value} {u v : PV} (hl : LA C h us xs) (he : us = [u, v]) : ∃ x y, xs = [x, y] ∧ VA C h u x ∧ VA C h v y := by
  subst he
  match xs, hl with
  | [x, y], hl => exact ⟨x, y, rfl, hl.1, hl.2.1⟩

theorem loud_sim {call : PCallF} {dr : Dr} {op : Op} {v : PV} (d : Nat) (st : ST P Y f C h σ tv) (hk : kindOf op = 2) (hq : poper P Y f call dr op σ = some (v, σ')) :
    ∃ C' h' x', aloud P op tv h = some (x', h') ∧ ST P Y f C' h' σ' tv ∧ Step (Y.keep f) (h.next ≤ ·) C h σ C' h' σ' ∧ VR C' h' (some (.tmp d)) v x' ∧
      (mayTurn dr = true ∨ ∀ X, X ≤ h.low → (∀ id t, C.ow id = some (.tmp t) → Y.keep f t = false → X ≤ id) → X ≤ h'.low) := by
  cases op with
  | store t x y =>
    simp only [poper] at hq
    split at hq
    · rename_i b off u n hx hu hn
      split at hq
      · rename_i v' σ1 hm
        split at hq
        · rename_i hb
          simp only [Bool.and_eq_true] at hb
          split at hq
          · rename_i σ2 hp
            cases hq
            obtain ⟨px, h1, h2⟩ := pev_sim st.tr st.gr hx
            obtain ⟨py, h3, h4⟩ := pev_sim st.tr st.gr hu
            obtain ⟨inf, hinf, rfl⟩ := sz_of hn
            obtain ⟨C1, s1, t1, i1, b1, l1⟩ := moved_sim b off st h4 hm
            obtain ⟨id, hβ, rfl⟩ := (h2 0).inv_p
            obtain ⟨h', p1, p2, p3, p4⟩ := put_sim (ys := vcells py) s1 (b1 b id hβ) hp i1.1 (fun y hy => by
                rcases i1.2.1 y hy with h5 | ⟨u, hu, h5⟩
                · exact h5
                · rw [List.all_eq_true.1 hb.1.2 u hu] at h5; cases h5) (refsTo_pcells hb.1.1.2) i1.2.2
            refine ⟨C1, h', undef, ?_, p2, t1.trans p3 (fun _ h => h.elim) (fun _ h => h.elim), .dead _ _, .inl hb.2⟩
            simp only [aloud, h1, h3, astore, hinf]
            rw [show Nat.beq (vcells py).length inf.size = true by rw [i1.1]; exact hb.1.1.1]
            simp only [p1]
          · cases hq
        · cases hq
      · cases hq
    · cases hq
  | call c =>
    obtain ⟨callee, args, types⟩ := c
    cases callee with
    | builtin b =>
      cases b <;> try (simp [kindOf] at hk; done)
      case append =>
        simp only [poper] at hq
        split at hq
        · rename_i s x t tx hargs htypes
          obtain ⟨xs, h1, h2⟩ := pevs_sim st.tr st.gr hargs
          obtain ⟨s', x', rfl, hs, hx⟩ := h2.two rfl
          split at hq
          · rename_i e sz n hsh hl hfit
            obtain ⟨hu, inf, hinf, rfl⟩ := shape_slice hsh
            obtain ⟨dx, hdx, hsrc, hsl⟩ := src_fits hfit hx hl
            split at hq
            · rename_i z by_ m hz hby hm
              obtain ⟨inf', g1, g2, g3⟩ := zero_of hz
              cases hinf.symm.trans g1
              obtain ⟨inf', g4, rfl⟩ := by_of hby
              cases hinf.symm.trans g4
              split at hq
              · -- nothing is appended
                rename_i hn0
                split at hq
                · rename_i hil
                  cases hq
                  obtain ⟨base, sLen, sCap, rfl, e2⟩ : ∃ base sLen sCap, s' = .slice base sLen sCap ∧ Nat.ble sLen sCap = true := by
                    cases v with
                    | l k c n cs =>
                      rcases (hs 0).inv_l with ⟨rfl, rfl, rfl⟩ | ⟨a, cap, B, rfl, _, _, _, hnu, hc, _⟩
                      · exact ⟨_, _, _, rfl, rfl⟩
                      · refine ⟨_, _, _, rfl, Nat.ble_eq_true_of_le ?_⟩
                        by_cases hcu : cap < unkCap
                        · exact hc.le hcu
                        · omega
                    | s b o n c =>
                      obtain ⟨id, _, rfl, _, hnc⟩ := (hs 0).inv_s
                      exact ⟨_, _, _, rfl, Nat.ble_eq_true_of_le hnc⟩
                    | _ => cases hil
                  refine ⟨C, h, _, ?_, st, .refl _ _ _ _ _, hs d, .inr (fun X hX _ => hX)⟩
                  simp only [aloud, h1, aappend, htypes, hu, hdx, hinf, hsrc, g2, hsl, hn0, e2]
                · cases hq
              · rename_i hn0
                split at hq
                · rename_i new hnew
                  split at hq
                  · rename_i hlim
                    simp only [Bool.and_eq_true] at hlim
                    have hn0' : Nat.beq n 0 = false := hn0
                    have hne : n ≠ 0 := fun e => by subst e; cases hn0'
                    obtain ⟨ys, k1, k2, k3⟩ := psrc_sim st hx hne (fun m hm => by rw [hl] at hm; cases hm; exact Nat.le_refl _) hnew
                    obtain ⟨C', h', x'', p1, p2, p3, p4, p5⟩ := pgrow_sim (e := e) (by_ := inf.bytes) (z := z) d st hs hm (by rw [Program.cellsOf, hinf]; rfl) hne (psrc_len hnew) k2 k3 (fun b v hv => cellOK_refs (k3 v hv)) hlim.1.1 hlim.1.2 hq
                    refine ⟨C', h', x'', ?_, p2, p3, p4, (Bool.or_eq_true _ _ ▸ hlim.2).elim (fun h => .inr (p5 (by simpa using h))) .inl⟩
                    simp only [aloud, h1, aappend, htypes, hu, hdx, hinf, hsrc, g2, hsl, hn0', k1, p1]
                  · cases hq
                · cases hq
            · cases hq
          · cases hq
        · cases hq
      case copy =>
        simp only [poper] at hq
        split at hq
        · rename_i dd x t tx hargs htypes
          obtain ⟨xs, h1, h2⟩ := pevs_sim st.tr st.gr hargs
          obtain ⟨d', x', rfl, hd, hx⟩ := h2.two rfl
          split at hq
          · rename_i e sz n b off m cap hsh hl hfit
            obtain ⟨hu, inf, hinf, rfl⟩ := shape_slice hsh
            obtain ⟨dx, hdx, hsrc, hsl⟩ := src_fits hfit hx hl
            obtain ⟨id, hβ, rfl, _⟩ := (hd 0).inv_s
            split at hq
            · rename_i hn0
              cases hq
              refine ⟨C, h, .int .i64 0, ?_, st, .refl _ _ _ _ _, .v _ _ rfl (fun _ _ e => by cases e), .inr (fun X hX _ => hX)⟩
              simp only [aloud, h1, acopy, htypes, hu, hdx, hinf, hsrc, hsl, hn0]
            · rename_i hn0
              split at hq
              · rename_i cs hcs
                split at hq
                · rename_i σ1 hp
                  split at hq
                  rotate_left
                  · cases hq
                  rename_i hmt
                  cases hq
                  have hne : Nat.min n m ≠ 0 := fun e => by rw [e] at hn0; simp at hn0
                  obtain ⟨ys, k1, k2, k3⟩ := psrc_sim st hx hne (fun m' hm => by rw [hl] at hm; cases hm; exact Nat.min_le_left _ _) hcs
                  obtain ⟨h', p1, p2, p3, p4⟩ := put_sim (ys := ys) st hβ hp k2.1 (fun y hy => List.all_eq_true.1 (lr_one k2 k3) y hy) (fun v hv => cellOK_refs (k3 v hv)) (fun i hi => (k2.2 i hi).out _)
                  have hn0' : Nat.beq (Nat.min n m) 0 = false := by
                    cases hnb : Nat.beq (Nat.min n m) 0 with
                    | true => exact absurd (Nat.eq_of_beq_eq_true hnb) hne
                    | false => rfl
                  refine ⟨C, h', .int .i64 (Nat.min n m : Nat), ?_, p2, ⟨p3.ext, fun id hid => (p3.ids id hid).imp (fun h => h) (fun h => h.elim), p3.len, p3.bnew, p3.wlm, fun id t ht ho => (p3.loc id t ht ho).imp (fun h => h) (fun h => h.elim), fun F _ l => p3.lp F (fun _ h => h.elim) l⟩, .v _ _ rfl (fun _ _ e => by cases e), .inl hmt⟩
                  simp only [aloud, h1, acopy, htypes, hu, hdx, hinf, hsrc, hsl, hn0', k1, p1]
                · cases hq
              · cases hq
          · cases hq
        · cases hq
      case clear => simp only [poper, pq] at hq; cases hq
    | _ => simp [kindOf] at hk
  | _ => simp [kindOf] at hk
end
end Go.Pur
