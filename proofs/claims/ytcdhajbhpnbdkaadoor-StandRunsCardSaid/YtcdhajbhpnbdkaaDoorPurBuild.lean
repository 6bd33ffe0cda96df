/-
  Rows and lists that are built of parts; operations of kind 0 that store values.
  Conditions: none; lemmas.
-/
import Derived.Test.YtcdhajbhpnbdkaaDoorPurStor
set_option linter.unusedSimpArgs false
set_option linter.unusedVariables false
set_option linter.unusedSectionVars false
namespace Go.Pur
open Go.Abs
section
variable {P : Program} {Y : Pol} {f : FuncId} {C : Ctx} {h : AHeap} {σ σ' : St} {tv : Tr Value}

theorem pcells_rel {v : PV} {x : Value} (hf : firm v = true) (hv : VR C h none v x) : LR C h none (pcells v) (vcells x) := by
  have one : ∀ {u : PV} {y : Value}, VR C h none u y → LR C h none [u] [y] := fun h => LR.cons h (LR.nil _ _ _)
  cases hv with
  | v _ x hp hn => cases x <;> first | exact one (.v _ _ hp hn) | simp [plain] at hp
  | un => cases hf
  | dead => cases hf
  | nil _ k c => exact one (.nil _ _ _)
  | lst _ k c n cs a cap B hb hs hk hn hc hl hv => exact one (.lst _ _ _ _ _ _ _ B hb hs hk hn hc hl hv)
  | r _ k cs a B hb hs hk hi hl hv => exact one (.r _ _ _ _ B hb hs hk hi hl hv)
  | p _ b off id hb => exact one (.p _ _ _ _ hb)
  | s _ b off n cap id hb hc hn => exact one (.s _ _ _ _ _ _ hb hc hn)
  | a _ cs l hs hv => exact lr_of_arr hs hv
  | t _ cs l hs hv => cases hf
  | f _ g as bs as' bs' ha hb hA hB => exact one (.f _ _ _ _ _ _ ha hb hA hB)
  | i _ ty x x' hx => exact one (.i _ _ _ _ hx)

theorem one_oneCell {π : Option Pl} {v : PV} {x : Value} (hv : VR C h π v x) (ho : one v = true) : x.oneCell' = true := by
  cases hv with
  | v _ x hp hn => cases x <;> first | rfl | simp [plain] at hp
  | un => cases ho
  | dead => cases ho
  | a => cases ho
  | t => cases ho
  | _ => rfl

theorem pvCells_rel {z : Value} {zc : List PV} (hq : pvCells z = some zc) (C : Ctx) (h : AHeap) (π : Option Pl) : LR C h π zc (vcells z) := by
  have key : ∀ {l : List Value} {zc : List PV}, pvCells.go l = some zc → LR C h π zc l := by
    intro l
    induction l with
    | nil => intro zc hq; cases hq; exact LR.nil _ _ _
    | cons x l ih =>
      intro zc hq
      simp only [pvCells.go] at hq
      split at hq
      · rename_i v r hv hr
        cases hq
        exact LR.cons ((pvOf_some hv).2 _ _ _) (ih hr)
      · cases hq
  exact key hq

theorem setIn_foldl (off : Nat) : ∀ (vs : List Value) (k : Nat) (cs : Array Value), off + k + vs.length ≤ cs.size →
    ((vs.zipIdx k).foldl (fun (cs : Array Value) (x : Value × Nat) => cs.setIfInBounds (off + x.2) x.1) cs).toList = cs.toList.take (off + k) ++ vs ++ cs.toList.drop (off + k + vs.length)
  | [], k, cs, hl => by simp
  | v :: vs, k, cs, hl => by
    simp only [List.zipIdx_cons, List.foldl_cons, List.length_cons] at hl ⊢
    rw [setIn_foldl off vs (k + 1) _ (by simpa using by omega)]
    simp only [Array.toList_setIfInBounds]
    have hlt : off + k < cs.toList.length := by simp; omega
    rw [List.take_set, List.drop_set_of_lt (by omega), show off + (k + 1) + vs.length = off + k + (vs.length + 1) by omega, show off + (k + 1) = off + k + 1 by omega, List.take_add_one]
    have hm : (cs.toList.take (off + k)).length = off + k := by rw [List.length_take]; omega
    rw [List.set_append_right _ _ (by omega), hm]
    simp [show off + k < cs.size by simpa using hlt]

theorem fill_sim {at_ : Nat → Option (Nat × Nat)} : ∀ {ps : List (Nat × Value)} {is : List Nat} {vs : List PV} {cs out : List PV} {l : Array Value}, ps.map Prod.fst = is → LR C h none vs (ps.map Prod.snd) → vs.all firm = true → LR C h none cs l.toList →
    pfill at_ (zipParts is vs) cs = some out → ∃ o, Instr.fill at_ l ps = some o ∧ LR C h none out o.toList
  | [], is, vs, cs, out, l, hi, hv, hf, hc, hq => by
    subst hi
    rcases hv.ind with ⟨rfl, _⟩ | ⟨_, _, _, _, _, h, _⟩
    · cases hq; exact ⟨l, rfl, hc⟩
    · simp at h
  | (i, x) :: ps, is, vs, cs, out, l, hi, hv, hf, hc, hq => by
    subst hi
    rcases hv.ind with ⟨_, h⟩ | ⟨v, x', r, r', rfl, h1, hvx, hr⟩
    · simp at h
    · simp only [List.map_cons, List.cons.injEq] at h1
      obtain ⟨rfl, rfl⟩ := h1
      simp only [List.all_cons, Bool.and_eq_true] at hf
      simp only [List.map_cons, zipParts, pfill] at hq
      split at hq
      · rename_i off n hat
        split at hq
        · rename_i hb
          simp only [Bool.and_eq_true] at hb
          have e1 := Nat.eq_of_beq_eq_true hb.1
          have e2 := Nat.le_of_ble_eq_true hb.2
          have hpc := pcells_rel hf.1 hvx
          have hxs : x.cells.size = n := by
            have := hpc.1
            rw [e1, ← cells_toList] at this
            simpa using this
          have hls : l.size = cs.length := by simpa using hc.1
          have hstep := setIn_foldl off (vcells x) 0 l (by
            have := hpc.1
            omega)
          have hnew : LR C h none (cs.take off ++ pcells v ++ cs.drop (off + n)) ((x.cells.zipIdx.foldl (fun cs (c, j) => cs.setIfInBounds (off + j) c) l).toList) := by
            rw [← Array.foldl_toList, Array.toList_zipIdx, cells_toList, hstep]
            have e3 : (vcells x).length = n := by rw [hpc.1, e1]
            rw [e3]
            exact ((hc.take off).append hpc).append (hc.drop (off + n))
          obtain ⟨o, h1, h2⟩ := fill_sim (ps := ps) rfl hr hf.2 hnew hq
          refine ⟨o, ?_, h2⟩
          simp only [Instr.fill, hat]
          rw [if_neg (by simp [hxs]; omega)]
          exact h1
        · cases hq
      · cases hq

theorem pevParts_sim (hT : TR Y f C h σ tv) (hG : GR P Y C h) : ∀ {l : List (Nat × Operand)} {is : List Nat} {us : List PV}, pevParts Y f σ l = some (is, us) → ∃ ps, evParts P tv l = some ps ∧ ps.map Prod.fst = is ∧ LA C h us (ps.map Prod.snd)
  | [], is, us, hq => by cases hq; exact ⟨[], rfl, rfl, trivial⟩
  | (i, x) :: l, is, us, hq => by
    simp only [pevParts] at hq
    split at hq
    · rename_i v is' vs hv hr
      cases hq
      obtain ⟨x', h1, h2⟩ := pev_sim hT hG hv
      obtain ⟨ps, h3, h4, h5⟩ := pevParts_sim hT hG hr
      exact ⟨(i, x') :: ps, by simp [evParts, h1, h3], by simp [h4], h2, h5⟩
    · cases hq

theorem built_of {t : TypeId} {pt : Parts} {z : Value} {ps : List (Nat × Value)} {o : Array Value} (hp : partsOf P t = some pt) (hz : zeroOf P t = some z) (hf : Instr.fill (partAt pt) z.cells ps = some o) :
    P.built t ps = some o ∧ ∃ i, P.info? t = some i ∧ i.zero = some z ∧ plainV z = true := by
  obtain ⟨i, h1, h2, h3⟩ := zero_of hz
  refine ⟨?_, i, h1, h2, h3⟩
  unfold partsOf at hp
  unfold Program.built
  split at hp
  · rename_i n e hu
    split at hp
    · rename_i sz hsz
      cases hp
      obtain ⟨ie, h4, rfl⟩ := sz_of hsz
      simp only [h1, hu, h2, h4]
      exact hf
    · cases hp
  · rename_i fields hu
    split at hp
    · rename_i l hl
      cases hp
      simp only [h1, hu, h2, hl]
      rw [show (fun i => l.toArray[i]?) = partAt (.rows l) from funext fun i => by simp [partAt]]
      exact hf
    · cases hp
  · cases hp

theorem LA.append {us vs : List PV} {xs ys : List Value} : ∀ {us : List PV} {xs : List Value}, LA C h us xs → LA C h vs ys → LA C h (us ++ vs) (xs ++ ys)
  | [], [], _, h2 => h2
  | _ :: _, _ :: _, h1, h2 => ⟨h1.1, LA.append (us := us) (xs := xs) h1.2 h2⟩
  | [], _ :: _, h1, _ => h1.elim
  | _ :: _, [], h1, _ => h1.elim
theorem LA.len : ∀ {us : List PV} {xs : List Value}, LA C h us xs → us.length = xs.length
  | [], [], _ => rfl
  | _ :: _, _ :: _, h1 => by simp [LA.len h1.2]
  | [], _ :: _, h1 => h1.elim
  | _ :: _, [], h1 => h1.elim

/-- Operations of kind 0, with what they turn in the state of owners. -/
def quiet0 : Op → Bool
  | .load _ _ | .build _ _ | .makeInterface _ _ | .makeFunc _ _ _ => true
  | _ => false

theorem quiet0_sim {call : PCallF} {dr : Dr} {op : Op} {v : PV} (st : ST P Y f C h σ tv) (h0 : quiet0 op = true) (hq : poper P Y f call dr op σ = some (v, σ')) :
    kindOf op = 0 ∧ ∃ C' x', aq P op tv h = some x' ∧ ST P Y f C' h σ' tv ∧ Step (Y.keep f) (fun _ => False) C h σ C' h σ' ∧ VA C' h v x' := by
  cases op with
  | load t x =>
    refine ⟨rfl, ?_⟩
    simp only [poper] at hq
    split at hq
    · rename_i u hu
      split at hq
      · obtain ⟨x', h1, h2⟩ := pev_sim st.tr st.gr hu
        obtain ⟨C', y, h3, h4, h5, h6⟩ := pload_sim st h2 hq
        exact ⟨C', y, by simp [aq, aqLoad, h1, h3], h4, h5, h6⟩
      · cases hq
    · cases hq
  | build t parts =>
    refine ⟨rfl, ?_⟩
    simp only [poper] at hq
    split at hq
    · rename_i is vs z hps hz
      obtain ⟨ps, h1, h2, h3⟩ := pevParts_sim st.tr st.gr hps
      split at hq
      · rename_i vs' σ1 zc pt hst hzc hpt
        obtain ⟨C', s1, t1, f1, r1⟩ := stors_sim st (LF.of h3) hst
        split at hq
        · rename_i cs hfl
          cases hq
          obtain ⟨o, h4, h5⟩ := fill_sim (l := z.cells) h2 r1 f1 (by rw [cells_toList]; exact pvCells_rel hzc _ _ _) hfl
          obtain ⟨h6, i, h7, h8, h9⟩ := built_of hpt hz h4
          refine ⟨C', .agg o, by simp only [aq, aqBuild, h1, h6, h7, h8, h9], s1, t1, fun d => .a _ _ _ (by simpa using h5.1) h5.2⟩
        · cases hq
      · cases hq
    · cases hq
  | makeInterface t x =>
    refine ⟨rfl, ?_⟩
    simp only [poper] at hq
    split at hq
    · cases hq
    · rename_i u d hni hu hd
      split at hq
      · rename_i v' σ1 o hst
        cases hq
        obtain ⟨x', h1, h2⟩ := pev_sim st.tr st.gr hu
        obtain ⟨s1, t1, f1, r1⟩ := stor_sim st h2 hst
        refine ⟨_, .iface t x', ?_, s1, t1, fun d => .i _ _ _ _ r1⟩
        simp only [aq, aqIface, h1, hd]
      · cases hq
    · cases hq
  | makeFunc fn first captured =>
    refine ⟨rfl, ?_⟩
    simp only [poper] at hq
    split at hq
    · rename_i g as bs has hbs
      split at hq
      · rename_i l σ1 hst
        cases hq
        obtain ⟨xs, h1, h2⟩ := pevs_sim st.tr st.gr has
        obtain ⟨ys, h3, h4⟩ := pevs_sim st.tr st.gr hbs
        obtain ⟨C', s1, t1, f1, r1⟩ := stors_sim st (LF.of (LA.append (us := []) (xs := []) h2 h4)) hst
        have hlen := LA.len h2
        have ra := r1.take as.length
        have rb := r1.drop as.length
        rw [hlen, List.take_left] at ra
        rw [hlen, List.drop_left] at rb
        rw [hlen]
        exact ⟨C', .func (.func g) xs.toArray ys.toArray, by simp only [aq, aqFunc, h1, h3], s1, t1, fun d => .f _ _ _ _ _ _ (by simpa using ra.1) (by simpa using rb.1) (by simpa using ra.2) (by simpa using rb.2)⟩
      · cases hq
    · cases hq
  | _ => cases h0
end
end Go.Pur
