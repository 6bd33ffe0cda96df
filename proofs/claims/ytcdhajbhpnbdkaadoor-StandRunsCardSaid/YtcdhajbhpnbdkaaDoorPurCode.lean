/-
  Code and calls: a run of the pure evaluator that ends well is one of the abstract evaluator.
  Conditions: the regions that draw their order are as the abstract evaluator asks (a closed fact).
-/
import Derived.Test.YtcdhajbhpnbdkaaDoorPurFun
set_option linter.unusedSimpArgs false
set_option linter.unusedVariables false
set_option linter.unusedSectionVars false
namespace Go.Pur
open Go.Abs

def codeOK : Code → Bool
  | .region _ ops draw => match draw with
    | true => drawOK ops
    | false => true
  | .seq a b => codeOK a && codeOK b
  | .cond _ a b => codeOK a && codeOK b
  | .block _ b => codeOK b
  | .loop b => codeOK b
  | _ => true
def progOK (P : Program) : Bool := P.funcs.toList.all fun fn => match fn.body with
  | some c => codeOK c
  | none => true

theorem progOK_body {P : Program} (h : progOK P = true) {g : FuncId} {fn : Func} {c : Code} (hb : bodyOf P g = some (fn, c)) : codeOK c = true := by
  unfold bodyOf at hb
  split at hb
  · rename_i fn' hf
    split at hb
    · rename_i c' hc _
      cases hb
      have := List.all_eq_true.1 h fn (by
        have := Array.mem_of_getElem? hf
        simpa using this)
      rw [hc] at this
      exact this
    · cases hb
  · cases hb

def CodeSim (P : Program) (Y : Pol) (pc : FuncId → Nat → PCodeF) (ac : CodeF) : Prop := ∀ f nt c σ x σ', codeOK c = true → pc f nt c σ = some (x, σ') → ∀ C h tv, ST P Y f C h σ tv →
  ∃ C' h' tv', ac c nt tv h = some (x, tv', h') ∧ ST P Y f C' h' σ' tv' ∧ Step (Y.keep f) (h.next ≤ ·) C h σ C' h' σ'

section
variable {P : Program} {Y : Pol} {f : FuncId}

theorem settle_firm {hp : List (Option (List PV))} {sz : TypeId → Option Nat} {t : TypeId} {v u : PV} {B : Nat} (hf : firm v = true) (hq : settle sz B hp t v = some u) : firm u = true := by
  unfold settle at hq
  split at hq
  · split at hq
    · split at hq
      · split at hq
        · cases hq; rfl
        · cases hq
      · cases hq
    · cases hq; rfl
  · cases hq; exact hf

theorem settles_sim {C : Ctx} {h : AHeap} {hp : List (Option (List PV))} {B d : Nat} (hi : HI C h hp) : ∀ {vs us : List PV} {ts : List TypeId} {xs : List Value}, vs.all firm = true → vs.all (okDrop B) = true → LR C h none vs xs → settles P B hp ts vs = some us → LR (endC B d C) h none us xs ∧ us.all firm = true
  | [], us, ts, xs, _, _, hl, hq => by
    cases ts with
    | nil =>
      cases hq
      rcases hl.ind with ⟨_, rfl⟩ | ⟨_, _, _, _, e, _⟩
      · exact ⟨LR.nil _ _ _, rfl⟩
      · cases e
    | cons t ts => simp [settles] at hq
  | v :: vs, us, ts, xs, hf, hd, hl, hq => by
    cases ts with
    | nil => simp [settles] at hq
    | cons t ts =>
      rcases hl.ind with ⟨e, _⟩ | ⟨v', x, r, r', e, rfl, hv, hr⟩
      · cases e
      · cases e
        simp only [List.all_cons, Bool.and_eq_true] at hf hd
        simp only [settles] at hq
        split at hq
        · rename_i u us' hu hus
          cases hq
          obtain ⟨h1, h2⟩ := settles_sim hi hf.2 hd.2 hr hus
          have h3 := settle_sim (d := d) (n := B) hi rfl (π := none) (fun p e => by cases e) (.inl hf.1) hv hd.1 hu
          exact ⟨LR.cons h3.1 h1, by simp only [List.all_cons, settle_firm hf.1 hu, h2, Bool.and_self]⟩
        · cases hq

theorem ares_len {tv : Tr Value} {h : AHeap} : ∀ {rs : List ResultVar} {xs : List Value}, ares P tv h rs = some xs → xs.length = rs.length
  | [], xs, hq => by cases hq; rfl
  | r :: rs, xs, hq => by
    simp only [ares] at hq
    split at hq
    · split at hq
      · rename_i vs hvs; cases hq; simp [ares_len hvs]
      · cases hq
    · cases hq

def dropC (base d : Nat) : Bool → Ctx → Ctx
  | true, C => endC base d C
  | false, C => C

theorem pres_sim {C : Ctx} {h : AHeap} {σ σ' : St} {tv : Tr Value} {base d : Nat} {fn : Func} {v : PV} {drop : Bool} (st : ST P Y f C h σ tv) (hq : pres P Y f base fn σ = some (v, σ', drop)) :
    ∃ C1 xs, ares P tv h fn.results.toList = some xs ∧ ST P Y f C1 h σ' tv ∧ Step allK (fun _ => False) C h σ C1 h σ' ∧ sound v = true ∧
      VR (dropC base d drop C1) h (some (.tmp d)) v (packed xs) := by
  unfold pres at hq
  split at hq
  · rename_i r t hrs hts
    split at hq
    · rename_i u σ1 hu
      split at hq
      · rename_i v' σ2 hm
        obtain ⟨C1, x, k1, k2, k3, k4⟩ := presOne_sim st hu
        obtain ⟨C2, m1, m2, m3, m4⟩ := movedRes_sim d k2 k4 hm
        have har : ares P tv h [r] = some [x] := by
          cases r with
          | tmp t => simp only [ares]; simp only [] at k1; rw [k1]
          | cell a t =>
            simp only [ares]
            simp only [] at k1
            split at k1
            · rename_i u hu; simp only [hu, k1]
            · cases k1
        rw [hrs]
        have snd : ∀ {w : PV}, (firm w = true ∨ isOwn w = true) → sound w = true := fun hw => by
          rename_i w
          cases w with
          | l k c n cs => cases k <;> first | rfl | (rcases hw with hw | hw <;> cases hw)
          | t cs => rcases hw with hw | hw <;> cases hw
          | _ =>
            rcases hw with hw | hw
            · exact hw
            · cases hw
        split at hq
        · rename_i hok
          split at hq
          · rename_i w hs
            cases hq
            obtain ⟨s1, s2⟩ := settle_sim (d := d) m1.hi rfl (fun p e => by cases e; rfl) m4 m3 hok hs
            exact ⟨C2, [x], har, m1, k3.trans m2 (fun _ h => h) (fun _ h => h), snd s2, s1⟩
          · cases hq
        · cases hq
          exact ⟨C2, [x], har, m1, k3.trans m2 (fun _ h => h) (fun _ h => h), snd m4, m3⟩
      · cases hq
    · cases hq
  · split at hq
    · cases hq
    · rename_i hne
      split at hq
      · rename_i vs σ1 hp
        obtain ⟨C1, xs, m1, m2, m3, m4, m5⟩ := presM_sim st hp
        have hpk : packed xs = .tuple xs.toArray := by
          have h1 := ares_len m1
          match xs, h1 with
          | [], _ => rfl
          | [x], h1 => rw [← h1] at hne; cases hne
          | _ :: _ :: _, _ => rfl
        split at hq
        · rename_i hok
          split at hq
          · rename_i us hs
            cases hq
            obtain ⟨s1, s2⟩ := settles_sim (d := d) m2.hi m5 hok m4 hs
            exact ⟨C1, xs, m1, m2, m3, s2, by rw [hpk]; exact VR.tuple_of s1⟩
          · cases hq
        · cases hq
          exact ⟨C1, xs, m1, m2, m3, m5, by rw [hpk]; exact VR.tuple_of m4⟩
      · cases hq

theorem frz_same {C : Ctx} {h : AHeap} {hp : List (Option (List PV))} {t : Nat} (hi : HI C h hp) : HI (frzC C (atP (.tmp t))) h hp :=
  hi.frz rfl (fun b ds hb => ⟨ds, hb, rfl, fun i _ => by rw [show atP (.tmp t) (.cell b i) = false from rfl]⟩)

/-- The answer, as the caller gets it. -/
theorem given_sim {E : Ctx} {h : AHeap} {hp : List (Option (List PV))} {d : Nat} {v : PV} {x : Value} {w : Option Nat} (hi : HI E h hp) (hs : sound v = true) (hv : VR E h (some (.tmp d)) v x) :
    ∃ E', HI E' h hp ∧ E'.sz = E.sz ∧ E'.β = E.β ∧ (∀ id, E.fz id → E'.fz id) ∧ (∀ id, E.fx id → E'.fx id) ∧ (∀ id, E'.fx id → Ids E id) ∧ (∀ id, E'.fz id → E.fz id ∨ ∃ p, E.ow id = some p) ∧ (∀ id p, E'.ow id = some p → E.ow id = some p) ∧
      VR E' h (some (.tmp d)) (given w v) x ∧ sound (given w v) = true ∧ (isOwn (given w v) = true → w = none) := by
  cases w with
  | none => exact ⟨E, hi, rfl, rfl, fun _ h => h, fun _ h => h, fun _ h => .inl h, fun _ h => .inl h, fun _ _ h => h, hv, hs, fun _ => rfl⟩
  | some w =>
    refine ⟨frzC E (atP (.tmp d)), frz_same hi, rfl, rfl, fun _ h => .inl h, fun _ h => .inl h, fun id h => ?_, fun id h => h.imp (fun h => h) (fun ⟨p, h, _⟩ => ⟨p, h⟩), fun id p h => (dropS_some.1 h).1, ?_, ?_, fun ho => ?_⟩
    · rcases h with h | ⟨p, h, _⟩
      · exact .inl h
      · exact .inr (.inl ⟨p, h⟩)
    · show VR _ h _ (ownFz v) x
      cases ho : isOwn v with
      | true =>
        cases v with
        | l k c n cs => cases k <;> first | exact hv.frzOwn (S := atP (.tmp d)) (atP_iff.2 rfl) _ | cases ho
        | _ => cases ho
      | false =>
        have hl : loose v = false := by
          cases v with
          | l k c n cs => cases k <;> first | rfl | cases hs
          | r k cs => cases k <;> first | rfl | cases hs
          | _ => rfl
        have h1 := hv.frz (S := atP (.tmp d)) (.inr ho)
        rw [frzS_id hl] at h1
        rwa [show ownFz v = v by cases v with
          | l k c n cs => cases k <;> first | rfl | cases ho
          | _ => rfl]
    · show sound (ownFz v) = true
      cases v with
      | l k c n cs => cases k <;> first | rfl | cases hs
      | _ => exact hs
    · exfalso
      have : isOwn (ownFz v) = true := ho
      cases v with
      | l k c n cs => cases k <;> cases this
      | _ => cases this

theorem lowOf_clean {F : Fr} {base : Nat} {w : Option Nat} (hb : F.base ≤ base) (hc : cleanW F (lowOf base w)) : cleanW F w := by
  cases w with
  | none => trivial
  | some a =>
    unfold lowOf at hc
    simp only [] at hc
    cases hlt : Nat.blt a base with
    | true => rw [hlt] at hc; exact hc
    | false =>
      have : ¬ a < base := fun h => by rw [show Nat.blt a base = true from Nat.ble_eq_true_of_le h] at hlt; cases hlt
      show F.base ≤ a
      omega

/-- Calls, of code that is well. -/
theorem pcall_sim {pc : FuncId → Nat → PCodeF} {ac : CodeF} (hok : progOK P = true) (hc : CodeSim P Y pc ac) : CallSim P Y (pcall P Y pc) (acall P noO ac) := by
  intro g args hp r hp' w hq C h args' d hin
  unfold pcall at hq
  split at hq
  · rename_i fn c hb
    split at hq
    · rename_i hcond
      simp only [Bool.and_eq_true] at hcond
      have hcode := progOK_body hok hb
      have hargs : Nat.ble args'.length fn.ntmps = true := by rw [hin.args.get.1]; exact hcond.1
      -- behind the body
      have fin : ∀ {x : AExit} {σ1 : St} {v : PV} {σ2 : St} {drop : Bool}, (x = .normal ∨ x = .ret) → pc g fn.ntmps c ⟨[], pinit 0 args .nil, hp, none⟩ = some (x, σ1) → pres P Y g hp.length fn σ1 = some (v, σ2, drop) → (r, hp', w) = pclose hp.length drop v σ2 →
          ∃ C' h' x', acall P noO ac g args' h = some (x', h') ∧ CallOut C h hp r hp' w d C' h' x' := by
        intro x σ1 v σ2 drop hx hrun hpr hcl
        obtain ⟨C1, h1, tv1, a1, s1, t1⟩ := hc g fn.ntmps c _ x σ1 hcode hrun C h _ (start_st hin)
        obtain ⟨C2, xs, r1, s2, t2, snd, hv⟩ := pres_sim (d := d) s1 hpr
        have t := t1.any.trans t2 (N := (h.next ≤ ·)) (fun _ h => h) (fun _ h => h.elim)
        have hacall : acall P noO ac g args' h = some (packed xs, h1) := by
          unfold acall
          simp only [noO, hb, hargs, a1]
          rcases hx with rfl | rfl <;> simp only [r1]
        have hlen : hp.length ≤ σ2.hp.length := t.len
        unfold pclose at hcl
        cases hcl
        -- the owners at the end
        obtain ⟨E, hiE, hszE, hvE, owE, β1, β2, fz1, fx1, ids1, new1⟩ : ∃ E : Ctx, HI E h1 (dropB hp.length drop σ2.hp) ∧ E.sz = C2.sz ∧ VR E h1 (some (.tmp d)) v (packed xs) ∧ (∀ id p, E.ow id = some p → C2.ow id = some p ∧ ((∃ b i, p = .cell b i ∧ b < (dropB hp.length drop σ2.hp).length) ∨ p = .tmp d)) ∧
            (∀ b id, b < hp.length → C2.β b = some id → E.β b = some id) ∧ (∀ b id, E.β b = some id → C2.β b = some id) ∧ (∀ id, C2.fz id → E.fz id) ∧ (∀ id, C2.fx id → E.fx id) ∧ (∀ id, E.fx id → Ids C2 id) ∧ (∀ id, E.fz id → C2.fz id ∨ ∃ b, C2.β b = some id) := by
          cases drop with
          | true =>
            have hn : (dropB hp.length true σ2.hp).length = hp.length := by simp [dropB]; omega
            refine ⟨endC hp.length d C2, endC_hi s2.hi hlen, rfl, hv, fun id p ho => ?_, fun b id hlt hb => by rw [endC_β hlt]; exact hb, fun b id hb => (endC_β' hb).2, fun _ h => .inl h, fun _ h => .inl h, fun id h => ?_, fun id h => h.imp (fun h => h) (fun ⟨b, _, h⟩ => ⟨b, h⟩)⟩
            · rw [hn]; exact endOw_some ho
            · rcases h with h | ⟨b, _, h⟩
              · exact .inl h
              · exact .inr (.inr ⟨b, h⟩)
          | false =>
            refine ⟨stayC σ2.hp.length d C2, stayC_old s2.hi rfl, rfl, ?_, fun id p ho => endOw_some ho, fun b id _ hb => hb, fun b id hb => hb, fun _ h => h, fun _ h => h, fun id h => .inl h, fun id h => .inl h⟩
            refine VR.step (C := C2) (C' := stayC σ2.hp.length d C2) rfl (fun _ _ h => h) (fun _ h => h) (fun _ h => h) s2.hi.fzx (fun _ _ => rfl) (π := some (.tmp d)) (π' := some (.tmp d)) (fun t e => ⟨t, e⟩) hv ?_
            cases v with
            | l k c n cs =>
              cases k with
              | own => exact fun id p hp ho => by cases hp; exact ⟨_, rfl, by show endOw _ _ _ = _; rw [ho]; exact endOw_tmp, rfl⟩
              | rf p => cases snd
              | pt p => cases snd
              | _ => trivial
            | r k cs =>
              cases k with
              | pt p => cases snd
              | _ => trivial
            | _ => trivial
        obtain ⟨E', g1, g2, g3, g4, g5, g6, g7, g8, g9, g10, g11⟩ := given_sim (w := lowOf hp.length σ2.wl) hiE snd hvE
        have idsE : ∀ id, Ids E id → Ids C2 id := fun id hid => by
          rcases hid with hid | ⟨p, hid⟩ | ⟨b, hid⟩
          · exact ids1 id hid
          · exact .inr (.inl ⟨p, (owE id p hid).1⟩)
          · exact .inr (.inr ⟨b, β2 b id hid⟩)
        have idsE' : ∀ id, Ids E' id → Ids C2 id := fun id hid => by
          rcases hid with hid | ⟨p, hid⟩ | ⟨b, hid⟩
          · exact idsE id (g6 id hid)
          · exact idsE id (.inr (.inl ⟨p, g8 id p hid⟩))
          · rw [g3] at hid; exact idsE id (.inr (.inr ⟨b, hid⟩))
        have hβlt : ∀ b id, C.β b = some id → b < hp.length := fun b id hb => (hin.hi.βl b id hb).2.2.2
        refine ⟨E', h1, packed xs, hacall, ⟨g1, ⟨g2.trans (hszE.trans t.ext.sz), t.ext.get, t.ext.next, fun id hid => g4 id (fz1 id (t.ext.fz id hid)), fun id hid => g5 id (fx1 id (t.ext.fx id hid)), fun id hid => ?_, fun b id hb => by rw [g3]; exact β1 b id (hβlt b id hb) (t.ext.β b id hb)⟩,
          fun id hid => t.ids id (idsE' id hid), ?_, fun b id hb => ?_, fun id p ho => (owE id p (g8 id p ho)).2, g9, g10, g11, fun F l => ?_⟩⟩
        · by_cases hx : C.fx id
          · have hx2 := t.ext.fx id hx
            rcases g7 id hid with h2 | ⟨p, h2⟩
            · rcases new1 id h2 with h3 | ⟨b, h3⟩
              · exact t.ext.new id h3
              · exact absurd hx2 (s2.hi.βl b id h3).2.1
            · have := (s2.hi.fxl id hx2).2
              rw [(owE id p h2).1] at this; cases this
          · exact .inr hx
        · cases drop with
          | true => simp [dropB]; omega
          | false => exact hlen
        · rw [g3] at hb
          exact t.bnew b id (β2 b id hb)
        · have hN : ∀ id, h.next ≤ id → F.n0 ≤ id := fun id hid => Nat.le_trans l.n0 hid
          have l2 := t.lp F hN l
          have hcl : cleanW F (lowOf hp.length σ2.wl) → cleanW F σ2.wl := fun hc => lowOf_clean l.base hc
          refine ⟨l2.n0, ?_, fun hc => l2.low (hcl hc), fun hc id p ho hpn => l2.mine (hcl hc) id p (owE id p (g8 id p ho)).1 hpn, fun hc b id hb hbb => by rw [g3] at hb; exact l2.βm (hcl hc) b id (β2 b id hb) hbb⟩
          have := l.base
          cases drop with
          | true => simp [dropB]; omega
          | false => exact l2.base
      split at hq
      · rename_i σ1 hrun
        split at hq
        · rename_i v σ2 drop hpr
          exact fin (.inl rfl) hrun hpr (Option.some.inj hq).symm
        · cases hq
      · rename_i σ1 hrun
        split at hq
        · rename_i v σ2 drop hpr
          exact fin (.inr rfl) hrun hpr (Option.some.inj hq).symm
        · cases hq
      · cases hq
    · cases hq
  · cases hq

/-! ### Code -/
theorem ploop_sim {pc : FuncId → Nat → PCodeF} {ac : CodeF} (hc : CodeSim P Y pc ac) {nt : Nat} {b : Code} (hb : codeOK b = true) : ∀ {n : Nat} {C : Ctx} {h : AHeap} {σ σ' : St} {tv : Tr Value} {x : AExit}, ST P Y f C h σ tv → ploop (pc f nt) b n σ = some (x, σ') →
    ∃ C' h' tv', aloop ac b nt n tv h = some (x, tv', h') ∧ ST P Y f C' h' σ' tv' ∧ Step (Y.keep f) (h.next ≤ ·) C h σ C' h' σ'
  | 0, C, h, σ, σ', tv, x, st, hq => by cases hq
  | n + 1, C, h, σ, σ', tv, x, st, hq => by
    simp only [ploop] at hq
    split at hq
    · rename_i σ1 h1
      obtain ⟨C1, h1', tv1, a1, s1, t1⟩ := hc f nt b _ _ _ hb h1 C h tv st
      obtain ⟨C2, h2, tv2, a2, s2, t2⟩ := ploop_sim hc hb s1 hq
      exact ⟨C2, h2, tv2, by simp only [aloop, a1]; exact a2, s2, t1.trans t2 (fun _ h => h) (fun _ h => Nat.le_trans t1.ext.next h)⟩
    · rename_i r hne
      obtain ⟨C1, h1', tv1, a1, s1, t1⟩ := hc f nt b _ _ _ hb hq C h tv st
      refine ⟨C1, h1', tv1, ?_, s1, t1⟩
      simp only [aloop, a1]
      cases x with
      | normal => exact (hne _ hq).elim
      | _ => rfl

theorem pcode_sim (hok : progOK P = true) : ∀ n, CodeSim P Y (pcode P Y n) (acode P noO n)
  | 0 => fun f nt c σ x σ' _ hq => by cases hq
  | n + 1 => fun f nt c σ x σ' hcode hq C h tv st => by
    have ih := pcode_sim hok n
    have hcall := pcall_sim hok ih
    show ∃ C' h' tv', astep P noO n (acode P noO n) c nt tv h = some (x, tv', h') ∧ _
    have hq : pstep P Y f nt (pcall P Y (pcode P Y n)) n (pcode P Y n f nt) c σ = some (x, σ') := hq
    cases c with
    | skip => cases hq; exact ⟨C, h, tv, rfl, st, .refl _ _ _ _ _⟩
    | label l => cases hq; exact ⟨C, h, tv, rfl, st, .refl _ _ _ _ _⟩
    | exit id => cases hq; exact ⟨C, h, tv, rfl, st, .refl _ _ _ _ _⟩
    | ret => cases hq; exact ⟨C, h, tv, rfl, st, .refl _ _ _ _ _⟩
    | region id ops draw =>
      simp only [pstep] at hq
      split at hq
      · rename_i σ1 hr
        cases hq
        obtain ⟨C1, h1, tv1, a1, s1, t1⟩ := preg_sim hcall (fun e => by subst e; exact hcode) st hr
        refine ⟨C1, h1, tv1, ?_, s1, t1⟩
        cases draw with
        | true => simp only [astep]; simp only [] at a1; rw [a1]
        | false => simp only [astep]; simp only [] at a1; rw [a1]
      · cases hq
    | seq a b =>
      simp only [codeOK, Bool.and_eq_true] at hcode
      simp only [pstep] at hq
      split at hq
      · rename_i σ1 h1
        obtain ⟨C1, h1', tv1, a1, s1, t1⟩ := ih f nt a _ _ _ hcode.1 h1 C h tv st
        obtain ⟨C2, h2, tv2, a2, s2, t2⟩ := ih f nt b _ _ _ hcode.2 hq C1 h1' tv1 s1
        exact ⟨C2, h2, tv2, by simp only [astep, a1]; exact a2, s2, t1.trans t2 (fun _ h => h) (fun _ h => Nat.le_trans t1.ext.next h)⟩
      · rename_i r hne
        obtain ⟨C1, h1', tv1, a1, s1, t1⟩ := ih f nt a _ _ _ hcode.1 hq C h tv st
        refine ⟨C1, h1', tv1, ?_, s1, t1⟩
        simp only [astep, a1]
        cases x with
        | normal => exact (hne _ hq).elim
        | _ => rfl
    | cond c a b =>
      simp only [codeOK, Bool.and_eq_true] at hcode
      simp only [pstep] at hq
      have hev : ∀ {t : Bool}, pcond Y f σ c = some t → ev P tv c = some (.bool t) := fun ht => by
        unfold pcond at ht
        split at ht
        · rename_i bb hbb
          cases ht
          obtain ⟨x', e1, e2⟩ := pev_sim st.tr st.gr hbb
          rw [e1, (e2 0).inv_v.1]
        · cases ht
      split at hq
      · rename_i hcnd
        obtain ⟨C1, h1', tv1, a1, s1, t1⟩ := ih f nt a _ _ _ hcode.1 hq C h tv st
        exact ⟨C1, h1', tv1, by simp only [astep, hev hcnd]; exact a1, s1, t1⟩
      · rename_i hcnd
        obtain ⟨C1, h1', tv1, a1, s1, t1⟩ := ih f nt b _ _ _ hcode.2 hq C h tv st
        exact ⟨C1, h1', tv1, by simp only [astep, hev hcnd]; exact a1, s1, t1⟩
      · cases hq
    | block id b =>
      simp only [codeOK] at hcode
      simp only [pstep] at hq
      split at hq
      · rename_i j σ1 h1
        obtain ⟨C1, h1', tv1, a1, s1, t1⟩ := ih f nt b _ _ _ hcode h1 C h tv st
        split at hq
        · rename_i hj
          cases hq
          exact ⟨C1, h1', tv1, by simp only [astep, a1, hj], s1, t1⟩
        · rename_i hj
          cases hq
          exact ⟨C1, h1', tv1, by simp only [astep, a1, hj], s1, t1⟩
      · rename_i r hne
        obtain ⟨C1, h1', tv1, a1, s1, t1⟩ := ih f nt b _ _ _ hcode hq C h tv st
        refine ⟨C1, h1', tv1, ?_, s1, t1⟩
        simp only [astep, a1]
        cases x with
        | exit j => exact (hne _ _ hq).elim
        | _ => rfl
    | loop b =>
      simp only [codeOK] at hcode
      exact ploop_sim ih hcode st hq
    | _ => simp only [pstep] at hq; cases hq

/-- A run of the pure evaluator that ends well stands for one of the abstract evaluator. -/
theorem purRun_sim (hok : progOK P = true) (n : Nat) : CallSim P Y (purRun P Y n) (run P noO n) := pcall_sim hok (pcode_sim hok n)
end
end Go.Pur
