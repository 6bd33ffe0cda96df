/-
  Orders of headwords: shortening.
  Conditions: none; lemmas.
-/
import Derived.Test.YtdhichidcomkmaaGreatDoorWord237
set_option linter.unusedSimpArgs false
set_option linter.unusedVariables false
namespace Go.Proofs.YtdhichidcomkmaaGreatDoor
open Go.RowKit Go.Pur Go.Clerk
open Go.Abs
set_option maxRecDepth 1000000
set_option maxHeartbeats 8000000
def clS (wd ft : Tx) (k : Tx) : Bool := decide (k ≠ wd) && leftC k ft
theorem any_keys {l : List Ent} {f : Tx → Bool} : (entL l).any (fun x => f x.1) = l.any (fun e => f e.word) := by
 unfold entL
 rw [List.any_map]
 rfl
theorem short_do (n p : Nat) (wd ft : Tx) (d : Desk) (w : World) (hd : DeskAt w n p d) (hne : wd ≠ []) (hwl : wd.length ≤ 100000) (hal : ∀ e ∈ d.ents, e.word.length ≤ 100000) :
  Calls Tryz.prog 239 #[.agg #[sV wd, sV ft], ptrV p] w fun e w' => DoP w n p (doShort wd ft d) e w' := by
 have mixed : Tryz.prog.follows .mixedOrders = true := by kernel_rfl
 obtain ⟨me, ma, vv, h1, h2, h3, h4, h5, h6, h7, h8⟩ := hd
 have hp : p < w.heap.size := (Array.getElem?_eq_some_iff.1 h1).1
 have hme : me < w.heap.size := h6.lt
 have hb1 : Below w.heap.size w ((w.alloc (.cells #[sV wd, sV ft] 161)).drew) := ((Below.refl _ _).alloc (Nat.le_refl _) _).drew
 have hb2 : Below w.heap.size w (((w.alloc (.cells #[sV wd, sV ft] 161)).alloc (.cells #[.string ⟨#[]⟩, .string ⟨#[]⟩, .string ⟨#[]⟩, .string ⟨#[]⟩, .int .i64 0, .int .i64 0, .int .i64 0] 79)).drew) := (((Below.refl _ _).alloc (Nat.le_refl _) _).alloc (by simp) _).drew
 have a1 := (desk_cells ((hb1.block p hp).trans h1)).1
 have a2 := (desk_cells ((hb2.block p hp).trans h1)).1
 have k1 := lookE (h6.below hb1 hme) wd
 have k2 := lookE (h6.below hb2 hme) wd
 have H1 := hidC h1
 have H6 := hidC h6
 have H7 := hidC h7
 have H8 := hidC h8
 clear hb1 hb2 h1 h6 h7 h8
 obtain ⟨a0, ha0⟩ : ∃ a0, (getE wd d.ents).getD ent0 = a0 := ⟨_, rfl⟩
 obtain ⟨b0, hb0⟩ : ∃ b0, (getE wd d.ents).isSome = b0 := ⟨_, rfl⟩
 rw [ha0, hb0] at k1 k2
 have Ha0 := hidC ha0
 have Hb0 := hidC hb0
 have Hne := hidC hne
 clear ha0 hb0 hne
 go_enter Tryz.func239, Tryz.ntmps239
 go_wp2_with fail
 go_cut [2, 5, 6] (fun s2 s5 s6 wx => s2 = ptrV w.heap.size ∧ s5 = ptrV (w.heap.size + 1) ∧ s6 = .bool b0 ∧ Below w.heap.size w wx ∧ wx.heap[w.heap.size]? = some (.cells #[sV wd, sV ft] 161 (0, 0)) ∧ wx.heap[w.heap.size + 1]? = some (.cells #[sV a0.word, sV a0.form, sV a0.see, sV a0.writer, nV a0.asked, nV a0.came, nV a0.vol] 79 (0, 0)) ∧ wx.heap.size = w.heap.size + 2)
 case first =>
  go_region
  all_goals go_wp2_with fail
  all_goals go_meet
  all_goals exact ⟨rfl, rfl, rfl, two_new w _ _⟩
 case rest =>
  obtain ⟨rfl, rfl, rfl, hB, q0, q1, hsz⟩ := hcut
  have hpw := (hB.block p hp).trans H1.out
  obtain ⟨e0, e1, e2, e3⟩ := desk_cells hpw
  obtain ⟨g0, g1⟩ := box2 q0
  obtain ⟨f0, f1, f2, f3, f4, f5, f6⟩ := box7 q1
  have HB := hidC hB
  have Hq0 := hidC q0
  have Hq := hidC q1
  have Hsz := hidC hsz
  have hszi : w.heap.size + 2 ≤ wc.heap.size := by omega
  clear hB q0 q1 e1 e2 e3 a1 a2 k1 k2 hpw hsz
  cases b0 with
  | false =>
   have hR : doShort wd ft d = (2, d) := by
    unfold doShort
    cases hg : getE wd d.ents with
    | none => rfl
    | some a => rw [hg] at Hb0; exact absurd Hb0.out (by simp)
   have HR := hidC hR
   clear hR
   go_wp2
   go_ret
   rw [HR.out]
   exact ⟨rfl, HB.out.mono (by omega), fun h => by cases h⟩
  | true =>
   obtain ⟨a, hg⟩ : ∃ a, getE wd d.ents = some a := Option.isSome_iff_exists.1 Hb0.out
   obtain rfl : a = a0 := by rw [← Ha0.out, hg]; rfl
   have hw := getE_word hg
   obtain ⟨aw, af, ase, awr, aas, aca, avo⟩ := a
   obtain rfl : aw = wd := hw
   have Hg := hidC hg
   clear hg
   cases af with
   | cons c1 l1 =>
    have hR : doShort aw ft d = (6, d) := by
     unfold doShort
     rw [Hg.out]
     simp only [List.isEmpty_cons, Bool.not_false]
    have HR := hidC hR
    clear hR
    go_wp2
    go_ret
    rw [HR.out]
    exact ⟨rfl, HB.out.mono (by omega), fun h => by cases h⟩
   | nil =>
    have HLf := hidC (left_calls aw ft)
    cases hlf : leftC aw ft with
    | false =>
     rw [hlf] at HLf
     have Hlf := hidC hlf
     clear hlf
     have hR : doShort aw ft d = (14, d) := by
      unfold doShort
      rw [Hg.out]
      simp only [List.isEmpty_nil, Bool.not_true, Hlf.out]
     have HR := hidC hR
     clear hR
     go_wp2_with (go_at_call 238; refine (HLf.out _ hwl).mono ?_; rintro e wa ⟨rfl, hD⟩)
     go_ret
     rw [HR.out]
     exact ⟨rfl, (HB.out.mono (by omega)).trans (hD.below _), fun h => by cases h⟩
    | true =>
     rw [hlf] at HLf
     have Hlf := hidC hlf
     clear hlf
     go_upto_region 8 with (go_at_call 238; refine (HLf.out _ hwl).mono ?_; rintro e wa ⟨rfl, hD⟩)
     have hB0 : Below w.heap.size w wa := HB.out.trans (hD.below _)
     obtain ⟨o, hrg, hit⟩ := range_start (P := Tryz.prog) (H6.out.below hB0 hme) Tryz.underlying95
     have e0a := (desk_cells ((hB0.block p hp).trans H1.out)).1
     have hsza : wa.heap.size = wc.heap.size := by rw [hD.1]
     obtain ⟨w1, hw1⟩ : ∃ w1, wa.alloc o = w1 := ⟨_, rfl⟩
     have hB1 : Below wa.heap.size wa w1 := by rw [← hw1]; exact (Below.refl _ _).alloc (Nat.le_refl _) _
     rw [hw1] at hrg hit
     have hC : CAny w1 wa.heap.size me d.ents (fun x => clS aw ft x.1) (entL d.ents) w1 := ⟨hit, Below.refl _ _, rfl⟩
     have HB0 := hidC hB0
     have HC := hidC hC
     have HB1 := hidC hB1
     have HD := hidC hD
     have Hsza := hidC hsza
     have hszi' : w.heap.size + 2 ≤ wa.heap.size := by omega
     clear hC hB1 hit hw1 hB0 hD hsza
     go_wp2_with fail
     go_loopg [7] (d.ents.length + 1) (fun gk s7 wx => ∃ rest, CAny w1 wa.heap.size me d.ents (fun x => clS aw ft x.1) rest wx ∧ (∀ x ∈ rest, x ∈ entL d.ents) ∧ rest.length < gk)
     case atStart => exact ⟨_, HC.out, fun x hx => hx, by simp [entL]⟩
     case round =>
      obtain ⟨rest, hC, hin, hgk⟩ := hrel
      obtain ⟨g', rfl⟩ : ∃ g', gk = g' + 1 := ⟨gk - 1, by omega⟩
      obtain ⟨q1, q2, q3⟩ := hC
      have hrm : wa.heap.size ≠ me := by omega
      have hB1' := HB1.out
      rcases next_step (P := Tryz.prog) q1 hrm 0 with ⟨rfl, hrun⟩ | ⟨k, ev, rest', W1, hpm, hrun, hit1, hT1, hent⟩
      ·have hany : d.ents.any (fun e => clS aw ft e.word) = false := by
        rw [← any_keys (f := clS aw ft), q3]
        rfl
       have hB5 : Below wa.heap.size wa wr := hB1'.trans q2
       have hB6 : Below w.heap.size w wr := HB0.out.trans (hB5.mono (by omega))
       have hq0 := (hB5.block w.heap.size (by omega)).trans ((by rw [HD.out.1]; exact Hq0.out : wa.heap[w.heap.size]? = some (.cells #[sV aw, sV ft] 161 (0, 0))))
       have hq1 := (hB5.block (w.heap.size + 1) (by omega)).trans ((by rw [HD.out.1]; exact Hq.out : wa.heap[w.heap.size + 1]? = some (.cells #[sV aw, sV [], sV ase, sV awr, nV aas, nV aca, nV avo] 79 (0, 0))))
       obtain ⟨r0, r1⟩ := box2 hq0
       obtain ⟨t0, t1, t2, t3, t4, t5, t6⟩ := box7 hq1
       have z1 := boxF hq1 1
       have hm3 : Below w.heap.size w (wr.setCell ⟨w.heap.size + 1, 1, none⟩ (sV ft)).drew := (hB6.setCell (p := ⟨w.heap.size + 1, 1, none⟩) (Nat.le_succ _) _).drew
       have e0' := (desk_cells ((hm3.block p hp).trans H1.out)).1
       obtain ⟨o, hu, hM⟩ := updE (H6.out.below hm3 hme) ⟨aw, ft, ase, awr, aas, aca, avo⟩
       have hR : doShort aw ft d = (0, { d with ents := putE ⟨aw, ft, ase, awr, aas, aca, avo⟩ d.ents }) := by
        unfold doShort
        rw [Hg.out]
        have : (d.ents.any fun x => decide (x.word ≠ aw) && leftC x.word ft) = false := hany
        simp only [List.isEmpty_nil, Bool.not_true, Hlf.out, this]
       have HR := hidC hR
       have HM := hidC hM
       have Hm3 := hidC hm3
       clear hM hR hB5 hB6 hany q1 q2 q3 hB1' hrm g0 g1 e0 e0a f0 f1 f2 f3 f4 f5 f6 hq0 hq1 hm3 hin
       go_wp2
       go_region
       go_wp2
       go_ret
       rw [HR.out]
       exact ents_end H1.out h2 h3 h4 h5 H6.out H7.out H8.out Hm3.out HM.out
      ·have hlen : rest.length = rest'.length + 1 := by rw [hpm.length_eq]; rfl
       have hany : (entL d.ents).any (fun x => clS aw ft x.1) = (clS aw ft k || rest'.any fun x => clS aw ft x.1) := by
        rw [q3, any_perm hpm]
        rfl
       have hkm : (k, ev) ∈ entL d.ents := hin _ (hpm.mem_iff.2 List.mem_cons_self)
       have hkl : k.length ≤ 100000 := by
        unfold entL at hkm
        obtain ⟨y, hy, e⟩ := List.mem_map.1 hkm
        cases e
        exact hal _ hy
       have hin' : ∀ x ∈ rest', x ∈ entL d.ents := fun x hx => hin x (hpm.mem_iff.2 (List.mem_cons_of_mem _ hx))
       have hB5 : Below wa.heap.size w1 W1 := hT1.below q2 (Nat.le_refl _)
       have hr1 : wa.heap.size < W1.heap.size := hit1.lt
       have hB6 : Below wa.heap.size wa W1 := hB1'.trans hB5
       obtain ⟨r0, r1⟩ := box2 ((hB6.block w.heap.size (by omega)).trans ((by rw [HD.out.1]; exact Hq0.out : wa.heap[w.heap.size]? = some (.cells #[sV aw, sV ft] 161 (0, 0)))))
       have Hit1 := hidC hit1
       have HB5 := hidC hB5
       have HB6 := hidC hB6
       have Hany := hidC hany
       have Hin := hidC hin'
       clear hany q1 q2 q3 hB1' hpm hit1 hB5 hB6 hT1 hin hin' hkm g0 g1 e0 e0a f0 f1 f2 f3 f4 f5 f6
       by_cases hk : k = aw
       ·subst hk
        have hC2 : CAny w1 wa.heap.size me d.ents (fun x => clS k ft x.1) rest' W1 := ⟨Hit1.out, HB5.out, by
         rw [Hany.out]
         have : clS k ft k = false := by unfold clS; simp
         rw [this]
         rfl⟩
        have HC2 := hidC hC2
        clear hC2
        go_wp2
        go_roundg g'
        case measure => omega
        case rel => exact ⟨rest', HC2.out, Hin.out, by omega⟩
       ·have HL := hidC (left_calls k ft)
        have hbk : (k == aw) = false := beq_eq_false_iff_ne.2 hk
        cases hlc : leftC k ft with
        | true =>
         rw [hlc] at HL
         have Hlc := hidC hlc
         have Hk := hidC hk
         have hany : d.ents.any (fun e => clS aw ft e.word) = true := by
          rw [← any_keys (f := clS aw ft), Hany.out]
          unfold clS
          rw [decide_eq_true hk, hlc]
          rfl
         have hR : doShort aw ft d = (13, d) := by
          unfold doShort
          rw [Hg.out]
          have : (d.ents.any fun x => decide (x.word ≠ aw) && leftC x.word ft) = true := hany
          simp only [List.isEmpty_nil, Bool.not_true, Hlf.out, this]
         have HR := hidC hR
         clear hlc hk hR hany
         go_wp2_with (go_at_call 238; refine (HL.out _ hkl).mono ?_; rintro e wb ⟨rfl, hD2⟩)
         go_ret
         rw [HR.out]
         exact ⟨rfl, ((HB0.out.mono (by omega)).trans (HB6.out.mono (by omega))).trans (hD2.below _), fun h => by cases h⟩
        | false =>
         rw [hlc] at HL
         have hC2 : ∀ wb, Drew W1 wb → CAny w1 wa.heap.size me d.ents (fun x => clS aw ft x.1) rest' wb := fun wb hD2 => ⟨Hit1.out.eqb (by rw [hD2.1]) (by rw [hD2.1]), HB5.out.trans (hD2.below _), by
          rw [Hany.out]
          have : clS aw ft k = false := by unfold clS; rw [hlc, Bool.and_false]
          rw [this]
          rfl⟩
         have HC2 := hidC hC2
         clear hC2 hlc hk
         go_wp2_with (go_at_call 238; refine (HL.out _ hkl).mono ?_; rintro e wb ⟨rfl, hD2⟩)
         go_roundg g'
         case measure => omega
         case rel => exact ⟨rest', HC2.out _ hD2, Hin.out, by omega⟩
end Go.Proofs.YtdhichidcomkmaaGreatDoor
