/-
  Orders of headwords: entering.
  Orders of headwords: shortening.
  Conditions: none; definitions and lemmas.
-/
import Derived.Test.YtjeadhfponlnnaaGreatDoorSee242
import Derived.Test.YtjeadhfponlnnaaGreatDoorLeft238
set_option linter.unusedSimpArgs false
set_option linter.unusedVariables false
namespace Go.Proofs.YtjeadhfponlnnaaGreatDoor
open Go.RowKit Go.Pur Go.Clerk
open Go.Abs
set_option maxRecDepth 1000000
set_option maxHeartbeats 8000000
def clE (wd : Tx) (e : Ent) : Bool := !e.form.isEmpty && leftC wd e.form
def CAny (w1 : World) (r me : Nat) (l : List Ent) (f : Tx × Ent → Bool) (rest : List (Tx × Ent)) (wx : World) : Prop :=
 IterAt wx r me entV (entL l) rest ∧ Below r w1 wx ∧ ((entL l).any f = rest.any f)
theorem any_perm {α : Type} {f : α → Bool} {l l' : List α} (h : l.Perm l') : l.any f = l'.any f := by
 rw [Bool.eq_iff_iff]
 simp only [List.any_eq_true]
 exact ⟨fun ⟨x, hx, hf⟩ => ⟨x, h.mem_iff.1 hx, hf⟩, fun ⟨x, hx, hf⟩ => ⟨x, h.mem_iff.2 hx, hf⟩⟩
theorem putE_new {a : Ent} : ∀ {l : List Ent}, getE a.word l = none → putE a l = l ++ [a]
 | [], _ => rfl
 | e :: l, h => by
  unfold getE at h
  unfold putE
  cases he : decide (e.word = a.word) with
  | true => rw [he] at h; cases h
  | false =>
   rw [he] at h
   show e :: putE a l = _
   rw [putE_new h]
   rfl
theorem any_ents {l : List Ent} {f : Ent → Bool} : (entL l).any (fun x => f x.2) = l.any f := by
 unfold entL
 rw [List.any_map]
 rfl
theorem word_do (n p : Nat) (wd : Tx) (d : Desk) (w : World) (hd : DeskAt w n p d) (hne : wd ≠ []) (hwl : wd.length ≤ 10) (hel : d.ents.length ≤ 1000) :
  Calls Tryz.prog 237 #[.agg #[sV wd], ptrV p] w fun e w' => DoP w n p (doWord wd d) e w' := by
 have mixed : Tryz.prog.follows .mixedOrders = true := by kernel_rfl
 obtain ⟨me, ma, vv, h1, h2, h3, h4, h5, h6, h7, h8⟩ := hd
 have hp : p < w.heap.size := (Array.getElem?_eq_some_iff.1 h1).1
 have hme : me < w.heap.size := h6.lt
 have hb1 : Below w.heap.size w ((w.alloc (.cells #[sV wd] 159)).drew) := ((Below.refl _ _).alloc (Nat.le_refl _) _).drew
 have hb2 : Below w.heap.size w (((w.alloc (.cells #[sV wd] 159)).alloc (.cells #[.string ⟨#[]⟩, .string ⟨#[]⟩, .string ⟨#[]⟩, .string ⟨#[]⟩, .int .i64 0, .int .i64 0, .int .i64 0] 79)).drew) := (((Below.refl _ _).alloc (Nat.le_refl _) _).alloc (by simp) _).drew
 have a1 := (desk_cells ((hb1.block p hp).trans h1)).1
 have a2 := (desk_cells ((hb2.block p hp).trans h1)).1
 have k1 := lookE (h6.below hb1 hme) wd
 have k2 := lookE (h6.below hb2 hme) wd
 have H1 := hidC h1
 have H6 := hidC h6
 have H7 := hidC h7
 have H8 := hidC h8
 clear hb1 hb2 h1 h6 h7 h8
 obtain ⟨a0, ha0⟩ : ∃ a0, (getE wd d.ents).getD ent0 = a0 := ⟨_, rfl⟩
 obtain ⟨b0, hb0⟩ : ∃ b0, (getE wd d.ents).isSome = b0 := ⟨_, rfl⟩
 rw [ha0, hb0] at k1 k2
 have Hb0 := hidC hb0
 have Hne := hidC hne
 clear ha0 hb0 hne
 go_enter Tryz.func237, Tryz.ntmps237
 go_wp2_with fail
 go_cut [2, 5, 6] (fun s2 s5 s6 wx => s2 = ptrV w.heap.size ∧ s5 = ptrV (w.heap.size + 1) ∧ s6 = .bool b0 ∧ Below w.heap.size w wx ∧ wx.heap[w.heap.size]? = some (.cells #[sV wd] 159 (0, 0)) ∧ wx.heap.size = w.heap.size + 2)
 case first =>
  go_region
  all_goals go_wp2_with fail
  all_goals go_meet
  all_goals exact ⟨rfl, rfl, rfl, (two_new w _ _).1, (two_new w _ _).2.1, (two_new w _ _).2.2.2⟩
 case rest =>
  obtain ⟨rfl, rfl, rfl, hB, q0, hsz⟩ := hcut
  have hpw := (hB.block p hp).trans H1.out
  obtain ⟨e0, e1, e2, e3⟩ := desk_cells hpw
  have Hsh := hidC (shut_calls p wd d wc me ma vv hpw Hne.out)
  have g0 := box1 q0
  have hln := (H6.out.below hB hme).lenRun (P := Tryz.prog) Tryz.underlying95 3
  rw [show (entL d.ents).length = d.ents.length by simp [entL]] at hln
  have hlnd : (Builtin.len_ #[95] 3 #[Value.map (some me)]).run Tryz.prog wc.drew = .ok (.int .i64 d.ents.length) wc.drew := by
   have := (H6.out.below hB.drew hme).lenRun (P := Tryz.prog) Tryz.underlying95 3
   rw [show (entL d.ents).length = d.ents.length by simp [entL]] at this
   exact this
  have HB := hidC hB
  have Hq := hidC q0
  have Hsz := hidC hsz
  clear hB q0 e1 e2 e3 a1 a2 k1 k2 hpw hln hsz
  cases b0 with
  | true =>
   have hR : doWord wd d = (6, d) := by
    unfold doWord
    cases hg : getE wd d.ents with
    | none => rw [hg] at Hb0; exact absurd Hb0.out (by simp)
    | some a => rfl
   have HR := hidC hR
   clear hR hlnd
   go_wp2
   go_ret
   rw [HR.out]
   exact ⟨rfl, HB.out.mono (by omega), fun h => by cases h⟩
  | false =>
   have hg : getE wd d.ents = none := by
    cases hg : getE wd d.ents with
    | none => rfl
    | some a => rw [hg] at Hb0; exact absurd Hb0.out (by simp)
   have Hg := hidC hg
   clear hg
   cases hsh : d.shut wd with
   | true =>
    rw [hsh] at Hsh
    have hR : doWord wd d = (20, d) := by
     unfold doWord
     rw [Hg.out, hsh]
    have HR := hidC hR
    clear hR hlnd hsh
    go_wp2_with (go_at_call 86; refine Hsh.out.mono ?_; rintro e w' ⟨rfl, rfl⟩)
    go_ret
    rw [HR.out]
    exact ⟨rfl, HB.out.drew.mono (by omega), fun h => by cases h⟩
   | false =>
    rw [hsh] at Hsh
    have HS := hidC hsh
    clear hsh
    by_cases h40 : d.ents.length = 40
    ·have h40i : ((d.ents.length : Int) == 40) = true := by rw [h40]; rfl
     have hR : doWord wd d = (16, d) := by
      unfold doWord
      rw [Hg.out, HS.out, decide_eq_true h40]
     have HR := hidC hR
     clear hR h40
     go_wp2_with (go_at_call 86; refine Hsh.out.mono ?_; rintro e w' ⟨rfl, rfl⟩)
     go_ret
     rw [HR.out]
     exact ⟨rfl, HB.out.drew.mono (by omega), fun h => by cases h⟩
    ·have h40i : ((d.ents.length : Int) == 40) = false := by
      rw [beq_eq_false_iff_ne]
      omega
     have H40 := hidC h40
     clear h40
     obtain ⟨o, hrg, hit⟩ := range_start (P := Tryz.prog) (H6.out.below HB.out.drew hme) Tryz.underlying95
     obtain ⟨w1, hw1⟩ : ∃ w1, wc.drew.alloc o = w1 := ⟨_, rfl⟩
     have hB1 : Below wc.drew.heap.size wc.drew w1 := by rw [← hw1]; exact (Below.refl _ _).alloc (Nat.le_refl _) _
     rw [hw1] at hrg hit
     have hC : CAny w1 wc.heap.size me d.ents (fun x => clE wd x.2) (entL d.ents) w1 := ⟨hit, Below.refl _ _, rfl⟩
     have HC := hidC hC
     have HB1 := hidC hB1
     clear hC hB1 hit hw1
     go_wp2_with (go_at_call 86; refine Hsh.out.mono ?_; rintro e w' ⟨rfl, rfl⟩)
     go_loopg [8] (d.ents.length + 1) (fun gk s8 wx => ∃ rest, CAny w1 wc.heap.size me d.ents (fun x => clE wd x.2) rest wx ∧ rest.length < gk)
     case atStart => exact ⟨_, HC.out, by simp [entL]⟩
     case round =>
      obtain ⟨rest, hC, hgk⟩ := hrel
      obtain ⟨g', rfl⟩ : ∃ g', gk = g' + 1 := ⟨gk - 1, by omega⟩
      obtain ⟨q1, q2, q3⟩ := hC
      have hsz := Hsz.out
      have hrm : wc.heap.size ≠ me := by omega
      have hB1' := HB1.out
      have hszi : w.heap.size + 2 ≤ wc.heap.size := by omega
      rcases next_step (P := Tryz.prog) q1 hrm 0 with ⟨rfl, hrun⟩ | ⟨k, ev, rest', W1, hpm, hrun, hit1, hT1, hent⟩
      ·have hany : d.ents.any (clE wd) = false := by
        rw [← any_ents (f := clE wd), q3]
        rfl
       have hB5 : Below wc.heap.size wc wr := (((Below.refl _ wc).drew).trans hB1').trans q2
       have hB6 : Below w.heap.size w wr := HB.out.trans (hB5.mono (by omega))
       have e0' := (desk_cells (((hB6.drew).block p hp).trans H1.out)).1
       have g0' := box1 (W := wr.drew) ((hB5.block w.heap.size (by omega)).trans Hq.out)
       obtain ⟨o, hu0, hM⟩ := updE (W := wr.drew) (H6.out.below hB6.drew hme) ⟨wd, [], [], [], 0, 0, 0⟩
       have hu : (Instr.mapUpdate 95 (.map (some me)) (sV wd) (.agg #[sV wd, .string ⟨#[]⟩, .string ⟨#[]⟩, .string ⟨#[]⟩, .int .i64 0, .int .i64 0, .int .i64 0])).run Tryz.prog wr.drew = _ := hu0
       clear hu0
       rw [putE_new (a := ⟨wd, [], [], [], 0, 0, 0⟩) Hg.out] at hM
       have hR : doWord wd d = (0, { d with ents := d.ents ++ [⟨wd, [], [], [], 0, 0, 0⟩] }) := by
        unfold doWord
        rw [Hg.out, HS.out, decide_eq_false H40.out]
        have : (d.ents.any fun e => !e.form.isEmpty && leftC wd e.form) = false := hany
        rw [this]
       have HR := hidC hR
       have HM := hidC hM
       have HB6 := hidC hB6.drew
       clear hM hR hB5 hB6 hany q1 q2 q3 hB1' hrm hsz g0 e0 hlnd
       go_wp2
       go_region
       go_wp2
       go_ret
       rw [HR.out]
       exact ents_end H1.out h2 h3 h4 h5 H6.out H7.out H8.out HB6.out HM.out
      ·have hlen : rest.length = rest'.length + 1 := by rw [hpm.length_eq]; rfl
       have hany : (entL d.ents).any (fun x => clE wd x.2) = (clE wd ev || rest'.any fun x => clE wd x.2) := by
        rw [q3, any_perm hpm]
        rfl
       have hB5 : Below wc.heap.size w1 W1 := hT1.below q2 (Nat.le_refl _)
       have hr1 : wc.heap.size < W1.heap.size := hit1.lt
       have hB6 : Below wc.heap.size wc W1 := (((Below.refl _ wc).drew).trans hB1').trans hB5
       have g0' := box1 ((hB6.block w.heap.size (by omega)).trans Hq.out)
       have hwl' : wd.length ≤ 100000 := by omega
       obtain ⟨ew, ef, es, er, ea, ec, ev0⟩ := ev
       have Hit1 := hidC hit1
       have HB5 := hidC hB5
       have HB6 := hidC hB6
       have Hany := hidC hany
       clear hany q1 q2 q3 hB1' hsz hpm hit1 hB5 hB6 hT1 hlnd
       have hb7 : Below W1.heap.size W1 (W1.alloc (.cells #[sV ew, sV ef, sV es, sV er, nV ea, nV ec, nV ev0] 79)) := (Below.refl _ _).alloc (Nat.le_refl _) _
       have g1' := (hb7.cell (p := ⟨w.heap.size, 0, none⟩) (by simp; omega)).trans g0'
       have HG := hidC g0'
       clear g0' g0 e0
       cases ef with
       | nil =>
        have hC2 : CAny w1 wc.heap.size me d.ents (fun x => clE wd x.2) rest' (W1.alloc (.cells #[sV ew, sV [], sV es, sV er, nV ea, nV ec, nV ev0] 79)) :=
         ⟨Hit1.out.below hb7 hr1 (by omega), HB5.out.trans (hb7.mono (by omega)), Hany.out⟩
        have HC2 := hidC hC2
        clear hC2 hb7
        go_wp2
        go_roundg g'
        case measure => omega
        case rel => exact ⟨rest', HC2.out, by omega⟩
       | cons c1 l1 =>
        have HL := hidC (left_calls wd (c1 :: l1))
        have Hb7 := hidC hb7
        clear hb7
        cases hlc : leftC wd (c1 :: l1) with
        | true =>
         rw [hlc] at HL
         have hany : d.ents.any (clE wd) = true := by
          rw [← any_ents (f := clE wd), Hany.out]
          unfold clE
          rw [hlc]
          rfl
         have hR : doWord wd d = (13, d) := by
          unfold doWord
          rw [Hg.out, HS.out, decide_eq_false H40.out]
          have : (d.ents.any fun e => !e.form.isEmpty && leftC wd e.form) = true := hany
          rw [this]
         have HR := hidC hR
         clear hR hany hlc
         go_wp2_with (go_at_call 238; refine (HL.out _ hwl').mono ?_; rintro e wa ⟨rfl, hD⟩)
         go_ret
         rw [HR.out]
         exact ⟨rfl, (HB.out.trans ((HB6.out.trans (Hb7.out.mono (by omega))).mono (by omega))).mono (by omega) |>.trans (hD.below _), fun h => by cases h⟩
        | false =>
         rw [hlc] at HL
         have Hlc := hidC hlc
         clear hlc
         go_wp2_with (go_at_call 238; refine (HL.out _ hwl').mono ?_; rintro e wa ⟨rfl, hD⟩)
         go_roundg g'
         case measure => omega
         case rel =>
          refine ⟨rest', ⟨(Hit1.out.below Hb7.out hr1 (by omega)).eqb (by rw [hD.1]) (by rw [hD.1]), (HB5.out.trans (Hb7.out.mono (by omega))).trans (hD.below _), ?_⟩, by omega⟩
          rw [Hany.out]
          have : clE wd ⟨ew, c1 :: l1, es, er, ea, ec, ev0⟩ = false := by
           unfold clE
           rw [Hlc.out]
           rfl
          rw [this]
          rfl
end Go.Proofs.YtjeadhfponlnnaaGreatDoor
set_option linter.unusedSimpArgs false
set_option linter.unusedVariables false
namespace Go.Proofs.YtjeadhfponlnnaaGreatDoor
open Go.RowKit Go.Pur Go.Clerk
open Go.Abs
set_option maxRecDepth 1000000
set_option maxHeartbeats 8000000
def clS (wd ft : Tx) (k : Tx) : Bool := decide (k ≠ wd) && leftC k ft
theorem any_keys {l : List Ent} {f : Tx → Bool} : (entL l).any (fun x => f x.1) = l.any (fun e => f e.word) := by
 unfold entL
 rw [List.any_map]
 rfl
theorem short_do (n p : Nat) (wd ft : Tx) (d : Desk) (w : World) (hd : DeskAt w n p d) (hne : wd ≠ []) (hwl : wd.length ≤ 100000) (hal : ∀ e ∈ d.ents, e.word.length ≤ 100000) :
  Calls Tryz.prog 239 #[.agg #[sV wd, sV ft], ptrV p] w fun e w' => DoP w n p (doShort wd ft d) e w' := by
 have mixed : Tryz.prog.follows .mixedOrders = true := by kernel_rfl
 obtain ⟨me, ma, vv, h1, h2, h3, h4, h5, h6, h7, h8⟩ := hd
 have hp : p < w.heap.size := (Array.getElem?_eq_some_iff.1 h1).1
 have hme : me < w.heap.size := h6.lt
 have hb1 : Below w.heap.size w ((w.alloc (.cells #[sV wd, sV ft] 161)).drew) := ((Below.refl _ _).alloc (Nat.le_refl _) _).drew
 have hb2 : Below w.heap.size w (((w.alloc (.cells #[sV wd, sV ft] 161)).alloc (.cells #[.string ⟨#[]⟩, .string ⟨#[]⟩, .string ⟨#[]⟩, .string ⟨#[]⟩, .int .i64 0, .int .i64 0, .int .i64 0] 79)).drew) := (((Below.refl _ _).alloc (Nat.le_refl _) _).alloc (by simp) _).drew
 have a1 := (desk_cells ((hb1.block p hp).trans h1)).1
 have a2 := (desk_cells ((hb2.block p hp).trans h1)).1
 have k1 := lookE (h6.below hb1 hme) wd
 have k2 := lookE (h6.below hb2 hme) wd
 have H1 := hidC h1
 have H6 := hidC h6
 have H7 := hidC h7
 have H8 := hidC h8
 clear hb1 hb2 h1 h6 h7 h8
 obtain ⟨a0, ha0⟩ : ∃ a0, (getE wd d.ents).getD ent0 = a0 := ⟨_, rfl⟩
 obtain ⟨b0, hb0⟩ : ∃ b0, (getE wd d.ents).isSome = b0 := ⟨_, rfl⟩
 rw [ha0, hb0] at k1 k2
 have Ha0 := hidC ha0
 have Hb0 := hidC hb0
 have Hne := hidC hne
 clear ha0 hb0 hne
 go_enter Tryz.func239, Tryz.ntmps239
 go_wp2_with fail
 go_cut [2, 5, 6] (fun s2 s5 s6 wx => s2 = ptrV w.heap.size ∧ s5 = ptrV (w.heap.size + 1) ∧ s6 = .bool b0 ∧ Below w.heap.size w wx ∧ wx.heap[w.heap.size]? = some (.cells #[sV wd, sV ft] 161 (0, 0)) ∧ wx.heap[w.heap.size + 1]? = some (.cells #[sV a0.word, sV a0.form, sV a0.see, sV a0.writer, nV a0.asked, nV a0.came, nV a0.vol] 79 (0, 0)) ∧ wx.heap.size = w.heap.size + 2)
 case first =>
  go_region
  all_goals go_wp2_with fail
  all_goals go_meet
  all_goals exact ⟨rfl, rfl, rfl, two_new w _ _⟩
 case rest =>
  obtain ⟨rfl, rfl, rfl, hB, q0, q1, hsz⟩ := hcut
  have hpw := (hB.block p hp).trans H1.out
  obtain ⟨e0, e1, e2, e3⟩ := desk_cells hpw
  obtain ⟨g0, g1⟩ := box2 q0
  obtain ⟨f0, f1, f2, f3, f4, f5, f6⟩ := box7 q1
  have HB := hidC hB
  have Hq0 := hidC q0
  have Hq := hidC q1
  have Hsz := hidC hsz
  have hszi : w.heap.size + 2 ≤ wc.heap.size := by omega
  clear hB q0 q1 e1 e2 e3 a1 a2 k1 k2 hpw hsz
  cases b0 with
  | false =>
   have hR : doShort wd ft d = (2, d) := by
    unfold doShort
    cases hg : getE wd d.ents with
    | none => rfl
    | some a => rw [hg] at Hb0; exact absurd Hb0.out (by simp)
   have HR := hidC hR
   clear hR
   go_wp2
   go_ret
   rw [HR.out]
   exact ⟨rfl, HB.out.mono (by omega), fun h => by cases h⟩
  | true =>
   obtain ⟨a, hg⟩ : ∃ a, getE wd d.ents = some a := Option.isSome_iff_exists.1 Hb0.out
   obtain rfl : a = a0 := by rw [← Ha0.out, hg]; rfl
   have hw := getE_word hg
   obtain ⟨aw, af, ase, awr, aas, aca, avo⟩ := a
   obtain rfl : aw = wd := hw
   have Hg := hidC hg
   clear hg
   cases af with
   | cons c1 l1 =>
    have hR : doShort aw ft d = (6, d) := by
     unfold doShort
     rw [Hg.out]
     simp only [List.isEmpty_cons, Bool.not_false]
    have HR := hidC hR
    clear hR
    go_wp2
    go_ret
    rw [HR.out]
    exact ⟨rfl, HB.out.mono (by omega), fun h => by cases h⟩
   | nil =>
    have HLf := hidC (left_calls aw ft)
    cases hlf : leftC aw ft with
    | false =>
     rw [hlf] at HLf
     have Hlf := hidC hlf
     clear hlf
     have hR : doShort aw ft d = (14, d) := by
      unfold doShort
      rw [Hg.out]
      simp only [List.isEmpty_nil, Bool.not_true, Hlf.out]
     have HR := hidC hR
     clear hR
     go_wp2_with (go_at_call 238; refine (HLf.out _ hwl).mono ?_; rintro e wa ⟨rfl, hD⟩)
     go_ret
     rw [HR.out]
     exact ⟨rfl, (HB.out.mono (by omega)).trans (hD.below _), fun h => by cases h⟩
    | true =>
     rw [hlf] at HLf
     have Hlf := hidC hlf
     clear hlf
     go_upto_region 8 with (go_at_call 238; refine (HLf.out _ hwl).mono ?_; rintro e wa ⟨rfl, hD⟩)
     have hB0 : Below w.heap.size w wa := HB.out.trans (hD.below _)
     obtain ⟨o, hrg, hit⟩ := range_start (P := Tryz.prog) (H6.out.below hB0 hme) Tryz.underlying95
     have e0a := (desk_cells ((hB0.block p hp).trans H1.out)).1
     have hsza : wa.heap.size = wc.heap.size := by rw [hD.1]
     obtain ⟨w1, hw1⟩ : ∃ w1, wa.alloc o = w1 := ⟨_, rfl⟩
     have hB1 : Below wa.heap.size wa w1 := by rw [← hw1]; exact (Below.refl _ _).alloc (Nat.le_refl _) _
     rw [hw1] at hrg hit
     have hC : CAny w1 wa.heap.size me d.ents (fun x => clS aw ft x.1) (entL d.ents) w1 := ⟨hit, Below.refl _ _, rfl⟩
     have HB0 := hidC hB0
     have HC := hidC hC
     have HB1 := hidC hB1
     have HD := hidC hD
     have Hsza := hidC hsza
     have hszi' : w.heap.size + 2 ≤ wa.heap.size := by omega
     clear hC hB1 hit hw1 hB0 hD hsza
     go_wp2_with fail
     go_loopg [7] (d.ents.length + 1) (fun gk s7 wx => ∃ rest, CAny w1 wa.heap.size me d.ents (fun x => clS aw ft x.1) rest wx ∧ (∀ x ∈ rest, x ∈ entL d.ents) ∧ rest.length < gk)
     case atStart => exact ⟨_, HC.out, fun x hx => hx, by simp [entL]⟩
     case round =>
      obtain ⟨rest, hC, hin, hgk⟩ := hrel
      obtain ⟨g', rfl⟩ : ∃ g', gk = g' + 1 := ⟨gk - 1, by omega⟩
      obtain ⟨q1, q2, q3⟩ := hC
      have hrm : wa.heap.size ≠ me := by omega
      have hB1' := HB1.out
      rcases next_step (P := Tryz.prog) q1 hrm 0 with ⟨rfl, hrun⟩ | ⟨k, ev, rest', W1, hpm, hrun, hit1, hT1, hent⟩
      ·have hany : d.ents.any (fun e => clS aw ft e.word) = false := by
        rw [← any_keys (f := clS aw ft), q3]
        rfl
       have hB5 : Below wa.heap.size wa wr := hB1'.trans q2
       have hB6 : Below w.heap.size w wr := HB0.out.trans (hB5.mono (by omega))
       have hq0 := (hB5.block w.heap.size (by omega)).trans ((by rw [HD.out.1]; exact Hq0.out : wa.heap[w.heap.size]? = some (.cells #[sV aw, sV ft] 161 (0, 0))))
       have hq1 := (hB5.block (w.heap.size + 1) (by omega)).trans ((by rw [HD.out.1]; exact Hq.out : wa.heap[w.heap.size + 1]? = some (.cells #[sV aw, sV [], sV ase, sV awr, nV aas, nV aca, nV avo] 79 (0, 0))))
       obtain ⟨r0, r1⟩ := box2 hq0
       obtain ⟨t0, t1, t2, t3, t4, t5, t6⟩ := box7 hq1
       have z1 := boxF hq1 1
       have hm3 : Below w.heap.size w (wr.setCell ⟨w.heap.size + 1, 1, none⟩ (sV ft)).drew := (hB6.setCell (p := ⟨w.heap.size + 1, 1, none⟩) (Nat.le_succ _) _).drew
       have e0' := (desk_cells ((hm3.block p hp).trans H1.out)).1
       obtain ⟨o, hu, hM⟩ := updE (H6.out.below hm3 hme) ⟨aw, ft, ase, awr, aas, aca, avo⟩
       have hR : doShort aw ft d = (0, { d with ents := putE ⟨aw, ft, ase, awr, aas, aca, avo⟩ d.ents }) := by
        unfold doShort
        rw [Hg.out]
        have : (d.ents.any fun x => decide (x.word ≠ aw) && leftC x.word ft) = false := hany
        simp only [List.isEmpty_nil, Bool.not_true, Hlf.out, this]
       have HR := hidC hR
       have HM := hidC hM
       have Hm3 := hidC hm3
       clear hM hR hB5 hB6 hany q1 q2 q3 hB1' hrm g0 g1 e0 e0a f0 f1 f2 f3 f4 f5 f6 hq0 hq1 hm3 hin
       go_wp2
       go_region
       go_wp2
       go_ret
       rw [HR.out]
       exact ents_end H1.out h2 h3 h4 h5 H6.out H7.out H8.out Hm3.out HM.out
      ·have hlen : rest.length = rest'.length + 1 := by rw [hpm.length_eq]; rfl
       have hany : (entL d.ents).any (fun x => clS aw ft x.1) = (clS aw ft k || rest'.any fun x => clS aw ft x.1) := by
        rw [q3, any_perm hpm]
        rfl
       have hkm : (k, ev) ∈ entL d.ents := hin _ (hpm.mem_iff.2 List.mem_cons_self)
       have hkl : k.length ≤ 100000 := by
        unfold entL at hkm
        obtain ⟨y, hy, e⟩ := List.mem_map.1 hkm
        cases e
        exact hal _ hy
       have hin' : ∀ x ∈ rest', x ∈ entL d.ents := fun x hx => hin x (hpm.mem_iff.2 (List.mem_cons_of_mem _ hx))
       have hB5 : Below wa.heap.size w1 W1 := hT1.below q2 (Nat.le_refl _)
       have hr1 : wa.heap.size < W1.heap.size := hit1.lt
       have hB6 : Below wa.heap.size wa W1 := hB1'.trans hB5
       obtain ⟨r0, r1⟩ := box2 ((hB6.block w.heap.size (by omega)).trans ((by rw [HD.out.1]; exact Hq0.out : wa.heap[w.heap.size]? = some (.cells #[sV aw, sV ft] 161 (0, 0)))))
       have Hit1 := hidC hit1
       have HB5 := hidC hB5
       have HB6 := hidC hB6
       have Hany := hidC hany
       have Hin := hidC hin'
       clear hany q1 q2 q3 hB1' hpm hit1 hB5 hB6 hT1 hin hin' hkm g0 g1 e0 e0a f0 f1 f2 f3 f4 f5 f6
       by_cases hk : k = aw
       ·subst hk
        have hC2 : CAny w1 wa.heap.size me d.ents (fun x => clS k ft x.1) rest' W1 := ⟨Hit1.out, HB5.out, by
         rw [Hany.out]
         have : clS k ft k = false := by unfold clS; simp
         rw [this]
         rfl⟩
        have HC2 := hidC hC2
        clear hC2
        go_wp2
        go_roundg g'
        case measure => omega
        case rel => exact ⟨rest', HC2.out, Hin.out, by omega⟩
       ·have HL := hidC (left_calls k ft)
        have hbk : (k == aw) = false := beq_eq_false_iff_ne.2 hk
        cases hlc : leftC k ft with
        | true =>
         rw [hlc] at HL
         have Hlc := hidC hlc
         have Hk := hidC hk
         have hany : d.ents.any (fun e => clS aw ft e.word) = true := by
          rw [← any_keys (f := clS aw ft), Hany.out]
          unfold clS
          rw [decide_eq_true hk, hlc]
          rfl
         have hR : doShort aw ft d = (13, d) := by
          unfold doShort
          rw [Hg.out]
          have : (d.ents.any fun x => decide (x.word ≠ aw) && leftC x.word ft) = true := hany
          simp only [List.isEmpty_nil, Bool.not_true, Hlf.out, this]
         have HR := hidC hR
         clear hlc hk hR hany
         go_wp2_with (go_at_call 238; refine (HL.out _ hkl).mono ?_; rintro e wb ⟨rfl, hD2⟩)
         go_ret
         rw [HR.out]
         exact ⟨rfl, ((HB0.out.mono (by omega)).trans (HB6.out.mono (by omega))).trans (hD2.below _), fun h => by cases h⟩
        | false =>
         rw [hlc] at HL
         have hC2 : ∀ wb, Drew W1 wb → CAny w1 wa.heap.size me d.ents (fun x => clS aw ft x.1) rest' wb := fun wb hD2 => ⟨Hit1.out.eqb (by rw [hD2.1]) (by rw [hD2.1]), HB5.out.trans (hD2.below _), by
          rw [Hany.out]
          have : clS aw ft k = false := by unfold clS; rw [hlc, Bool.and_false]
          rw [this]
          rfl⟩
         have HC2 := hidC hC2
         clear hC2 hlc hk
         go_wp2_with (go_at_call 238; refine (HL.out _ hkl).mono ?_; rintro e wb ⟨rfl, hD2⟩)
         go_roundg g'
         case measure => omega
         case rel => exact ⟨rest', HC2.out _ hD2, Hin.out, by omega⟩
end Go.Proofs.YtjeadhfponlnnaaGreatDoor
