/-
  An office that is told acts.
  The lines of acts: short, and none takes back.
  Conditions: none; definitions and lemmas.
-/
import Derived.Test.YtjeadhfponlnnaaGreatDoorLine48
import Derived.Test.YtjeadhfponlnnaaGreatDoorTail14
import Derived.Test.YtjeadhfponlnnaaGreatDoorTellAll
import Derived.Test.YtjeadhfponlnnaaGreatDoorNew16
set_option linter.unusedSimpArgs false
set_option linter.unusedVariables false
namespace Go.Proofs.YtjeadhfponlnnaaGreatDoor
open Go.RowKit Go.Pur Go.Clerk
open Go.Abs
set_option maxRecDepth 1000000
set_option maxHeartbeats 8000000
def cellsAct (a : ActT) : List Value := [.int .u8 a.kind, .int .u8 a.word, .int .u8 a.other, .int .u8 a.many]
def ActsAt (W : World) (v : Value) (l : List ActT) : Prop := ∃ ad cap, v = .slice ad l.length cap ∧ (l = [] ∨ ∃ g off, ad = some ⟨g, off, none⟩ ∧ g < W.heap.size ∧ ∀ (i : Nat) a, l[i]? = some a → W.rangeAt g (off + i * 4) (cellsAct a))
def TdP (W : World) (r : Off × List Tx) (e : Ending) (W' : World) : Prop := ∃ o v, e = .returned (.tuple #[ptrV o, v]) ∧ OffAt W' o r.1 ∧ OffOK r.1 ∧ LenOK r.1 ∧ r.1.lines = r.2 ∧ W'.ownsRow W.heap.size 9 1 v r.2.length (r.2.map sV) ∧ W.heap.size ≤ o ∧ Below W.heap.size W W'
def T41 (W : World) (o : Nat) (r : Off × List Tx) (v : Value) (wx : World) : Prop := OffAt wx o r.1 ∧ OffOK r.1 ∧ LenOK r.1 ∧ r.1.lines = r.2 ∧ wx.ownsRow W.heap.size 9 1 v r.2.length (r.2.map sV) ∧ Below W.heap.size W wx
theorem told_calls (W : World) (v : Value) (l : List ActT) (hv : ActsAt W v l) (hE : EnvS W) (hok : ∀ a ∈ l, a.ok) (hu : ∀ a ∈ l, parse a.line ≠ (.none, 0) ∧ a.line.length ≤ 100) (hn : l.length ≤ 1000) :
  Calls Tryz.prog 41 #[v] W fun e W' => TdP W (toldL (l.map ActT.line)) e W' := by
 have mixed : Tryz.prog.follows .mixedOrders = true := by kernel_rfl
 obtain ⟨ad, cap, rfl, hcells⟩ := hv
 have HN := hidC (new_calls W)
 have HE := hidC hE
 have HO := hidC hok
 have HU := hidC hu
 have HC := hidC hcells
 obtain ⟨N, hN⟩ : ∃ N, l.length = N := ⟨_, rfl⟩
 rw [hN] at hn ⊢
 clear hE hok hu hcells
 go_enter Tryz.func41, Tryz.ntmps41
 go_wp2_with (go_at_call 16; refine HN.out.mono ?_; rintro e wa ⟨o, rfl, ho, hoW, hba⟩; have Ho := hidC ho; have Hba := hidC hba; clear ho hba)
 go_loopg [5, 14] (N + 1) (fun gk s5 s14 wx => ∃ (i : Nat) (r : Off × List Tx), s14 = .int .i64 (i : Int) ∧ i ≤ N ∧ N < i + gk ∧ toldL ((l.take i).map ActT.line) = r ∧ T41 W o r s5 wx)
 case atStart => exact ⟨0, (Off.none, []), rfl, by omega, by omega, rfl, Ho.out, OffOK.none, LenOK.none, rfl, World.ownsRow_nil _ _ _ _, Hba.out⟩
 case round =>
  obtain ⟨i, r, rfl, hi, hg, hr, hT⟩ := hrel
  by_cases hlt : i < N
  ·obtain ⟨g', rfl⟩ : ∃ g', gk = g' + 1 := ⟨gk - 1, by omega⟩
   obtain ⟨x, hx⟩ : ∃ x, l[i]? = some x := ⟨_, List.getElem?_eq_getElem (by omega)⟩
   have hne : l ≠ [] := fun e => by rw [e] at hx; cases hx
   obtain ⟨g, off, rfl, hgl, hcs⟩ := HC.out.resolve_left hne
   obtain ⟨t1, t2, t3, t4, t5, t6⟩ := hT
   have hra : wr.rangeAt g (off + i * 4) (cellsAct x) := fun j u hj => (t6.cell (p := ⟨g, off + i * 4 + j, none⟩) hgl).trans (hcs i x hx j u hj)
   have hxm := List.mem_of_getElem? hx
   have hxo := HO.out x hxm
   obtain ⟨hxu, hxl⟩ := HU.out x hxm
   have hi1 : (0 : Int) ≤ (i : Int) := by omega
   have hi2 : (i : Int) < (N : Int) := by omega
   have Hra : Hid (wr.rangeAt g (off + i * 4) [.int .u8 x.kind, .int .u8 x.word, .int .u8 x.other, .int .u8 x.many]) := hidC hra
   have Hxo := hidC hxo
   have Hxu := hidC hxu
   have Hxl := hidC hxl
   have T1 := hidC t1
   have T2 := hidC t2
   have T3 := hidC t3
   have T4 := hidC t4
   have T5 := hidC t5
   have T6 := hidC t6
   have Hsz : Hid ((Tryz.prog.info? 91).map (·.size) = some 4) := hidC (by kernel_rfl)
   have h16 : 16 ≤ o := by have := HE.out.env.size; omega
   have HL : Hid (∀ w', Below W.heap.size W w' → Calls Tryz.prog 48 #[.agg #[.int .u8 x.kind, .int .u8 x.word, .int .u8 x.other, .int .u8 x.many]] w' fun e w'' => RP w' (sV x.line) e w'') := hidC fun w' h => line_calls x w' (HE.out.below h HE.out.env.size) Hxo.out
   have HTl : Hid (∀ w', Below wr.heap.size wr w' → Calls Tryz.prog 18 #[ptrV o, sV x.line] w' fun e w'' => TellP w' o (tell r.1 x.line) e w'') := hidC fun w' h => tell_calls o r.1 x.line w' (T1.out.below h) ((HE.out.below (T6.out.trans (h.mono T6.out.size)) HE.out.env.size).env) h16 (by have := Hxl.out; omega) T2.out
   have hsn : toldL ((l.take (i + 1)).map ActT.line) = toldF r x.line := by
    rw [List.take_add_one, hx, List.map_append]
    show toldL (_ ++ [x.line]) = _
    rw [toldL_snoc, hr]
   have Hsn := hidC hsn
   have hsn2 := toldF_ok T3.out T4.out Hxu.out
   have hok2 : OffOK (tell r.1 x.line).2 := tell_ok T2.out (by have := Hxl.out; omega)
   have Hs2 := hidC hsn2
   have Hok2 := hidC hok2
   have hT5 : ∀ w2 w3, Below wr.heap.size wr w2 → But (· = o) w2.heap.size w2 w3 → w3.ownsRow W.heap.size 9 1 u5 r.2.length (r.2.map sV) := fun w2 w3 h2 h3 => by
    have e2 := row_below T5.out h2
    refine row_eqb e2 fun k hk => ?_
    obtain ⟨k1, k2⟩ := row_ty e2 hk
    refine h3.block k k2 fun e => ?_
    subst e
    have e59 := (T1.out.below h2).ty
    rw [k1] at e59
    cases e59
   have HT5 := hidC hT5
   clear hra hxo hxu hxl t1 t2 t3 t4 t5 t6 hcs hxm hne hsn hsn2 hok2 hr hx hT5
   rcases hq : tell r.1 x.line with ⟨_ | e', S'⟩
   ·have hF : toldF r x.line = (S', r.2 ++ [x.line]) := by unfold toldF; rw [hq]
    rw [hF] at Hs2 Hsn
    rw [hq] at HTl Hok2
    clear hF hq
    obtain ⟨i0, hi0, hz0, hz1', hz2'⟩ := info_parts (show (Tryz.prog.info? 9).map (fun i => (i.zero, i.size, i.bytes)) = some (some (.string ⟨#[]⟩), 1, 16) by kernel_rfl)
    have Hi0 := hidC hi0
    clear hi0
    go_wp2_with (first
     | (refine wpList_load_mid rfl 91 _ rfl g (off + i * 4) rfl [.int .u8 x.kind, .int .u8 x.word, .int .u8 x.other, .int .u8 x.many] _ Hra.out Tryz.underlying91 rfl Hsz.out ?_)
     | (at_builtin; refine wpList_snoc _ rfl _ _ 22 rfl i0 (.string ⟨#[]⟩) Tryz.underlying22 Hi0.out hz0 hz1' hz2' rfl W.heap.size u5 r.2.length (r.2.map sV) rfl (row_below (HT5.out _ _ H2.out Hz2.out) ((Below.refl _ _).alloc (Nat.le_refl _) _)) ?c2 ⟨w3.heap.size, 0, none⟩ 1 (sV x.line) rfl (one_cell (heap_alloc_new _ _)).1 rfl ?c5 ?_)
     | (go_at_call 18; refine (HTl.out _ H2.out).mono ?_; rintro e w3 ⟨rfl, hz1, hz2⟩; have Hz1 := hidC hz1; have Hz2 := hidC hz2; clear hz1 hz2)
     | (go_at_call 48; refine (HL.out _ (T6.out.trans (((Below.refl _ _).alloc (Nat.le_refl _) _).mono T6.out.size))).mono ?_; rintro e w2 ⟨rfl, h2⟩; have H2 : Hid (Below wr.heap.size wr w2) := hidC (((Below.refl _ wr).alloc (Nat.le_refl _) _).trans (h2.mono ((Below.refl wr.heap.size wr).alloc (Nat.le_refl _) _).size)); clear h2))
    case c2 => exact Nat.le_trans T6.out.size (Nat.le_trans H2.out.size (Nat.le_trans Hz2.out.size ((Below.refl w3.heap.size w3).alloc (Nat.le_refl _) _).size))
    case c5 => rw [← T4.out]; have := T2.out.few; omega
    rintro v4 w4 hown4 hg4
    have hT4 : T41 W o (S', r.2 ++ [x.line]) v4 w4 := by
     have hb3 : Below w3.heap.size w3 (w3.alloc (.cells #[sV x.line] 9)) := (Below.refl _ _).alloc (Nat.le_refl _) _
     have hoff3 := Hz1.out.below hb3
     have hW3 : Below W.heap.size W w3 := T6.out.trans ((H2.out.mono T6.out.size).trans (Hz2.out.below (Nat.le_trans T6.out.size H2.out.size) (fun k hk => by omega)))
     have hB3 := hW3.trans (hb3.mono hW3.size)
     have hl := Hs2.out
     refine ⟨?_, Hok2.out, hl.1, hl.2, by rw [List.length_append, List.map_append]; exact hown4, ?_⟩
     ·rcases hg4 with hg | ⟨g2, ht, -, -⟩
      ·exact hoff3.below ((Below.refl _ _).grown hg (Nat.le_refl _) (fun k hk => by cases hk))
      ·exact hoff3.tail ht hl.1 hl.2 rfl
     ·rcases hg4 with hg | ⟨g2, -, hg, hv⟩
      ·exact hB3.grown hg hB3.size (fun k hk => by cases hk)
      ·exact hB3.grown hg hB3.size (fun k hk => by cases hk; exact (T5.out.lt _ hv).1)
    have HT4 := hidC hT4
    clear hT4 hown4 hg4
    go_wp2_with fail
    go_roundg g'
    case measure => omega
    case rel => exact ⟨i + 1, (S', r.2 ++ [x.line]), by simp, by omega, by omega, Hsn.out, HT4.out⟩
   ·have hF : toldF r x.line = (S', r.2) := by unfold toldF; rw [hq]
    rw [hF] at Hs2 Hsn
    rw [hq] at HTl Hok2
    have he' : (((e' + 1 : Nat) : Int) == 0) = false := beq_eq_false_iff_ne.2 (by omega)
    clear hF hq
    go_wp2_with (first
     | (refine wpList_load_mid rfl 91 _ rfl g (off + i * 4) rfl [.int .u8 x.kind, .int .u8 x.word, .int .u8 x.other, .int .u8 x.many] _ Hra.out Tryz.underlying91 rfl Hsz.out ?_)
     | (go_at_call 18; refine (HTl.out _ H2.out).mono ?_; rintro e w3 ⟨rfl, hz1, hz2⟩; have Hz1 := hidC hz1; have Hz2 := hidC hz2; clear hz1 hz2)
     | (go_at_call 48; refine (HL.out _ (T6.out.trans (((Below.refl _ _).alloc (Nat.le_refl _) _).mono T6.out.size))).mono ?_; rintro e w2 ⟨rfl, h2⟩; have H2 : Hid (Below wr.heap.size wr w2) := hidC (((Below.refl _ wr).alloc (Nat.le_refl _) _).trans (h2.mono ((Below.refl wr.heap.size wr).alloc (Nat.le_refl _) _).size)); clear h2))
    go_roundg g'
    case measure => omega
    case rel => exact ⟨i + 1, (S', r.2), by simp, by omega, by omega, Hsn.out, Hz1.out, Hok2.out, Hs2.out.1, Hs2.out.2, HT5.out _ _ H2.out Hz2.out, T6.out.trans ((H2.out.mono T6.out.size).trans (Hz2.out.below (Nat.le_trans T6.out.size H2.out.size) (fun k hk => by omega)))⟩
  ·obtain rfl : i = N := by omega
   rw [List.take_of_length_le (by omega)] at hr
   obtain ⟨t1, t2, t3, t4, t5, t6⟩ := hT
   have HT : Hid (TdP W (toldL (l.map ActT.line)) (.returned (.tuple #[ptrV o, u5])) wr) := hidC (by rw [hr]; exact ⟨o, u5, rfl, t1, t2, t3, t4, t5, hoW, t6⟩)
   clear t1 t2 t3 t4 t5 t6
   go_wp2_with fail
   go_ret2
   exact HT.out
end Go.Proofs.YtjeadhfponlnnaaGreatDoor
set_option linter.unusedSimpArgs false
set_option linter.unusedVariables false
namespace Go.Proofs.YtjeadhfponlnnaaGreatDoor
open Go.RowKit Go.Pur Go.Clerk
theorem mkO_none {r : Nat × Nat} {f : Nat → Option Ord} (h : mkO r f = (.none, 0)) : ∃ n, f n = .none := by
 obtain ⟨n, e⟩ := r
 cases e with
 | zero => exact ⟨n, (Prod.mk.inj h).1⟩
 | succ e => exact absurd (Prod.mk.inj h).2 (Nat.succ_ne_zero _)
theorem undo_first {line : Tx} (h : parse line = (.none, 0)) : (splitC 32 line).headD [] = kUndo := by
 have h : parseW ((splitC 32 line).headD []) (splitC 32 line).tail = (.none, 0) := h
 generalize (splitC 32 line).headD [] = k at h ⊢
 by_cases a1 : k = kWord
 ·rw [a1, parseWord] at h; obtain ⟨n, hn⟩ := mkO_none h; cases hn
 by_cases a2 : k = kShort
 ·rw [a2, parseShort] at h; obtain ⟨n, hn⟩ := mkO_none h; cases hn
 by_cases a3 : k = kGive
 ·rw [a3, parseGive] at h; obtain ⟨n, hn⟩ := mkO_none h; cases hn
 by_cases a4 : k = kCome
 ·rw [a4, parseCome] at h; obtain ⟨n, hn⟩ := mkO_none h; cases hn
 by_cases a5 : k = kSee
 ·rw [a5, parseSee] at h; obtain ⟨n, hn⟩ := mkO_none h; cases hn
 by_cases a6 : k = kClose
 ·rw [a6, parseClose] at h; obtain ⟨n, hn⟩ := mkO_none h; cases hn
 by_cases a7 : k = kPay
 ·rw [a7, parsePay] at h; obtain ⟨n, hn⟩ := mkO_none h; cases hn
 by_cases a8 : k = kStop
 ·rw [a8, parseStop] at h; obtain ⟨n, hn⟩ := mkO_none h; cases hn
 by_cases a9 : k = kUndo
 ·exact a9
 ·rw [parse_else a1 a2 a3 a4 a5 a6 a7 a8 a9] at h
  cases h
theorem act_line (a : ActT) : parse a.line ≠ (.none, 0) ∧ a.line.length ≤ 100 := by
 have h1 : (nth lNames a.word).length ≤ 10 := nth_len (by decide) a.word
 have h2 : (nth lNames a.other).length ≤ 10 := nth_len (by decide) a.other
 have h3 : (nth lForms a.other).length ≤ 10 := nth_len (by decide) a.other
 have h4 : (nth lPers a.other).length ≤ 10 := nth_len (by decide) a.other
 have h5 : (nth lLet a.word).length ≤ 10 := nth_len (by decide) a.word
 have h6 := itoa_len a.many
 unfold ActT.line
 generalize nth lNames a.word = x1 at *
 generalize nth lNames a.other = x2 at *
 generalize nth lForms a.other = x3 at *
 generalize nth lPers a.other = x4 at *
 generalize nth lLet a.word = x5 at *
 generalize Lib.itoa ((a.many % 45 : Nat) : Int) = x6 at *
 split <;> (refine ⟨fun h => ?_, by simp only [List.length_append, List.length_cons, List.length_nil]; omega⟩; have hf := undo_first h; simp only [List.append_assoc, List.cons_append, List.nil_append] at hf; revert hf; unfold kUndo; simp [splitC])
theorem told_all (W : World) (v : Value) (l : List ActT) (hv : ActsAt W v l) (hE : EnvS W) (hok : ∀ a ∈ l, a.ok) (hn : l.length ≤ 1000) : Calls Tryz.prog 41 #[v] W fun e W' => TdP W (toldL (l.map ActT.line)) e W' :=
 told_calls W v l hv hE hok (fun a _ => act_line a) hn
end Go.Proofs.YtjeadhfponlnnaaGreatDoor
