/-
  The values of a map in the order of its keys.
  Sorted values of maps, and the lines of writers; plainly.
  Accounts, Entries, Writers.
  Conditions: none; definitions and lemmas.
-/
import Derived.Test.YtjeadhfponlnnaaGreatDoorKeys14
import Derived.Test.YtjeadhfponlnnaaGreatDoorClose245
set_option linter.unusedSimpArgs false
set_option linter.unusedVariables false
namespace Go.Proofs.YtjeadhfponlnnaaGreatDoor
open Go.RowKit Go.Pur Go.Clerk
open Go.Abs
set_option maxRecDepth 1000000
set_option maxHeartbeats 8000000
abbrev cntV (x : Tx × Nat) : Value := .agg #[sV x.1, nV x.2]
def cellsA (a : Clerk.Acc) : List Value := [sV a.who, nV a.pence, nV a.vols, .bool a.stop]
def cellsE (e : Ent) : List Value := [sV e.word, sV e.form, sV e.see, sV e.writer, nV e.asked, nV e.came, nV e.vol]
def cellsC (x : Tx × Nat) : List Value := [sV x.1, nV x.2]
def zA : Clerk.Acc := ⟨[], 0, 0, false⟩
def zC : Tx × Nat := ([], 0)
def valsOf {V : Type} (z : V) (l : List (Tx × V)) : List V := ((l.map (·.1)).mergeSort leT).map fun k => (kGet k l).getD z
def RowP (w : World) (t : TypeId) (size n : Nat) (cs : List Value) (e : Ending) (w' : World) : Prop := ∃ v, e = .returned v ∧ w'.ownsRow w.heap.size t size v n cs ∧ Below w.heap.size w w'
theorem rec_new (w : World) (cs : List Value) (t : TypeId) : ∀ (j : Nat) v, cs[j]? = some v → (w.alloc (.cells cs.toArray t)).cell? ((⟨w.heap.size, 0, none⟩ : Addr).add j) = some v := fun j v h => by
 have e : (w.alloc (.cells cs.toArray t)).heap[w.heap.size]? = some (.cells cs.toArray t) := heap_alloc_new w _
 rw [Addr.add_lit, Nat.zero_add]
 simp only [World.cell?, e]
 simpa using h
theorem lookA1 {W : World} {m : Nat} {l : List (Tx × Clerk.Acc)} (h : MapAt W m accV l) (k : Tx) : (Instr.lookup 96 (.map (some m)) (sV k) false).run Tryz.prog W = .ok (accV ((kGet k l).getD zA)) W :=
 h.look (P := Tryz.prog) (t := 96) (kt := 9) (et := 46) (d := zA) (by kernel_rfl) Tryz.underlying9 (by kernel_rfl) (fun _ => rfl) k false
theorem lookE0 {W : World} {m : Nat} {l : List (Tx × Ent)} (h : MapAt W m entV l) (k : Tx) : (Instr.lookup 95 (.map (some m)) (sV k) false).run Tryz.prog W = .ok (entV ((kGet k l).getD zeroE)) W :=
 h.look (P := Tryz.prog) (t := 95) (kt := 9) (et := 79) (d := zeroE) (by kernel_rfl) Tryz.underlying9 (by kernel_rfl) (fun _ => rfl) k false
theorem lookC1 {W : World} {m : Nat} {l : List (Tx × (Tx × Nat))} (h : MapAt W m cntV l) (k : Tx) : (Instr.lookup 139 (.map (some m)) (sV k) false).run Tryz.prog W = .ok (cntV ((kGet k l).getD zC)) W :=
 h.look (P := Tryz.prog) (t := 139) (kt := 9) (et := 87) (d := zC) (by kernel_rfl) Tryz.underlying9 (by kernel_rfl) (fun _ => rfl) k false
theorem own_ge14 {w : World} {B e size n : Nat} {v : Value} {xs : List Value} {g : Nat} (h : w.ownsRow B e size v n xs) (hg : v.ownBlock = some g) : B ≤ g := by
 rcases h.2 with ⟨e1, _⟩ | ⟨g', cap, cur, rfl, hb, _⟩
 ·rw [e1] at hg; cases hg
 ·cases hg; exact hb
theorem ordered70_calls (b : Nat) (l : List (Tx × Clerk.Acc)) (w : World) (h : MapAt w b accV l) (hn : (l.map (·.1)).Nodup) (hk : ∀ x ∈ l, x.1.length ≤ 100000) (hsz : l.length ≤ 1000) :
  Calls Tryz.prog 70 #[.map (some b)] w fun e w' => RowP w 46 4 l.length ((valsOf zA l).flatMap cellsA) e w' := by
 have mixed : Tryz.prog.follows .mixedOrders = true := by kernel_rfl
 have hbl := h.lt
 have HK := hidC (keys119_calls (some b) w)
 have HS := hidC (sorted119_calls h hn hk hsz)
 obtain ⟨ks, hks⟩ : ∃ ks, (l.map (·.1)).mergeSort leT = ks := ⟨_, rfl⟩
 have hlk : ks.length = l.length := by rw [← hks, List.length_mergeSort, List.length_map]
 have hvals : valsOf zA l = ks.map fun k => (kGet k l).getD zA := by rw [← hks]; rfl
 rw [hvals]
 obtain ⟨N, hN⟩ : ∃ N, l.length = N := ⟨_, rfl⟩
 rw [hN] at hlk hsz
 have hlm : (l.map (·.1)).length = N := by rw [List.length_map]; exact hN
 rw [hN]
 have H := hidC h
 have HKS := hidC hks
 have HLM := hidC hlm
 clear h hvals hN hks hlm
 obtain ⟨i0, hi0, hz0, hz1', hz2⟩ := info_parts (show (Tryz.prog.info? 46).map (fun i => (i.zero, i.size, i.bytes)) = some (some (.agg #[.string ⟨#[]⟩, .int .i64 0, .int .i64 0, .bool false]), 4, 40) by kernel_rfl)
 have Hi0 := hidC hi0
 clear hi0
 go_enter Tryz.func70, Tryz.ntmps70
 go_wp2_with (first | (go_at_call 119; refine HK.out.mono ?_; rintro e wa ⟨rfl, rfl⟩) | (go_at_call 118; refine HS.out.mono ?_; rintro e wb ⟨v, rfl, hv, hbb⟩; rw [HKS.out, HLM.out] at hv; obtain ⟨ga, gc, rfl⟩ := row_slice hv; have Hv := hidC hv; have Hbb := hidC hbb; clear hv hbb))
 have hs1 : w.heap.size + 1 ≤ wb.heap.size := by have := Hbb.out.size; simpa using this
 have hB0 : Below w.heap.size w wb := ((Below.refl _ _).alloc (Nat.le_refl _) _).trans (Hbb.out.mono (by simp))
 have HB0 := hidC hB0
 clear hB0
 go_loopg [3, 5, 10] (N + 1) (fun gk s3 s5 s10 wx => ∃ i : Nat, s10 = .int .i64 (i : Int) ∧ i ≤ N ∧ N < i + gk ∧ wx.ownsRow wb.heap.size 46 4 s3 i (((ks.take i).map fun k => (kGet k l).getD zA).flatMap cellsA) ∧ Below wb.heap.size wb wx)
 case atStart => exact ⟨0, rfl, by omega, by omega, World.ownsRow_nil _ _ _ _, Below.refl _ _⟩
 case round =>
  obtain ⟨i, rfl, hi, hg, hown, hb⟩ := hrel
  by_cases hlt : i < N
  ·obtain ⟨g', rfl⟩ : ∃ g', gk = g' + 1 := ⟨gk - 1, by omega⟩
   obtain ⟨k, hkk⟩ : ∃ k, ks[i]? = some k := ⟨_, List.getElem?_eq_getElem (by omega)⟩
   obtain ⟨gb, gcap, e0, hcell, -, hgb, -⟩ := row_at Hv.out hlt
   cases e0
   rw [List.getElem?_map, hkk] at hcell
   have hcell' : wr.cell? ⟨gb, i, none⟩ = some (sV k) := (hb.cell (p := ⟨gb, i, none⟩) hgb).trans hcell
   have hzr := hb.size
   have hlk1 := lookA1 (H.out.below (HB0.out.trans (hb.mono (by omega))) hbl) k
   obtain ⟨a, ha⟩ : ∃ a, (kGet k l).getD zA = a := ⟨_, rfl⟩
   rw [ha] at hlk1
   have htake : ((ks.take (i + 1)).map fun k => (kGet k l).getD zA).flatMap cellsA = (((ks.take i).map fun k => (kGet k l).getD zA).flatMap cellsA) ++ cellsA a := by
    rw [List.take_add_one, hkk, ← ha]
    simp
   have Htake := hidC htake
   have Ho := hidC hown
   have Hb := hidC hb
   have hi1 : (0 : Int) ≤ (i : Int) := by omega
   have hi2 : (i : Int) < (N : Int) := by omega
   obtain ⟨aw, ap, av, as0⟩ := a
   have hlk2 : (Instr.lookup 96 (.map (some b)) (sV k) false).run Tryz.prog wr = .ok (.agg #[sV aw, nV ap, nV av, .bool as0]) wr := hlk1
   clear hown hb hcell htake ha hlk1
   go_wp2_with (at_builtin; refine wpList_append_own _ rfl _ _ 40 rfl wb.heap.size 46 i0 (.agg #[.string ⟨#[]⟩, .int .i64 0, .int .i64 0, .bool false]) 4 40 Tryz.underlying40 Hi0.out hz0 hz1' hz2 rfl (by decide) u3 _ _ rfl (Ho.out.alloc _) ⟨wr.heap.size, 0, none⟩ 1 1 [sV aw, nV ap, nV av, .bool as0] rfl rfl ?c1 ?c2 ?c3 ?c4 ?c5 ?_)
   case c1 => exact rec_new wr [sV aw, nV ap, nV av, .bool as0] 46
   case c2 => intro u hu; simp only [List.mem_cons, List.not_mem_nil, or_false] at hu; rcases hu with rfl | rfl | rfl | rfl <;> rfl
   case c3 => unfold maxLen; omega
   case c4 => omega
   case c5 => simp; omega
   rintro v4 w4 hown4 hg4 -
   have hb5 : Below wb.heap.size wb w4 := (Hb.out.alloc hzr _).grown hg4 (by simp; omega) (fun g hk => own_ge14 Ho.out hk)
   have Hown4 := hidC hown4
   have Hb5 := hidC hb5
   clear hown4 hb5 hg4 Ho Hb
   go_wp2_with fail
   go_roundg g'
   case measure => omega
   case rel =>
    refine ⟨i + 1, by simp, by omega, by omega, ?_, Hb5.out⟩
    rw [Htake.out]
    have h5 := Hown4.out
    rw [← List.map_take] at h5
    exact h5
  ·obtain rfl : i = N := by omega
   rw [List.take_of_length_le (by omega)] at hown
   have Ho := hidC hown
   have Hb := hidC hb
   clear hown hb
   go_wp2_with fail
   go_ret
   exact ⟨_, rfl, row_mono Ho.out (by omega), HB0.out.trans (Hb.out.mono (by omega))⟩
theorem ordered71_calls (b : Nat) (l : List (Tx × Ent)) (w : World) (h : MapAt w b entV l) (hn : (l.map (·.1)).Nodup) (hk : ∀ x ∈ l, x.1.length ≤ 100000) (hsz : l.length ≤ 1000) :
  Calls Tryz.prog 71 #[.map (some b)] w fun e w' => RowP w 79 7 l.length ((valsOf zeroE l).flatMap cellsE) e w' := by
 have mixed : Tryz.prog.follows .mixedOrders = true := by kernel_rfl
 have hbl := h.lt
 have HK := hidC (keys120_calls (some b) w)
 have HS := hidC (sorted120_calls h hn hk hsz)
 obtain ⟨ks, hks⟩ : ∃ ks, (l.map (·.1)).mergeSort leT = ks := ⟨_, rfl⟩
 have hlk : ks.length = l.length := by rw [← hks, List.length_mergeSort, List.length_map]
 have hvals : valsOf zeroE l = ks.map fun k => (kGet k l).getD zeroE := by rw [← hks]; rfl
 rw [hvals]
 obtain ⟨N, hN⟩ : ∃ N, l.length = N := ⟨_, rfl⟩
 rw [hN] at hlk hsz
 have hlm : (l.map (·.1)).length = N := by rw [List.length_map]; exact hN
 rw [hN]
 have H := hidC h
 have HKS := hidC hks
 have HLM := hidC hlm
 clear h hvals hN hks hlm
 obtain ⟨i0, hi0, hz0, hz1', hz2⟩ := info_parts (show (Tryz.prog.info? 79).map (fun i => (i.zero, i.size, i.bytes)) = some (some (.agg #[.string ⟨#[]⟩, .string ⟨#[]⟩, .string ⟨#[]⟩, .string ⟨#[]⟩, .int .i64 0, .int .i64 0, .int .i64 0]), 7, 88) by kernel_rfl)
 have Hi0 := hidC hi0
 clear hi0
 go_enter Tryz.func71, Tryz.ntmps71
 go_wp2_with (first | (go_at_call 120; refine HK.out.mono ?_; rintro e wa ⟨rfl, rfl⟩) | (go_at_call 118; refine HS.out.mono ?_; rintro e wb ⟨v, rfl, hv, hbb⟩; rw [HKS.out, HLM.out] at hv; obtain ⟨ga, gc, rfl⟩ := row_slice hv; have Hv := hidC hv; have Hbb := hidC hbb; clear hv hbb))
 have hs1 : w.heap.size + 1 ≤ wb.heap.size := by have := Hbb.out.size; simpa using this
 have hB0 : Below w.heap.size w wb := ((Below.refl _ _).alloc (Nat.le_refl _) _).trans (Hbb.out.mono (by simp))
 have HB0 := hidC hB0
 clear hB0
 go_loopg [3, 5, 10] (N + 1) (fun gk s3 s5 s10 wx => ∃ i : Nat, s10 = .int .i64 (i : Int) ∧ i ≤ N ∧ N < i + gk ∧ wx.ownsRow wb.heap.size 79 7 s3 i (((ks.take i).map fun k => (kGet k l).getD zeroE).flatMap cellsE) ∧ Below wb.heap.size wb wx)
 case atStart => exact ⟨0, rfl, by omega, by omega, World.ownsRow_nil _ _ _ _, Below.refl _ _⟩
 case round =>
  obtain ⟨i, rfl, hi, hg, hown, hb⟩ := hrel
  by_cases hlt : i < N
  ·obtain ⟨g', rfl⟩ : ∃ g', gk = g' + 1 := ⟨gk - 1, by omega⟩
   obtain ⟨k, hkk⟩ : ∃ k, ks[i]? = some k := ⟨_, List.getElem?_eq_getElem (by omega)⟩
   obtain ⟨gb, gcap, e0, hcell, -, hgb, -⟩ := row_at Hv.out hlt
   cases e0
   rw [List.getElem?_map, hkk] at hcell
   have hcell' : wr.cell? ⟨gb, i, none⟩ = some (sV k) := (hb.cell (p := ⟨gb, i, none⟩) hgb).trans hcell
   have hzr := hb.size
   have hlk1 := lookE0 (H.out.below (HB0.out.trans (hb.mono (by omega))) hbl) k
   obtain ⟨a, ha⟩ : ∃ a, (kGet k l).getD zeroE = a := ⟨_, rfl⟩
   rw [ha] at hlk1
   have htake : ((ks.take (i + 1)).map fun k => (kGet k l).getD zeroE).flatMap cellsE = (((ks.take i).map fun k => (kGet k l).getD zeroE).flatMap cellsE) ++ cellsE a := by
    rw [List.take_add_one, hkk, ← ha]
    simp
   have Htake := hidC htake
   have Ho := hidC hown
   have Hb := hidC hb
   have hi1 : (0 : Int) ≤ (i : Int) := by omega
   have hi2 : (i : Int) < (N : Int) := by omega
   obtain ⟨ew, ef, es, er, ea, ec, ev⟩ := a
   have hlk2 : (Instr.lookup 95 (.map (some b)) (sV k) false).run Tryz.prog wr = .ok (.agg #[sV ew, sV ef, sV es, sV er, nV ea, nV ec, nV ev]) wr := hlk1
   clear hown hb hcell htake ha hlk1
   go_wp2_with (at_builtin; refine wpList_append_own _ rfl _ _ 42 rfl wb.heap.size 79 i0 (.agg #[.string ⟨#[]⟩, .string ⟨#[]⟩, .string ⟨#[]⟩, .string ⟨#[]⟩, .int .i64 0, .int .i64 0, .int .i64 0]) 7 88 Tryz.underlying42 Hi0.out hz0 hz1' hz2 rfl (by decide) u3 _ _ rfl (Ho.out.alloc _) ⟨wr.heap.size, 0, none⟩ 1 1 [sV ew, sV ef, sV es, sV er, nV ea, nV ec, nV ev] rfl rfl ?c1 ?c2 ?c3 ?c4 ?c5 ?_)
   case c1 => exact rec_new wr [sV ew, sV ef, sV es, sV er, nV ea, nV ec, nV ev] 79
   case c2 => intro u hu; simp only [List.mem_cons, List.not_mem_nil, or_false] at hu; rcases hu with rfl | rfl | rfl | rfl | rfl | rfl | rfl <;> rfl
   case c3 => unfold maxLen; omega
   case c4 => omega
   case c5 => simp; omega
   rintro v4 w4 hown4 hg4 -
   have hb5 : Below wb.heap.size wb w4 := (Hb.out.alloc hzr _).grown hg4 (by simp; omega) (fun g hk => own_ge14 Ho.out hk)
   have Hown4 := hidC hown4
   have Hb5 := hidC hb5
   clear hown4 hb5 hg4 Ho Hb
   go_wp2_with fail
   go_roundg g'
   case measure => omega
   case rel =>
    refine ⟨i + 1, by simp, by omega, by omega, ?_, Hb5.out⟩
    rw [Htake.out]
    have h5 := Hown4.out
    rw [← List.map_take] at h5
    exact h5
  ·obtain rfl : i = N := by omega
   rw [List.take_of_length_le (by omega)] at hown
   have Ho := hidC hown
   have Hb := hidC hb
   clear hown hb
   go_wp2_with fail
   go_ret
   exact ⟨_, rfl, row_mono Ho.out (by omega), HB0.out.trans (Hb.out.mono (by omega))⟩
theorem ordered85_calls (b : Nat) (l : List (Tx × (Tx × Nat))) (w : World) (h : MapAt w b cntV l) (hn : (l.map (·.1)).Nodup) (hk : ∀ x ∈ l, x.1.length ≤ 100000) (hsz : l.length ≤ 1000) :
  Calls Tryz.prog 85 #[.map (some b)] w fun e w' => RowP w 87 2 l.length ((valsOf zC l).flatMap cellsC) e w' := by
 have mixed : Tryz.prog.follows .mixedOrders = true := by kernel_rfl
 have hbl := h.lt
 have HK := hidC (keys127_calls (some b) w)
 have HS := hidC (sorted127_calls h hn hk hsz)
 obtain ⟨ks, hks⟩ : ∃ ks, (l.map (·.1)).mergeSort leT = ks := ⟨_, rfl⟩
 have hlk : ks.length = l.length := by rw [← hks, List.length_mergeSort, List.length_map]
 have hvals : valsOf zC l = ks.map fun k => (kGet k l).getD zC := by rw [← hks]; rfl
 rw [hvals]
 obtain ⟨N, hN⟩ : ∃ N, l.length = N := ⟨_, rfl⟩
 rw [hN] at hlk hsz
 have hlm : (l.map (·.1)).length = N := by rw [List.length_map]; exact hN
 rw [hN]
 have H := hidC h
 have HKS := hidC hks
 have HLM := hidC hlm
 clear h hvals hN hks hlm
 obtain ⟨i0, hi0, hz0, hz1', hz2⟩ := info_parts (show (Tryz.prog.info? 87).map (fun i => (i.zero, i.size, i.bytes)) = some (some (.agg #[.string ⟨#[]⟩, .int .i64 0]), 2, 24) by kernel_rfl)
 have Hi0 := hidC hi0
 clear hi0
 go_enter Tryz.func85, Tryz.ntmps85
 go_wp2_with (first | (go_at_call 127; refine HK.out.mono ?_; rintro e wa ⟨rfl, rfl⟩) | (go_at_call 118; refine HS.out.mono ?_; rintro e wb ⟨v, rfl, hv, hbb⟩; rw [HKS.out, HLM.out] at hv; obtain ⟨ga, gc, rfl⟩ := row_slice hv; have Hv := hidC hv; have Hbb := hidC hbb; clear hv hbb))
 have hs1 : w.heap.size + 1 ≤ wb.heap.size := by have := Hbb.out.size; simpa using this
 have hB0 : Below w.heap.size w wb := ((Below.refl _ _).alloc (Nat.le_refl _) _).trans (Hbb.out.mono (by simp))
 have HB0 := hidC hB0
 clear hB0
 go_loopg [3, 5, 10] (N + 1) (fun gk s3 s5 s10 wx => ∃ i : Nat, s10 = .int .i64 (i : Int) ∧ i ≤ N ∧ N < i + gk ∧ wx.ownsRow wb.heap.size 87 2 s3 i (((ks.take i).map fun k => (kGet k l).getD zC).flatMap cellsC) ∧ Below wb.heap.size wb wx)
 case atStart => exact ⟨0, rfl, by omega, by omega, World.ownsRow_nil _ _ _ _, Below.refl _ _⟩
 case round =>
  obtain ⟨i, rfl, hi, hg, hown, hb⟩ := hrel
  by_cases hlt : i < N
  ·obtain ⟨g', rfl⟩ : ∃ g', gk = g' + 1 := ⟨gk - 1, by omega⟩
   obtain ⟨k, hkk⟩ : ∃ k, ks[i]? = some k := ⟨_, List.getElem?_eq_getElem (by omega)⟩
   obtain ⟨gb, gcap, e0, hcell, -, hgb, -⟩ := row_at Hv.out hlt
   cases e0
   rw [List.getElem?_map, hkk] at hcell
   have hcell' : wr.cell? ⟨gb, i, none⟩ = some (sV k) := (hb.cell (p := ⟨gb, i, none⟩) hgb).trans hcell
   have hzr := hb.size
   have hlk1 := lookC1 (H.out.below (HB0.out.trans (hb.mono (by omega))) hbl) k
   obtain ⟨a, ha⟩ : ∃ a, (kGet k l).getD zC = a := ⟨_, rfl⟩
   rw [ha] at hlk1
   have htake : ((ks.take (i + 1)).map fun k => (kGet k l).getD zC).flatMap cellsC = (((ks.take i).map fun k => (kGet k l).getD zC).flatMap cellsC) ++ cellsC a := by
    rw [List.take_add_one, hkk, ← ha]
    simp
   have Htake := hidC htake
   have Ho := hidC hown
   have Hb := hidC hb
   have hi1 : (0 : Int) ≤ (i : Int) := by omega
   have hi2 : (i : Int) < (N : Int) := by omega
   obtain ⟨cw, cn⟩ := a
   have hlk2 : (Instr.lookup 139 (.map (some b)) (sV k) false).run Tryz.prog wr = .ok (.agg #[sV cw, nV cn]) wr := hlk1
   clear hown hb hcell htake ha hlk1
   go_wp2_with (at_builtin; refine wpList_append_own _ rfl _ _ 63 rfl wb.heap.size 87 i0 (.agg #[.string ⟨#[]⟩, .int .i64 0]) 2 24 Tryz.underlying63 Hi0.out hz0 hz1' hz2 rfl (by decide) u3 _ _ rfl (Ho.out.alloc _) ⟨wr.heap.size, 0, none⟩ 1 1 [sV cw, nV cn] rfl rfl ?c1 ?c2 ?c3 ?c4 ?c5 ?_)
   case c1 => exact rec_new wr [sV cw, nV cn] 87
   case c2 => intro u hu; simp only [List.mem_cons, List.not_mem_nil, or_false] at hu; rcases hu with rfl | rfl <;> rfl
   case c3 => unfold maxLen; omega
   case c4 => omega
   case c5 => simp; omega
   rintro v4 w4 hown4 hg4 -
   have hb5 : Below wb.heap.size wb w4 := (Hb.out.alloc hzr _).grown hg4 (by simp; omega) (fun g hk => own_ge14 Ho.out hk)
   have Hown4 := hidC hown4
   have Hb5 := hidC hb5
   clear hown4 hb5 hg4 Ho Hb
   go_wp2_with fail
   go_roundg g'
   case measure => omega
   case rel =>
    refine ⟨i + 1, by simp, by omega, by omega, ?_, Hb5.out⟩
    rw [Htake.out]
    have h5 := Hown4.out
    rw [← List.map_take] at h5
    exact h5
  ·obtain rfl : i = N := by omega
   rw [List.take_of_length_le (by omega)] at hown
   have Ho := hidC hown
   have Hb := hidC hb
   clear hown hb
   go_wp2_with fail
   go_ret
   exact ⟨_, rfl, row_mono Ho.out (by omega), HB0.out.trans (Hb.out.mono (by omega))⟩
end Go.Proofs.YtjeadhfponlnnaaGreatDoor
set_option linter.unusedSimpArgs false
set_option linter.unusedVariables false
namespace Go.Proofs.YtjeadhfponlnnaaGreatDoor
open Go.Clerk Go.Sort
set_option maxRecDepth 100000
theorem kGet_mem {V : Type} {key : V → Tx} : ∀ {l : List V} {v : V}, (l.map key).Nodup → v ∈ l → kGet (key v) (l.map fun v => (key v, v)) = some v
 | a :: l, v, hn, h => by
  rw [List.map_cons, List.nodup_cons] at hn
  rw [List.map_cons]
  unfold kGet
  by_cases e : key a = key v
  ·rw [decide_eq_true e]
   rcases List.mem_cons.1 h with rfl | h
   ·rfl
   ·exact absurd (List.mem_map_of_mem (f := key) h) (by rw [← e]; exact hn.1)
  ·rw [decide_eq_false e]
   rcases List.mem_cons.1 h with rfl | h
   ·exact absurd rfl e
   ·exact kGet_mem hn.2 h
theorem leT_trans (a b c : Tx) (h1 : leT a b = true) (h2 : leT b c = true) : leT a c = true := by
 unfold leT at *
 rw [decide_eq_true_eq] at *
 exact List.le_trans h1 h2
theorem leT_total (a b : Tx) : (leT a b || leT b a) = true := by
 unfold leT
 rw [Bool.or_eq_true, decide_eq_true_eq, decide_eq_true_eq]
 exact List.le_total a b
theorem leT_anti {a b : Tx} (h1 : leT a b = true) (h2 : leT b a = true) : a = b := by
 unfold leT at *
 rw [decide_eq_true_eq] at *
 exact List.le_antisymm h1 h2
theorem sort_eq {l s : List Tx} (hp : s.Perm l) (hs : s.Pairwise fun a b => leT a b = true) : l.mergeSort leT = s :=
 List.Perm.eq_of_pairwise (le := fun a b => leT a b = true) (fun a b _ _ h1 h2 => leT_anti h1 h2) (List.pairwise_mergeSort leT_trans leT_total l) hs ((List.mergeSort_perm l leT).trans hp.symm)
theorem vals_sorted {V : Type} {z : V} {l : List V} {key : V → Tx} (hn : (l.map key).Nodup) : valsOf z (l.map fun v => (key v, v)) = l.mergeSort fun x y => leT (key x) (key y) := by
 have hk : (l.map fun v => (key v, v)).map (·.1) = l.map key := by rw [List.map_map]; rfl
 have hp := List.mergeSort_perm l fun x y => leT (key x) (key y)
 have hw : (l.mergeSort fun x y => leT (key x) (key y)).Pairwise fun a b => leT (key a) (key b) = true :=
  List.pairwise_mergeSort (le := fun x y => leT (key x) (key y)) (fun a b c => leT_trans (key a) (key b) (key c)) (fun a b => leT_total (key a) (key b)) l
 unfold valsOf
 rw [hk, sort_eq (hp.map key) (List.pairwise_map.2 hw), List.map_map]
 conv => rhs; rw [← List.map_id (l.mergeSort _)]
 refine List.map_congr_left fun v hv => ?_
 simp only [Function.comp]
 rw [kGet_mem hn (hp.mem_iff.1 hv)]
 rfl
def stepW (M : List (Tx × (Tx × Nat))) (e : Ent) : List (Tx × (Tx × Nat)) :=
 match e.writer with
 | [] => M
 | c :: r => kSet (c :: r) (c :: r, ((kGet (c :: r) M).getD zC).2 + e.came) M
theorem kGet_set {V : Type} {k x : Tx} {v : V} : ∀ {l : List (Tx × V)}, kGet x (kSet k v l) = if k = x then some v else kGet x l
 | [] => by
  show (match decide (k = x) with | true => some v | false => kGet x []) = _
  by_cases h : k = x
  ·rw [decide_eq_true h, if_pos h]
  ·rw [decide_eq_false h, if_neg h]
 | e :: l => by
  unfold kSet
  by_cases h : e.1 = k
  ·rw [decide_eq_true h]
   show (match decide (k = x) with | true => some v | false => kGet x l) = _
   conv => rhs; unfold kGet
   rw [h]
   by_cases h2 : k = x
   ·rw [decide_eq_true h2, if_pos h2]
   ·rw [decide_eq_false h2, if_neg h2]
  ·rw [decide_eq_false h]
   show (match decide (e.1 = x) with | true => some e.2 | false => kGet x (kSet k v l)) = _
   rw [kGet_set]
   conv => rhs; unfold kGet
   by_cases h2 : e.1 = x
   ·have h4 : ¬ k = x := fun h3 => h (h2.trans h3.symm)
    rw [decide_eq_true h2, if_neg h4, if_neg h4]
   ·rw [decide_eq_false h2]
theorem keys_set {V : Type} {k : Tx} {v : V} : ∀ {l : List (Tx × V)}, (l.map (·.1)).Nodup → ((kSet k v l).map (·.1)).Nodup ∧ ∀ x, x ∈ (kSet k v l).map (·.1) ↔ x = k ∨ x ∈ l.map (·.1)
 | [], _ => ⟨by simp [kSet], fun x => by simp [kSet]⟩
 | e :: l, hn => by
  rw [List.map_cons, List.nodup_cons] at hn
  unfold kSet
  by_cases h : e.1 = k
  ·rw [decide_eq_true h]
   subst h
   refine ⟨by rw [List.map_cons, List.nodup_cons]; exact hn, fun x => ?_⟩
   simp only [List.map_cons, List.mem_cons]
   exact ⟨fun h => h.elim (fun h => .inl h) (fun h => .inr (.inr h)), fun h => h.elim (fun h => .inl h) id⟩
  ·rw [decide_eq_false h]
   obtain ⟨i1, i2⟩ := keys_set (k := k) (v := v) hn.2
   refine ⟨?_, fun x => ?_⟩
   ·show (e.1 :: (kSet k v l).map (·.1)).Nodup
    rw [List.nodup_cons, i2]
    exact ⟨fun h2 => h2.elim (fun h3 => h h3) hn.1, i1⟩
   ·show x ∈ e.1 :: (kSet k v l).map (·.1) ↔ x = k ∨ x ∈ e.1 :: l.map (·.1)
    rw [List.mem_cons, List.mem_cons, i2]
    exact ⟨fun h => h.elim (fun h => .inr (.inl h)) (fun h => h.elim .inl (fun h => .inr (.inr h))), fun h => h.elim (fun h => .inr (.inl h)) (fun h => h.elim .inl (fun h => .inr (.inr h)))⟩
def sumW (k : Tx) (l : List Ent) : Nat := sumN ((l.filter fun e => decide (e.writer = k)).map (·.came))
theorem sumN_app : ∀ (a b : List Nat), sumN (a ++ b) = sumN a + sumN b
 | [], b => by simp [sumN]
 | x :: a, b => by simp only [List.cons_append, sumN]; rw [sumN_app a b]; omega
theorem sumW_snoc {k : Tx} {l : List Ent} {e : Ent} : sumW k (l ++ [e]) = sumW k l + if e.writer = k then e.came else 0 := by
 unfold sumW
 rw [List.filter_append, List.map_append, sumN_app]
 by_cases h : e.writer = k
 ·rw [if_pos h, List.filter_cons_of_pos (by simpa using h)]; simp [sumN]
 ·rw [if_neg h, List.filter_cons_of_neg (by simpa using h)]; simp [sumN]
structure WrOK (l : List Ent) (M : List (Tx × (Tx × Nat))) : Prop where
 nd : (M.map (·.1)).Nodup
 mem : ∀ k, k ∈ M.map (·.1) ↔ k ≠ [] ∧ ∃ e ∈ l, e.writer = k
 get : ∀ k, k ∈ M.map (·.1) → kGet k M = some (k, sumW k l)
theorem WrOK.nil : WrOK [] [] := ⟨List.nodup_nil, fun k => by simp, fun k h => by cases h⟩
theorem kGet_none {V : Type} {k : Tx} : ∀ {l : List (Tx × V)}, k ∉ l.map (·.1) → kGet k l = none
 | [], _ => rfl
 | e :: l, h => by
  unfold kGet
  have : ¬ e.1 = k := fun h2 => h (by rw [List.map_cons, h2]; exact List.mem_cons_self)
  rw [decide_eq_false this]
  exact kGet_none fun h2 => h (List.mem_cons_of_mem _ h2)
theorem sumW_zero {k : Tx} {l : List Ent} (h : ¬ ∃ e ∈ l, e.writer = k) : sumW k l = 0 := by
 unfold sumW
 have : (l.filter fun e => decide (e.writer = k)) = [] := by
  rw [List.filter_eq_nil_iff]
  intro e he hk
  exact h ⟨e, he, by simpa using hk⟩
 rw [this]; rfl
theorem WrOK.step {l : List Ent} {M : List (Tx × (Tx × Nat))} (h : WrOK l M) (e : Ent) : WrOK (l ++ [e]) (stepW M e) := by
 unfold stepW
 cases hw : e.writer with
 | nil =>
  refine ⟨h.nd, fun k => ?_, fun k hk => ?_⟩
  ·rw [h.mem]
   constructor
   ·rintro ⟨h1, x, hx, h2⟩; exact ⟨h1, x, List.mem_append_left _ hx, h2⟩
   ·rintro ⟨h1, x, hx, h2⟩
    rcases List.mem_append.1 hx with hx | hx
    ·exact ⟨h1, x, hx, h2⟩
    ·rw [List.mem_singleton.1 hx, hw] at h2
     exact absurd h2.symm h1
  ·rw [h.get k hk, sumW_snoc, hw, if_neg (fun e => ((h.mem k).1 hk).1 e.symm)]
   rfl
 | cons c r =>
  obtain ⟨k1, k2⟩ := keys_set (k := c :: r) (v := (c :: r, ((kGet (c :: r) M).getD zC).2 + e.came)) h.nd
  have key : ((kGet (c :: r) M).getD zC).2 = sumW (c :: r) l := by
   by_cases hm : (c :: r) ∈ M.map (·.1)
   ·rw [h.get _ hm]; rfl
   ·rw [kGet_none hm, sumW_zero fun hx => hm ((h.mem _).2 ⟨by simp, hx⟩)]; rfl
  refine ⟨k1, fun k => ?_, fun k hk => ?_⟩
  ·rw [k2, h.mem]
   constructor
   ·rintro (rfl | ⟨h1, x, hx, h2⟩)
    ·exact ⟨by simp, e, by simp, hw⟩
    ·exact ⟨h1, x, List.mem_append_left _ hx, h2⟩
   ·rintro ⟨h1, x, hx, h2⟩
    rcases List.mem_append.1 hx with hx | hx
    ·exact .inr ⟨h1, x, hx, h2⟩
    ·rw [List.mem_singleton.1 hx, hw] at h2
     exact .inl h2.symm
  ·rw [kGet_set, sumW_snoc, hw, key]
   by_cases e2 : (c :: r) = k
   ·rw [if_pos e2, if_pos e2, e2]
   ·rw [if_neg e2, if_neg e2]
    rcases (k2 k).1 hk with h3 | h3
    ·exact absurd h3.symm e2
    ·exact h.get k h3
theorem addT_spec {w : Tx} : ∀ {l : List Tx}, l.Nodup → (addT w l).Nodup ∧ ∀ x, x ∈ addT w l ↔ x = w ∨ x ∈ l
 | [], _ => ⟨by simp [addT], fun x => by simp [addT]⟩
 | a :: l, hn => by
  rw [List.nodup_cons] at hn
  unfold addT
  by_cases h : a = w
  ·rw [decide_eq_true h]
   subst h
   refine ⟨List.nodup_cons.2 hn, fun x => ?_⟩
   simp only [List.mem_cons]
   exact ⟨fun h => .inr h, fun h => h.elim .inl id⟩
  ·rw [decide_eq_false h]
   obtain ⟨i1, i2⟩ := addT_spec (w := w) hn.2
   refine ⟨?_, fun x => ?_⟩
   ·show (a :: addT w l).Nodup
    rw [List.nodup_cons, i2]
    exact ⟨fun h2 => h2.elim (fun h3 => h h3) hn.1, i1⟩
   ·show x ∈ a :: addT w l ↔ x = w ∨ x ∈ a :: l
    rw [List.mem_cons, List.mem_cons, i2]
    exact ⟨fun h => h.elim (fun h => .inr (.inl h)) (fun h => h.elim .inl (fun h => .inr (.inr h))), fun h => h.elim (fun h => .inr (.inl h)) (fun h => h.elim .inl (fun h => .inr (.inr h)))⟩
theorem fold_addT : ∀ {ws l : List Tx}, l.Nodup → (ws.foldl (fun l w => addT w l) l).Nodup ∧ ∀ x, x ∈ ws.foldl (fun l w => addT w l) l ↔ x ∈ ws ∨ x ∈ l
 | [], l, h => ⟨h, fun x => by simp⟩
 | w :: ws, l, h => by
  obtain ⟨a1, a2⟩ := addT_spec (w := w) h
  obtain ⟨i1, i2⟩ := fold_addT (ws := ws) a1
  refine ⟨i1, fun x => ?_⟩
  rw [List.foldl_cons, i2, a2, List.mem_cons]
  exact ⟨fun h => h.elim (fun h => .inl (.inr h)) (fun h => h.elim (fun h => .inl (.inl h)) .inr), fun h => h.elim (fun h => h.elim (fun h => .inr (.inl h)) .inl) (fun h => .inr (.inr h))⟩
theorem writers_eq {d : Desk} {l : List Ent} {M : List (Tx × (Tx × Nat))} (hp : l.Perm d.ents) (h : WrOK l M) : valsOf zC M = d.writers := by
 unfold valsOf Desk.writers
 obtain ⟨a1, a2⟩ := fold_addT (ws := (d.ents.filter fun e => !e.writer.isEmpty).map (·.writer)) (l := []) List.nodup_nil
 have hperm : (M.map (·.1)).Perm (((d.ents.filter fun e => !e.writer.isEmpty).map (·.writer)).foldl (fun l w => addT w l) []) := by
  rw [List.perm_ext_iff_of_nodup h.nd a1]
  intro k
  rw [h.mem, a2, List.mem_map]
  constructor
  ·rintro ⟨h1, e, he, rfl⟩
   refine .inl ⟨e, List.mem_filter.2 ⟨hp.mem_iff.1 he, ?_⟩, rfl⟩
   cases hq : e.writer with
   | nil => exact absurd hq h1
   | cons a r => rfl
  ·rintro (⟨e, he, rfl⟩ | hx)
   ·obtain ⟨h1, h2⟩ := List.mem_filter.1 he
    exact ⟨fun h3 => (by rw [h3] at h2; cases h2), e, hp.mem_iff.2 h1, rfl⟩
   ·cases hx
 rw [sort_perm hperm]
 refine List.map_congr_left fun k hk => ?_
 rw [List.mem_mergeSort] at hk
 rw [h.get k (hperm.mem_iff.2 hk)]
 have : sumW k l = sumN ((d.ents.filter fun e => decide (e.writer = k)).map (·.came)) := by
  unfold sumW
  exact sumN_perm ((hp.filter _).map _)
 rw [this]
 rfl
end Go.Proofs.YtjeadhfponlnnaaGreatDoor
set_option linter.unusedSimpArgs false
set_option linter.unusedVariables false
namespace Go.Proofs.YtjeadhfponlnnaaGreatDoor
open Go.RowKit Go.Pur Go.Clerk
open Go.Abs
set_option maxRecDepth 1000000
set_option maxHeartbeats 8000000
theorem accL_keys (l : List Clerk.Acc) : (accL l).map (·.1) = keysA l := by unfold accL keysA; rw [List.map_map]; rfl
theorem entL_keys (l : List Ent) : (entL l).map (·.1) = keysE l := by unfold entL keysE; rw [List.map_map]; rfl
theorem accounts_calls (o : Nat) (S : Off) (w : World) (hO : OffAt w o S) (hD : DeskOK S.now) : Calls Tryz.prog 28 #[ptrV o] w fun e w' => RowP w 46 4 S.now.accounts.length (S.now.accounts.flatMap cellsA) e w' := by
 have mixed : Tryz.prog.follows .mixedOrders = true := by kernel_rfl
 have hol := hO.lt
 obtain ⟨now, pv, lv, ps, h1, hd, -, -, -, -⟩ := hO
 obtain ⟨me, ma, vv, h2, -, -, -, -, -, h7, -⟩ := hd
 have hw := ordered70_calls ma _ w h7 (by rw [accL_keys]; exact hD.keysa) (fun x hx => by
  obtain ⟨a, ha, rfl⟩ := List.mem_map.1 hx
  exact Nat.le_trans (hD.acc a ha).1.spec.2.1 (by decide)) (by unfold accL; rw [List.length_map]; exact Nat.le_trans hD.fewa (by decide))
 have hv : valsOf zA (accL S.now.accs) = S.now.accounts := vals_sorted (key := fun a : Clerk.Acc => a.who) hD.keysa
 have hl : (accL S.now.accs).length = S.now.accounts.length := by unfold accL Desk.accounts; rw [List.length_map, List.length_mergeSort]
 rw [hv, hl] at hw
 have c0 := (off_cells h1).1
 obtain ⟨a0, a1, -, -⟩ := desk_cells h2
 have HI := hidC (invalid_calls o now w c0)
 have HW := hidC hw
 clear hw hv hl
 go_enter Tryz.func28, Tryz.ntmps28
 go_wp2_with (first | (go_at_call 49; refine HI.out.mono ?_; rintro e wa ⟨rfl, hwa⟩; subst wa) | (go_at_call 70; refine HW.out.mono ?_; rintro e wb ⟨v, rfl, hv, hbb⟩))
 go_ret
 exact ⟨_, rfl, hv, hbb⟩
theorem entries_calls (o : Nat) (S : Off) (w : World) (hO : OffAt w o S) (hD : DeskOK S.now) : Calls Tryz.prog 29 #[ptrV o] w fun e w' => RowP w 79 7 S.now.entries.length (S.now.entries.flatMap cellsE) e w' := by
 have mixed : Tryz.prog.follows .mixedOrders = true := by kernel_rfl
 have hol := hO.lt
 obtain ⟨now, pv, lv, ps, h1, hd, -, -, -, -⟩ := hO
 obtain ⟨me, ma, vv, h2, -, -, -, -, h6, -, -⟩ := hd
 have hw := ordered71_calls me _ w h6 (by rw [entL_keys]; exact hD.keys) (fun x hx => by
  obtain ⟨a, ha, rfl⟩ := List.mem_map.1 hx
  exact Nat.le_trans (hD.ent a ha).word.spec.2.1 (by decide)) (by unfold entL; rw [List.length_map]; exact Nat.le_trans hD.few (by decide))
 have hv : valsOf zeroE (entL S.now.ents) = S.now.entries := vals_sorted (key := fun a : Ent => a.word) hD.keys
 have hl : (entL S.now.ents).length = S.now.entries.length := by unfold entL Desk.entries; rw [List.length_map, List.length_mergeSort]
 rw [hv, hl] at hw
 have c0 := (off_cells h1).1
 obtain ⟨a0, a1, -, -⟩ := desk_cells h2
 have HI := hidC (invalid_calls o now w c0)
 have HW := hidC hw
 clear hw hv hl
 go_enter Tryz.func29, Tryz.ntmps29
 go_wp2_with (first | (go_at_call 49; refine HI.out.mono ?_; rintro e wa ⟨rfl, hwa⟩; subst wa) | (go_at_call 71; refine HW.out.mono ?_; rintro e wb ⟨v, rfl, hv, hbb⟩))
 go_ret
 exact ⟨_, rfl, hv, hbb⟩
end Go.Proofs.YtjeadhfponlnnaaGreatDoor
