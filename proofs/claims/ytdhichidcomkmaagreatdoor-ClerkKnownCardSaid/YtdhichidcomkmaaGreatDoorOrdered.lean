/-
  The values of a map in the order of its keys.
  Conditions: none; lemmas.
-/
import Derived.Test.YtdhichidcomkmaaGreatDoorKeys14
import Derived.Test.YtdhichidcomkmaaGreatDoorClose245
set_option linter.unusedSimpArgs false
set_option linter.unusedVariables false
namespace Go.Proofs.YtdhichidcomkmaaGreatDoor
open Go.RowKit Go.Pur Go.Clerk
open Go.Abs
set_option maxRecDepth 1000000
set_option maxHeartbeats 8000000
abbrev cntV (x : Tx × Nat) : Value := .agg #[sV x.1, nV x.2]
def cellsA (a : Clerk.Acc) : List Value := [sV a.who, nV a.pence, nV a.vols, .bool a.stop]
def cellsE (e : Ent) : List Value := [sV e.word, sV e.form, sV e.see, sV e.writer, nV e.asked, nV e.came, nV e.vol]
def cellsC (x : Tx × Nat) : List Value := [sV x.1, nV x.2]
def zA : Clerk.Acc := ⟨[], 0, 0, false⟩
def zC : Tx × Nat := ([], 0)
def valsOf {V : Type} (z : V) (l : List (Tx × V)) : List V := ((l.map (·.1)).mergeSort leT).map fun k => (kGet k l).getD z
def RowP (w : World) (t : TypeId) (size n : Nat) (cs : List Value) (e : Ending) (w' : World) : Prop := ∃ v, e = .returned v ∧ w'.ownsRow w.heap.size t size v n cs ∧ Below w.heap.size w w'
theorem rec_new (w : World) (cs : List Value) (t : TypeId) : ∀ (j : Nat) v, cs[j]? = some v → (w.alloc (.cells cs.toArray t)).cell? ((⟨w.heap.size, 0, none⟩ : Addr).add j) = some v := fun j v h => by
 have e : (w.alloc (.cells cs.toArray t)).heap[w.heap.size]? = some (.cells cs.toArray t) := heap_alloc_new w _
 rw [Addr.add_lit, Nat.zero_add]
 simp only [World.cell?, e]
 simpa using h
theorem lookA1 {W : World} {m : Nat} {l : List (Tx × Clerk.Acc)} (h : MapAt W m accV l) (k : Tx) : (Instr.lookup 96 (.map (some m)) (sV k) false).run Tryz.prog W = .ok (accV ((kGet k l).getD zA)) W :=
 h.look (P := Tryz.prog) (t := 96) (kt := 9) (et := 46) (d := zA) (by kernel_rfl) Tryz.underlying9 (by kernel_rfl) (fun _ => rfl) k false
theorem lookE0 {W : World} {m : Nat} {l : List (Tx × Ent)} (h : MapAt W m entV l) (k : Tx) : (Instr.lookup 95 (.map (some m)) (sV k) false).run Tryz.prog W = .ok (entV ((kGet k l).getD zeroE)) W :=
 h.look (P := Tryz.prog) (t := 95) (kt := 9) (et := 79) (d := zeroE) (by kernel_rfl) Tryz.underlying9 (by kernel_rfl) (fun _ => rfl) k false
theorem lookC1 {W : World} {m : Nat} {l : List (Tx × (Tx × Nat))} (h : MapAt W m cntV l) (k : Tx) : (Instr.lookup 139 (.map (some m)) (sV k) false).run Tryz.prog W = .ok (cntV ((kGet k l).getD zC)) W :=
 h.look (P := Tryz.prog) (t := 139) (kt := 9) (et := 87) (d := zC) (by kernel_rfl) Tryz.underlying9 (by kernel_rfl) (fun _ => rfl) k false
theorem own_ge14 {w : World} {B e size n : Nat} {v : Value} {xs : List Value} {g : Nat} (h : w.ownsRow B e size v n xs) (hg : v.ownBlock = some g) : B ≤ g := by
 rcases h.2 with ⟨e1, _⟩ | ⟨g', cap, cur, rfl, hb, _⟩
 ·rw [e1] at hg; cases hg
 ·cases hg; exact hb
theorem ordered70_calls (b : Nat) (l : List (Tx × Clerk.Acc)) (w : World) (h : MapAt w b accV l) (hn : (l.map (·.1)).Nodup) (hk : ∀ x ∈ l, x.1.length ≤ 100000) (hsz : l.length ≤ 1000) :
  Calls Tryz.prog 70 #[.map (some b)] w fun e w' => RowP w 46 4 l.length ((valsOf zA l).flatMap cellsA) e w' := by
 have mixed : Tryz.prog.follows .mixedOrders = true := by kernel_rfl
 have hbl := h.lt
 have HK := hidC (keys119_calls (some b) w)
 have HS := hidC (sorted119_calls h hn hk hsz)
 obtain ⟨ks, hks⟩ : ∃ ks, (l.map (·.1)).mergeSort leT = ks := ⟨_, rfl⟩
 have hlk : ks.length = l.length := by rw [← hks, List.length_mergeSort, List.length_map]
 have hvals : valsOf zA l = ks.map fun k => (kGet k l).getD zA := by rw [← hks]; rfl
 rw [hvals]
 obtain ⟨N, hN⟩ : ∃ N, l.length = N := ⟨_, rfl⟩
 rw [hN] at hlk hsz
 have hlm : (l.map (·.1)).length = N := by rw [List.length_map]; exact hN
 rw [hN]
 have H := hidC h
 have HKS := hidC hks
 have HLM := hidC hlm
 clear h hvals hN hks hlm
 obtain ⟨i0, hi0, hz0, hz1', hz2⟩ := info_parts (show (Tryz.prog.info? 46).map (fun i => (i.zero, i.size, i.bytes)) = some (some (.agg #[.string ⟨#[]⟩, .int .i64 0, .int .i64 0, .bool false]), 4, 40) by kernel_rfl)
 have Hi0 := hidC hi0
 clear hi0
 go_enter Tryz.func70, Tryz.ntmps70
 go_wp2_with (first | (go_at_call 119; refine HK.out.mono ?_; rintro e wa ⟨rfl, rfl⟩) | (go_at_call 118; refine HS.out.mono ?_; rintro e wb ⟨v, rfl, hv, hbb⟩; rw [HKS.out, HLM.out] at hv; obtain ⟨ga, gc, rfl⟩ := row_slice hv; have Hv := hidC hv; have Hbb := hidC hbb; clear hv hbb))
 have hs1 : w.heap.size + 1 ≤ wb.heap.size := by have := Hbb.out.size; simpa using this
 have hB0 : Below w.heap.size w wb := ((Below.refl _ _).alloc (Nat.le_refl _) _).trans (Hbb.out.mono (by simp))
 have HB0 := hidC hB0
 clear hB0
 go_loopg [3, 5, 10] (N + 1) (fun gk s3 s5 s10 wx => ∃ i : Nat, s10 = .int .i64 (i : Int) ∧ i ≤ N ∧ N < i + gk ∧ wx.ownsRow wb.heap.size 46 4 s3 i (((ks.take i).map fun k => (kGet k l).getD zA).flatMap cellsA) ∧ Below wb.heap.size wb wx)
 case atStart => exact ⟨0, rfl, by omega, by omega, World.ownsRow_nil _ _ _ _, Below.refl _ _⟩
 case round =>
  obtain ⟨i, rfl, hi, hg, hown, hb⟩ := hrel
  by_cases hlt : i < N
  ·obtain ⟨g', rfl⟩ : ∃ g', gk = g' + 1 := ⟨gk - 1, by omega⟩
   obtain ⟨k, hkk⟩ : ∃ k, ks[i]? = some k := ⟨_, List.getElem?_eq_getElem (by omega)⟩
   obtain ⟨gb, gcap, e0, hcell, -, hgb, -⟩ := row_at Hv.out hlt
   cases e0
   rw [List.getElem?_map, hkk] at hcell
   have hcell' : wr.cell? ⟨gb, i, none⟩ = some (sV k) := (hb.cell (p := ⟨gb, i, none⟩) hgb).trans hcell
   have hzr := hb.size
   have hlk1 := lookA1 (H.out.below (HB0.out.trans (hb.mono (by omega))) hbl) k
   obtain ⟨a, ha⟩ : ∃ a, (kGet k l).getD zA = a := ⟨_, rfl⟩
   rw [ha] at hlk1
   have htake : ((ks.take (i + 1)).map fun k => (kGet k l).getD zA).flatMap cellsA = (((ks.take i).map fun k => (kGet k l).getD zA).flatMap cellsA) ++ cellsA a := by
    rw [List.take_add_one, hkk, ← ha]
    simp
   have Htake := hidC htake
   have Ho := hidC hown
   have Hb := hidC hb
   have hi1 : (0 : Int) ≤ (i : Int) := by omega
   have hi2 : (i : Int) < (N : Int) := by omega
   obtain ⟨aw, ap, av, as0⟩ := a
   have hlk2 : (Instr.lookup 96 (.map (some b)) (sV k) false).run Tryz.prog wr = .ok (.agg #[sV aw, nV ap, nV av, .bool as0]) wr := hlk1
   clear hown hb hcell htake ha hlk1
   go_wp2_with (at_builtin; refine wpList_append_own _ rfl _ _ 40 rfl wb.heap.size 46 i0 (.agg #[.string ⟨#[]⟩, .int .i64 0, .int .i64 0, .bool false]) 4 40 Tryz.underlying40 Hi0.out hz0 hz1' hz2 rfl (by decide) u3 _ _ rfl (Ho.out.alloc _) ⟨wr.heap.size, 0, none⟩ 1 1 [sV aw, nV ap, nV av, .bool as0] rfl rfl ?c1 ?c2 ?c3 ?c4 ?c5 ?_)
   case c1 => exact rec_new wr [sV aw, nV ap, nV av, .bool as0] 46
   case c2 => intro u hu; simp only [List.mem_cons, List.not_mem_nil, or_false] at hu; rcases hu with rfl | rfl | rfl | rfl <;> rfl
   case c3 => unfold maxLen; omega
   case c4 => omega
   case c5 => simp; omega
   rintro v4 w4 hown4 hg4 -
   have hb5 : Below wb.heap.size wb w4 := (Hb.out.alloc hzr _).grown hg4 (by simp; omega) (fun g hk => own_ge14 Ho.out hk)
   have Hown4 := hidC hown4
   have Hb5 := hidC hb5
   clear hown4 hb5 hg4 Ho Hb
   go_wp2_with fail
   go_roundg g'
   case measure => omega
   case rel =>
    refine ⟨i + 1, by simp, by omega, by omega, ?_, Hb5.out⟩
    rw [Htake.out]
    have h5 := Hown4.out
    rw [← List.map_take] at h5
    exact h5
  ·obtain rfl : i = N := by omega
   rw [List.take_of_length_le (by omega)] at hown
   have Ho := hidC hown
   have Hb := hidC hb
   clear hown hb
   go_wp2_with fail
   go_ret
   exact ⟨_, rfl, row_mono Ho.out (by omega), HB0.out.trans (Hb.out.mono (by omega))⟩
theorem ordered71_calls (b : Nat) (l : List (Tx × Ent)) (w : World) (h : MapAt w b entV l) (hn : (l.map (·.1)).Nodup) (hk : ∀ x ∈ l, x.1.length ≤ 100000) (hsz : l.length ≤ 1000) :
  Calls Tryz.prog 71 #[.map (some b)] w fun e w' => RowP w 79 7 l.length ((valsOf zeroE l).flatMap cellsE) e w' := by
 have mixed : Tryz.prog.follows .mixedOrders = true := by kernel_rfl
 have hbl := h.lt
 have HK := hidC (keys120_calls (some b) w)
 have HS := hidC (sorted120_calls h hn hk hsz)
 obtain ⟨ks, hks⟩ : ∃ ks, (l.map (·.1)).mergeSort leT = ks := ⟨_, rfl⟩
 have hlk : ks.length = l.length := by rw [← hks, List.length_mergeSort, List.length_map]
 have hvals : valsOf zeroE l = ks.map fun k => (kGet k l).getD zeroE := by rw [← hks]; rfl
 rw [hvals]
 obtain ⟨N, hN⟩ : ∃ N, l.length = N := ⟨_, rfl⟩
 rw [hN] at hlk hsz
 have hlm : (l.map (·.1)).length = N := by rw [List.length_map]; exact hN
 rw [hN]
 have H := hidC h
 have HKS := hidC hks
 have HLM := hidC hlm
 clear h hvals hN hks hlm
 obtain ⟨i0, hi0, hz0, hz1', hz2⟩ := info_parts (show (Tryz.prog.info? 79).map (fun i => (i.zero, i.size, i.bytes)) = some (some (.agg #[.string ⟨#[]⟩, .string ⟨#[]⟩, .string ⟨#[]⟩, .string ⟨#[]⟩, .int .i64 0, .int .i64 0, .int .i64 0]), 7, 88) by kernel_rfl)
 have Hi0 := hidC hi0
 clear hi0
 go_enter Tryz.func71, Tryz.ntmps71
 go_wp2_with (first | (go_at_call 120; refine HK.out.mono ?_; rintro e wa ⟨rfl, rfl⟩) | (go_at_call 118; refine HS.out.mono ?_; rintro e wb ⟨v, rfl, hv, hbb⟩; rw [HKS.out, HLM.out] at hv; obtain ⟨ga, gc, rfl⟩ := row_slice hv; have Hv := hidC hv; have Hbb := hidC hbb; clear hv hbb))
 have hs1 : w.heap.size + 1 ≤ wb.heap.size := by have := Hbb.out.size; simpa using this
 have hB0 : Below w.heap.size w wb := ((Below.refl _ _).alloc (Nat.le_refl _) _).trans (Hbb.out.mono (by simp))
 have HB0 := hidC hB0
 clear hB0
 go_loopg [3, 5, 10] (N + 1) (fun gk s3 s5 s10 wx => ∃ i : Nat, s10 = .int .i64 (i : Int) ∧ i ≤ N ∧ N < i + gk ∧ wx.ownsRow wb.heap.size 79 7 s3 i (((ks.take i).map fun k => (kGet k l).getD zeroE).flatMap cellsE) ∧ Below wb.heap.size wb wx)
 case atStart => exact ⟨0, rfl, by omega, by omega, World.ownsRow_nil _ _ _ _, Below.refl _ _⟩
 case round =>
  obtain ⟨i, rfl, hi, hg, hown, hb⟩ := hrel
  by_cases hlt : i < N
  ·obtain ⟨g', rfl⟩ : ∃ g', gk = g' + 1 := ⟨gk - 1, by omega⟩
   obtain ⟨k, hkk⟩ : ∃ k, ks[i]? = some k := ⟨_, List.getElem?_eq_getElem (by omega)⟩
   obtain ⟨gb, gcap, e0, hcell, -, hgb, -⟩ := row_at Hv.out hlt
   cases e0
   rw [List.getElem?_map, hkk] at hcell
   have hcell' : wr.cell? ⟨gb, i, none⟩ = some (sV k) := (hb.cell (p := ⟨gb, i, none⟩) hgb).trans hcell
   have hzr := hb.size
   have hlk1 := lookE0 (H.out.below (HB0.out.trans (hb.mono (by omega))) hbl) k
   obtain ⟨a, ha⟩ : ∃ a, (kGet k l).getD zeroE = a := ⟨_, rfl⟩
   rw [ha] at hlk1
   have htake : ((ks.take (i + 1)).map fun k => (kGet k l).getD zeroE).flatMap cellsE = (((ks.take i).map fun k => (kGet k l).getD zeroE).flatMap cellsE) ++ cellsE a := by
    rw [List.take_add_one, hkk, ← ha]
    simp
   have Htake := hidC htake
   have Ho := hidC hown
   have Hb := hidC hb
   have hi1 : (0 : Int) ≤ (i : Int) := by omega
   have hi2 : (i : Int) < (N : Int) := by omega
   obtain ⟨ew, ef, es, er, ea, ec, ev⟩ := a
   have hlk2 : (Instr.lookup 95 (.map (some b)) (sV k) false).run Tryz.prog wr = .ok (.agg #[sV ew, sV ef, sV es, sV er, nV ea, nV ec, nV ev]) wr := hlk1
   clear hown hb hcell htake ha hlk1
   go_wp2_with (at_builtin; refine wpList_append_own _ rfl _ _ 42 rfl wb.heap.size 79 i0 (.agg #[.string ⟨#[]⟩, .string ⟨#[]⟩, .string ⟨#[]⟩, .string ⟨#[]⟩, .int .i64 0, .int .i64 0, .int .i64 0]) 7 88 Tryz.underlying42 Hi0.out hz0 hz1' hz2 rfl (by decide) u3 _ _ rfl (Ho.out.alloc _) ⟨wr.heap.size, 0, none⟩ 1 1 [sV ew, sV ef, sV es, sV er, nV ea, nV ec, nV ev] rfl rfl ?c1 ?c2 ?c3 ?c4 ?c5 ?_)
   case c1 => exact rec_new wr [sV ew, sV ef, sV es, sV er, nV ea, nV ec, nV ev] 79
   case c2 => intro u hu; simp only [List.mem_cons, List.not_mem_nil, or_false] at hu; rcases hu with rfl | rfl | rfl | rfl | rfl | rfl | rfl <;> rfl
   case c3 => unfold maxLen; omega
   case c4 => omega
   case c5 => simp; omega
   rintro v4 w4 hown4 hg4 -
   have hb5 : Below wb.heap.size wb w4 := (Hb.out.alloc hzr _).grown hg4 (by simp; omega) (fun g hk => own_ge14 Ho.out hk)
   have Hown4 := hidC hown4
   have Hb5 := hidC hb5
   clear hown4 hb5 hg4 Ho Hb
   go_wp2_with fail
   go_roundg g'
   case measure => omega
   case rel =>
    refine ⟨i + 1, by simp, by omega, by omega, ?_, Hb5.out⟩
    rw [Htake.out]
    have h5 := Hown4.out
    rw [← List.map_take] at h5
    exact h5
  ·obtain rfl : i = N := by omega
   rw [List.take_of_length_le (by omega)] at hown
   have Ho := hidC hown
   have Hb := hidC hb
   clear hown hb
   go_wp2_with fail
   go_ret
   exact ⟨_, rfl, row_mono Ho.out (by omega), HB0.out.trans (Hb.out.mono (by omega))⟩
theorem ordered85_calls (b : Nat) (l : List (Tx × (Tx × Nat))) (w : World) (h : MapAt w b cntV l) (hn : (l.map (·.1)).Nodup) (hk : ∀ x ∈ l, x.1.length ≤ 100000) (hsz : l.length ≤ 1000) :
  Calls Tryz.prog 85 #[.map (some b)] w fun e w' => RowP w 87 2 l.length ((valsOf zC l).flatMap cellsC) e w' := by
 have mixed : Tryz.prog.follows .mixedOrders = true := by kernel_rfl
 have hbl := h.lt
 have HK := hidC (keys127_calls (some b) w)
 have HS := hidC (sorted127_calls h hn hk hsz)
 obtain ⟨ks, hks⟩ : ∃ ks, (l.map (·.1)).mergeSort leT = ks := ⟨_, rfl⟩
 have hlk : ks.length = l.length := by rw [← hks, List.length_mergeSort, List.length_map]
 have hvals : valsOf zC l = ks.map fun k => (kGet k l).getD zC := by rw [← hks]; rfl
 rw [hvals]
 obtain ⟨N, hN⟩ : ∃ N, l.length = N := ⟨_, rfl⟩
 rw [hN] at hlk hsz
 have hlm : (l.map (·.1)).length = N := by rw [List.length_map]; exact hN
 rw [hN]
 have H := hidC h
 have HKS := hidC hks
 have HLM := hidC hlm
 clear h hvals hN hks hlm
 obtain ⟨i0, hi0, hz0, hz1', hz2⟩ := info_parts (show (Tryz.prog.info? 87).map (fun i => (i.zero, i.size, i.bytes)) = some (some (.agg #[.string ⟨#[]⟩, .int .i64 0]), 2, 24) by kernel_rfl)
 have Hi0 := hidC hi0
 clear hi0
 go_enter Tryz.func85, Tryz.ntmps85
 go_wp2_with (first | (go_at_call 127; refine HK.out.mono ?_; rintro e wa ⟨rfl, rfl⟩) | (go_at_call 118; refine HS.out.mono ?_; rintro e wb ⟨v, rfl, hv, hbb⟩; rw [HKS.out, HLM.out] at hv; obtain ⟨ga, gc, rfl⟩ := row_slice hv; have Hv := hidC hv; have Hbb := hidC hbb; clear hv hbb))
 have hs1 : w.heap.size + 1 ≤ wb.heap.size := by have := Hbb.out.size; simpa using this
 have hB0 : Below w.heap.size w wb := ((Below.refl _ _).alloc (Nat.le_refl _) _).trans (Hbb.out.mono (by simp))
 have HB0 := hidC hB0
 clear hB0
 go_loopg [3, 5, 10] (N + 1) (fun gk s3 s5 s10 wx => ∃ i : Nat, s10 = .int .i64 (i : Int) ∧ i ≤ N ∧ N < i + gk ∧ wx.ownsRow wb.heap.size 87 2 s3 i (((ks.take i).map fun k => (kGet k l).getD zC).flatMap cellsC) ∧ Below wb.heap.size wb wx)
 case atStart => exact ⟨0, rfl, by omega, by omega, World.ownsRow_nil _ _ _ _, Below.refl _ _⟩
 case round =>
  obtain ⟨i, rfl, hi, hg, hown, hb⟩ := hrel
  by_cases hlt : i < N
  ·obtain ⟨g', rfl⟩ : ∃ g', gk = g' + 1 := ⟨gk - 1, by omega⟩
   obtain ⟨k, hkk⟩ : ∃ k, ks[i]? = some k := ⟨_, List.getElem?_eq_getElem (by omega)⟩
   obtain ⟨gb, gcap, e0, hcell, -, hgb, -⟩ := row_at Hv.out hlt
   cases e0
   rw [List.getElem?_map, hkk] at hcell
   have hcell' : wr.cell? ⟨gb, i, none⟩ = some (sV k) := (hb.cell (p := ⟨gb, i, none⟩) hgb).trans hcell
   have hzr := hb.size
   have hlk1 := lookC1 (H.out.below (HB0.out.trans (hb.mono (by omega))) hbl) k
   obtain ⟨a, ha⟩ : ∃ a, (kGet k l).getD zC = a := ⟨_, rfl⟩
   rw [ha] at hlk1
   have htake : ((ks.take (i + 1)).map fun k => (kGet k l).getD zC).flatMap cellsC = (((ks.take i).map fun k => (kGet k l).getD zC).flatMap cellsC) ++ cellsC a := by
    rw [List.take_add_one, hkk, ← ha]
    simp
   have Htake := hidC htake
   have Ho := hidC hown
   have Hb := hidC hb
   have hi1 : (0 : Int) ≤ (i : Int) := by omega
   have hi2 : (i : Int) < (N : Int) := by omega
   obtain ⟨cw, cn⟩ := a
   have hlk2 : (Instr.lookup 139 (.map (some b)) (sV k) false).run Tryz.prog wr = .ok (.agg #[sV cw, nV cn]) wr := hlk1
   clear hown hb hcell htake ha hlk1
   go_wp2_with (at_builtin; refine wpList_append_own _ rfl _ _ 63 rfl wb.heap.size 87 i0 (.agg #[.string ⟨#[]⟩, .int .i64 0]) 2 24 Tryz.underlying63 Hi0.out hz0 hz1' hz2 rfl (by decide) u3 _ _ rfl (Ho.out.alloc _) ⟨wr.heap.size, 0, none⟩ 1 1 [sV cw, nV cn] rfl rfl ?c1 ?c2 ?c3 ?c4 ?c5 ?_)
   case c1 => exact rec_new wr [sV cw, nV cn] 87
   case c2 => intro u hu; simp only [List.mem_cons, List.not_mem_nil, or_false] at hu; rcases hu with rfl | rfl <;> rfl
   case c3 => unfold maxLen; omega
   case c4 => omega
   case c5 => simp; omega
   rintro v4 w4 hown4 hg4 -
   have hb5 : Below wb.heap.size wb w4 := (Hb.out.alloc hzr _).grown hg4 (by simp; omega) (fun g hk => own_ge14 Ho.out hk)
   have Hown4 := hidC hown4
   have Hb5 := hidC hb5
   clear hown4 hb5 hg4 Ho Hb
   go_wp2_with fail
   go_roundg g'
   case measure => omega
   case rel =>
    refine ⟨i + 1, by simp, by omega, by omega, ?_, Hb5.out⟩
    rw [Htake.out]
    have h5 := Hown4.out
    rw [← List.map_take] at h5
    exact h5
  ·obtain rfl : i = N := by omega
   rw [List.take_of_length_le (by omega)] at hown
   have Ho := hidC hown
   have Hb := hidC hb
   clear hown hb
   go_wp2_with fail
   go_ret
   exact ⟨_, rfl, row_mono Ho.out (by omega), HB0.out.trans (Hb.out.mono (by omega))⟩
end Go.Proofs.YtdhichidcomkmaaGreatDoor
