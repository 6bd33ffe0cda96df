/-
  A volume closes.
  Conditions: none; lemmas.
-/
import Derived.Test.YtjeadhfponlnnaaGreatDoorWord237
import Derived.Deep.CutBlock
import Derived.Test.YtjeadhfponlnnaaGreatDoorPlain14
import Derived.Sort.OwnSorted
import Derived.Deep.AppendLies
import Derived.Sort.KeysCollected
set_option linter.unusedSimpArgs false
set_option linter.unusedVariables false
namespace Go.Proofs.YtjeadhfponlnnaaGreatDoor
open Go.RowKit Go.Pur Go.Clerk
open Go.Abs
set_option maxRecDepth 1000000
set_option maxHeartbeats 8000000
theorem enc_ascii {x : UInt8} (h : x.toNat < 128) : Utf8.encode (x.toNat : Int) = bs [x] := by
 have hv : Utf8.valid (x.toNat : Int) = true := by
  unfold Utf8.valid
  simp
  omega
 unfold Utf8.encode
 rw [if_pos hv]
 have h1 : (x.toNat : Int).toNat = x.toNat := by omega
 simp only [h1]
 rw [if_pos (by omega)]
 apply ByteArray.ext
 simp [bs]
def selW (c : UInt8) (x : List (Tx × Ent)) : List Tx := (x.filter fun y => closes c y.2).map (·.1)
def selN (c : UInt8) (x : List (Tx × Ent)) : List Nat := (x.filter fun y => closes c y.2).map (·.2.came)
theorem sumN_perm {l l' : List Nat} (h : l.Perm l') : sumN l = sumN l' := by
 induction h with
 | nil => rfl
 | cons x _ ih => unfold sumN; rw [ih]
 | swap x y l => simp only [sumN]; omega
 | trans _ _ h1 h2 => exact h1.trans h2
theorem sel_step {c : UInt8} {rest rest' : List (Tx × Ent)} {k : Tx} {e : Ent} (h : rest.Perm ((k, e) :: rest')) : (selW c rest).Perm ((if closes c e then [k] else []) ++ selW c rest') ∧ sumN (selN c rest) = (if closes c e then e.came else 0) + sumN (selN c rest') := by
 have h1 := h.filter (fun y => closes c y.2)
 have h2 := h1.map (·.1)
 have h3 := sumN_perm (h1.map (·.2.came))
 unfold selW selN
 rw [h3]
 refine ⟨h2.trans ?_, ?_⟩
 ·rw [List.filter_cons]
  by_cases hc : closes c e = true
  ·simp [hc]
  ·simp [hc]
 ·rw [List.filter_cons]
  by_cases hc : closes c e = true
  ·simp [hc, sumN]
  ·simp [hc]
def CL0 (w1 : World) (S me : Nat) (c : UInt8) (l : List Ent) (rest : List (Tx × Ent)) (wx : World) : Prop :=
 IterAt wx (S + 2) me entV (entL l) rest ∧ Below (S + 1) w1 wx ∧ S + 3 ≤ wx.heap.size ∧ (∀ x ∈ rest, x ∈ entL l) ∧ ∃ (vw : Value) (ws : List Tx) (k : Nat), wx.heap[S + 1]? = some (.cells #[sV [c], vw, nV k, nV 0] 76 (0, 0)) ∧
  wx.ownsRow (S + 3) 9 1 vw ws.length (ws.map sV) ∧ (ws ++ selW c rest).Perm (selW c (entL l)) ∧ k + sumN (selN c rest) = sumN (selN c (entL l)) ∧ ws.length + rest.length ≤ l.length
def PL0 (w1 : World) (S : Nat) (c : UInt8) (l : List Ent) (wx : World) : Prop := Below (S + 1) w1 wx ∧ S + 3 ≤ wx.heap.size ∧ ∃ (vw : Value) (ws : List Tx), wx.heap[S + 1]? = some (.cells #[sV [c], vw, nV (sumN (selN c (entL l))), nV 0] 76 (0, 0)) ∧ wx.ownsRow (S + 3) 9 1 vw ws.length (ws.map sV) ∧ ws.Perm (selW c (entL l))
theorem setCell_block {W : World} {b i : Nat} {cs : Array Value} {t : TypeId} {v : Value} (h : W.heap[b]? = some (.cells cs t (0, 0))) : (W.setCell ⟨b, i, none⟩ v).heap[b]? = some (.cells (cs.setIfInBounds i v) t (0, 0)) := by
 simp only [World.setCell, Array.getElem?_modify, if_pos rfl, h, Option.map_some]
 first | rfl | simp
theorem setCell_else {W : World} {b i k : Nat} {v : Value} (h : k ≠ b) : (W.setCell ⟨b, i, none⟩ v).heap[k]? = W.heap[k]? := Below.heap_setCell _ _ _ _ h
theorem selW_entL {c : UInt8} {l : List Ent} : selW c (entL l) = (l.filter (closes c)).map (·.word) := by
 unfold selW entL
 rw [List.filter_map, List.map_map]
 rfl
theorem selN_entL {c : UInt8} {l : List Ent} : selN c (entL l) = (l.filter (closes c)).map (·.came) := by
 unfold selN entL
 rw [List.filter_map, List.map_map]
 rfl
theorem keep6 {W W' : World} {p b n : Nat} {x x0 x1 x2 x3 : Value} (h : W.cell? ⟨p, 2, none⟩ = some x ∧ W.cell? ⟨b, 0, none⟩ = some x0 ∧ W.cell? ⟨b, 1, none⟩ = some x1 ∧ W.cell? ⟨b, 2, none⟩ = some x2 ∧ W.cell? ⟨b, 3, none⟩ = some x3 ∧ W.frozen? ⟨p, 2, none⟩ = false) (hb : Below n W W') (hp : p < n) (hs : b < n) :
  W'.cell? ⟨p, 2, none⟩ = some x ∧ W'.cell? ⟨b, 0, none⟩ = some x0 ∧ W'.cell? ⟨b, 1, none⟩ = some x1 ∧ W'.cell? ⟨b, 2, none⟩ = some x2 ∧ W'.cell? ⟨b, 3, none⟩ = some x3 ∧ W'.frozen? ⟨p, 2, none⟩ = false :=
 ⟨(hb.cell (p := ⟨p, 2, none⟩) hp).trans h.1, (hb.cell (p := ⟨b, 0, none⟩) hs).trans h.2.1, (hb.cell (p := ⟨b, 1, none⟩) hs).trans h.2.2.1, (hb.cell (p := ⟨b, 2, none⟩) hs).trans h.2.2.2.1, (hb.cell (p := ⟨b, 3, none⟩) hs).trans h.2.2.2.2.1, (hb.frozen (p := ⟨p, 2, none⟩) hp).trans h.2.2.2.2.2⟩
theorem close_app {wD w1 : World} {p n m gg cap : Nat} {a b x vv : Value} {xs : List Value} (hp : wD.heap[p]? = some (.cells #[a, b, vv, x] 98 (0, 0))) (hg : ∀ k, k < wD.heap.size → some k ≠ vv.ownBlock → w1.heap[k]? = wD.heap[k]?) (hos : w1.os = wD.os ∧ w1.tape = wD.tape ∧ w1.output = wD.output ∧ wD.heap.size ≤ w1.heap.size)
  (hpv : vv.ownBlock ≠ some p) (hown : w1.ownsRow n 76 4 (.slice (some ⟨gg, 0, none⟩) m cap) m xs) :
  (w1.setCell ⟨p, 2, none⟩ (.slice (some ⟨gg, 0, none⟩) m cap)).heap[p]? = some (.cells #[a, b, .slice (some ⟨gg, 0, none⟩) m cap, x] 98 (0, 0)) ∧ (w1.setCell ⟨p, 2, none⟩ (.slice (some ⟨gg, 0, none⟩) m cap)).ownsRow n 76 4 (.slice (some ⟨gg, 0, none⟩) m cap) m xs ∧
   But (fun k => k = p ∨ some k = vv.ownBlock) wD.heap.size wD (w1.setCell ⟨p, 2, none⟩ (.slice (some ⟨gg, 0, none⟩) m cap)) := by
 have h1 : w1.heap[p]? = some (.cells #[a, b, vv, x] 98 (0, 0)) := (hg p (Array.getElem?_eq_some_iff.1 hp).1 (Ne.symm hpv)).trans hp
 have hne : gg ≠ p := fun e => by
  have h2 := (row_ty hown (k := gg) rfl).1
  unfold cellTy at h2
  rw [e, h1] at h2
  cases h2
 refine ⟨setCell_block h1, row_eqb hown fun k hk => ?_, hos.1, hos.2.1, hos.2.2.1, ?_, fun k hk hx => ?_⟩
 ·cases hk
  exact setCell_else hne
 ·simp [World.setCell]; exact hos.2.2.2
 ·rw [setCell_else (fun e => hx (.inl e))]
  exact hg k hk (fun e => hx (.inr e))
theorem sort_perm {l l' : List Tx} (h : l.Perm l') : l.mergeSort leT = l'.mergeSort leT := mergeSort_of_perm h
theorem ty_of {W : World} {k : Nat} {cs : Array Value} {t : TypeId} {fr : Nat × Nat} (h : W.heap[k]? = some (.cells cs t fr)) : cellTy W k = some t := by
 unfold cellTy
 rw [h]
theorem map_ty {V : Type} {W : World} {b : Nat} {vf : V → Value} {l : List (Tx × V)} (h : MapAt W b vf l) : cellTy W b = none := by
 obtain ⟨es, ck, hm, _⟩ := h.len
 unfold cellTy
 rw [hm]
theorem close_end {w wD wc : World} {n p S me ma g m capv gg cap : Nat} {c : UInt8} {d : Desk} {vv : Value} {cs : List Value} {T ws : List Tx} {ln ct : Nat} (h2 : n ≤ p) (h3 : n ≤ me) (h4 : n ≤ ma) (h5 : me ≠ ma) (hnS : n ≤ S) (hSD : S ≤ wD.heap.size)
  (hbX : But (fun k => k = me ∨ k = ma ∨ k = S + 1) S w wD) (hpx : wD.heap[p]? = some (.cells #[.map (some me), .map (some ma), vv, .int .u8 d.closed.toNat] 98 (0, 0))) (hmex : MapAt wD me entV (entL (volsOf c d))) (hmx : MapAt wD ma accV (accL (d.accs.map pay1)))
  (hc1 : VolCells wD d.vols cs) (hc2 : wD.ownsRow n 76 4 vv d.vols.length cs) (hox : wD.ownsRow (S + 3) 9 1 (.slice (some ⟨g, 0, none⟩) m capv) m (T.map sV)) (hTl : T.length = m) (hT : ws.mergeSort leT = T) (hws : ws.Perm (selW c (entL d.ents)))
  (hln : sumN (selN c (entL d.ents)) = ln) (hct : (d.accs.filter pays).length = ct)
  (k1 : wc.heap[p]? = some (.cells #[.map (some me), .map (some ma), .slice (some ⟨gg, 0, none⟩) (d.vols.length + 1) cap, .int .u8 d.closed.toNat] 98 (0, 0))) (k2 : wc.ownsRow n 76 4 (.slice (some ⟨gg, 0, none⟩) (d.vols.length + 1) cap) (d.vols.length + 1) (cs ++ [sV [c], .slice (some ⟨g, 0, none⟩) m capv, nV ln, nV ct]))
  (k3 : But (fun k => k = p ∨ some k = vv.ownBlock) wD.heap.size wD wc) : DoP w n p (0, closeD c d) (.returned (.int .i64 0)) (wc.setCell ⟨p, 3, none⟩ (.int .u8 c.toNat)) := by
 have hown : ∀ k, some k = vv.ownBlock → n ≤ k ∧ cellTy wD k = some 76 := fun k hk => ⟨(hc2.lt k hk.symm).1, (row_ty hc2 hk.symm).1⟩
 have hset : But (fun k => k = p ∨ some k = vv.ownBlock) wD.heap.size wD (wc.setCell ⟨p, 3, none⟩ (.int .u8 c.toNat)) := by
  refine ⟨k3.os, k3.tape, k3.output, by simp [World.setCell]; exact k3.size, fun k hk hx => ?_⟩
  rw [setCell_else (fun e => hx (.inl e))]
  exact k3.block k hk hx
 have hpt := ty_of hpx
 have hmap : ∀ {V : Type} {b : Nat} {vf : V → Value} {l : List (Tx × V)}, MapAt wD b vf l → MapAt (wc.setCell ⟨p, 3, none⟩ (.int .u8 c.toNat)) b vf l := fun {V b vf l} h => by
  refine h.eqb (hset.block b h.lt (fun hx => ?_))
  have hb := map_ty h
  rcases hx with rfl | hx
  ·rw [hpt] at hb; cases hb
  ·rw [(hown b hx).2] at hb; cases hb
 have hf9 : Far9 wD (fun k => k = p ∨ some k = vv.ownBlock) := fun k hx e => by
  rcases hx with rfl | hx
  ·rw [hpt] at e; cases e
  ·rw [(hown k hx).2] at e; cases e
 have htx : TextsAt wD (.slice (some ⟨g, 0, none⟩) m capv) T := by
  unfold TextsAt
  rw [hTl]
  exact row_mono hox (Nat.zero_le _)
 refine ⟨rfl, ?_, fun _ => ⟨me, ma, .slice (some ⟨gg, 0, none⟩) (d.vols.length + 1) cap, setCell_block k1, h2, h3, h4, h5, hmap hmex, ?_, cs ++ [sV [c], .slice (some ⟨g, 0, none⟩) m capv, nV ln, nV ct], ?_, ?_⟩⟩
 ·refine ⟨hset.os.trans hbX.os, hset.tape.trans hbX.tape, hset.output.trans hbX.output, Nat.le_trans hbX.size hset.size, fun k hk => ?_⟩
  rw [hset.block k (by omega) (fun hx => by
   rcases hx with rfl | hx
   ·omega
   ·have := (hown k hx).1; omega), hbX.block k (by omega) (fun hx => by rcases hx with rfl | rfl | rfl <;> omega)]
 ·have : (closeD c d).accs = d.accs.map pay1 := rfl
  rw [this]
  exact hmap hmx
 ·have hv := (hc1.but hset (Nat.le_refl _) hf9).snoc (x := volOf c d) (w := .slice (some ⟨g, 0, none⟩) m capv) (by
   have : (volOf c d).words = T := by
    rw [← hT]
    unfold volOf
    rw [← selW_entL]
    exact (sort_perm hws).symm
   rw [this]
   exact htx.but hset (Nat.le_refl _) hf9)
  have e1 : (volOf c d).lines = ln := by rw [← hln, selN_entL]; rfl
  have e2 : (volOf c d).sent = ct := hct
  rw [e1, e2] at hv
  exact hv
 ·have hl : (closeD c d).vols.length = d.vols.length + 1 := by
   show (d.vols ++ [volOf c d]).length = _
   simp
  rw [hl]
  refine row_eqb k2 fun k hk => setCell_else fun e => ?_
  have h1 := (row_ty k2 hk).1
  rw [e, ty_of k1] at h1
  cases h1
def CL4 (w1 : World) (S R ma : Nat) (c : UInt8) (vw : Value) (ln : Nat) (l : List Clerk.Acc) (rest : List (Tx × Clerk.Acc)) (wx : World) : Prop :=
 IterAt wx R ma accV (accL (paidBut l (rest.map (·.1)))) rest ∧ But (fun k => k = ma ∨ k = S + 1) R w1 wx ∧ (∀ x ∈ rest, x ∈ accL l) ∧ (rest.map (·.1)).Nodup ∧ ∃ k : Nat, wx.heap[S + 1]? = some (.cells #[sV [c], vw, nV ln, nV k] 76 (0, 0)) ∧ k + (rest.filter fun x => pays x.2).length = ((accL l).filter fun x => pays x.2).length
theorem sort_calls (W : World) (B g cap : Nat) (ss : List Tx) (h : W.ownsRow B 9 1 (.slice (some ⟨g, 0, none⟩) ss.length cap) ss.length (ss.map sV)) (hl : ss.length ≤ 1000) :
  Calls Tryz.prog 44 #[.slice (some ⟨g, 0, none⟩) ss.length cap] W fun e W' => e = .returned (.tuple #[]) ∧ W'.ownsRow B 9 1 (.slice (some ⟨g, 0, none⟩) ss.length cap) ss.length ((ss.mergeSort leT).map sV) ∧ W.grownBy W' (some g) := by
 obtain ⟨h1, ⟨h2, h3⟩ | ⟨g', cap', cur, e1, h2, h3, h4, h5, h6, h7⟩⟩ := h
 ·cases h2
 ·cases e1
  have hH : Go.Sort.Holds encStr W g 0 ss.toArray := holds_of_block h3 (by simpa using h7)
  refine (Tryz.slices_Sort_string g 0 cap ss W hH (Array.getElem?_eq_some_iff.1 h3).1 (by omega)).mono ?_
  rintro e W' ⟨rfl, k, os, rfl⟩
  exact ⟨rfl, ownsRow_sorted (by simp) h2 h3 h4 h5 h6, grownBy_sorted _⟩
theorem close_do (n p : Nat) (c : UInt8) (d : Desk) (w : World) (hd : DeskAt w n p d) (hc : c.toNat < 128) (hwn : ∀ e ∈ d.ents, e.word ≠ []) (hel : d.ents.length ≤ 1000) (hsum : sumN (selN c (entL d.ents)) ≤ 1000000000) (hkn : (keysE d.ents).Nodup) (hka : (keysA d.accs).Nodup) (hvl : d.vols.length ≤ 1000) (hac : d.accs.length ≤ 1000) (hpe : ∀ a ∈ d.accs, a.pence ≤ 9999 ∧ a.vols ≤ 100000) :
  Calls Tryz.prog 245 #[.agg #[.int .u8 c.toNat], ptrV p] w fun e w' => DoP w n p (doClose c d) e w' := by
 have mixed : Tryz.prog.follows .mixedOrders = true := by kernel_rfl
 obtain ⟨me, ma, vv, h1, h2, h3, h4, h5, h6, h7, h8⟩ := hd
 have hp : p < w.heap.size := (Array.getElem?_eq_some_iff.1 h1).1
 have hme : me < w.heap.size := h6.lt
 have hma : ma < w.heap.size := h7.lt
 have hb1 : Below w.heap.size w ((w.alloc (.cells #[.int .u8 c.toNat] 212)).drew) := ((Below.refl _ _).alloc (Nat.le_refl _) _).drew
 obtain ⟨e0, e1, e2, e3⟩ := desk_cells ((hb1.block p hp).trans h1)
 have Hkn := hidC hkn
 have Hka := hidC hka
 have Hpe := hidC hpe
 clear hkn hka hpe
 have H1 := hidC h1
 have H6 := hidC h6
 have H7 := hidC h7
 have H8 := hidC h8
 have HB1 := hidC hb1
 have Hc := hidC hc
 have hw32 : RowKit.wrap32 (c.toNat : Int) = (c.toNat : Int) := by
  unfold RowKit.wrap32
  omega
 have henc := enc_ascii hc
 clear hb1 h1 h6 h7 h8 hc e0 e1 e2
 by_cases hcl : c.toNat ≤ d.closed.toNat
 ·have hci : decide (c.toNat ≤ d.closed.toNat) = true := decide_eq_true hcl
  have hR : doClose c d = (7, d) := by
   unfold doClose
   rw [hci]
  have HR := hidC hR
  clear hR hcl
  go_enter Tryz.func245, Tryz.ntmps245
  go_wp2_with fail
  go_region
  go_wp2_with fail
  go_ret
  rw [HR.out]
  exact ⟨rfl, HB1.out.mono (by omega), fun h => by cases h⟩
 ·have hci : decide (c.toNat ≤ d.closed.toNat) = false := decide_eq_false hcl
  have Hcl := hidC hcl
  clear hcl
  go_enter Tryz.func245, Tryz.ntmps245
  go_wp2_with fail
  go_region
  go_upto_region 3 with fail
  go_cut [2, 5] (fun s2 s5 wx => s2 = ptrV w.heap.size ∧ s5 = ptrV (w.heap.size + 1) ∧ Below w.heap.size w wx ∧ wx.heap[w.heap.size]? = some (.cells #[.int .u8 c.toNat] 212 (0, 0)) ∧ wx.heap[w.heap.size + 1]? = some (.cells #[sV [c], .slice none 0 0, nV 0, nV 0] 76 (0, 0)) ∧ wx.heap.size = w.heap.size + 2)
  case first =>
   go_wp2_with fail
   go_meet
   exact ⟨rfl, rfl, two_new w _ _⟩
  case rest =>
   obtain ⟨rfl, rfl, hB, q0, q1, hsz⟩ := hcut
   have e0 := (desk_cells ((hB.block p hp).trans H1.out)).1
   obtain ⟨o, hrg, hit⟩ := range_start (P := Tryz.prog) (H6.out.below hB hme) Tryz.underlying95
   obtain ⟨w1, hw1⟩ : ∃ w1, wc.alloc o = w1 := ⟨_, rfl⟩
   have hB1 : Below wc.heap.size wc w1 := by rw [← hw1]; exact (Below.refl _ _).alloc (Nat.le_refl _) _
   have hsz1 : w1.heap.size = w.heap.size + 3 := by rw [← hw1]; simp; omega
   rw [hw1] at hrg hit
   clear hci e3 henc hw32
   obtain ⟨S, hS⟩ : ∃ S, w.heap.size = S := ⟨_, rfl⟩
   have hC0 : CL0 w1 S me c d.ents (entL d.ents) w1 := ⟨by rw [show S + 2 = wc.heap.size by omega]; exact hit, Below.refl _ _, by omega, fun x hx => hx, .slice none 0 0, [], 0, by
    rw [hB1.block _ (by omega), ← hS]; exact q1, World.ownsRow_nil _ _ _ _, List.Perm.refl _, by omega, by simp [entL]⟩
   have hq0 : w1.heap[S]? = some (.cells #[.int .u8 c.toNat] 212 (0, 0)) := by rw [hB1.block _ (by omega), ← hS]; exact q0
   have HC0 := hidC hC0
   have HB := hidC hB
   have HB1 := hidC hB1
   have Hq0 := hidC hq0
   have Hwn := hidC hwn
   rw [hsz] at hrg
   rw [hS] at hrg hp hme hma hsz1 ⊢
   have hszc : wc.heap.size = S + 2 := by omega
   have Hsz := hidC hsz1
   have Hszc := hidC hszc
   have HS := hidC hS
   have hBw1 : Below S w w1 := by rw [← HS.out]; exact HB.out.trans (HB1.out.mono (by omega))
   have HBw1 := hidC hBw1
   clear hC0 hB hB1 hq0 q0 q1 hsz hit hw1 hwn hsz1 hszc hS hBw1
   go_upto_region 4 with fail
   go_upto_block 0 with fail
   go_cut [] (fun wx => PL0 w1 S c d.ents wx)
   case first =>
    go_wp2_with fail
    go_loopg [6, 7] (d.ents.length + 1) (fun gk s6 s7 wx => ∃ rest, CL0 w1 S me c d.ents rest wx ∧ rest.length < gk)
    case atStart => exact ⟨_, HC0.out, by simp [entL]⟩
    case round =>
     obtain ⟨rest, hC, hgk⟩ := hrel
     obtain ⟨g', rfl⟩ : ∃ g', gk = g' + 1 := ⟨gk - 1, by omega⟩
     obtain ⟨q1, q2, q3, hin, vw, ws, k0, q4, q5, q6, q7, q8⟩ := hC
     have hrm : S + 2 ≠ me := by omega
     rcases next_step (P := Tryz.prog) q1 hrm 0 with ⟨rfl, hrun⟩ | ⟨k, ev, rest', W1, hpm, hrun, hit1, hT1, hent⟩
     ·have hP : PL0 w1 S c d.ents wr := ⟨q2, q3, vw, ws, by rw [← q7]; exact q4, q5, by simpa [selW] using q6⟩
      have HP := hidC hP
      clear hP q1 q2 q4 q5 q6 q7 q8 hin
      go_wp2_with fail
      go_meet
      exact HP.out
     ·have hlen : rest.length = rest'.length + 1 := by rw [hpm.length_eq]; rfl
      have hkm : (k, ev) ∈ entL d.ents := hin _ (hpm.mem_iff.2 List.mem_cons_self)
      obtain ⟨hkw, hkne⟩ : ev.word = k ∧ k ≠ [] := by
       unfold entL at hkm
       obtain ⟨y, hy, e⟩ := List.mem_map.1 hkm
       cases e
       exact ⟨rfl, Hwn.out _ hy⟩
      obtain ⟨c1, kl, rfl⟩ := List.exists_cons_of_ne_nil hkne
      obtain ⟨ew, ef, es, er, ea, ec, ev0⟩ := ev
      obtain rfl : ew = c1 :: kl := hkw
      have hin' : ∀ x ∈ rest', x ∈ entL d.ents := fun x hx => hin x (hpm.mem_iff.2 (List.mem_cons_of_mem _ hx))
      obtain ⟨hs1, hs2⟩ := sel_step (c := c) hpm
      have hB5 : Below (S + 1) w1 W1 := hT1.below q2 (by omega)
      have hr1 : S + 2 < W1.heap.size := hit1.lt
      have hq4 : W1.heap[S + 1]? = some (.cells #[sV [c], vw, nV k0, nV 0] 76 (0, 0)) := by rw [hT1.block _ (by omega)]; exact q4
      have hq5 : W1.ownsRow (S + 3) 9 1 vw ws.length (ws.map sV) := own_eqb q5 fun j h1 _ => hT1.block j (by omega)
      obtain ⟨W2, hW2⟩ : ∃ W2, W1.alloc (.cells #[sV (c1 :: kl), sV ef, sV es, sV er, nV ea, nV ec, nV ev0] 79) = W2 := ⟨_, rfl⟩
      have hB2 : Below W1.heap.size W1 W2 := by rw [← hW2]; exact (Below.refl _ _).alloc (Nat.le_refl _) _
      have hsz2 : W2.heap.size = W1.heap.size + 1 := by rw [← hW2]; simp
      have hn7 : W2.heap[W1.heap.size]? = some (.cells #[sV (c1 :: kl), sV ef, sV es, sV er, nV ea, nV ec, nV ev0] 79 (0, 0)) := by rw [← hW2]; exact heap_alloc_new _ _
      have hit2 : IterAt W2 (S + 2) me entV (entL d.ents) rest' := hit1.below hB2 hr1 (by omega)
      have hq4' := (hB2.block (S + 1) (by omega)).trans hq4
      have hq5' : W2.ownsRow (S + 3) 9 1 vw ws.length (ws.map sV) := own_eqb hq5 fun j _ h2 => hB2.block j h2
      have hB6 : Below (S + 1) w1 W2 := hB5.trans (hB2.mono (by omega))
      obtain ⟨f0, f1, f2, f3, f4, f5, f6⟩ := box7 hn7
      obtain ⟨b0, b1, b2, b3⟩ := box4 hq4'
      have g0 := box1 ((hB6.block S (by omega)).trans Hq0.out)
      have hx1 := bs_at (l := c1 :: kl) (i := 0) (by simp) (by rw [bs_size]; simp)
      rw [List.getElem_cons_zero] at hx1
      have hclo : closes c ⟨c1 :: kl, ef, es, er, ea, ec, ev0⟩ = (decide (0 < ec) && decide (ev0 = 0) && decide (c1.toNat ≤ c.toNat)) := rfl
      have HW2 := hidC hW2
      have hnot : closes c ⟨c1 :: kl, ef, es, er, ea, ec, ev0⟩ = false → CL0 w1 S me c d.ents rest' W2.drew := fun h => by
       rw [h] at hs1 hs2
       refine ⟨hit2, hB6.drew, ?_, hin', vw, ws, k0, hq4', hq5', ?_, ?_, by omega⟩
       ·show S + 3 ≤ W2.heap.size
        omega
       ·exact ((List.Perm.append_left ws hs1).symm.trans q6)
       ·rw [← q7, hs2]; simp
      have Hnot := hidC hnot
      have Hit2 := hidC hit2
      have Hq4 := hidC hq4'
      have Hq5 := hidC hq5'
      have HB6 := hidC hB6
      have Hs1 := hidC hs1
      have Hs2 := hidC hs2
      have Hin := hidC hin'
      have Q6 := hidC q6
      have Q7 := hidC q7
      have Hclo := hidC hclo
      have Hsz2 := hidC hsz2
      have Hq5w := hidC hq5
      have Hn7 := hidC hn7
      have hszw : S + 3 ≤ W1.heap.size := by omega
      clear hnot hit2 hq4' hq5' hB6 hs1 hs2 hin' q6 q7 hclo q1 q2 q3 q4 q5 hin hpm hit1 hT1 hkm hkne hB5 hq4 hq5 hB2 hsz2 hn7 hW2
      by_cases hc0 : 0 < ec
      ·have hc0i : decide (0 < ec) = true := decide_eq_true hc0
       by_cases hv0 : ev0 = 0
       ·have hv0i : ((ev0 : Int) == 0) = true := by rw [hv0]; rfl
        by_cases hle : c1.toNat ≤ c.toNat
        ·have hlei : decide (c1.toNat ≤ c.toNat) = true := decide_eq_true hle
         have hcl : closes c ⟨c1 :: kl, ef, es, er, ea, ec, ev0⟩ = true := by
          rw [Hclo.out]
          simp [hc0, hv0, hle]
         have Hcl2 := hidC hcl
         have Hv0 := hidC hv0
         clear hcl hc0 hv0 hle
         go_upto_region 7 with fail
         rw [HW2.out]
         go_region
         have hk9 : k0 + ec ≤ 1000000000 := by
          have h1 := Q7.out
          have h2 : sumN (selN c rest) = ec + sumN (selN c rest') := by
           have h := Hs2.out
           rw [Hcl2.out, if_pos rfl] at h
           exact h
          omega
         have hws : ws.length ≤ 1000 := by omega
         obtain ⟨i0, hi0, hz0, hz1', hz2⟩ := info_parts (show (Tryz.prog.info? 9).map (fun i => (i.zero, i.size, i.bytes)) = some (some (.string ⟨#[]⟩), 1, 16) by kernel_rfl)
         have Hi0 := hidC hi0
         clear hi0
         obtain ⟨Wd, hWd⟩ : ∃ Wd, W2.drew = Wd := ⟨_, rfl⟩
         have hszd : Wd.heap.size = W1.heap.size + 1 := by rw [← hWd]; exact Hsz2.out
         have hq4d : Wd.heap[S + 1]? = some (.cells #[sV [c], vw, nV k0, nV 0] 76 (0, 0)) := by rw [← hWd]; exact Hq4.out
         have hn7d : Wd.heap[W1.heap.size]? = some (.cells #[sV (c1 :: kl), sV ef, sV es, sV er, nV ea, nV ec, nV ev0] 79 (0, 0)) := by rw [← hWd]; exact Hn7.out
         have hownd : Wd.ownsRow (S + 3) 9 1 vw ws.length (ws.map sV) := by rw [← hWd]; exact Hq5.out
         have hitd : IterAt Wd (S + 2) me entV (entL d.ents) rest' := Hit2.out.eqb (by rw [← hWd]; rfl) (by rw [← hWd]; rfl)
         have hBd : Below (S + 1) w1 Wd := by rw [← hWd]; exact HB6.out.drew
         have bd := (box4 hq4d).2.1
         have zd := boxF hq4d 1
         have Hszd := hidC hszd
         have Hq4d := hidC hq4d
         have Hn7d := hidC hn7d
         have Hownd := hidC hownd
         have Hitd := hidC hitd
         have HBd := hidC hBd
         have hsd : S + 3 ≤ Wd.heap.size := by omega
         clear hszd hq4d hn7d hownd hitd hBd b0 b1 b2 b3 f0 f1 f2 f3 f4 f5 f6 g0
         go_upto_region 8 with fail
         rw [hWd]
         clear hWd
         go_wp2_with (at_builtin; refine wpList_append_own _ rfl _ _ 22 rfl (S + 3) 9 i0 (.string ⟨#[]⟩) 1 16 Tryz.underlying22 Hi0.out hz0 hz1' hz2 rfl (by decide) vw ws.length (ws.map sV) rfl (Hownd.out.alloc _) ⟨Wd.heap.size, 0, none⟩ 1 1 [sV (c1 :: kl)] rfl rfl ?d1 ?d2 ?d3 ?d4 ?d5 ?_)
         case d2 => rfl
         case d3 => unfold maxLen; omega
         case d4 => omega
         case d5 => omega
         rintro v4 w4 hown4 hg4 -
         obtain ⟨g4, cap4, rfl⟩ : ∃ g4 cap4, v4 = .slice (some ⟨g4, 0, none⟩) (ws.length + 1) cap4 := by
          rcases hown4.2 with ⟨_, e2⟩ | ⟨g4, cap4, cur4, e1, _⟩
          ·omega
          ·exact ⟨g4, cap4, e1⟩
         have hvl : ∀ k, vw.ownBlock = some k → S + 3 ≤ k ∧ k < W1.heap.size := Hq5w.out.lt
         have hblk : ∀ k, k < W1.heap.size + 1 → vw.ownBlock ≠ some k → w4.heap[k]? = Wd.heap[k]? := fun k h1 h2 => by
          have hzd := Hszd.out
          rw [hg4.block k (by simp; omega) (fun e => h2 e.symm), heap_alloc_old _ _ (by omega)]
         have hB8 : Below (S + 1) Wd w4 := ((Below.refl (S + 1) Wd).alloc (by omega) _).grown hg4 (by simp; omega) (fun k hk => by have := hvl k hk; omega)
         have hq4w := (hblk (S + 1) (by omega) (fun e => by have := hvl _ e; omega)).trans Hq4d.out
         have hn7w := (hblk W1.heap.size (by omega) (fun e => by have := hvl _ e; omega)).trans Hn7d.out
         have hit4 := Hitd.out.eqb (hblk me (by omega) (fun e => by have := hvl _ e; omega)) (hblk (S + 2) (by omega) (fun e => by have := hvl _ e; omega))
         have z1 := boxF hq4w 1
         obtain ⟨x0, x1, x2, x3⟩ := box4 hq4w
         obtain ⟨W5, hW5⟩ : ∃ W5, w4.setCell ⟨S + 1, 1, none⟩ (.slice (some ⟨g4, 0, none⟩) (ws.length + 1) cap4) = W5 := ⟨_, rfl⟩
         have hq5n : W5.heap[S + 1]? = some (.cells #[sV [c], .slice (some ⟨g4, 0, none⟩) (ws.length + 1) cap4, nV k0, nV 0] 76 (0, 0)) := by rw [← hW5]; exact setCell_block hq4w
         have hn7n : W5.heap[W1.heap.size]? = some (.cells #[sV (c1 :: kl), sV ef, sV es, sV er, nV ea, nV ec, nV ev0] 79 (0, 0)) := by rw [← hW5, setCell_else (by omega)]; exact hn7w
         have y5 := (box7 hn7n).2.2.2.2.2.1
         obtain ⟨y0, y1, y2, y3⟩ := box4 hq5n
         have zz := boxF hq5n 2
         have hsz4 : S + 3 ≤ w4.heap.size := by
          have h1 := hg4.size
          simp at h1
          omega
         have hfin : CL0 w1 S me c d.ents rest' (W5.setCell ⟨S + 1, 2, none⟩ (.int .i64 ((k0 : Int) + (ec : Int)))) := by
          have h1 := Hs1.out
          have h2 : sumN (selN c rest) = ec + sumN (selN c rest') := by
           have h := Hs2.out
           rw [Hcl2.out, if_pos rfl] at h
           exact h
          rw [Hcl2.out, if_pos rfl] at h1
          have hme2 : me ≠ S + 1 := by omega
          refine ⟨hit4.eqb ?_ ?_, ?_, ?_, Hin.out, .slice (some ⟨g4, 0, none⟩) (ws.length + 1) cap4, ws ++ [c1 :: kl], k0 + ec, ?_, ?_, ?_, ?_, ?_⟩
          ·rw [setCell_else hme2, ← hW5, setCell_else hme2]
          ·rw [setCell_else (by omega), ← hW5, setCell_else (by omega)]
          ·rw [← hW5]
           exact (HBd.out.trans hB8).setCell (p := ⟨S + 1, 1, none⟩) (Nat.le_refl _) _ |>.setCell (p := ⟨S + 1, 2, none⟩) (Nat.le_refl _) _
          ·rw [← hW5]; simp [World.setCell]; exact hsz4
          ·exact setCell_block hq5n
          ·have := ownsRow_setCell_below (ownsRow_setCell_below hown4 (a := ⟨S + 1, 1, none⟩) (show S + 1 < S + 3 by omega) (.slice (some ⟨g4, 0, none⟩) (ws.length + 1) cap4)) (a := ⟨S + 1, 2, none⟩) (show S + 1 < S + 3 by omega) (.int .i64 ((k0 : Int) + (ec : Int)))
           rw [hW5] at this
           rw [List.length_append, List.map_append]
           exact this
          ·rw [List.append_assoc]
           exact (List.Perm.append_left ws h1).symm.trans Q6.out
          ·have := Q7.out
           omega
          ·rw [List.length_append]
           simp only [List.length_cons, List.length_nil]
           omega
         have HF := hidC hfin
         have HW5 := hidC hW5
         clear hfin hW5 hq5n hn7n hq4w hn7w hblk hvl hg4 hown4 hB8 hit4 hsz4
         go_upto_region 9 with fail
         rw [HW5.out]
         go_wp2_with fail
         go_roundg g'
         case measure => omega
         case rel => exact ⟨rest', HF.out, by omega⟩
        ·have hlei : decide (c1.toNat ≤ c.toNat) = false := decide_eq_false hle
         have hcl : closes c ⟨c1 :: kl, ef, es, er, ea, ec, ev0⟩ = false := by
          rw [Hclo.out]
          simp [hle]
         have HC2 := hidC (Hnot.out hcl)
         clear hcl hc0 hv0 hle
         go_upto_region 7 with fail
         rw [HW2.out]
         go_region
         go_wp2_with fail
         go_roundg g'
         case measure => omega
         case rel => exact ⟨rest', HC2.out, by omega⟩
       ·have hv0i : ((ev0 : Int) == 0) = false := by rw [beq_eq_false_iff_ne]; omega
        have hcl : closes c ⟨c1 :: kl, ef, es, er, ea, ec, ev0⟩ = false := by
         rw [Hclo.out]
         simp [hv0]
        have HC2 := hidC (Hnot.out hcl)
        clear hcl hc0 hv0
        go_upto_region 7 with fail
        rw [HW2.out]
        go_region
        go_wp2_with fail
        go_roundg g'
        case measure => omega
        case rel => exact ⟨rest', HC2.out, by omega⟩
      ·have hc0i : decide (0 < ec) = false := decide_eq_false hc0
       have hcl : closes c ⟨c1 :: kl, ef, es, er, ea, ec, ev0⟩ = false := by
        rw [Hclo.out]
        simp [hc0]
       have HC2 := hidC (Hnot.out hcl)
       clear hcl hc0
       go_upto_region 7 with fail
       rw [HW2.out]
       go_region
       go_wp2_with fail
       go_roundg g'
       case measure => omega
       case rel => exact ⟨rest', HC2.out, by omega⟩
   case rest =>
    obtain ⟨p1, p2, vw, ws, p3, p4, p5⟩ := hcut
    obtain ⟨av, capv, rfl⟩ : ∃ a cap, vw = .slice a ws.length cap := by
     rcases p4.2 with ⟨rfl, e2⟩ | ⟨g4, cap4, cur4, e1, _⟩
     ·exact ⟨none, 0, by rw [e2]⟩
     ·exact ⟨_, cap4, e1⟩
    have hBA : Below S w wc := HBw1.out.trans (p1.mono (by omega))
    obtain ⟨b0, b1, b2, b3⟩ := box4 p3
    by_cases hws : ws = []
    ·have hwi : ((ws.length : Int) == 0) = true := by rw [hws]; rfl
     have hR : doClose c d = (4, d) := by
      unfold doClose
      rw [decide_eq_false Hcl.out]
      have : (d.ents.filter (closes c)) = [] := by
       have h := p5
       rw [hws, selW_entL] at h
       have h2 := h.symm.eq_nil
       simpa using h2
      rw [this]
      rfl
     have HR := hidC hR
     have HBA := hidC hBA
     clear hws hR hBA p1 p3 p4 p5
     go_wp2_with fail
     go_ret
     rw [HR.out]
     exact ⟨rfl, HBA.out.mono (by omega), fun h => by cases h⟩
    ·have hwl : ws.length ≠ 0 := fun e => hws (List.eq_nil_of_length_eq_zero e)
     have hwi : ((ws.length : Int) == 0) = false := by rw [beq_eq_false_iff_ne]; omega
     obtain ⟨g, rfl⟩ : ∃ g, av = some ⟨g, 0, none⟩ := by
      rcases p4.2 with ⟨e1, e2⟩ | ⟨g4, cap4, cur4, e1, _⟩
      ·exact absurd e2 hwl
      ·cases e1; exact ⟨g4, rfl⟩
     have hwl2 : ws.length ≤ 1000 := by
      rw [p5.length_eq, selW_entL, List.length_map]
      exact Nat.le_trans (List.length_filter_le _ _) hel
     have hR : doClose c d = (0, closeD c d) := by
      unfold doClose
      rw [decide_eq_false Hcl.out]
      have : (d.ents.filter (closes c)).isEmpty = false := by
       rw [List.isEmpty_eq_false_iff]
       intro h
       rw [selW_entL, h] at p5
       exact hws p5.eq_nil
      rw [this]
     have hS0 := hidC (sort_calls wc (S + 3) g capv ws p4 hwl2)
     have hgl := (p4.lt g rfl)
     have HR := hidC hR
     have HBA := hidC hBA
     have P1 := hidC p1
     have P3 := hidC p3
     have P5 := hidC p5
     clear hR hBA p1 p3 p4 p5 hws
     obtain ⟨wB, rfl⟩ : ∃ wB, wB = wc := ⟨_, rfl⟩
     go_upto_region 13 with (go_at_call 44; refine hS0.out.mono ?_; rintro e wA ⟨rfl, hoA, hgA⟩)
     obtain ⟨T, hT⟩ : ∃ T, ws.mergeSort leT = T := ⟨_, rfl⟩
     have hTl : T.length = ws.length := by rw [← hT]; exact List.length_mergeSort ws
     have hTp : T.Perm ((d.ents.filter (closes c)).map (·.word)) := by
      rw [← hT, ← selW_entL]
      exact (List.mergeSort_perm ws leT).trans P5.out
     rw [hT] at hoA
     obtain ⟨m, hm⟩ : ∃ m, ws.length = m := ⟨_, rfl⟩
     have hblA : ∀ k, k < S + 3 → wA.heap[k]? = wB.heap[k]? := fun k hk => hgA.block k (by have := hgl.2; omega) (fun e => by cases e; omega)
     have hBA2 : Below S w wA := HBA.out.trans ⟨hgA.os, hgA.tape, hgA.output, hgA.size, fun k hk => hblA k (by omega)⟩
     have hvA : wA.heap[S + 1]? = some (.cells #[sV [c], .slice (some ⟨g, 0, none⟩) ws.length capv, nV (sumN (selN c (entL d.ents))), nV 0] 76 (0, 0)) := (hblA _ (by omega)).trans P3.out
     have hqA : wA.heap[S]? = some (.cells #[.int .u8 c.toNat] 212 (0, 0)) := by rw [hblA _ (by omega), P1.out.block S (by omega)]; exact Hq0.out
     have hszA : S + 3 ≤ wA.heap.size := Nat.le_trans p2 hgA.size
     obtain ⟨x0, x1, x2, x3⟩ := box4 hvA
     have hrow : ∀ (i : Nat) (hi : i < T.length), wA.cell? ⟨g, i, none⟩ = some (sV T[i]) := fun i hi => by
      have h := hoA.cells (g := g) rfl i (sV T[i]) (by rw [List.getElem?_map, List.getElem?_eq_getElem hi]; rfl)
      rw [Addr.add_lit, Nat.zero_add] at h
      exact h
     have hgty : cellTy wA g = some 9 ∧ g < wA.heap.size := by
      obtain ⟨_, ⟨e1, _⟩ | ⟨g4, cap4, cur4, e1, e2, e3, _⟩⟩ := hoA
      ·cases e1
      ·cases e1
       exact ⟨by unfold cellTy; simp only [e3], (Array.getElem?_eq_some_iff.1 e3).1⟩
     have hmeA : MapAt wA me entV (entL d.ents) := by
      have := H6.out
      exact this.eqb (hBA2.block me hme)
     have hgme : g ≠ me := fun e => by
      obtain ⟨es, ck, hm, _⟩ := hmeA.len
      have := hgty.1
      unfold cellTy at this
      rw [e, hm] at this
      cases this
     have hpme : p ≠ me := fun e => by
      obtain ⟨es, ck, hm, _⟩ := H6.out.len
      have h := H1.out
      rw [e, hm] at h
      cases h
     have hpma : p ≠ ma := fun e => by
      obtain ⟨es, ck, hm, _⟩ := H7.out.len
      have h := H1.out
      rw [e, hm] at h
      cases h
     obtain ⟨av2, cp2, rfl⟩ : ∃ a cap, vv = .slice a d.vols.length cap := by
      obtain ⟨cs, _, hv⟩ := H8.out
      rcases hv.2 with ⟨rfl, e2⟩ | ⟨g4, cap4, cur4, e1, _⟩
      ·exact ⟨none, 0, by rw [e2]⟩
      ·exact ⟨_, cap4, e1⟩
     have hpA := (hBA2.block p hp).trans H1.out
     rw [hm] at x1 hTl hoA hvA
     have HT := hidC hT
     have Hm := hidC hm
     have HTp := hidC hTp
     have HoA := hidC hoA
     have HBA2 := hidC hBA2
     have HvA := hidC hvA
     have HqA := hidC hqA
     have Hrow := hidC hrow
     have HgA := hidC hgty
     have HmeA := hidC hmeA
     have HTl := hidC hTl
     have HpA := hidC hpA
     have hm0 : m ≤ 1000 := by omega
     clear hT hm hTp hoA hblA hBA2 hvA hqA hrow hgty hmeA hTl hpA hwi b0 b1 b2 b3 hgA hS0 x0 x2 x3
     go_upto_block 2 with fail
     go_cut [] (fun wx => But (· = me) wA.heap.size wA wx ∧ MapAt wx me entV (entL (volsOf c d)))
     case first =>
      go_wp2_with fail
      go_loopg [9, 10, 72] (m + 1) (fun gk s9 s10 s72 wx => ∃ (i : Nat), s72 = .int .i64 i ∧ i ≤ m ∧ m < i + gk ∧ But (· = me) wA.heap.size wA wx ∧ MapAt wx me entV (entL ((T.take i).foldl (volE (d.vols.length + 1)) d.ents)))
      case atStart => exact ⟨0, rfl, by omega, by omega, But.refl _ _ _, HmeA.out⟩
      case round =>
       obtain ⟨i, rfl, hi, hig, hbut, hmp⟩ := hrel
       by_cases him : i < m
       ·obtain ⟨g', rfl⟩ : ∃ g', gk = g' + 1 := ⟨gk - 1, by omega⟩
        have hiT : i < T.length := by rw [HTl.out]; exact him
        have hpx : wr.heap[p]? = some (.cells #[.map (some me), .map (some ma), .slice av2 d.vols.length cp2, .int .u8 d.closed.toNat] 98 (0, 0)) := by
         rw [hbut.block p (by omega) hpme]
         exact HpA.out
        have hcx := (World.cell?_of_block (a := ⟨g, i, none⟩) (hbut.block g HgA.out.2 hgme)).trans (Hrow.out i hiT)
        obtain ⟨wi, hwi⟩ : ∃ wi, T[i] = wi := ⟨_, rfl⟩
        rw [hwi] at hcx
        obtain ⟨l, hl⟩ : ∃ l, (T.take i).foldl (volE (d.vols.length + 1)) d.ents = l := ⟨_, rfl⟩
        have hl2 : (T.take (i + 1)).foldl (volE (d.vols.length + 1)) d.ents = volE (d.vols.length + 1) l wi := by
         rw [List.take_succ_eq_append_getElem hiT, List.foldl_append, hl, hwi]
         rfl
        rw [hl] at hmp
        obtain ⟨e1, he1⟩ : ∃ e1, (getE wi l).getD ent0 = e1 := ⟨_, rfl⟩
        have hlk := lookE1 hmp wi
        rw [he1] at hlk
        have hew : e1.word = wi := by
         have hk : keysE l = keysE d.ents := by
          rw [← hl, fold_vol Hkn.out (fun w hw => by
           have := HTp.out.mem_iff.1 (List.mem_of_mem_take hw)
           obtain ⟨e, h1, h2⟩ := List.mem_map.1 this
           rw [← h2]
           exact List.mem_map_of_mem (List.mem_filter.1 h1).1)]
          exact keysE_map fun e => by split <;> rfl
         have hmem : wi ∈ keysE l := by
          rw [hk]
          have : wi ∈ T := by rw [← hwi]; exact List.getElem_mem hiT
          obtain ⟨e, h1, h2⟩ := List.mem_map.1 (HTp.out.mem_iff.1 this)
          rw [← h2]
          exact List.mem_map_of_mem (List.mem_filter.1 h1).1
         obtain ⟨e, h1, _, h3⟩ := getE_some hmem
         rw [← he1, h1]
         exact h3
        have hvol : volE (d.vols.length + 1) l wi = putE { e1 with vol := d.vols.length + 1 } l := by
         unfold volE
         rw [← he1]
         rfl
        obtain ⟨ew, ef, es, er, ea, ec, ev0⟩ := e1
        obtain rfl : ew = wi := hew
        obtain ⟨W2, hW2⟩ : ∃ W2, wr.alloc (.cells #[sV ew, sV ef, sV es, sV er, nV ea, nV ec, nV ev0] 79) = W2 := ⟨_, rfl⟩
        have hB2 : Below wr.heap.size wr W2 := by rw [← hW2]; exact (Below.refl _ _).alloc (Nat.le_refl _) _
        have hn7 : W2.heap[wr.heap.size]? = some (.cells #[sV ew, sV ef, sV es, sV er, nV ea, nV ec, nV ev0] 79 (0, 0)) := by rw [← hW2]; exact heap_alloc_new _ _
        obtain ⟨f0, f1, f2, f3, f4, f5, f6⟩ := box7 hn7
        have z6 := boxF hn7 6
        have hplt : p < wr.heap.size := (Array.getElem?_eq_some_iff.1 hpx).1
        have hmlt := hmp.lt
        obtain ⟨y0, y1, y2, y3⟩ := desk_cells ((hB2.block p hplt).trans hpx)
        have e0x := (desk_cells hpx).1
        have hB3 : Below wr.heap.size wr (W2.setCell ⟨wr.heap.size, 6, none⟩ (.int .i64 ((d.vols.length : Int) + 1))).drew := (hB2.setCell (p := ⟨wr.heap.size, 6, none⟩) (Nat.le_refl _) _).drew
        have y0' := (desk_cells ((hB3.block p hplt).trans hpx)).1
        obtain ⟨o, hu0, hM⟩ := updE (hmp.below hB3 hmlt) ⟨ew, ef, es, er, ea, ec, d.vols.length + 1⟩
        have hu : (Instr.mapUpdate 95 (.map (some me)) (sV ew) (.agg #[sV ew, sV ef, sV es, sV er, nV ea, nV ec, .int .i64 ((d.vols.length : Int) + 1)])).run Tryz.prog _ = _ := hu0
        have hit2 : But (· = me) wA.heap.size wA (itSet (W2.setCell ⟨wr.heap.size, 6, none⟩ (.int .i64 ((d.vols.length : Int) + 1))).drew me o) := by
         refine hbut.trans ((But.of (hB3.mono hbut.size)).trans ⟨rfl, rfl, rfl, by rw [itSet_size]; exact Nat.le_refl _, fun k _ hk => itSet_other hk⟩)
        have him2 : MapAt (itSet (W2.setCell ⟨wr.heap.size, 6, none⟩ (.int .i64 ((d.vols.length : Int) + 1))).drew me o) me entV (entL ((T.take (i + 1)).foldl (volE (d.vols.length + 1)) d.ents)) := by
         rw [hl2, hvol]
         exact hM
        have hii : ((i + 1 : Nat) : Int) = (i : Int) + 1 := by omega
        have Hii := hidC hii
        have HI2 := hidC hit2
        have HM2 := hidC him2
        have HW2 := hidC hW2
        have himi : decide ((i : Int) < (m : Int)) = true := decide_eq_true (by omega)
        have him3 : (i : Int) < (m : Int) := by omega
        clear hu0 hM hit2 him2 hW2 hii hB2 hB3 hn7 hmp hbut hl hl2 hvol hwi he1 hpx y1 y3
        go_upto_region 17 with fail
        rw [HW2.out]
        go_wp2_with fail
        go_region
        go_wp2_with fail
        go_roundg g'
        case measure => omega
        case rel => exact ⟨i + 1, by rw [Hii.out], by omega, by omega, HI2.out, HM2.out⟩
       ·have himi : decide ((i : Int) < (m : Int)) = false := decide_eq_false (by omega)
        obtain rfl : i = m := by omega
        have hfin : But (· = me) wA.heap.size wA wr ∧ MapAt wr me entV (entL (volsOf c d)) := ⟨hbut, by
         rw [List.take_of_length_le (by rw [HTl.out]; exact Nat.le_refl _), fold_closes Hkn.out HTp.out] at hmp
         exact hmp⟩
        have HF := hidC hfin
        clear hfin hbut hmp
        go_wp2_with fail
        go_meet
        exact HF.out
     case rest =>
      obtain ⟨hbut, hmp⟩ := hcut
      have hpx : wc.heap[p]? = some (.cells #[.map (some me), .map (some ma), .slice av2 d.vols.length cp2, .int .u8 d.closed.toNat] 98 (0, 0)) := by
       rw [hbut.block p (by omega) hpme]
       exact HpA.out
      have hvx : wc.heap[S + 1]? = some (.cells #[sV [c], .slice (some ⟨g, 0, none⟩) m capv, nV (sumN (selN c (entL d.ents))), nV 0] 76 (0, 0)) := by
       rw [hbut.block (S + 1) (by omega) (by omega)]
       exact HvA.out
      have hqx : wc.heap[S]? = some (.cells #[.int .u8 c.toNat] 212 (0, 0)) := by
       rw [hbut.block S (by omega) (by omega)]
       exact HqA.out
      have hmax : MapAt wc ma accV (accL d.accs) := (H7.out.below HBA2.out hma).eqb (hbut.block ma (by omega) (Ne.symm h5))
      have hox : wc.ownsRow (S + 3) 9 1 (.slice (some ⟨g, 0, none⟩) m capv) m (T.map sV) := own_eqb HoA.out fun k h1 h2 => hbut.block k h2 (by omega)
      have hbx : But (· = me) S w wc := (But.of HBA2.out).trans (hbut.mono (by omega) (fun k _ h => h))
      have hszx : S + 3 ≤ wc.heap.size := Nat.le_trans hszA hbut.size
      have hszAC : wA.heap.size ≤ wc.heap.size := hbut.size
      obtain ⟨wC, rfl⟩ : ∃ wC, wC = wc := ⟨_, rfl⟩
      obtain ⟨o4, hrg4, hit4⟩ := range_start (P := Tryz.prog) hmax Tryz.underlying96
      obtain ⟨w4, hw4⟩ : ∃ w4, wC.alloc o4 = w4 := ⟨_, rfl⟩
      have hB4 : Below wC.heap.size wC w4 := by rw [← hw4]; exact (Below.refl _ _).alloc (Nat.le_refl _) _
      have hsz4 : w4.heap.size = wC.heap.size + 1 := by rw [← hw4]; simp
      rw [hw4] at hrg4 hit4
      have e1x := (desk_cells hpx).2.1
      obtain ⟨R, hR⟩ : ∃ R, wC.heap.size = R := ⟨_, rfl⟩
      have hC4 : CL4 w4 S R ma c (.slice (some ⟨g, 0, none⟩) m capv) (sumN (selN c (entL d.ents))) d.accs (accL d.accs) w4 := by
       have hk4 : (accL d.accs).map (·.1) = keysA d.accs := by unfold accL keysA; rw [List.map_map]; rfl
       have hp4 : paidBut d.accs ((accL d.accs).map (·.1)) = d.accs := by rw [hk4, paidBut_all]
       refine ⟨?_, But.refl _ _ _, fun x hx => hx, by rw [hk4]; exact Hka.out, 0, ?_, by omega⟩
       ·rw [hp4, ← hR]; exact hit4
       ·rw [hB4.block _ (by omega)]; exact hvx
      have HC4 := hidC hC4
      have HB4 := hidC hB4
      have Hbx := hidC hbx
      have Hqx := hidC hqx
      have Hox := hidC hox
      have Hmp := hidC hmp
      have Hpx := hidC hpx
      have HR4 := hidC hR
      have hRS : S + 3 ≤ R := by omega
      rw [hR] at hrg4 hsz4
      have Hsz4 := hidC hsz4
      clear hC4 hB4 hbx hqx hox hmp hpx hvx hmax hit4 hsz4 hw4 hbut hR x1 e0
      go_upto_block 4 with fail
      go_cut [] (fun wx => But (fun k => k = ma ∨ k = S + 1) R w4 wx ∧ MapAt wx ma accV (accL (d.accs.map pay1)) ∧ wx.heap[S + 1]? = some (.cells #[sV [c], .slice (some ⟨g, 0, none⟩) m capv, nV (sumN (selN c (entL d.ents))), nV (d.accs.filter pays).length] 76 (0, 0)) ∧ R < wx.heap.size)
      case first =>
       go_wp2_with fail
       go_loopg [11, 12] (d.accs.length + 1) (fun gk s11 s12 wx => ∃ rest, CL4 w4 S R ma c (.slice (some ⟨g, 0, none⟩) m capv) (sumN (selN c (entL d.ents))) d.accs rest wx ∧ rest.length < gk)
       case atStart => exact ⟨_, HC4.out, by simp [accL]⟩
       case round =>
        obtain ⟨rest, hC, hgk⟩ := hrel
        obtain ⟨g', rfl⟩ : ∃ g', gk = g' + 1 := ⟨gk - 1, by omega⟩
        obtain ⟨q1, q2, hin, hnd, k0, q4, q5⟩ := hC
        have hrm : R ≠ ma := by omega
        rcases next_step (P := Tryz.prog) q1 hrm 0 with ⟨rfl, hrun⟩ | ⟨k, ev, rest', W1, hpm, hrun, hit1, hT1, hent⟩
        ·have hfin : But (fun k => k = ma ∨ k = S + 1) R w4 wr ∧ MapAt wr ma accV (accL (d.accs.map pay1)) ∧ wr.heap[S + 1]? = some (.cells #[sV [c], .slice (some ⟨g, 0, none⟩) m capv, nV (sumN (selN c (entL d.ents))), nV (d.accs.filter pays).length] 76 (0, 0)) ∧ R < wr.heap.size := by
          refine ⟨q2, ?_, ?_, q1.lt⟩
          ·have := q1.map
           rw [show (([] : List (Tx × Clerk.Acc)).map (·.1)) = [] from rfl, paidBut_nil] at this
           exact this
          ·have h9 : k0 = (d.accs.filter pays).length := by
            have : ((accL d.accs).filter fun x => pays x.2).length = (d.accs.filter pays).length := by
             unfold accL
             rw [List.filter_map, List.length_map]
             rfl
            rw [this] at q5
            simpa using q5
           rw [← h9]
           exact q4
         have HF := hidC hfin
         clear hfin q1 q2 q4 q5 hin hnd
         go_wp2_with fail
         go_meet
         exact HF.out
        ·have hlen : rest.length = rest'.length + 1 := by rw [hpm.length_eq]; rfl
         have hkm : (k, ev) ∈ accL d.accs := hin _ (hpm.mem_iff.2 List.mem_cons_self)
         obtain ⟨hkw, hea⟩ : ev.who = k ∧ ev ∈ d.accs := by
          unfold accL at hkm
          obtain ⟨y, hy, e⟩ := List.mem_map.1 hkm
          cases e
          exact ⟨rfl, hy⟩
         obtain ⟨hpe1, hpe2⟩ := Hpe.out _ hea
         have hpk := hpm.map (·.1)
         have hnd2 : (k :: rest'.map (·.1)).Nodup := hpk.nodup_iff.1 hnd
         have hnk := (List.nodup_cons.1 hnd2).1
         have hstep := paidBut_step (r := rest.map (·.1)) (r' := rest'.map (·.1)) Hka.out hea (fun x => by rw [hpk.mem_iff, hkw]; exact List.mem_cons) (by rw [hkw]; exact hnk)
         have hcnt : (rest.filter fun x => pays x.2).length = (if pays ev then 1 else 0) + (rest'.filter fun x => pays x.2).length := by
          rw [(hpm.filter _).length_eq, List.filter_cons]
          show (if pays ev = true then _ else _ : List (Tx × Clerk.Acc)).length = _
          split
          ·simp; omega
          ·simp
         have hin' : ∀ x ∈ rest', x ∈ accL d.accs := fun x hx => hin x (hpm.mem_iff.2 (List.mem_cons_of_mem _ hx))
         have hkk : (kGet k (accL (paidBut d.accs (rest.map (·.1))))).isSome = true := by
          rw [getA_kv]
          have : k ∈ keysA (paidBut d.accs (rest.map (·.1))) := by rw [keysA_paid, ← hkw]; exact List.mem_map_of_mem hea
          have key : ∀ {l : List Clerk.Acc}, k ∈ keysA l → (getA k l).isSome = true := by
           intro l
           induction l with
           | nil => intro h; cases h
           | cons a l ih =>
            intro h
            unfold getA
            by_cases ha : a.who = k
            ·rw [decide_eq_true ha]; rfl
            ·rw [decide_eq_false ha]
             rcases List.mem_cons.1 h with h | h
             ·exact absurd h.symm ha
             ·exact ih h
          exact key this
         have hr1 : R < W1.heap.size := hit1.lt
         obtain ⟨ew, epn, ev0, est⟩ := ev
         obtain rfl : ew = k := hkw
         have hp1 : epn ≤ 9999 := hpe1
         have hp2 : ev0 ≤ 100000 := hpe2
         clear hpe1 hpe2
         obtain ⟨W2, hW2⟩ : ∃ W2, W1.alloc (.cells #[sV ew, nV epn, nV ev0, .bool est] 46) = W2 := ⟨_, rfl⟩
         have hB2 : Below W1.heap.size W1 W2 := by rw [← hW2]; exact (Below.refl _ _).alloc (Nat.le_refl _) _
         have hn4 : W2.heap[W1.heap.size]? = some (.cells #[sV ew, nV epn, nV ev0, .bool est] 46 (0, 0)) := by rw [← hW2]; exact heap_alloc_new _ _
         have hit2 : IterAt W2 R ma accV (accL (paidBut d.accs (rest.map (·.1)))) rest' := hit1.below hB2 hr1 (by omega)
         have hq4 : W2.heap[S + 1]? = some (.cells #[sV [c], .slice (some ⟨g, 0, none⟩) m capv, nV (sumN (selN c (entL d.ents))), nV k0] 76 (0, 0)) := by
          rw [hB2.block _ (by omega), hT1.block _ (by omega)]
          exact q4
         have hbw : But (fun k => k = ma ∨ k = S + 1) R w4 W2 := q2.trans ((But.of (hT1.below (Below.refl _ _) (Nat.le_refl _))).trans (But.of (hB2.mono (by omega))))
         obtain ⟨f0, f1, f2, f3⟩ := box4 hn4
         have z1 := boxF hn4 1
         have z2 := boxF hn4 2
         have HW2 := hidC hW2
         have Hn4 := hidC hn4
         have Hit2 := hidC hit2
         have Hq4 := hidC hq4
         have Hbw := hidC hbw
         have Hstep := hidC hstep
         have Hcnt := hidC hcnt
         have Hin := hidC hin'
         have Hkk := hidC hkk
         have Hnk := hidC hnk
         have Hnd := hidC (List.nodup_cons.1 hnd2).2
         have Q5 := hidC q5
         have Hlen := hidC hlen
         have hlen2 : rest'.length < g' := by omega
         clear hW2 hn4 hit2 hq4 hbw hstep hcnt hin' hkk hnk hnd hnd2 q5 q1 q2 q4 hin hpm hpk hkm hit1 hT1 hB2 hlen hea
         by_cases hpay : pays ⟨ew, epn, ev0, est⟩ = true
         ·obtain ⟨rfl, h20⟩ : est = false ∧ 20 ≤ epn := by
           unfold pays at hpay
           simpa using hpay
          have h20i : decide (20 ≤ epn) = true := decide_eq_true h20
          have h20j : decide ((20 : Int) ≤ (epn : Int)) = true := decide_eq_true (by omega)
          have hk1000 : k0 ≤ 1000 := by
           have h1 := Q5.out
           have h2 : ((accL d.accs).filter fun x => pays x.2).length ≤ d.accs.length := by
            refine Nat.le_trans (List.length_filter_le _ _) ?_
            simp [accL]
           omega
          obtain ⟨W6, hW6⟩ : ∃ W6, (W2.setCell ⟨W1.heap.size, 1, none⟩ (.int .i64 ((epn : Int) - 20))).setCell ⟨W1.heap.size, 2, none⟩ (.int .i64 ((ev0 : Int) + 1)) = W6 := ⟨_, rfl⟩
          have hb6 : Below W1.heap.size W2 W6 := by rw [← hW6]; exact ((Below.refl _ _).setCell (p := ⟨W1.heap.size, 1, none⟩) (Nat.le_refl _) _).setCell (p := ⟨W1.heap.size, 2, none⟩) (Nat.le_refl _) _
          have hn6 : W6.heap[W1.heap.size]? = some (.cells #[sV ew, .int .i64 ((epn : Int) - 20), .int .i64 ((ev0 : Int) + 1), .bool false] 46 (0, 0)) := by
           rw [← hW6]
           exact setCell_block (setCell_block Hn4.out)
          have hq6 : W6.heap[S + 1]? = some (.cells #[sV [c], .slice (some ⟨g, 0, none⟩) m capv, nV (sumN (selN c (entL d.ents))), nV k0] 76 (0, 0)) := (hb6.block _ (by omega)).trans Hq4.out
          obtain ⟨y0, y1, y2, y3⟩ := box4 hq6
          have zz := boxF hq6 3
          obtain ⟨W7, hW7⟩ : ∃ W7, (W6.setCell ⟨S + 1, 3, none⟩ (.int .i64 ((k0 : Int) + 1))).drew = W7 := ⟨_, rfl⟩
          have h67 : ∀ k, k ≠ S + 1 → W7.heap[k]? = W6.heap[k]? := fun k hk => by rw [← hW7]; exact setCell_else hk
          have hb7 : But (fun k => k = ma ∨ k = S + 1) R w4 W7 := by
           refine (Hbw.out.trans (But.of (hb6.mono (by omega)))).trans ⟨?_, ?_, ?_, ?_, fun k _ hx => h67 k (fun e => hx (.inr e))⟩
           ·rw [← hW7]; rfl
           ·rw [← hW7]; rfl
           ·rw [← hW7]; rfl
           ·rw [← hW7]; simp [World.setCell, World.drew]
          have hn7 := (h67 W1.heap.size (by omega)).trans hn6
          have hq7 : W7.heap[S + 1]? = some (.cells #[sV [c], .slice (some ⟨g, 0, none⟩) m capv, nV (sumN (selN c (entL d.ents))), .int .i64 ((k0 : Int) + 1)] 76 (0, 0)) := by
           rw [← hW7]
           exact setCell_block hq6
          have hit7 : IterAt W7 R ma accV (accL (paidBut d.accs (rest.map (·.1)))) rest' := Hit2.out.eqb (by rw [h67 ma (by omega), hb6.block ma (by omega)]) (by rw [h67 R (by omega), hb6.block R (by omega)])
          obtain ⟨o, hu0, hitN⟩ := hit7.upd (P := Tryz.prog) hrm (t := 96) (kt := 9) (et := 46) (by kernel_rfl) Tryz.underlying9 ew ⟨ew, epn - 20, ev0 + 1, false⟩ Hkk.out Hnk.out
          have hcast : ((epn - 20 : Nat) : Int) = (epn : Int) - 20 := by omega
          have hu : (Instr.mapUpdate 96 (.map (some ma)) (sV ew) (.agg #[sV ew, .int .i64 ((epn : Int) - 20), .int .i64 ((ev0 : Int) + 1), .bool false])).run Tryz.prog W7 = .ok () (itSet W7 ma o) := by
           rw [← hcast]
           exact hu0
          rw [← hW7] at hu
          have hpp := HpA
          have hdk := (desk_cells (W := W7) (p := p) (by
           have h1 := hb7.block p (by omega) (fun e => by rcases e with e | e <;> omega)
           rw [h1, HB4.out.block p (by have := HR4.out; omega)]
           exact Hpx.out)).2.1
          rw [← hW7] at hdk
          have hfin : CL4 w4 S R ma c (.slice (some ⟨g, 0, none⟩) m capv) (sumN (selN c (entL d.ents))) d.accs rest' (itSet W7 ma o) := by
           have h1 := Hstep.out
           have h2 := Hcnt.out
           rw [hpay, if_pos rfl] at h1 h2
           have hp1 : pay1 ⟨ew, epn, ev0, false⟩ = ⟨ew, epn - 20, ev0 + 1, false⟩ := by
            unfold pay1
            rw [hpay]
           rw [hp1] at h1
           refine ⟨?_, hb7.trans ⟨rfl, rfl, rfl, by rw [itSet_size]; exact Nat.le_refl _, fun k _ hx => itSet_other (fun e => hx (.inl e))⟩, Hin.out, Hnd.out, k0 + 1, ?_, ?_⟩
           ·rw [h1, ← putA_kv]
            exact hitN
           ·rw [itSet_other (by omega)]
            exact hq7
           ·have := Q5.out
            omega
          rw [← hW7] at hfin
          have HF := hidC hfin
          have HW6 := hidC hW6
          obtain ⟨t0, t1, t2, t3⟩ := box4 hn7
          rw [← hW7] at t0 t1 t2 t3
          clear hfin hW6 hW7 hb6 hn6 hq6 h67 hb7 hn7 hq7 hit7 hu0 hitN hcast hpay
          go_upto_region 23 with fail
          rw [HW2.out]
          go_upto_region 26 with fail
          rw [HW6.out]
          go_wp2_with fail
          go_region
          go_wp2_with fail
          go_roundg g'
          case measure => omega
          case rel => exact ⟨rest', HF.out, hlen2⟩
         ·have hpf : pays ⟨ew, epn, ev0, est⟩ = false := by simpa using hpay
          have hfin : CL4 w4 S R ma c (.slice (some ⟨g, 0, none⟩) m capv) (sumN (selN c (entL d.ents))) d.accs rest' W2 := by
           have h1 := Hstep.out
           have h2 := Hcnt.out
           rw [hpf, if_neg (by simp)] at h1 h2
           refine ⟨by rw [h1]; exact Hit2.out, Hbw.out, Hin.out, Hnd.out, k0, Hq4.out, ?_⟩
           have := Q5.out
           omega
          have HF := hidC hfin
          clear hfin hpay
          cases est with
          | true =>
           clear hpf
           go_upto_region 23 with fail
           rw [HW2.out]
           go_wp2_with fail
           go_roundg g'
           case measure => omega
           case rel => exact ⟨rest', HF.out, hlen2⟩
          | false =>
           have h20 : ¬ 20 ≤ epn := by
            unfold pays at hpf
            simpa using hpf
           have h20i : decide (20 ≤ epn) = false := decide_eq_false h20
           have h20j : decide ((20 : Int) ≤ (epn : Int)) = false := decide_eq_false (by omega)
           clear hpf h20
           go_upto_region 23 with fail
           rw [HW2.out]
           go_wp2_with fail
           go_roundg g'
           case measure => omega
           case rel => exact ⟨rest', HF.out, hlen2⟩
      case rest =>
       obtain ⟨hbut, hmx, hvx, hRx⟩ := hcut
       have hpx : wc.heap[p]? = some (.cells #[.map (some me), .map (some ma), .slice av2 d.vols.length cp2, .int .u8 d.closed.toNat] 98 (0, 0)) := by
        rw [hbut.block p (by omega) (fun e => by rcases e with e | e <;> omega), HB4.out.block p (by have := HR4.out; omega)]
        exact Hpx.out
       have hqx : wc.heap[S]? = some (.cells #[.int .u8 c.toNat] 212 (0, 0)) := by
        rw [hbut.block S (by omega) (fun e => by rcases e with e | e <;> omega), HB4.out.block S (by have := HR4.out; omega)]
        exact Hqx.out
       have hmex : MapAt wc me entV (entL (volsOf c d)) := by
        refine (Hmp.out.below HB4.out (by have := HR4.out; omega)).eqb (hbut.block me (by omega) (fun e => by rcases e with e | e <;> omega))
       have hgR : g < R := by have := HgA.out.2; have := HR4.out; omega
       have hox : wc.ownsRow (S + 3) 9 1 (.slice (some ⟨g, 0, none⟩) m capv) m (T.map sV) := by
        refine row_eqb Hox.out fun k hk => ?_
        cases hk
        have hg3 : S + 3 ≤ g := (Hox.out.lt g rfl).1
        rw [hbut.block g hgR (fun e => by rcases e with e | e <;> omega), HB4.out.block g (by have := HR4.out; omega)]
       have hbX : But (fun k => k = me ∨ k = ma ∨ k = S + 1) S w wc :=
        ((Hbx.out.mono (Nat.le_refl _) (fun k _ h => .inl h)).trans (But.of (HB4.out.mono (by have := HR4.out; omega)))).trans (hbut.mono (by omega) (fun k _ h => .inr h))
       have hfar : Far w (fun k => k = me ∨ k = ma ∨ k = S + 1) := fun k hk t ht => by
        rcases hk with rfl | rfl | rfl
        ·obtain ⟨es, ck, hm, _⟩ := H6.out.len
         exact far_map hm _ rfl t ht
        ·obtain ⟨es, ck, hm, _⟩ := H7.out.len
         exact far_map hm _ rfl t ht
        ·unfold cellTy at ht
         rw [Array.getElem?_eq_none (by rw [HS.out]; omega)] at ht
         cases ht
       obtain ⟨cs, hc1, hc2⟩ := H8.out.but hbX (by rw [HS.out]; exact Nat.le_refl _) hfar
       have hvown : ∀ k, (Value.slice av2 d.vols.length cp2).ownBlock = some k → n ≤ k ∧ k < S := fun k hk => by
        obtain ⟨cs', _, h⟩ := H8.out
        have h2 := h.lt k hk
        rw [HS.out] at h2
        exact h2
       have hpv : (Value.slice av2 d.vols.length cp2).ownBlock ≠ some p := fun e => by
        obtain ⟨cs', _, h⟩ := H8.out
        have h2 := (row_ty h e).1
        unfold cellTy at h2
        rw [H1.out] at h2
        cases h2
       obtain ⟨b0, b1, b2, b3⟩ := box4 hvx
       obtain ⟨e0, e1, e2, e3⟩ := desk_cells hpx
       have zp2 := boxF hpx 2
       obtain ⟨j0, hj0, hz0, hz1, hz2⟩ := info_parts (show (Tryz.prog.info? 76).map (fun i => (i.zero, i.size, i.bytes)) = some (some (.agg #[.string ⟨#[]⟩, .slice none 0 0, .int .i64 0, .int .i64 0]), 4, 56) by kernel_rfl)
       obtain ⟨ln, hln⟩ : ∃ ln, sumN (selN c (entL d.ents)) = ln := ⟨_, rfl⟩
       obtain ⟨ct, hct⟩ : ∃ ct, (d.accs.filter pays).length = ct := ⟨_, rfl⟩
       rw [hln] at b2
       rw [hct] at b3
       have hwz : S + 3 ≤ wc.heap.size := by omega
       have hnS : n ≤ S := by omega
       have Hj0 := hidC hj0
       have Hpx := hidC hpx
       have Hqx := hidC hqx
       have Hmex := hidC hmex
       have Hmx := hidC hmx
       have Hox2 := hidC hox
       have HbX := hidC hbX
       have Hc1 := hidC hc1
       have Hln := hidC hln
       have Hct := hidC hct
       have Hvx := hidC hvx
       clear hpx hqx hmex hmx hox hbX hc1 hln hct hvx hj0 hfar hbut e0 e1 e3
       go_upto_region 28 with fail
       obtain ⟨wD, rfl⟩ : ∃ wD, wD = wc := ⟨_, rfl⟩
       go_cut [] (fun wx => ∃ gg cap, wx.heap[p]? = some (.cells #[.map (some me), .map (some ma), .slice (some ⟨gg, 0, none⟩) (d.vols.length + 1) cap, .int .u8 d.closed.toNat] 98 (0, 0)) ∧ wx.ownsRow n 76 4 (.slice (some ⟨gg, 0, none⟩) (d.vols.length + 1) cap) (d.vols.length + 1) (cs ++ [sV [c], .slice (some ⟨g, 0, none⟩) m capv, nV ln, nV ct]) ∧
        But (fun k => k = p ∨ some k = (Value.slice av2 d.vols.length cp2).ownBlock) wD.heap.size wD wx)
       case rest =>
        obtain ⟨gg, cap, k1, k2, k3⟩ := hcut
        have hqz := (k3.block S (by omega) (fun e => by
         rcases e with e | e
         ·omega
         ·have := (hvown _ e.symm).2; omega)).trans Hqx.out
        have g0 := box1 hqz
        have zp3 := boxF k1 3
        have c3 := (desk_cells k1).2.2.2
        have hfin : DoP w n p (0, closeD c d) (.returned (.int .i64 0)) (wc.setCell ⟨p, 3, none⟩ (.int .u8 c.toNat)) :=
         close_end h2 h3 h4 h5 hnS (by omega) HbX.out Hpx.out Hmex.out Hmx.out Hc1.out hc2 Hox2.out HTl.out HT.out P5.out Hln.out Hct.out k1 k2 k3
        have HF := hidC hfin
        clear hfin k1 k2 k3 hqz
        go_wp2_with fail
        go_ret
        rw [HR.out]
        exact HF.out
       case first =>
        have hS6 := And.intro e2 (And.intro b0 (And.intro b1 (And.intro b2 (And.intro b3 zp2))))
        have hbA : Below wD.heap.size wD ((wD.alloc (.cells #[sV [c], .slice (some ⟨g, 0, none⟩) m capv, nV ln, nV ct] 76)).drew) := ((Below.refl _ _).alloc (Nat.le_refl _) _).drew
        have e2' := (keep6 hS6 hbA (by omega) (by omega)).1
        have hS7 := keep6 hS6 hbA (by omega) (by omega)
        have HS7 := hidC hS7
        have Hc2 := hidC hc2
        have Hhp := hidC hpv
        clear hbA hS7 hc2 hS6 hpv
        go_region_law ((refine step_append_lies _ (by rfl) _ _ _ (by rfl) n 76 j0 _ 4 56 Tryz.underlying61 Hj0.out hz0 hz1 hz2 rfl (by omega) (.slice av2 d.vols.length cp2) d.vols.length cs (by rfl) ((Hc2.out.alloc _).drew) ⟨wD.heap.size, 0, none⟩ 1 1 [sV [c], .slice (some ⟨g, 0, none⟩) m capv, nV ln, nV ct] (by rfl) (by rfl) (World.news_of_block (cs := #[sV [c], .slice (some ⟨g, 0, none⟩) m capv, nV ln, nV ct]) (t := 76) (fr := (0, 0)) (heap_alloc_new wD _)) (by simp [Value.oneCell']) (by omega) (by unfold maxLen; omega) (by omega) (by simp; omega) (wD.heap.size + 1) (by simp) ?_; intro gg cap w1 hown1 hgrow hat hlt; have hc9 := (hgrow.cell_far ⟨p, 2, none⟩ (by simp; omega) (Ne.symm Hhp.out)).trans HS7.out.1; have hf9 := (hgrow.frozen_far ⟨p, 2, none⟩ (by simp; omega) (Ne.symm Hhp.out)).trans HS7.out.2.2.2.2.2))
        all_goals go_wp2_with fail
        all_goals go_meet
        all_goals exact ⟨gg, cap, close_app Hpx.out (fun k hk hne => (hgrow.block k (by simp; omega) hne).trans (heap_alloc_old _ _ hk)) ⟨hgrow.os, hgrow.tape, hgrow.output, by have := hgrow.size; simp at this; omega⟩ Hhp.out hown1⟩
end Go.Proofs.YtjeadhfponlnnaaGreatDoor
