/-
  check: the number of a text.
  Text.
  Conditions: none; definitions and lemmas.
-/
import Derived.Test.YtjeadhfponlnnaaGreatDoorVolumes38
import Derived.Lib.ConvBytes
set_option linter.unusedSimpArgs false
set_option linter.unusedVariables false
namespace Go.Proofs.YtjeadhfponlnnaaGreatDoor
open Go.RowKit Go.Pur Go.Clerk
open Go.Abs
set_option maxRecDepth 1000000
set_option maxHeartbeats 8000000
def chk1 (n : Nat) (b : UInt8) : Nat := (n * 29 + b.toNat) % 9941
theorem check_snoc {l : Tx} {b : UInt8} : check (l ++ [b]) = chk1 (check l) b := by
 unfold check
 rw [List.foldl_append]
 rfl
theorem check_lt {l : Tx} : check l ≤ 9940 := by
 rcases List.eq_nil_or_concat l with rfl | ⟨l', b, rfl⟩
 ·exact Nat.zero_le _
 ·rw [List.concat_eq_append, check_snoc]
  have := Nat.mod_lt (check l' * 29 + b.toNat) (show 0 < 9941 by omega)
  unfold chk1
  omega
theorem check_calls (s : Tx) (w : World) (hl : s.length ≤ 100000000) : Calls Tryz.prog 78 #[sV s] w fun e w' => e = .returned (nV (check s)) ∧ Below w.heap.size w w' := by
 have mixed : Tryz.prog.follows .mixedOrders = true := by kernel_rfl
 have hsz : (bs s).size = s.length := by simp [bs, ByteArray.size]
 obtain ⟨W0, hW0⟩ : ∃ W0, Lib.bytesWorld w 5 (bs s) = W0 := ⟨_, rfl⟩
 have hb0 : Below w.heap.size w W0 := by rw [← hW0]; exact ⟨rfl, rfl, rfl, by rw [Lib.bytesWorld_size]; omega, fun j hj => Lib.bytesWorld_at_old w 5 (bs s) j hj⟩
 have hcell : ∀ (i : Nat) (b : UInt8), s[i]? = some b → W0.cell? ⟨w.heap.size, i, none⟩ = some (.int .u8 b.toNat) := fun i b hb => by
  have hi : i < (bs s).size := by rw [hsz]; exact (List.getElem?_eq_some_iff.1 hb).1
  rw [← hW0, Lib.bytesWorld_cell w 5 (bs s) i hi]
  have h1 := (List.getElem?_eq_some_iff.1 hb)
  obtain ⟨h1, h2⟩ := h1
  simp [bs, List.getD, hb, h2]
 have Hcell := hidC hcell
 have Hb0 := hidC hb0
 obtain ⟨cap, hcap⟩ : ∃ c, grownCap w (bs s).size 0 5 = c := ⟨_, rfl⟩
 have hconv : (convert 9 81 (sV s)).run Tryz.prog w = .ok (.slice (some ⟨w.heap.size, 0, none⟩) s.length cap) W0 := by
  rw [Lib.run_convert_string_bytes w 9 81 5 (bs s) Tryz.underlying9 Tryz.underlying81 Tryz.underlying5, hW0, hsz, ← hcap, hsz]
 obtain ⟨N, hN⟩ : ∃ N, s.length = N := ⟨_, rfl⟩
 rw [hN] at hconv hl
 clear hcell hb0 hW0 hcap hsz
 go_enter Tryz.func78, Tryz.ntmps78
 go_wp2_with fail
 go_loopg [3, 5, 9] (N + 1) (fun gk s3 s5 s9 wx => ∃ i : Nat, s9 = .int .i64 (i : Int) ∧ s3 = nV (check (s.take i)) ∧ i ≤ N ∧ N < i + gk ∧ wx = W0)
 case atStart => exact ⟨0, rfl, rfl, by omega, by omega, rfl⟩
 case round =>
  obtain ⟨i, rfl, rfl, hi, hg, rfl⟩ := hrel
  by_cases hlt : i < N
  ·obtain ⟨g', rfl⟩ : ∃ g', gk = g' + 1 := ⟨gk - 1, by omega⟩
   obtain ⟨b, hb⟩ : ∃ b, s[i]? = some b := ⟨_, List.getElem?_eq_getElem (by omega)⟩
   have hc := Hcell.out i b hb
   have hi1 : (0 : Int) ≤ (i : Int) := by omega
   have hi2 : (i : Int) < (N : Int) := by omega
   obtain ⟨n, hn⟩ : ∃ n, check (s.take i) = n := ⟨_, rfl⟩
   have hn4 : n ≤ 9940 := by rw [← hn]; exact check_lt
   have hb8 : b.toNat < 256 := UInt8.toNat_lt b
   have hw : RowKit.wrap64 (b.toNat : Int) = (b.toNat : Int) := by unfold RowKit.wrap64; omega
   have hnext : check (s.take (i + 1)) = chk1 n b := by
    rw [List.take_add_one, hb, ← hn]
    exact check_snoc
   have Hnext := hidC hnext
   rw [hn]
   clear hnext hn
   go_wp2_with fail
   go_roundg g'
   case measure => omega
   case rel => exact ⟨i + 1, by simp, by rw [Hnext.out]; unfold chk1; simp, by omega, by omega, rfl⟩
  ·obtain rfl : i = N := by omega
   have ht : s.take i = s := List.take_of_length_le (by omega)
   rw [ht]
   go_wp2_with fail
   go_ret
   exact ⟨rfl, Hb0.out⟩
end Go.Proofs.YtjeadhfponlnnaaGreatDoor
set_option linter.unusedSimpArgs false
set_option linter.unusedVariables false
namespace Go.Proofs.YtjeadhfponlnnaaGreatDoor
open Go.RowKit Go.Pur Go.Clerk
open Go.Abs
set_option maxRecDepth 1000000
set_option maxHeartbeats 8000000
def kHw : Tx := [104, 101, 97, 100, 119, 111, 114, 100]
theorem join_flat {sep : Tx} : ∀ (r : List Tx) (x : Tx), Lib.join (x :: r) sep ++ sep = (x :: r).flatMap (· ++ sep)
 | [], x => by simp [Lib.join, List.intercalate]
 | y :: r, x => by
  have ih := join_flat (sep := sep) r y
  have e : Lib.join (x :: y :: r) sep = x ++ (sep ++ Lib.join (y :: r) sep) := by
   unfold Lib.join
   simp [List.intercalate, List.intersperse]
  rw [e, List.flatMap_cons, ← ih]
  simp
theorem body_join (ls : List Tx) : Lib.join (kHw :: ls) [10] ++ [10] = Clerk.bodyOf ls := by
 rw [join_flat]
 rfl
theorem flat_len {ls : List Tx} {k : Nat} (h : ∀ l ∈ ls, l.length ≤ k) : (ls.flatMap (· ++ [10])).length ≤ ls.length * (k + 1) := by
 induction ls with
 | nil => simp
 | cons a r ih =>
  have h1 := h a List.mem_cons_self
  have h2 := ih fun l hl => h l (List.mem_cons_of_mem _ hl)
  rw [List.flatMap_cons, List.length_append, List.length_append]
  simp only [List.length_cons, List.length_nil, Nat.succ_mul]
  omega
theorem join_calls (W : World) (B g cap : Nat) (l : List Tx) (h : W.ownsRow B 9 1 (.slice (some ⟨g, 0, none⟩) l.length cap) l.length (l.map sV)) (hl : l.length ≤ 1000) (hj : (Lib.join l [10]).length ≤ 1000000000) :
  Calls Tryz.prog 82 #[.slice (some ⟨g, 0, none⟩) l.length cap, .string ⟨#[10]⟩] W fun e W' => e = .returned (sV (Lib.join l [10])) ∧ Below W.heap.size W W' := by
 have hcap := row_le h
 have hg : g < W.heap.size := by
  obtain ⟨h1, ⟨h2, _⟩ | ⟨g', cap', cur, e1, h2, h3, _⟩⟩ := h
  ·cases h2
  ·cases e1; exact (Array.getElem?_eq_some_iff.1 h3).1
 have e1 : (l.map bs).map (·.data.toList) = l := by
  rw [List.map_map]
  conv => rhs; rw [← List.map_id l]
  exact List.map_congr_left fun x _ => by simp [bs]
 have hlm : (l.map bs).length = l.length := List.length_map ..
 have hc := Tryz.strings_Join g 0 cap (l.map bs) ⟨#[10]⟩ W (fun j x hx => by
  rw [List.getElem?_map] at hx
  obtain ⟨y, hy, rfl⟩ := Option.map_eq_some_iff.1 hx
  have := (row_get h (k := j) (by have := (List.getElem?_eq_some_iff.1 hy).1; omega)).1
  rw [Nat.zero_add, this, List.getElem?_map, hy]
  rfl) hg (by rw [hlm]; omega) (by rw [hlm]; exact hcap) (by rw [e1]; show (Lib.join l [10]).length ≤ _; omega)
 rw [e1, hlm] at hc
 exact hc
theorem text_calls (o : Nat) (S : Off) (w : World) (hO : OffAt w o S) (hE : Env w) (hS : OffOK S) : Calls Tryz.prog 33 #[ptrV o] w fun e w' => RdV w (sV (textOf S.lines)) e w' := by
 have mixed : Tryz.prog.follows .mixedOrders = true := by kernel_rfl
 have hol := hO.lt
 obtain ⟨now, pv, lv, ps, h1, -, -, -, h5, -⟩ := hO
 obtain ⟨ls, hls⟩ : ∃ ls, S.lines = ls := ⟨_, rfl⟩
 have hfew := hS.few
 have hlen := hS.lines
 rw [hls] at h5 hfew hlen ⊢
 clear hS hls
 obtain ⟨c0, -, c2, -⟩ := off_cells h1
 have HI := hidC (invalid_calls o now w c0)
 have hbl : (Clerk.bodyOf ls).length ≤ 20000000 := by
  have h := flat_len hlen
  have h2 : (Clerk.bodyOf ls).length = 9 + (ls.flatMap (· ++ [10])).length := by unfold Clerk.bodyOf; rw [List.length_append]; rfl
  have h3 : ls.length * (100000 + 1) ≤ 150 * (100000 + 1) := Nat.mul_le_mul_right _ hfew
  omega
 have hjb := body_join ls
 have hjl : (Lib.join (kHw :: ls) [10]).length ≤ 20000000 := by
  have := congrArg List.length hjb
  rw [List.length_append] at this
  omega
 obtain ⟨B, hB⟩ : ∃ B, Clerk.bodyOf ls = B := ⟨_, rfl⟩
 rw [hB] at hbl hjb
 have HCk : Hid (∀ W, Calls Tryz.prog 78 #[sV B] W fun e w' => e = .returned (nV (check B)) ∧ Below W.heap.size W w') := hidC fun W => check_calls B W (by omega)
 have HIt : Hid (∀ W, Below w.heap.size w W → Calls Tryz.prog 27 #[.int .i64 (check B : Nat)] W fun e w' => RP W (sV (itoaN (check B))) e w') := hidC fun W hW => by
  have h := itoa_calls (check B : Nat) (by have := @check_lt B; omega) (by have := @check_lt B; omega) W (hE.below hW hE.size)
  rw [itoa_eq (by have := @check_lt B; omega)] at h
  exact h
 have HHw : Hid (((w.alloc (.cells #[.string ⟨#[104, 101, 97, 100, 119, 111, 114, 100]⟩] 9))).ownsRow w.heap.size 9 1 (.slice (some ⟨w.heap.size, 0, none⟩) 1 1) 1 [sV kHw]) := hidC ⟨rfl, .inr ⟨w.heap.size, 1, #[.string ⟨#[104, 101, 97, 100, 119, 111, 114, 100]⟩], rfl, Nat.le_refl _, heap_alloc_new _ _, Nat.le_refl _, by decide, rfl, rfl⟩⟩
 have hB0 : Below w.heap.size w (w.alloc (.cells #[.string ⟨#[104, 101, 97, 100, 119, 111, 114, 100]⟩] 9)) := (Below.refl _ _).alloc (Nat.le_refl _) _
 have HB0 := hidC hB0
 have bapp : ∀ a b : Tx, bs a ++ bs b = bs (a ++ b) := fun a b => by apply ByteArray.ext; simp [bs]
 have hJB : bs (Lib.join (kHw :: ls) [10]) ++ ⟨#[10]⟩ = bs B := by rw [← hjb]; exact bapp _ [10]
 have hfin : sV (textOf ls) = .string (bs B ++ ⟨#[101, 110, 100, 32]⟩ ++ bs (itoaN (check B)) ++ ⟨#[10]⟩) := by
  unfold textOf
  rw [hB]
  have e1 : (⟨#[101, 110, 100, 32]⟩ : ByteArray) = bs kEnd := rfl
  have e2 : (⟨#[10]⟩ : ByteArray) = bs [10] := rfl
  rw [e1, e2, bapp, bapp, bapp]
 have Hfin := hidC hfin
 have hsz1 : (bs B).size ≤ 20000000 := by simp [bs, ByteArray.size]; exact hbl
 have hit4 : (itoaN (check B)).length ≤ 4 := (itoaN_digits (n := check B) (by have := @check_lt B; omega)).2.2.2.1
 have hsz2 : (bs (itoaN (check B))).size ≤ 4 := by simp [bs, ByteArray.size]; exact hit4
 have HBd := hidC hB
 clear hE hB0 hjb hB bapp hfin
 rcases h5.2 with ⟨rfl, h0⟩ | ⟨g, cap, cur, rfl, hbase, hgb, hc1, hc2, hc3, hc4⟩
 ·have hl0 : ls = [] := List.eq_nil_of_length_eq_zero h0
  subst hl0
  have HJ := hidC (join_calls _ _ _ 1 [kHw] HHw.out (by decide) (by omega))
  go_enter Tryz.func33, Tryz.ntmps33
  go_wp2_with (first | (go_at_call 49; refine HI.out.mono ?_; rintro e wa ⟨rfl, hwa⟩; subst wa) | (go_at_call 82; refine HJ.out.mono ?_; rintro e wb ⟨rfl, hbb⟩; have Hbb := hidC (HB0.out.trans (hbb.mono HB0.out.size)); clear hbb) | (go_at_call 78; (try rw [hJB]); refine (HCk.out _).mono ?_; rintro e wc ⟨rfl, hbc⟩; have Hbc := hidC (Hbb.out.trans (hbc.mono Hbb.out.size)); clear hbc) | (go_at_call 27; refine (HIt.out _ Hbc.out).mono ?_; rintro e wd ⟨rfl, hbd⟩; have Hbd := hidC (Hbc.out.trans (hbd.mono Hbc.out.size)); clear hbd))
  go_ret
  rw [Hfin.out]
  exact ⟨rfl, Hbd.out⟩
 ·have HL := hidC h5
  obtain ⟨i0, hi0, hz0, hz1', hz2⟩ := info_parts (show (Tryz.prog.info? 9).map (fun i => (i.zero, i.size, i.bytes)) = some (some (.string ⟨#[]⟩), 1, 16) by kernel_rfl)
  have Hi0 := hidC hi0
  have hnews : ∀ (j : Nat) u, (ls.map sV)[j]? = some u → (w.alloc (.cells #[.string ⟨#[104, 101, 97, 100, 119, 111, 114, 100]⟩] 9)).cell? ((⟨g, 0, none⟩ : Addr).add j) = some u := fun j u hj => by
   have hjl := (List.getElem?_eq_some_iff.1 hj).1
   have h := (row_get (row_below HL.out ((Below.refl _ w).alloc (Nat.le_refl _) (.cells #[.string ⟨#[104, 101, 97, 100, 119, 111, 114, 100]⟩] 9))) (k := j) (by simpa using hjl)).1
   rw [Addr.add_lit, Nat.zero_add, h]
   exact hj
  have Hn := hidC hnews
  clear hi0 hnews h5
  go_enter Tryz.func33, Tryz.ntmps33
  go_wp2_with (first | (go_at_call 49; refine HI.out.mono ?_; rintro e wa ⟨rfl, hwa⟩; subst wa) | (at_builtin; refine wpList_append_own _ rfl _ _ 22 rfl w.heap.size 9 i0 (.string ⟨#[]⟩) 1 16 Tryz.underlying22 Hi0.out hz0 hz1' hz2 rfl (by decide) _ _ _ rfl HHw.out ⟨g, 0, none⟩ ls.length cap (ls.map sV) rfl ?c1 Hn.out ?c2 ?c3 ?c4 ?c5 ?_))
  case c1 => simp
  case c2 => intro u hu; obtain ⟨x, _, rfl⟩ := List.mem_map.1 hu; rfl
  case c3 => unfold maxLen; omega
  case c4 => omega
  case c5 => simp
  rintro v4 w4 hown4 hg4 hnn
  have hb4 : Below w.heap.size w w4 := HB0.out.grown hg4 HB0.out.size (fun k hk => by cases hk; exact Nat.le_refl _)
  have hn1 : (kHw :: ls).length = 1 + ls.length := by simp; omega
  rw [← hn1] at hown4
  have hown5 : w4.ownsRow w.heap.size 9 1 v4 (kHw :: ls).length ((kHw :: ls).map sV) := hown4
  obtain ⟨ga, gc, rfl⟩ := row_slice hown5
  obtain ⟨g4, rfl⟩ : ∃ g4, ga = some ⟨g4, 0, none⟩ := by
   rcases hown5.2 with ⟨_, h0⟩ | ⟨g', cap', cur', e1, _⟩
   ·simp at h0
   ·cases e1; exact ⟨g', rfl⟩
  have HJ := hidC (join_calls _ _ _ gc (kHw :: ls) hown5 (by simp; omega) (by omega))
  rw [hn1] at HJ
  have Hb4 := hidC hb4
  clear hown4 hown5 hg4 hnn hb4
  go_wp2_with (first | (go_at_call 82; refine HJ.out.mono ?_; rintro e wb ⟨rfl, hbb⟩; have Hbb := hidC (Hb4.out.trans (hbb.mono Hb4.out.size)); clear hbb) | (go_at_call 78; (try rw [hJB]); refine (HCk.out _).mono ?_; rintro e wc ⟨rfl, hbc⟩; have Hbc := hidC (Hbb.out.trans (hbc.mono Hbb.out.size)); clear hbc) | (go_at_call 27; refine (HIt.out _ Hbc.out).mono ?_; rintro e wd ⟨rfl, hbd⟩; have Hbd := hidC (Hbc.out.trans (hbd.mono Hbc.out.size)); clear hbd))
  go_ret
  rw [Hfin.out]
  exact ⟨rfl, Hbd.out⟩
end Go.Proofs.YtjeadhfponlnnaaGreatDoor
