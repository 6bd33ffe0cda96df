/-
  What is known of functions: of plain values and lists of them.
  Conditions: none; definitions and lemmas.
-/
import Derived.Test.YtmnmfmghmenkkaaPurC
set_option linter.unusedSimpArgs false
set_option linter.unusedVariables false
set_option linter.unusedSectionVars false
namespace Go.Pur
open Go.Abs Go.RowKit
inductive KA where
 | p (v : Value)
 | l (cs : List Value)
 | m (es : List MapEntry) (c : Nat)
inductive KR where
 | p (v : Value)
 | l (cs : List Value)
 | e (ty : TypeId)
 | ll (css : List (List Value))
def paArg : PV → Option KA
 | .v x => some (.p x)
 | .l _ _ n cs => match pplains cs, Nat.beq n cs.length with
  | some vs, true => some (.l vs)
  | _, _ => none
 | .a cs => match pplains cs with
  | some vs => some (.p (.agg vs.toArray))
  | none => none
 | .m _ es c => some (.m es c)
 | _ => none
def paArgs : List PV → Option (List KA)
 | [] => some []
 | v :: l => match paArg v, paArgs l with
  | some a, some as => some (a :: as)
  | _, _ => none
def aaArg (h : AHeap) : Value → Option KA
 | .slice none n c => match n, c with
  | 0, 0 => some (.l [])
  | _, _ => none
 | .slice (some a) n c => match Nat.ble unkCap c || Nat.ble n c with
  | true => match n with
   | 0 => some (.l [])
   | k + 1 => match cellsAt h a (k + 1) with
    | some cs => match cs.all plain with
     | true => some (.l cs)
     | false => none
    | none => none
  | false => none
 | .map (some a) => match h.getIt a with
  | some (.mp es c) => some (.m es c)
  | _ => none
 | v => match plainV v with
  | true => some (.p v)
  | false => none
def aaArgs (h : AHeap) : List Value → Option (List KA)
 | [] => some []
 | v :: l => match aaArg h v, aaArgs h l with
  | some a, some as => some (a :: as)
  | _, _ => none
def okP : Value → Bool
 | .int _ _ | .bool _ | .string _ | .nilIface => true
 | _ => false
theorem okP_plain {v : Value} (h : okP v = true) : plain v = true := by
 cases v <;> first | rfl | (cases h; done)
def okL (cs : List Value) : Bool := cs.all okP && Nat.blt cs.length unkCap
def okR : KR → Bool
 | .p v => okP v
 | .l cs => cs.all okP && Nat.blt cs.length unkCap
 | .e _ => true
 | .ll css => css.all okL && Nat.blt css.length unkCap
def pIn (cs : List Value) : PV := .l .fz .any cs.length (cs.map .v)
def aIn : List (List Value) → AHeap → List Value × AHeap
 | [], h => ([], h)
 | cs :: r, h => (.slice (some ⟨h.next, 0, none⟩) cs.length roCap :: (aIn r (h.alloc ⟨cs, 0, false, false⟩)).1, (aIn r (h.alloc ⟨cs, 0, false, false⟩)).2)
theorem aIn_len : ∀ {css : List (List Value)} {h : AHeap}, (aIn css h).1.length = css.length
 | [], _ => rfl
 | cs :: r, h => by rw [aIn, List.length_cons, List.length_cons, aIn_len]
def pRes : List KR → List PV
 | [] => []
 | .p v :: r => .v v :: pRes r
 | .l cs :: r => .l .fz .any cs.length (cs.map .v) :: pRes r
 | .e ty :: r => .i ty .dead :: pRes r
 | .ll css :: r => .l .fz .any css.length (css.map pIn) :: pRes r
def aRes : List KR → AHeap → List Value × AHeap
 | [], h => ([], h)
 | .p v :: r, h => (v :: (aRes r h).1, (aRes r h).2)
 | .l cs :: r, h => (.slice (some ⟨h.next, 0, none⟩) cs.length roCap :: (aRes r (h.alloc ⟨cs, 0, false, false⟩)).1, (aRes r (h.alloc ⟨cs, 0, false, false⟩)).2)
 | .e ty :: r, h => (.iface ty (.pointer (some ⟨h.next, 0, none⟩)) :: (aRes r (h.alloc ⟨[], 0, false, false⟩)).1, (aRes r (h.alloc ⟨[], 0, false, false⟩)).2)
 | .ll css :: r, h => (.slice (some ⟨(aIn css h).2.next, 0, none⟩) css.length roCap :: (aRes r ((aIn css h).2.alloc ⟨(aIn css h).1, 0, false, false⟩)).1, (aRes r ((aIn css h).2.alloc ⟨(aIn css h).1, 0, false, false⟩)).2)
def pPack : List PV → PV
 | [v] => v
 | vs => .t vs
def libP (e0 : List KA → Option (List KR)) (args : List PV) (hp : List (Option (List PV))) : Option (PV × List (Option (List PV)) × Option Nat) :=
 match paArgs args with
 | some as => match e0 as with
  | some rs => match rs.all okR with
   | true => some (pPack (pRes rs), hp, none)
   | false => none
  | none => none
 | none => none
def libA (e0 : List KA → Option (List KR)) (args : List Value) (h : AHeap) : Option (Value × AHeap) :=
 match aaArgs h args with
 | some as => match e0 as with
  | some rs => match rs.all okR with
   | true => some (packed (aRes rs h).1, (aRes rs h).2)
   | false => none
  | none => none
 | none => none
inductive LDen (w : World) : Value → KA → Prop where
 | p (v : Value) (h : plainV v = true) : LDen w v (.p v)
 | nil : LDen w (.slice none 0 0) (.l [])
 | emp (a : Addr) (c : Nat) : LDen w (.slice (some a) 0 c) (.l [])
 | lst (b o c : Nat) (cs : List Value) (hne : cs ≠ []) (hc : cs.length ≤ c) (hb : b < w.heap.size) (hr : w.rangeAt b o cs) : LDen w (.slice (some ⟨b, o, none⟩) cs.length c) (.l cs)
 | m (b : Nat) (es : List MapEntry) (c : Nat) (hw : w.heap[b]? = some (.map es.toArray c)) : LDen w (.map (some b)) (.m es c)
inductive LDens (w : World) : List Value → List KA → Prop where
 | nil : LDens w [] []
 | cons (v : Value) (a : KA) (vs : List Value) (as : List KA) (h : LDen w v a) (ht : LDens w vs as) : LDens w (v :: vs) (a :: as)
inductive IDens (n : Nat) (w : World) : List Value → List (List Value) → Prop where
 | nil : IDens n w [] []
 | cons (b o c : Nat) (cs : List Value) (C : Array Value) (e : TypeId) (fr : Nat × Nat) (us : List Value) (css : List (List Value)) (hc : cs.length ≤ c) (hb : n ≤ b) (hw : w.heap[b]? = some (.cells C e fr)) (hs : o + cs.length ≤ C.size)
   (hx : ∀ i, i < cs.length → cs.getD i undef = C.getD (o + i) undef) (ht : IDens n w us css) : IDens n w (.slice (some ⟨b, o, none⟩) cs.length c :: us) (cs :: css)
theorem IDens.len {n : Nat} {w : World} : ∀ {us : List Value} {css : List (List Value)}, IDens n w us css → us.length = css.length
 | _, _, .nil => rfl
 | _, _, .cons _ _ _ _ _ _ _ _ _ _ _ _ _ _ ht => by rw [List.length_cons, List.length_cons, ht.len]
inductive RDen (n : Nat) (w : World) : Value → KR → Prop where
 | p (v : Value) : RDen n w v (.p v)
 | l (b o c : Nat) (cs : List Value) (C : Array Value) (e : TypeId) (fr : Nat × Nat) (hc : cs.length ≤ c) (hb : n ≤ b) (hw : w.heap[b]? = some (.cells C e fr)) (hs : o + cs.length ≤ C.size) (hx : ∀ i, i < cs.length → cs.getD i undef = C.getD (o + i) undef) : RDen n w (.slice (some ⟨b, o, none⟩) cs.length c) (.l cs)
 | e (b o : Nat) (ty : TypeId) (C : Array Value) (e : TypeId) (fr : Nat × Nat) (hb : n ≤ b) (hw : w.heap[b]? = some (.cells C e fr)) (hs : o ≤ C.size) : RDen n w (.iface ty (.pointer (some ⟨b, o, none⟩))) (.e ty)
 | ll (b o c : Nat) (css : List (List Value)) (us : List Value) (C : Array Value) (e : TypeId) (fr : Nat × Nat) (hi : IDens n w us css) (hc : css.length ≤ c) (hb : n ≤ b) (hw : w.heap[b]? = some (.cells C e fr)) (hs : o + css.length ≤ C.size)
   (hx : ∀ i, i < css.length → us.getD i undef = C.getD (o + i) undef) : RDen n w (.slice (some ⟨b, o, none⟩) css.length c) (.ll css)
inductive RDens (n : Nat) (w : World) : List Value → List KR → Prop where
 | nil : RDens n w [] []
 | cons (v : Value) (a : KR) (vs : List Value) (as : List KR) (h : RDen n w v a) (ht : RDens n w vs as) : RDens n w (v :: vs) (a :: as)
section
variable {P : Program} {Y : Pol}
theorem aaArg_den {m : BMap} {h : AHeap} {w : World} (hR : Rel P m h w) {v v' : Value} {a : KA} (ha : aaArg h v = some a) (hv : VRel m v v') : LDen w v' a := by
 unfold aaArg at ha
 split at ha
 ·split at ha
  ·cases ha; rw [hv.inv_snil]; exact .nil
  ·cases ha
 ·rename_i a0 n c
  split at ha
  ·rename_i hcap
   split at ha
   ·cases ha
    obtain ⟨a', c', rfl, _⟩ := hv.inv_slice
    exact .emp _ _
   ·rename_i k
    split at ha
    ·rename_i cs hcs
     split at ha
     ·rename_i hpl
      cases ha
      obtain ⟨a', c', rfl, h1, h2, h3⟩ := hv.inv_slice
      obtain ⟨L, hm, hs, rfl, _⟩ := h1 (.inl (Nat.succ_ne_zero k))
      obtain ⟨cs', hr, hrange, hlen⟩ := cellsAt_rel hR hm hcs
      have e : cs' = cs := LRel.all_plain hr hpl
      subst e
      rw [show k.succ = cs'.length from hlen.symm]
      refine .lst _ _ _ _ (fun e => by rw [e] at hlen; cases hlen) ?_ (hR.lt _ _ hm) hrange
      rw [hlen]
      simp only [Bool.or_eq_true, Nat.ble_eq] at hcap
      by_cases hc : c < unkCap
      ·rw [h2 hc]
       exact hcap.elim (fun hh => absurd hh (Nat.not_le.2 hc)) (fun hh => hh)
      ·exact (h3 (Nat.not_lt.1 hc)).2
     ·cases ha
    ·cases ha
  ·cases ha
 ·rename_i a0
  split at ha
  ·rename_i es c hx
   cases ha
   obtain ⟨L, hm, rfl⟩ := hv.inv_map
   exact .m _ _ _ (hR.its.at_ a0 _ L hx hm).1
  ·cases ha
 ·split at ha
  ·rename_i hp
   cases ha
   rw [hv.inv_plainV hp]
   exact .p _ hp
  ·cases ha
theorem aaArgs_den {m : BMap} {h : AHeap} {w : World} (hR : Rel P m h w) : ∀ {vs vs' : List Value} {as : List KA}, aaArgs h vs = some as → LRel m vs vs' → LDens w vs' as
 | [], vs', as, ha, hv => by
  cases ha
  rcases hv.ind with ⟨_, rfl⟩ | ⟨_, _, _, _, h1, _⟩
  ·exact .nil
  ·cases h1
 | v :: vs, vs', as, ha, hv => by
  rcases hv.ind with ⟨h1, _⟩ | ⟨v0, u, r, us, h1, rfl, h3, h4⟩
  ·cases h1
  ·cases h1
   unfold aaArgs at ha
   split at ha
   ·rename_i a as' h5 h6
    cases ha
    exact .cons _ _ _ _ (aaArg_den hR h5 h3) (aaArgs_den hR h6 h4)
   ·cases ha
theorem rel_own {m0 : BMap} {h0 : AHeap} {w0 : World} {m : BMap} {h : AHeap} {w : World} (hR : Rel P m h w) (hS : Sim m0 h0 w0 m h w) (hnew : ∀ a L, m a = some L → m0 a = some L ∨ w0.heap.size ≤ L.b) (hro : ∀ a B L, h.get a = some B → m a = some L → w0.heap.size ≤ L.b → B.wr = false)
  (hlt : ∀ a L, m0 a = some L → L.b < w0.heap.size) (hit : ∀ a x L, h.getIt a = some x → m a = some L → L.b < w0.heap.size)
  {cs : List Value} {b o : Nat} {C : Array Value} {e : TypeId} {fr : Nat × Nat} (hb : w0.heap.size ≤ b) (hw : w.heap[b]? = some (.cells C e fr)) (hs : o + cs.length ≤ C.size) (hx : ∀ i, i < cs.length → VRel m (cs.getD i undef) (C.getD (o + i) undef)) (cap : Nat) :
  Rel P (upd m h.next ⟨b, o, cap⟩) (h.alloc ⟨cs, 0, false, false⟩) w ∧ Sim m0 h0 w0 (upd m h.next ⟨b, o, cap⟩) (h.alloc ⟨cs, 0, false, false⟩) w ∧
   (∀ a L, upd m h.next ⟨b, o, cap⟩ a = some L → m0 a = some L ∨ w0.heap.size ≤ L.b) ∧ (∀ a B L, (h.alloc ⟨cs, 0, false, false⟩).get a = some B → upd m h.next ⟨b, o, cap⟩ a = some L → w0.heap.size ≤ L.b → B.wr = false) ∧
   (∀ a x L, (h.alloc ⟨cs, 0, false, false⟩).getIt a = some x → upd m h.next ⟨b, o, cap⟩ a = some L → L.b < w0.heap.size) := by
 have hf := hR.fresh h.next (Nat.le_refl _)
 have hext := upd_ext (L := ⟨b, o, cap⟩) hf
 have hblt : b < w.heap.size := (Array.getElem?_eq_some_iff.1 hw).1
 have hcase : ∀ a K, upd m h.next ⟨b, o, cap⟩ a = some K → (a = h.next ∧ K = ⟨b, o, cap⟩) ∨ (a ≠ h.next ∧ m a = some K) := fun a K hk => by
  unfold upd at hk
  split at hk
  ·cases hk; exact .inl ⟨‹_›, rfl⟩
  ·exact .inr ⟨‹_›, hk⟩
 have hits : ItRel (upd m h.next ⟨b, o, cap⟩) (h.alloc ⟨cs, 0, false, false⟩) w := hR.its.keep rfl (Nat.le_succ _) (fun a K hk hs => by
   rcases hcase a K hk with ⟨rfl, _⟩ | ⟨_, hk⟩
   ·rw [hR.its.wf _ (Nat.le_refl _)] at hs; cases hs
   ·exact hk) (fun r x hr => hr)
 refine ⟨⟨?_, ?_, ?_, ?_, ?_, ?_, hits⟩, ⟨?_, hS.os, hS.output, hS.tape, hS.size, ?_, ?_, hS.low, Nat.le_trans hS.next (Nat.le_succ _), ?_, ?_, ?_, ?_, ?_⟩, ?_, ?_, ?_⟩
 ·intro a K hk
  rcases hcase a K hk with ⟨_, rfl⟩ | ⟨_, hk⟩
  ·exact hblt
  ·exact hR.lt a K hk
 ·intro a ha
  have ha' : h.next + 1 ≤ a := ha
  unfold upd
  rw [if_neg (by omega)]
  exact hR.fresh a (by omega)
 ·intro a B' K hg hk
  rw [AHeap.get_alloc] at hg
  rcases hcase a K hk with ⟨rfl, rfl⟩ | ⟨hne, hk⟩
  ·rw [if_pos rfl] at hg
   cases hg
   exact ⟨C, e, fr, hw, (fun hh => by cases hh), hs, (fun i hi => (hx i hi).mono hext), fun hh => by cases hh⟩
  ·rw [if_neg hne] at hg
   exact ((hR.blk a B' K hg hk).mono hext).same rfl
 ·intro a a' B1 B2 K1 K2 g1 g2 k1 k2 he hne
  rw [AHeap.get_alloc] at g1 g2
  rcases hcase a K1 k1 with ⟨rfl, rfl⟩ | ⟨n1, k1⟩
  ·rcases hcase a' K2 k2 with ⟨rfl, rfl⟩ | ⟨n2, k2⟩
   ·exact absurd rfl hne
   ·rw [if_pos rfl] at g1
    rw [if_neg n2] at g2
    cases g1
    exact ⟨rfl, hro a' B2 K2 g2 k2 (by rw [← he]; exact hb)⟩
  ·rcases hcase a' K2 k2 with ⟨rfl, rfl⟩ | ⟨n2, k2⟩
   ·rw [if_neg n1] at g1
    rw [if_pos rfl] at g2
    cases g2
    exact ⟨hro a B1 K1 g1 k1 (by rw [he]; exact hb), rfl⟩
   ·rw [if_neg n1] at g1
    rw [if_neg n2] at g2
    exact hR.inj a a' B1 B2 K1 K2 g1 g2 k1 k2 he hne
 ·intro g hg
  exact hext _ _ (hR.glob g hg)
 ·intro a ha
  have ha' : h.next + 1 ≤ a := ha
  rw [AHeap.get_alloc, if_neg (by omega)]
  exact hR.wf a (by omega)
 ·intro a L hL; exact hext _ _ (hS.ext a L hL)
 ·exact hS.frame
 ·intro a K hk
  rcases hcase a K hk with ⟨_, rfl⟩ | ⟨_, hk⟩
  ·exact .inr (.inl hb)
  ·exact hS.img a K hk
 ·intro a ha
  unfold upd
  rw [if_neg (by have := hS.next; omega)]
  exact hS.newm a ha
 ·intro a ha hl
  rw [AHeap.get_alloc, if_neg (by have := hS.next; omega)]
  exact hS.old a ha hl
 ·intro a ha hd
  rw [AHeap.get_alloc, if_neg (by have := hS.next; omega)]; exact hS.dead a ha hd
 ·intro a B' ha hg
  rw [AHeap.get_alloc, if_neg (by have := hS.next; omega)] at hg
  exact hS.wrs a B' ha hg
 ·exact hS.itd
 ·intro a L hL
  rcases hcase a L hL with ⟨_, rfl⟩ | ⟨_, hL⟩
  ·exact .inr hb
  ·exact hnew a L hL
 ·intro a B L hg hL hn
  rw [AHeap.get_alloc] at hg
  rcases hcase a L hL with ⟨rfl, rfl⟩ | ⟨hne, hL⟩
  ·rw [if_pos rfl] at hg; cases hg; rfl
  ·rw [if_neg hne] at hg
   exact hro a B L hg hL hn
 ·intro a x L hg hL
  have hg' : h.getIt a = some x := hg
  rcases hcase a L hL with ⟨rfl, _⟩ | ⟨_, hL⟩
  ·rw [hR.its.wf _ (Nat.le_refl _)] at hg'; cases hg'
  ·exact hit a x L hg' hL
theorem plain_getD {cs : List Value} (h : cs.all okP = true) {m : BMap} {i : Nat} (hi : i < cs.length) : VRel m (cs.getD i undef) (cs.getD i undef) := by
 rw [List.getD_eq_getElem?_getD, List.getElem?_eq_getElem hi]
 exact .plain _ (okP_plain (List.all_eq_true.1 h _ (List.getElem_mem hi)))
theorem aIn_rel {m0 : BMap} {h0 : AHeap} {w0 : World} {w : World} (hlt : ∀ a L, m0 a = some L → L.b < w0.heap.size) : ∀ {css : List (List Value)} {us : List Value} {m : BMap} {h : AHeap}, Rel P m h w → Sim m0 h0 w0 m h w → (∀ a L, m a = some L → m0 a = some L ∨ w0.heap.size ≤ L.b) →
  (∀ a B L, h.get a = some B → m a = some L → w0.heap.size ≤ L.b → B.wr = false) → (∀ a x L, h.getIt a = some x → m a = some L → L.b < w0.heap.size) → css.all okL = true → IDens w0.heap.size w us css →
  ∃ m', (∀ a L, m a = some L → m' a = some L) ∧ LRel m' (aIn css h).1 us ∧ Rel P m' (aIn css h).2 w ∧ Sim m0 h0 w0 m' (aIn css h).2 w ∧ (∀ a L, m' a = some L → m0 a = some L ∨ w0.heap.size ≤ L.b) ∧
   (∀ a B L, (aIn css h).2.get a = some B → m' a = some L → w0.heap.size ≤ L.b → B.wr = false) ∧ (∀ a x L, (aIn css h).2.getIt a = some x → m' a = some L → L.b < w0.heap.size)
 | [], us, m, h, hR, hS, h1, h2, h3, _, hd => by cases hd; exact ⟨m, fun _ _ h => h, LRel.nil _, hR, hS, h1, h2, h3⟩
 | cs :: css, us, m, h, hR, hS, hnew, hro, hit, hok, hd => by
  cases hd with
  | cons b o c _ C e fr us' _ hc hb hw hs hx ht =>
  simp only [List.all_cons, Bool.and_eq_true] at hok
  have hok1 : cs.all okP = true := by have := hok.1; simp only [okL, Bool.and_eq_true] at this; exact this.1
  obtain ⟨r1, r2, r3, r4, r5⟩ := rel_own hR hS hnew hro hlt hit (cs := cs) (o := o) hb hw hs (fun i hi => by rw [← hx i hi]; exact plain_getD hok1 hi) 0
  obtain ⟨m', e1, e2, e3, e4, e5⟩ := aIn_rel hlt r1 r2 r3 r4 r5 hok.2 ht
  refine ⟨m', fun a L hL => e1 a L (upd_ext (hR.fresh _ (Nat.le_refl _)) a L hL), LRel.cons ?_ e2, e3, e4, e5⟩
  exact .ro _ _ _ _ 0 hc (fun _ => ⟨⟨b, o, 0⟩, e1 _ _ (by unfold upd; rw [if_pos rfl]), rfl, rfl, fun hh => absurd rfl hh⟩)
theorem aRes_rel {m0 : BMap} {h0 : AHeap} {w0 : World} {w : World} (hlt : ∀ a L, m0 a = some L → L.b < w0.heap.size) : ∀ {rs : List KR} {vs : List Value} {m : BMap} {h : AHeap}, Rel P m h w → Sim m0 h0 w0 m h w → (∀ a L, m a = some L → m0 a = some L ∨ w0.heap.size ≤ L.b) →
  (∀ a B L, h.get a = some B → m a = some L → w0.heap.size ≤ L.b → B.wr = false) → (∀ a x L, h.getIt a = some x → m a = some L → L.b < w0.heap.size) → rs.all okR = true → RDens w0.heap.size w vs rs →
  ∃ m', (∀ a L, m a = some L → m' a = some L) ∧ LRel m' (aRes rs h).1 vs ∧ Rel P m' (aRes rs h).2 w ∧ Sim m0 h0 w0 m' (aRes rs h).2 w
 | [], vs, m, h, hR, hS, _, _, _, _, hd => by cases hd; exact ⟨m, fun _ _ h => h, LRel.nil _, hR, hS⟩
 | r :: rs, vs, m, h, hR, hS, hnew, hro, hit, hok, hd => by
  cases hd with
  | cons v _ vs' _ hv ht =>
  simp only [List.all_cons, Bool.and_eq_true] at hok
  cases hv with
  | p x =>
   obtain ⟨m', e1, e2, e3, e4⟩ := aRes_rel hlt hR hS hnew hro hit hok.2 ht
   exact ⟨m', e1, LRel.cons (.plain _ (okP_plain hok.1)) e2, e3, e4⟩
  | l b o c cs C e fr hc hb hw hs hx =>
   have hok1 : cs.all okP = true := by have := hok.1; simp only [okR, Bool.and_eq_true] at this; exact this.1
   obtain ⟨r1, r2, r3, r4, r5⟩ := rel_own hR hS hnew hro hlt hit (cs := cs) (o := o) hb hw hs (fun i hi => by rw [← hx i hi]; exact plain_getD hok1 hi) 0
   obtain ⟨m', e1, e2, e3, e4⟩ := aRes_rel hlt r1 r2 r3 r4 r5 hok.2 ht
   refine ⟨m', fun a L hL => e1 a L (upd_ext (hR.fresh _ (Nat.le_refl _)) a L hL), LRel.cons ?_ e2, e3, e4⟩
   exact .ro _ _ _ _ 0 hc (fun _ => ⟨⟨b, o, 0⟩, e1 _ _ (by unfold upd; rw [if_pos rfl]), rfl, rfl, fun hh => absurd rfl hh⟩)
  | e b o ty C e fr hb hw hs =>
   obtain ⟨r1, r2, r3, r4, r5⟩ := rel_own hR hS hnew hro hlt hit (cs := []) (o := o) hb hw hs (fun i hi => absurd hi (Nat.not_lt_zero _)) 0
   obtain ⟨m', e1, e2, e3, e4⟩ := aRes_rel hlt r1 r2 r3 r4 r5 hok.2 ht
   refine ⟨m', fun a L hL => e1 a L (upd_ext (hR.fresh _ (Nat.le_refl _)) a L hL), LRel.cons (.iface _ _ _ ?_) e2, e3, e4⟩
   exact .ptr ⟨h.next, 0, none⟩ ⟨b, o, 0⟩ (e1 _ _ (by unfold upd; rw [if_pos rfl])) rfl
  | ll b o c css us C e fr hi hc hb hw hs hx =>
   have hok1 : css.all okL = true := by have := hok.1; simp only [okR, Bool.and_eq_true] at this; exact this.1
   obtain ⟨m1, f1, f2, f3, f4, f5, f6, f7⟩ := aIn_rel hlt hR hS hnew hro hit hok1 hi
   obtain ⟨r1, r2, r3, r4, r5⟩ := rel_own f3 f4 f5 f6 hlt f7 (cs := (aIn css h).1) (o := o) hb hw (by rw [aIn_len]; exact hs) (fun i hi => by rw [← hx i (by rw [aIn_len] at hi; exact hi)]; exact f2.2 i hi) 0
   obtain ⟨m', e1, e2, e3, e4⟩ := aRes_rel hlt r1 r2 r3 r4 r5 hok.2 ht
   refine ⟨m', fun a L hL => e1 a L (upd_ext (f3.fresh _ (Nat.le_refl _)) a L (f1 a L hL)), LRel.cons ?_ e2, e3, e4⟩
   exact .ro _ _ _ _ 0 hc (fun _ => ⟨⟨b, o, 0⟩, e1 _ _ (by unfold upd; rw [if_pos rfl]), rfl, rfl, fun hh => absurd rfl hh⟩)
theorem packed_ext {m : BMap} {l l' : List Value} (h : LRel m l l') : VRel m (packed l) (packed l') := by
 rcases h.ind with ⟨rfl, rfl⟩ | ⟨v, v', r, r', rfl, rfl, h1, h2⟩
 ·exact .tuple _ _ rfl (fun i hi => absurd hi (Nat.not_lt_zero _))
 ·rcases h2.ind with ⟨rfl, rfl⟩ | ⟨_, _, _, _, rfl, rfl, _, _⟩
  ·exact h1
  ·exact VRel.tuple_of h
theorem pplains_lr {C : Ctx} {h : AHeap} {π : Option Pl} : ∀ {us : List PV} {vs xs : List Value}, pplains us = some vs → LR C h π us xs → vs = xs ∧ ∀ v ∈ vs, plain v = true
 | [], vs, xs, hq, hl => by
  cases hq
  rcases hl.ind with ⟨_, rfl⟩ | ⟨_, _, _, _, h1, _⟩
  ·exact ⟨rfl, fun _ h => by cases h⟩
  ·cases h1
 | u :: us, vs, xs, hq, hl => by
  rcases hl.ind with ⟨h1, _⟩ | ⟨u0, x, r, ys, h1, rfl, h3, h4⟩
  ·cases h1
  ·cases h1
   unfold pplains at hq
   split at hq
   ·rename_i hh; cases hh
   ·rename_i x0 l hh
    cases hh
    split at hq
    ·rename_i r hr
     cases hq
     obtain ⟨e, hp⟩ := pplains_lr hr h4
     obtain ⟨e1, e2, _⟩ := h3.inv_v
     subst e1; subst e
     exact ⟨rfl, fun v hv => by
      rcases List.mem_cons.1 hv with rfl | hv
      ·exact e2
      ·exact hp v hv⟩
    ·cases hq
   ·cases hq
theorem paArg_aa {C : Ctx} {h : AHeap} {u : PV} {x : Value} {a : KA} (ha : paArg u = some a) (hv : VA C h u x) : aaArg h x = some a := by
 unfold paArg at ha
 split at ha
 ·cases ha
  obtain ⟨rfl, h2, h3⟩ := (hv 0).inv_v
  unfold aaArg
  split
  ·rename_i n c; exact absurd rfl (h3 n c)
  ·rename_i a n c; cases h2
  ·rename_i a; cases h2
  ·rename_i h4 h5 h6
   have : plainV x = true := by
    cases x <;> first | exact h2 | (cases h2; done)
   rw [this]
 ·rename_i k c n cs
  split at ha
  ·rename_i vs hvs hn
   cases ha
   have hn := Nat.eq_of_beq_eq_true hn
   rcases (hv 0).inv_l with ⟨rfl, rfl, rfl⟩ | ⟨ad, cap, B, rfl, hb, hs, hk, hlt, hc, hl, hcs⟩
   ·cases hvs; rfl
   ·have hl' := hcs
    obtain ⟨e, hp⟩ := pplains_lr hvs hl'
    unfold aaArg
    have hcap : (Nat.ble unkCap cap || Nat.ble n cap) = true := by
     by_cases hh : cap < unkCap
     ·have := hc.le hh
      simp [Nat.ble_eq, this]
     ·have := Nat.not_lt.1 hh
      simp [Nat.ble_eq, this]
    simp only [hcap]
    cases n with
    | zero =>
     have : cs = [] := List.length_eq_zero_iff.1 hn.symm
     subst this
     cases hvs; rfl
    | succ k =>
     have hcell : cellsAt h ad (k + 1) = some vs := by
      unfold cellsAt
      rw [hb]
      simp only []
      rw [e, hn]
      exact takeN_of (by simp; omega)
     simp only [hcell]
     rw [List.all_eq_true.2 hp]
  ·cases ha
 ·rename_i cs
  split at ha
  ·rename_i vs hvs
   cases ha
   obtain ⟨l, rfl, hl⟩ := (hv 0).inv_a
   obtain ⟨e, hp⟩ := pplains_lr hvs hl
   subst e
   show (match plainV (.agg l) with | true => some (KA.p (.agg l)) | false => none) = _
   have : plainV (.agg l) = true := List.all_eq_true.2 hp
   rw [this]
  ·cases ha
 ·rename_i k es c
  cases ha
  cases hv 0 with
  | m _ _ _ _ id hk hi =>
   unfold aaArg
   simp only [hi]
 ·cases ha
where takeN_of : ∀ {n : Nat} {l : List Value}, n ≤ l.length → takeN n l = some (l.take n)
 | 0, _, _ => by simp [takeN]
 | n + 1, [], h => by simp at h
 | n + 1, x :: l, h => by
  unfold takeN
  rw [takeN_of (by simpa using h)]
  rfl
theorem paArgs_aa {C : Ctx} {h : AHeap} : ∀ {us : List PV} {xs : List Value} {as : List KA}, paArgs us = some as → LP1 C h us xs → aaArgs h xs = some as
 | [], [], as, ha, _ => ha
 | [], _ :: _, _, _, hl => hl.elim
 | _ :: _, [], _, _, hl => hl.elim
 | u :: us, x :: xs, as, ha, hl => by
  unfold paArgs at ha
  split at ha
  ·rename_i a as' h1 h2
   cases ha
   unfold aaArgs
   rw [paArg_aa h1 hl.1.1, paArgs_aa h2 hl.2]
  ·cases ha
theorem pRes_firm : ∀ {rs : List KR}, (pRes rs).all firm = true
 | [] => rfl
 | .p v :: r => by simp only [pRes, List.all_cons, pRes_firm (rs := r), Bool.and_true]; rfl
 | .l cs :: r => by simp only [pRes, List.all_cons, pRes_firm (rs := r), Bool.and_true]; rfl
 | .e ty :: r => by simp only [pRes, List.all_cons, pRes_firm (rs := r), Bool.and_true]; rfl
 | .ll css :: r => by simp only [pRes, List.all_cons, pRes_firm (rs := r), Bool.and_true]; rfl
theorem look_none {f : FuncId} {hp : List (Option (List PV))} {t : Nat} : look Y f ⟨[], .nil, hp, none⟩ t = none := by
 unfold look
 split <;> rfl
theorem Old.trans {C C1 C2 : Ctx} {h h1 h2 : AHeap} (o1 : Old C C1 h h1) (o2 : Old C1 C2 h1 h2) : Old C C2 h h2 :=
 ⟨o2.sz.trans o1.sz, fun b id hb => o2.β _ _ (o1.β _ _ hb), fun id hid => o2.fz _ (o1.fz _ hid), fun id hid => o2.fx _ (o1.fx _ hid), fun id p hid => o2.ow _ _ (o1.ow _ _ hid),
  fun id hid => (o2.get id (hid.elim (fun hh => .inl (o1.fx _ hh)) (fun ⟨p, hh⟩ => .inr ⟨p, o1.ow _ _ hh⟩))).trans (o1.get id hid), fun id hid => (o2.git id (hid.elim (fun hh => .inl (o1.fx _ hh)) (fun ⟨p, hh⟩ => .inr ⟨p, o1.ow _ _ hh⟩))).trans (o1.git id hid)⟩
theorem new_list {C1 : Ctx} {h1 : AHeap} {cs : List Value} {id : Nat} (hok : okL cs = true) (hz : C1.fz id) (hg : h1.get id = some ⟨cs, 0, false, false⟩) : VR C1 h1 none (pIn cs) (.slice (some ⟨id, 0, none⟩) cs.length roCap) := by
 have hok1 : cs.all okP = true ∧ cs.length < unkCap := by
  simp only [okL, Bool.and_eq_true, Nat.blt_eq] at hok
  exact hok
 refine .lst _ _ _ _ _ _ _ _ hg rfl hz hok1.2 ⟨fun e => by (cases e), fun e => by (cases e), fun e => absurd e (by decide), .inr (.inr (Nat.le_refl _)), fun e => by (cases e), ?_⟩ (by simp) (fun i hi => ?_)
 ·intro v hv
  obtain ⟨y, _, rfl⟩ := List.mem_map.1 hv
  rfl
 ·have hi' : i < cs.length := by simpa using hi
  have e : cs[i]? = some cs[i] := List.getElem?_eq_getElem hi'
  have hp := List.all_eq_true.1 hok1.1 _ (List.getElem_mem hi')
  simp [List.getD_eq_getElem?_getD, e]
  exact .v _ _ (okP_plain hp) (fun n c e => by rw [e] at hp; cases hp)
theorem in_sim {f : FuncId} {hp : List (Option (List PV))} : ∀ {css : List (List Value)} {C : Ctx} {h : AHeap}, css.all okL = true → ST P Y f C h ⟨[], .nil, hp, none⟩ .nil →
  ∃ C', ST P Y f C' (aIn css h).2 ⟨[], .nil, hp, none⟩ .nil ∧ Step (Y.keep f) (h.next ≤ ·) C h ⟨[], .nil, hp, none⟩ C' (aIn css h).2 ⟨[], .nil, hp, none⟩ ∧ Old C C' h (aIn css h).2 ∧ C'.β = C.β ∧ C'.ow = C.ow ∧ LR C' (aIn css h).2 none (css.map pIn) (aIn css h).1 ∧ h.next ≤ (aIn css h).2.next
 | [], C, h, _, st => ⟨C, st, .refl _ _ _ _ _, ⟨rfl, fun _ _ h => h, fun _ h => h, fun _ h => h, fun _ _ h => h, fun _ _ => rfl, fun _ _ => rfl⟩, rfl, rfl, LR.nil _ _ _, Nat.le_refl _⟩
 | cs :: css, C, h, hok, st => by
  simp only [List.all_cons, Bool.and_eq_true] at hok
  have hf : ¬ Ids C h.next := fun hid => absurd (hid.lt st.hi) (Nat.lt_irrefl _)
  have nh : NewH h h.next ⟨cs, 0, false, false⟩ (h.alloc ⟨cs, 0, false, false⟩) := ⟨fun k => AHeap.get_alloc _ _ _, Nat.le_succ _, Nat.lt_succ_self _, rfl, rfl⟩
  obtain ⟨s1, t1, o1⟩ := newFz_sim st hf nh
  obtain ⟨C', s2, t2, o2, b2, w2, l2, n2⟩ := in_sim hok.2 s1
  have hfz : (withFz C h.next).fz h.next := .inr rfl
  refine ⟨C', s2, t1.trans t2 (fun _ e => Nat.le_of_eq e.symm) (fun _ e => Nat.le_trans (Nat.le_succ _) e), o1.trans o2, b2, w2, LR.cons ?_ l2, Nat.le_trans (Nat.le_succ _) n2⟩
  exact new_list hok.1 (o2.fz _ hfz) ((o2.get _ (.inl (.inr rfl))).trans (by rw [AHeap.get_alloc, if_pos rfl]))
theorem res_sim {f : FuncId} {hp : List (Option (List PV))} : ∀ {rs : List KR} {C : Ctx} {h : AHeap}, rs.all okR = true → ST P Y f C h ⟨[], .nil, hp, none⟩ .nil →
  ∃ C', ST P Y f C' (aRes rs h).2 ⟨[], .nil, hp, none⟩ .nil ∧ Step (Y.keep f) (h.next ≤ ·) C h ⟨[], .nil, hp, none⟩ C' (aRes rs h).2 ⟨[], .nil, hp, none⟩ ∧ Old C C' h (aRes rs h).2 ∧ C'.β = C.β ∧ C'.ow = C.ow ∧ LR C' (aRes rs h).2 none (pRes rs) (aRes rs h).1
 | [], C, h, _, st => ⟨C, st, .refl _ _ _ _ _, ⟨rfl, fun _ _ h => h, fun _ h => h, fun _ h => h, fun _ _ h => h, fun _ _ => rfl, fun _ _ => rfl⟩, rfl, rfl, LR.nil _ _ _⟩
 | r :: rs, C, h, hok, st => by
  simp only [List.all_cons, Bool.and_eq_true] at hok
  have step : ∀ (cs : List Value) (u : PV) (x : Value), (∀ C1 : Ctx, ∀ h1 : AHeap, C1.fz h.next → h1.get h.next = some ⟨cs, 0, false, false⟩ → VR C1 h1 none u x) → ∃ C', ST P Y f C' (aRes rs (h.alloc ⟨cs, 0, false, false⟩)).2 ⟨[], .nil, hp, none⟩ .nil ∧
    Step (Y.keep f) (h.next ≤ ·) C h ⟨[], .nil, hp, none⟩ C' (aRes rs (h.alloc ⟨cs, 0, false, false⟩)).2 ⟨[], .nil, hp, none⟩ ∧ Old C C' h (aRes rs (h.alloc ⟨cs, 0, false, false⟩)).2 ∧ C'.β = C.β ∧ C'.ow = C.ow ∧
    LR C' (aRes rs (h.alloc ⟨cs, 0, false, false⟩)).2 none (u :: pRes rs) (x :: (aRes rs (h.alloc ⟨cs, 0, false, false⟩)).1) := by
   intro cs u x hu
   have hf : ¬ Ids C h.next := fun hid => absurd (hid.lt st.hi) (Nat.lt_irrefl _)
   have nh : NewH h h.next ⟨cs, 0, false, false⟩ (h.alloc ⟨cs, 0, false, false⟩) := ⟨fun k => AHeap.get_alloc _ _ _, Nat.le_succ _, Nat.lt_succ_self _, rfl, rfl⟩
   obtain ⟨s1, t1, o1⟩ := newFz_sim st hf nh
   obtain ⟨C', s2, t2, o2, b2, w2, l2⟩ := res_sim hok.2 s1
   have hfz : (withFz C h.next).fz h.next := .inr rfl
   refine ⟨C', s2, t1.trans t2 (fun _ e => Nat.le_of_eq e.symm) (fun _ e => Nat.le_trans (Nat.le_succ _) e), ?_, b2, w2, LR.cons ?_ l2⟩
   ·exact ⟨o2.sz.trans o1.sz, fun b id hb => o2.β _ _ (o1.β _ _ hb), fun id hid => o2.fz _ (o1.fz _ hid), fun id hid => o2.fx _ (o1.fx _ hid), fun id p hid => o2.ow _ _ (o1.ow _ _ hid),
     fun id hid => (o2.get id (hid.elim (fun hh => .inl (o1.fx _ hh)) (fun ⟨p, hh⟩ => .inr ⟨p, o1.ow _ _ hh⟩))).trans (o1.get id hid), fun id hid => (o2.git id (hid.elim (fun hh => .inl (o1.fx _ hh)) (fun ⟨p, hh⟩ => .inr ⟨p, o1.ow _ _ hh⟩))).trans (o1.git id hid)⟩
   ·exact hu C' _ (o2.fz _ hfz) ((o2.get _ (.inl (.inr rfl))).trans (by rw [AHeap.get_alloc, if_pos rfl]))
  cases r with
  | p v =>
   obtain ⟨C', s2, t2, o2, b2, w2, l2⟩ := res_sim hok.2 st
   exact ⟨C', s2, t2, o2, b2, w2, LR.cons (.v _ _ (okP_plain hok.1) (fun n c e => by rw [e] at hok; exact absurd hok.1 (by simp [okR, okP]))) l2⟩
  | l cs =>
   have hok1 : cs.all okP = true ∧ cs.length < unkCap := by
    have := hok.1
    simp only [okR, Bool.and_eq_true, Nat.blt_eq] at this
    exact this
   refine step cs _ _ (fun C1 h1 hz hg => ?_)
   refine .lst _ _ _ _ _ _ _ _ hg rfl hz hok1.2 ⟨fun e => by (cases e), fun e => by (cases e), fun e => absurd e (by decide), .inr (.inr (Nat.le_refl _)), fun e => by (cases e), ?_⟩ (by simp) (fun i hi => ?_)
   ·intro v hv
    obtain ⟨y, _, rfl⟩ := List.mem_map.1 hv
    rfl
   ·have hi' : i < cs.length := by simpa using hi
    have e : cs[i]? = some cs[i] := List.getElem?_eq_getElem hi'
    have hp := List.all_eq_true.1 hok1.1 _ (List.getElem_mem hi')
    simp [List.getD_eq_getElem?_getD, e]
    exact .v _ _ (okP_plain hp) (fun n c e => by rw [e] at hp; cases hp)
  | e ty =>
   exact step [] _ _ (fun C1 h1 hz hg => .i _ _ _ _ (.dead _ _))
  | ll css =>
   have hok1 : css.all okL = true ∧ css.length < unkCap := by
    have := hok.1
    simp only [okR, Bool.and_eq_true, Nat.blt_eq] at this
    exact this
   obtain ⟨C1, s1, t1, o1, b1, w1, l1, n1⟩ := in_sim (f := f) (hp := hp) hok1.1 st
   have hf : ¬ Ids C1 (aIn css h).2.next := fun hid => absurd (hid.lt s1.hi) (Nat.lt_irrefl _)
   have nh : NewH (aIn css h).2 (aIn css h).2.next ⟨(aIn css h).1, 0, false, false⟩ ((aIn css h).2.alloc ⟨(aIn css h).1, 0, false, false⟩) := ⟨fun k => AHeap.get_alloc _ _ _, Nat.le_succ _, Nat.lt_succ_self _, rfl, rfl⟩
   obtain ⟨s2, t2, o2⟩ := newFz_sim s1 hf nh
   obtain ⟨C', s3, t3, o3, b3, w3, l3⟩ := res_sim hok.2 s2
   refine ⟨C', s3, t1.trans (t2.trans t3 (N := fun id => h.next ≤ id) (fun _ e => by rw [e]; exact n1) (fun _ e => Nat.le_trans n1 (Nat.le_trans (Nat.le_succ _) e))) (fun _ e => e) (fun _ e => e), o1.trans (o2.trans o3), b3.trans b1, w3.trans w1, LR.cons ?_ l3⟩
   have hz : C'.fz (aIn css h).2.next := o3.fz _ (.inr rfl)
   have hg : (aRes rs ((aIn css h).2.alloc ⟨(aIn css h).1, 0, false, false⟩)).2.get (aIn css h).2.next = some ⟨(aIn css h).1, 0, false, false⟩ := (o3.get _ (.inl (.inr rfl))).trans (by rw [AHeap.get_alloc, if_pos rfl])
   refine .lst _ _ _ _ _ _ _ _ hg rfl hz hok1.2 ⟨fun e => by (cases e), fun e => by (cases e), fun e => absurd e (by decide), .inr (.inr (Nat.le_refl _)), fun e => by (cases e), ?_⟩ (by simp [aIn_len]) (fun i hi => ?_)
   ·intro v hv
    obtain ⟨y, _, rfl⟩ := List.mem_map.1 hv
    rfl
   ·have hv := (l1.2 i hi).old (o := o2.trans o3) s1.hi.fzx
    simp only [Nat.zero_add]
    exact hv
theorem firm_any {C : Ctx} {h : AHeap} {d : Nat} (hsub : ∀ id, C.fz id → C.fx id) {u : PV} {x : Value} (hf : firm u = true) (h1 : VR C h none u x) : VR C h (some (.tmp d)) u x := by
 refine VR.step (C := C) (C' := C) (h := h) (h' := h) rfl (fun _ _ h => h) (fun _ h => h) (fun _ h => h) hsub (fun _ _ => rfl) (π := none) (π' := some (.tmp d)) (fun t e => by cases e) h1 ?_
 cases u with
 | l k c n cs => cases k <;> first | trivial | cases hf
 | r k cs => cases k <;> first | trivial | cases hf
 | m k es c => cases k <;> first | trivial | cases hf
 | it s pos => cases hf
 | _ => trivial
theorem pPack_vr {C : Ctx} {h : AHeap} {d : Nat} {us : List PV} {xs : List Value} (hsub : ∀ id, C.fz id → C.fx id) (hl : LR C h none us xs) (hf : us.all firm = true) : VR C h (some (.tmp d)) (pPack us) (packed xs) ∧ sound (pPack us) = true ∧ isOwn (pPack us) = false := by
 rcases hl.ind with ⟨rfl, rfl⟩ | ⟨u, x, r, r', rfl, rfl, h1, h2⟩
 ·exact ⟨.t _ _ _ rfl (fun i hi => absurd hi (Nat.not_lt_zero _)), rfl, rfl⟩
 ·rcases h2.ind with ⟨rfl, rfl⟩ | ⟨_, _, _, _, rfl, rfl, _, _⟩
  ·simp only [List.all_cons, Bool.and_eq_true] at hf
   refine ⟨firm_any hsub hf.1 h1, ?_, (firm_loose hf.1).2⟩
   show sound u = true
   cases u with
   | t cs => cases hf.1
   | l k c n cs => cases k <;> first | exact hf.1 | rfl
   | m k es c => cases k <;> first | exact hf.1 | rfl
   | _ => exact hf.1
  ·exact ⟨VR.tuple_of hl, hf, rfl⟩
theorem aIn_aext : ∀ {css : List (List Value)} {h : AHeap}, AExt h (aIn css h).2
 | [], h => AExt.refl _
 | cs :: r, h => (AExt.alloc h _).trans (aIn_aext (css := r))
theorem fnOK_lib {g : FuncId} (e0 : List KA → Option (List KR)) (hx : Y.ext g = libP e0) (hb : (bodyOf P g).isSome = true)
  (hc : ∀ as rs, e0 as = some rs → ∀ m h w, Rel P m h w → ∀ args, LDens w args as → Calls P g args.toArray w fun e w' => ∃ vs, e = .returned (packed vs) ∧ Below w.heap.size w w' ∧ RDens w.heap.size w' vs rs) : FnOK P Y g := by
 refine ⟨libA e0, fun args h v h' hq => ?_, fun args hp r hp' w hq C h args' d hin => ?_⟩
 ·unfold libA at hq
  split at hq
  ·rename_i as has
   split at hq
   ·rename_i rs hrs
    split at hq
    ·rename_i hok
     cases hq
     refine ⟨aRes_ext, hb, fun m w args' hR hA => ?_⟩
     refine (hc as rs hrs m h w hR args' (aaArgs_den hR has hA)).mono fun e w' ⟨vs, he, hbl, hd⟩ => ?_
     obtain ⟨r1, r2⟩ := hR.below hbl
     obtain ⟨m', e1, e2, e3, e4⟩ := aRes_rel (m0 := m) (h0 := h) (w0 := w) (fun a L hL => hR.lt a L hL) r1 r2 (fun a L hL => .inl hL) (fun a B L _ hL hn => absurd (hR.lt a L hL) (Nat.not_lt.2 hn)) (fun a x L _ hL => hR.lt a L hL) hok hd
     exact ⟨m', packed vs, he, packed_ext e2, e3, e4⟩
    ·cases hq
   ·cases hq
  ·cases hq
 ·rw [hx] at hq
  unfold libP at hq
  split at hq
  ·rename_i as has
   split at hq
   ·rename_i rs hrs
    split at hq
    ·rename_i hok
     cases hq
     have st0 : ST P Y 0 C h ⟨[], .nil, hp, none⟩ .nil := ⟨hin.sz, hin.hi, fun t v hv => absurd (look_none.symm.trans hv) (fun e => by cases e), fun t v _ hv => (by cases hv), hin.gr, fun d t es c es' c' h1 => absurd (look_none.symm.trans h1) (fun e => by cases e)⟩
     obtain ⟨C', s2, t2, o2, b2, w2, l2⟩ := res_sim hok st0
     obtain ⟨p1, p2, p3⟩ := pPack_vr (d := d) s2.hi.fzx l2 pRes_firm
     refine ⟨C', (aRes rs h).2, packed (aRes rs h).1, ?_, ⟨s2.hi, t2.ext, t2.ids, Nat.le_refl _, fun b id hb => by rw [b2] at hb; exact .inl hb, fun id p ho => .inl (hin.owc id p (by rw [w2] at ho; exact ho)), p1, p2, (fun e => absurd (p3.symm.trans e) (by decide)), fun F l => t2.lp F (fun id hid => Nat.le_trans l.n0 hid) l⟩⟩
     unfold libA
     rw [paArgs_aa has hin.args]
     simp only [hrs, hok]
    ·cases hq
   ·cases hq
  ·cases hq
where aRes_ext : ∀ {rs : List KR} {h : AHeap}, AExt h (aRes rs h).2
 | [], h => AExt.refl _
 | .p v :: r, h => aRes_ext (rs := r)
 | .l cs :: r, h => (AExt.alloc h _).trans (aRes_ext (rs := r))
 | .e ty :: r, h => (AExt.alloc h _).trans (aRes_ext (rs := r))
 | .ll css :: r, h => (aIn_aext.trans (AExt.alloc _ _)).trans (aRes_ext (rs := r))
end
end Go.Pur
