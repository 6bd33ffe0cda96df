/-
  ShortApart: words that tell words apart,and short forms,are those of the reference.
  ShortApart: words that tell two words apart,or one from others,are as stated (at most 60 bytes each,and 60 words)
  Conditions: the row's own (the tables of math/bits are as the text lays them).
-/
import Derived.Test.YtmnmfmghmenkkaaPart6
set_option linter.unusedSimpArgs false
set_option linter.unusedVariables false
namespace Go.Proofs.Ytmnmfmghmenkkaa
open Go.Abs Go.Pur
set_option maxRecDepth 100000
theorem gI_at' {α : Type} {l : List α} {i : Nat} (h : i < l.length) : gI l (i : Int) = some l[i] := by
 show gI l (Int.ofNat i) = _
 simp only [gI]
 rw [List.getElem?_eq_getElem h]
def bstL (D : List UInt8 → Bool) : List (List UInt8) → List UInt8 × Bool → List UInt8 × Bool
 | [],s => s
 | k :: l,(b,is) => bstL D l (match D k && (!is || Op.bytesLess k b) with
  | true => (k,true)
  | false => (b,is))
def difB (a b : List UInt8) (n : Nat) (q : List UInt8) : Bool := decide (q.length = n) && (leftW a q != leftW b q)
theorem f71_run {a b : List UInt8} {n F : Nat} (hF : 61 ≤ F) (ha : a.length ≤ 10) (hb : b.length ≤ 10) {l : List (List UInt8)} (hl : l.length ≤ 4096) (hq : ∀ q ∈ l,q.length ≤ 60) {K : List UInt8 × Bool → Option (List UInt8 × Bool)} :
  ∀ (m i : Nat) (s : List UInt8) (t : Bool),l.length + 1 ≤ m + i → i ≤ l.length → f71_L0 F a b (n : Int) l K m (s,t,(i : Int)) = K (bstL (difB a b n) (l.drop i) (s,t))
 | 0,i,_,_,h,hi => absurd h (by omega)
 | m + 1,i,s,t,h,hi => by
  unfold f71_L0
  try dsimp only
  rw [Option.bind_some,Option.bind_some]
  by_cases hlt : i < l.length
  ·have hw : IntKind.i64.wrap ((i : Int) + 1) = ((i + 1 : Nat) : Int) := by rw [wrap64 (by omega) (by omega)]; omega
   have ih := fun s t => f71_run hF ha hb hl hq (K := K) (n := n) m (i + 1) s t (by omega) (by omega)
   have hql := hq _ (List.getElem_mem hlt)
   rw [decide_eq_true (by omega)]
   dsimp only
   rw [gI_at' hlt,Option.bind_some,Option.bind_some,Option.bind_some,List.drop_eq_getElem_cons hlt,bstL]
   generalize l[i] = q at *
   by_cases hn : q.length = n
   ·rw [decide_eq_true (by omega)]
    dsimp only
    rw [f28_any hF (by omega) hql,Option.bind_some,f28_any hF (by omega) hql,Option.bind_some,Option.bind_some]
    have hd : difB a b n q = (leftW a q != leftW b q) := by unfold difB; rw [decide_eq_true hn,Bool.true_and]
    rw [hd]
    cases hx : (leftW a q != leftW b q) with
    | false =>
     dsimp only
     rw [Option.bind_some,hw,ih]
     rfl
    | true =>
     cases t with
     | false =>
      dsimp only
      rw [Option.bind_some,hw,ih]
      rfl
     | true =>
      dsimp only
      rw [Option.bind_some]
      cases hy : Op.bytesLess q s with
      | true =>
       dsimp only
       rw [Option.bind_some,hw,ih]
       rfl
      | false =>
       dsimp only
       rw [Option.bind_some,hw,ih]
       rfl
   ·rw [decide_eq_false (by omega)]
    dsimp only
    rw [Option.bind_some,hw,ih]
    have hd : difB a b n q = false := by unfold difB; rw [decide_eq_false hn,Bool.false_and]
    rw [hd]
    rfl
  ·obtain rfl : i = l.length := by omega
   rw [decide_eq_false (by omega),List.drop_length]
   rfl
theorem bstL_ok {D : List UInt8 → Bool} : ∀ {l L : List (List UInt8)} {s : List UInt8 × Bool},(s.2 = true → s.1 ∈ L ∧ D s.1 = true ∧ ∀ k ∈ L,D k = true → ¬ k < s.1) → (s.2 = false → ∀ k ∈ L,D k = false) →
  ((bstL D l s).2 = true → (bstL D l s).1 ∈ L ++ l ∧ D (bstL D l s).1 = true ∧ ∀ k ∈ L ++ l,D k = true → ¬ k < (bstL D l s).1) ∧ ((bstL D l s).2 = false → ∀ k ∈ L ++ l,D k = false)
 | [],L,s,h1,h2 => by
  rw [List.append_nil]
  exact ⟨h1,h2⟩
 | k :: l,L,(b,is),h1,h2 => by
  unfold bstL
  have e : L ++ k :: l = (L ++ [k]) ++ l := by simp
  rw [e]
  refine bstL_ok ?_ ?_
  ·intro h3
   cases hc : (D k && (!is || Op.bytesLess k b)) with
   | true =>
    rw [hc] at h3
    simp only [Bool.and_eq_true,Bool.or_eq_true,Bool.not_eq_true'] at hc
    refine ⟨by simp,hc.1,fun x hx hd => ?_⟩
    rcases List.mem_append.1 hx with hx | hx
    ·rcases hc.2 with hi | hi
     ·rw [h2 hi x hx] at hd; cases hd
     ·cases is with
      | false => rw [h2 rfl x hx] at hd; cases hd
      | true =>
       obtain ⟨_,_,h5⟩ := h1 rfl
       have h6 := h5 x hx hd
       have h7 := bytesLess_lt.1 hi
       exact fun h8 => h6 (List.lt_trans h8 h7)
    ·rw [List.mem_singleton.1 hx]; exact List.lt_irrefl _
   | false =>
    rw [hc] at h3
    have h3 : is = true := h3
    subst h3
    obtain ⟨h4,h5,h6⟩ := h1 rfl
    refine ⟨List.mem_append_left _ h4,h5,fun x hx hd => ?_⟩
    rcases List.mem_append.1 hx with hx | hx
    ·exact h6 x hx hd
    ·rw [List.mem_singleton.1 hx] at hd ⊢
     rw [hd] at hc
     simp only [Bool.true_and,Bool.not_true,Bool.false_or] at hc
     intro h7
     rw [bytesLess_lt.2 h7] at hc
     cases hc
  ·intro h3 x hx
   cases hc : (D k && (!is || Op.bytesLess k b)) with
   | true => rw [hc] at h3; cases h3
   | false =>
    rw [hc] at h3
    have h3 : is = false := h3
    subst h3
    rcases List.mem_append.1 hx with hx | hx
    ·exact h2 rfl x hx
    ·rw [List.mem_singleton.1 hx]
     simpa using hc
theorem f63_nz {F : Nat} (hF : 1100 ≤ F) {n D : Nat} {w : List UInt8} (hn1 : 1 ≤ n) (hn : n ≤ 11) (h : n < D) (hw : w.length ≤ 10) : f63S F D w (n : Int) = some (.nz,sz n w) := by
 obtain ⟨D,rfl⟩ : ∃ d,D = d + 1 := ⟨D - 1,by omega⟩
 obtain ⟨n,rfl⟩ : ∃ m,n = m + 1 := ⟨n - 1,by omega⟩
 rw [f63S,Option.bind_some,decide_eq_false (show ¬ ((n + 1 : Nat) : Int) = 0 by omega)]
 dsimp only
 have := f63_lets (w := w) (m := n) (F := F) (R := f63S F D) (K := fun v34 => some (.nz,v34)) hw hF (by omega) (fun w' hw' => f63_law hF (by omega) (by omega) hw') F 0 [] (by omega) (by omega) (by simp)
 rw [show ((0 : Nat) : Int) = 0 from rfl,List.drop_zero,List.nil_append] at this
 rw [this,sz]
theorem f71_s1 : @f71_L1 = @f71_L0 := by kernel_rfl
theorem f71_s2 : @f71_L2 = @f71_L0 := by kernel_rfl
theorem f71_s3 : @f71_L3 = @f71_L0 := by kernel_rfl
theorem f71_s4 : @f71_L4 = @f71_L0 := by kernel_rfl
theorem f71_s5 : @f71_L5 = @f71_L0 := by kernel_rfl
theorem appL_at {α : Type} {l r : List α} (hr : r ≠ []) (h : l.length + r.length ≤ 1000000) : appL l r = some (l ++ r) := by
 unfold appL
 have h1 : Nat.beq r.length 0 = false := by cases r with
  | nil => exact absurd rfl hr
  | cons => rfl
 rw [h1,Nat.ble_eq_true_of_le h]
section
variable {a b : List UInt8} (ha : a.length ≤ 10) (hb : b.length ≤ 10) (hla : ∀ c ∈ a, c ∈ lets 6) (hlb : ∀ c ∈ b, c ∈ lets 6)
include ha hb hla hlb
theorem f71_law {n F : Nat} (hn1 : 1 ≤ n) (hn : n ≤ 11) (hF : 5000 ≤ F) : ∃ r,f71S F a b (n : Int) = some r ∧ (r.2 = true → r.1.length = n ∧ Tel a b r.1 ∧ ∀ q,Tel a b q → q.length = n → ¬ q < r.1) ∧ (r.2 = false → r.1 = [] ∧ ∀ q,Tel a b q → q.length ≠ n) := by
 have m1 : ∀ w : List UInt8,w.length ≤ 10 → min (n : Int) (IntKind.i64.wrap ((w.length : Int) + 1)) = ((min n (w.length + 1) : Nat) : Int) := fun w hw => by
  rw [wrap64 (by omega) (by omega)]; omega
 have hs : ∀ w : List UInt8,w.length ≤ 10 → f63S F F w ((min n (w.length + 1) : Nat) : Int) = some (.nz,sz (min n (w.length + 1)) w) := fun w hw => f63_nz (by omega) (by omega) (by omega) (by omega) hw
 have e1 := hs a ha
 have e2 := hs b hb
 have hl : (sz (min n (a.length + 1)) a ++ sz (min n (b.length + 1)) b).length ≤ 2048 := by
  rw [List.length_append]
  have := sz_len (n := min n (a.length + 1)) ha
  have := sz_len (n := min n (b.length + 1)) hb
  omega
 have hin : ∀ q ∈ sz (min n (a.length + 1)) a ++ sz (min n (b.length + 1)) b,q.length ≤ 60 := fun q hq => by
  rcases List.mem_append.1 hq with h | h
  ·have := (sz_mem h).2; omega
  ·have := (sz_mem h).2; omega
 have hcov : ∀ q,Tel a b q → q.length = n → q ∈ sz (min n (a.length + 1)) a ++ sz (min n (b.length + 1)) b := fun q hq hlq => by
  rcases tel_in hq with h | h
  ·have := h.length_le
   refine List.mem_append_left _ (sz_all hla (leftW_sub.2 h) (by omega))
  ·have := h.length_le
   refine List.mem_append_right _ (sz_all hlb (leftW_sub.2 h) (by omega))
 have hdt : ∀ q,difB a b n q = true ↔ q.length = n ∧ Tel a b q := fun q => by
  rw [tel_left]
  unfold difB
  simp
 generalize hX : sz (min n (a.length + 1)) a = X at *
 generalize hY : sz (min n (b.length + 1)) b = Y at *
 generalize hL : X ++ Y = L at *
 have hok := bstL_ok (D := difB a b n) (l := L) (L := []) (s := ([],false)) (fun h => by cases h) (fun _ k hk => by cases hk)
 rw [List.nil_append] at hok
 have fin : ((bstL (difB a b n) L ([],false)).2 = true → (bstL (difB a b n) L ([],false)).1.length = n ∧ Tel a b (bstL (difB a b n) L ([],false)).1 ∧ ∀ q,Tel a b q → q.length = n → ¬ q < (bstL (difB a b n) L ([],false)).1) ∧
   ((bstL (difB a b n) L ([],false)).2 = false → (bstL (difB a b n) L ([],false)).1 = [] ∧ ∀ q,Tel a b q → q.length ≠ n) := by
  refine ⟨fun h => ?_,fun h => ⟨?_,fun q hq hlq => ?_⟩⟩
  ·obtain ⟨_,h2,h3⟩ := hok.1 h
   obtain ⟨h4,h5⟩ := (hdt _).1 h2
   exact ⟨h4,h5,fun q hq hlq => h3 q (hcov q hq hlq) ((hdt q).2 ⟨hlq,hq⟩)⟩
  ·have hno : ∀ {l : List (List UInt8)} {s : List UInt8 × Bool},(s.2 = false → s.1 = []) → (bstL (difB a b n) l s).2 = false → (bstL (difB a b n) l s).1 = [] := by
    intro l
    induction l with
    | nil => intro s hs h; exact hs h
    | cons k l ih =>
     intro s hs h
     obtain ⟨x,y⟩ := s
     unfold bstL at h ⊢
     refine ih ?_ h
     intro h2
     cases hc : (difB a b n k && (!y || Op.bytesLess k x)) with
     | true => rw [hc] at h2; cases h2
     | false => rw [hc] at h2; exact hs h2
   exact hno (fun _ => rfl) h
  ·have := hok.2 h q (hcov q hq hlq)
   rw [(hdt q).2 ⟨hlq,hq⟩] at this
   cases this
 have run : ∀ (l : List (List UInt8)),l = L → (match l.isEmpty with
   | true => some ([],false)
   | false => f71_L0 F a b (n : Int) l (fun (v45,b46) => some (v45,b46)) (F + 1) ([],false,0)) = some (bstL (difB a b n) L ([],false)) := by
  intro l hl'
  subst hl'
  cases l with
  | nil => rfl
  | cons k l =>
   dsimp only [List.isEmpty_cons]
   have := f71_run (n := n) (F := F) (a := a) (b := b) (by omega) ha hb (l := k :: l) (by omega) hin (K := fun x => match x with | (v35,b36) => some (v35,b36)) (F + 1) 0 [] false (by omega) (by omega)
   rw [List.drop_zero] at this
   exact this
 refine ⟨bstL (difB a b n) L ([],false), ?_,fin⟩
 unfold f71S
 rw [f71_s1,f71_s2,f71_s3,f71_s4,f71_s5]
 rw [Option.bind_some,Option.bind_some,m1 a ha,Option.bind_some,e1,Option.bind_some]
 dsimp only
 rw [Option.bind_some,Option.bind_some,m1 b hb,Option.bind_some,e2,Option.bind_some]
 dsimp only
 rw [Option.bind_some]
 cases Y with
 | nil =>
  rw [List.append_nil] at hL
  dsimp only [List.isEmpty_nil]
  rw [Option.bind_some]
  exact run X hL
 | cons y Y =>
  dsimp only [List.isEmpty_cons]
  rw [appL_at (by simp) (by rw [← List.length_append,hL]; omega),Option.bind_some,Option.bind_some]
  exact run (X ++ y :: Y) hL
theorem f41_run {F : Nat} (hF : 5000 ≤ F) {p : List UInt8} (ht : Tel a b p) (hmin : ∀ q,Tel a b q → ¬ slt q p) (hpl : p.length ≤ 10) {K : List UInt8 × Int → Option (List UInt8 × Int)} {x : List UInt8} {y : Int} :
  ∀ (m j : Nat),p.length + 1 ≤ m + j → 1 ≤ j → j ≤ p.length → f41_L0 F a b K m (x,y,(j : Int)) = some (p,0)
 | 0,j,h,_,hj => absurd h (by omega)
 | m + 1,j,h,h1j,hj => by
  unfold f41_L0
  try dsimp only
  obtain ⟨r,e1,e2,e3⟩ := f71_law ha hb hla hlb (n := j) (F := F) (by omega) (by omega) hF
  rw [e1,Option.bind_some]
  obtain ⟨s,t⟩ := r
  dsimp only at e2 e3 ⊢
  cases t with
  | true =>
   obtain ⟨h1,h2,h3⟩ := e2 rfl
   dsimp only
   have hjl : j = p.length := by
    have := hmin s h2
    unfold slt at this
    omega
   have : s = p := by
    have h4 : ¬ s < p := fun hh => hmin s h2 (.inr ⟨by omega,hh⟩)
    have h5 := h3 p ht hjl.symm
    exact List.le_antisymm (List.not_lt.1 h5) (List.not_lt.1 h4)
   rw [this]
  | false =>
   have hjl : j < p.length := by
    have := (e3 rfl).2 p ht
    omega
   dsimp only
   rw [Option.bind_some,show IntKind.i64.wrap ((j : Int) + 1) = ((j + 1 : Nat) : Int) by rw [wrap64 (by omega) (by omega)]; omega]
   exact f41_run hF ht hmin hpl m (j + 1) (by omega) (by omega) (by omega)
theorem f43_run {F : Nat} (hF : 5000 ≤ F) {R : Option (List UInt8)} (hR : match R with
   | some p => Tel a b p ∧ ∀ q,Tel a b q → ¬ slt q p
   | none => ∀ q,¬ Tel a b q) {n : Nat} (hn : n ≤ 10) : ∀ (m j : Nat),n + 2 ≤ m + j → 1 ≤ j → j ≤ n + 1 → (∀ p,R = some p → j ≤ p.length) → f43_L0 F a b (n : Int) (fun _ => some (true,0)) m (j : Int) = some (!(match R with
   | some p => decide (p.length ≤ n)
   | none => false),0)
 | 0,j,h,_,hj,_ => absurd h (by omega)
 | m + 1,j,h,h1j,hj,hRj => by
  unfold f43_L0
  try dsimp only
  rw [Option.bind_some]
  by_cases hjn : j ≤ n
  ·rw [decide_eq_true (by omega)]
   dsimp only
   obtain ⟨r,e1,e2,e3⟩ := f71_law ha hb hla hlb (n := j) (F := F) (by omega) (by omega) hF
   rw [e1,Option.bind_some]
   obtain ⟨s,t⟩ := r
   dsimp only at e2 e3 ⊢
   cases t with
   | true =>
    obtain ⟨h1,h2,h3⟩ := e2 rfl
    cases R with
    | none => exact absurd h2 (hR s)
    | some p =>
     have h4 := hRj p rfl
     have h5 := hR.2 s h2
     unfold slt at h5
     dsimp only
     rw [decide_eq_true (by omega)]
     rfl
   | false =>
    dsimp only
    rw [Option.bind_some,show IntKind.i64.wrap ((j : Int) + 1) = ((j + 1 : Nat) : Int) by rw [wrap64 (by omega) (by omega)]; omega]
    refine f43_run hF hR hn m (j + 1) (by omega) (by omega) (by omega) (fun p hp => ?_)
    subst hp
    have := (e3 rfl).2 p hR.1
    have := hRj p rfl
    omega
  ·rw [decide_eq_false (by omega)]
   cases R with
   | none => rfl
   | some p =>
    have h4 := hRj p rfl
    dsimp only
    rw [decide_eq_false (by omega)]
    rfl
omit ha hb hla hlb in
theorem tel_ex : (∃ p,Tel a b p ∧ ∀ q,Tel a b q → ¬ slt q p) ∨ a = b := by
 rcases first_two (a := a) (b := b) with ⟨h1,h2,h3⟩ | ⟨h1,h2⟩
 ·exact .inl ⟨_,h2,h3⟩
 ·exact .inr h2
end
theorem bothW_zero {a b : List UInt8} (h : bothW a b = 0) : checkW a = 0 ∧ checkW b = 0 := by
 unfold bothW at h
 split at h
 ·exact ⟨‹_›,h⟩
 ·exact absurd h ‹_›
theorem f58_any {w p : List UInt8} {F : Nat} (hF : 12 ≤ F) : f58S F w p = some (bothW w p) := by
 unfold f58S bothW
 rw [f26_any hF,f26_any hF]
 simp only [Option.bind_some]
 by_cases h : checkW w = 0
 ·rw [decide_eq_true h,if_pos h]
 ·rw [decide_eq_false h,if_neg h]
theorem tel_self {a q : List UInt8} : ¬ Tel a a q := fun h => h rfl
theorem apart_both {a b : List UInt8} {F : Nat} (hF : 5000 ≤ F) : ∃ r,f40S F a b = some r ∧ f41S F a b = some r := by
 by_cases h : bothW a b = 0
 ·obtain ⟨h1,h2⟩ := bothW_zero h
  obtain ⟨ha,hla⟩ := checkW_lets h1
  obtain ⟨hb,hlb⟩ := checkW_lets h2
  rw [f40_law ha hb hla hlb (F := F) (by omega)]
  refine ⟨_,rfl, ?_⟩
  unfold f41S
  rw [f58_any (by omega),h,Option.bind_some,Option.bind_some,decide_eq_true rfl]
  dsimp only
  rw [Option.bind_some]
  rcases tel_ex (a := a) (b := b) with ⟨p,hp,hmin⟩ | rfl
  ·have hab : a ≠ b := fun e => by subst e; exact tel_self hp
   have hpl : p.length ≤ 10 := by
    rcases tel_in hp with h | h
    ·exact Nat.le_trans h.length_le ha
    ·exact Nat.le_trans h.length_le hb
   have hp1 : 1 ≤ p.length := by
    cases p with
    | nil => exact absurd hp (by rw [tel_left]; simp [left_nil])
    | cons => simp
   rw [decide_eq_false hab,bfs_at ha hb hla hlb hp hmin,if_pos (by omega)]
   exact f41_run ha hb hla hlb hF hp hmin hpl F 1 (by omega) (by omega) hp1
  ·rw [decide_eq_true rfl,bfs_same]
 ·refine ⟨([],bothW a b), ?_, ?_⟩
  ·unfold f40S
   rw [f57_any (by omega),Option.bind_some,Option.bind_some,decide_eq_false h]
  ·unfold f41S
   rw [f58_any (by omega),Option.bind_some,Option.bind_some,decide_eq_false h]
theorem alike_both {a b : List UInt8} {z : Int} {F : Nat} (hF : 5000 ≤ F) : ∃ r,f42S F a b z = some r ∧ f43S F a b z = some r := by
 by_cases h : bothW a b = 0
 ·obtain ⟨h1,h2⟩ := bothW_zero h
  obtain ⟨ha,hla⟩ := checkW_lets h1
  obtain ⟨hb,hlb⟩ := checkW_lets h2
  by_cases hz : 0 ≤ z ∧ z ≤ 10
  ·obtain ⟨n,rfl⟩ : ∃ n : Nat,z = n := ⟨z.toNat,by omega⟩
   have hn : n ≤ 10 := by omega
   rw [f42_law ha hb hla hlb (F := F) (by omega) hn]
   refine ⟨_,rfl, ?_⟩
   unfold f43S
   rw [f58_any (by omega),h,Option.bind_some,Option.bind_some,decide_eq_true rfl]
   dsimp only
   rw [f62_law,decide_eq_true (by omega),decide_eq_true (by omega)]
   dsimp only [Bool.and_true,Option.bind_some]
   rcases tel_ex (a := a) (b := b) with ⟨p,hp,hmin⟩ | rfl
   ·have hp1 : 1 ≤ p.length := by
     cases p with
     | nil => exact absurd hp (by rw [tel_left]; simp [left_nil])
     | cons => simp
    rw [bfs_at ha hb hla hlb hp hmin]
    have := f43_run ha hb hla hlb hF (R := some p) ⟨hp,hmin⟩ hn F 1 (by omega) (by omega) (by omega) (fun q hq => by cases hq; exact hp1)
    rw [show ((1 : Nat) : Int) = 1 from rfl] at this
    rw [this]
    by_cases hpn : p.length ≤ n
    ·rw [if_pos (by omega)]
     dsimp only
     rw [decide_eq_true hpn]
     rfl
    ·rw [if_neg (by omega)]
     dsimp only
     rw [decide_eq_false hpn]
     rfl
   ·rw [bfs_same]
    have := f43_run ha hb hla hlb hF (R := none) (fun q => tel_self) hn F 1 (by omega) (by omega) (by omega) (fun q hq => by cases hq)
    rw [show ((1 : Nat) : Int) = 1 from rfl] at this
    rw [this]
    rfl
  ·refine ⟨(false,1), ?_, ?_⟩
   ·unfold f42S
    rw [f57_any (by omega),h,Option.bind_some,Option.bind_some,decide_eq_true rfl]
    dsimp only
    rw [Option.bind_some]
    by_cases h0 : z < 0
    ·rw [decide_eq_true h0]
    ·rw [decide_eq_false h0]
     dsimp only
     rw [Option.bind_some,decide_eq_true (by omega)]
   ·unfold f43S
    rw [f58_any (by omega),h,Option.bind_some,Option.bind_some,decide_eq_true rfl]
    dsimp only
    rw [f62_law,Option.bind_some]
    by_cases h0 : 0 ≤ z
    ·rw [decide_eq_true h0,decide_eq_false (by omega)]
     rfl
    ·rw [decide_eq_false h0]
     rfl
 ·refine ⟨(false,bothW a b), ?_, ?_⟩
  ·unfold f42S
   rw [f57_any (by omega),Option.bind_some,Option.bind_some,decide_eq_false h]
  ·unfold f43S
   rw [f58_any (by omega),Option.bind_some,Option.bind_some,decide_eq_false h]
theorem f45_check {F : Nat} (hF : 12 ≤ F) {l : List (List UInt8)} (hl : l.length ≤ 8) {K : Unit → Option (List UInt8 × Int)} : ∀ (m i : Nat),l.length + 1 ≤ m + i → i ≤ l.length → f45_L0 F l K m (i : Int) = if chkL (l.drop i) = 0 then K () else some ([],chkL (l.drop i))
 | 0,i,h,hi => absurd h (by omega)
 | m + 1,i,h,hi => by
  unfold f45_L0
  try dsimp only
  rw [Option.bind_some,Option.bind_some]
  by_cases hlt : i < l.length
  ·rw [decide_eq_true (by omega)]
   dsimp only
   rw [gI_at' hlt,Option.bind_some,f26_any hF,Option.bind_some,Option.bind_some,List.drop_eq_getElem_cons hlt,chkL]
   by_cases h0 : checkW l[i] = 0
   ·rw [decide_eq_true h0,if_pos h0]
    dsimp only
    rw [Option.bind_some,show IntKind.i64.wrap ((i : Int) + 1) = ((i + 1 : Nat) : Int) by rw [wrap64 (by omega) (by omega)]; omega]
    exact f45_check hF hl m (i + 1) (by omega) (by omega)
   ·rw [decide_eq_false h0,if_neg h0,if_neg h0]
  ·obtain rfl : i = l.length := by omega
   rw [decide_eq_false (by omega),List.drop_length]
   rfl
def alone (l : List (List UInt8)) (k : Nat) (p : List UInt8) (i : Nat) (b : Bool) : Bool := b && ((List.range l.length).drop i).all fun j => decide (j = k) || !(leftW (l.getD j []) p)
theorem range_drop {n i : Nat} (h : i < n) : (List.range n).drop i = i :: (List.range n).drop (i + 1) := by
 rw [List.drop_eq_getElem_cons (by simpa using h)]
 simp
theorem f45_in {F : Nat} (hF : 61 ≤ F) {l s : List (List UInt8)} (hl : l.length ≤ 8) (hle : ∀ v ∈ l,v.length ≤ 60) {k t : Nat} (ht : t < s.length) (hst : s[t].length ≤ 60) {K : Bool → Option (List UInt8 × Int)} :
  ∀ (m i : Nat) (b : Bool),l.length + 1 ≤ m + i → i ≤ l.length → f45_L3 F l (k : Int) s (t : Int) K m (b,(i : Int)) = K (alone l k s[t] i b)
 | 0,i,_,h,hi => absurd h (by omega)
 | m + 1,i,b,h,hi => by
  unfold f45_L3
  try dsimp only
  rw [Option.bind_some,Option.bind_some]
  by_cases hlt : i < l.length
  ·have hw : IntKind.i64.wrap ((i : Int) + 1) = ((i + 1 : Nat) : Int) := by rw [wrap64 (by omega) (by omega)]; omega
   have ih := fun b => f45_in hF hl hle ht hst (K := K) (k := k) m (i + 1) b (by omega) (by omega)
   rw [decide_eq_true (by omega)]
   dsimp only
   unfold alone at ih ⊢
   rw [range_drop hlt,List.all_cons]
   cases b with
   | true =>
    dsimp only
    rw [Option.bind_some]
    by_cases hik : i = k
    ·rw [decide_eq_true (by omega),decide_eq_true hik]
     dsimp only
     rw [Option.bind_some,hw,ih]
     rfl
    ·rw [decide_eq_false (by omega),decide_eq_false hik]
     dsimp only
     rw [gI_at' hlt,Option.bind_some,gI_at' ht,Option.bind_some,f28_any hF (hle _ (List.getElem_mem hlt)) hst,Option.bind_some,Option.bind_some,hw,ih]
     have : l.getD i [] = l[i] := by rw [List.getD_eq_getElem?_getD,List.getElem?_eq_getElem hlt]; rfl
     rw [this]
     simp only [Bool.false_or,Bool.true_and]
   | false =>
    dsimp only
    rw [Option.bind_some,hw,ih]
    rfl
  ·obtain rfl : i = l.length := by omega
   rw [decide_eq_false (by omega)]
   unfold alone
   rw [List.drop_eq_nil_of_le (by simp)]
   simp
theorem alone_oth {l : List (List UInt8)} {k : Nat} (hk : k < l.length) {p : List UInt8} : alone l k p 0 true = !((othL l k).any fun v => leftW v p) := by
 unfold alone
 rw [List.drop_zero,Bool.true_and,Bool.eq_iff_iff]
 simp only [List.all_eq_true,List.mem_range,Bool.or_eq_true,decide_eq_true_eq,Bool.not_eq_true',List.any_eq_false,Bool.not_eq_true]
 unfold othL
 constructor
 ·intro h v hv
  rcases List.mem_append.1 hv with h1 | h1
  ·obtain ⟨j,hj,rfl⟩ := List.mem_iff_getElem.1 h1
   rw [List.length_take] at hj
   rw [List.getElem_take]
   have := (h j (by omega)).resolve_left (by omega)
   rwa [List.getD_eq_getElem?_getD,List.getElem?_eq_getElem (by omega)] at this
  ·obtain ⟨j,hj,rfl⟩ := List.mem_iff_getElem.1 h1
   rw [List.length_drop] at hj
   rw [List.getElem_drop]
   have := (h (k + 1 + j) (by omega)).resolve_left (by omega)
   rwa [List.getD_eq_getElem?_getD,List.getElem?_eq_getElem (by omega)] at this
 ·intro h j hj
  by_cases hjk : j = k
  ·exact .inl hjk
  ·refine .inr ?_
   rw [List.getD_eq_getElem?_getD,List.getElem?_eq_getElem hj]
   refine h l[j] ?_
   by_cases hlt : j < k
   ·refine List.mem_append_left _ (List.mem_iff_getElem.2 ⟨j,by rw [List.length_take]; omega, ?_⟩)
    rw [List.getElem_take]
   ·refine List.mem_append_right _ (List.mem_iff_getElem.2 ⟨j - (k + 1),by rw [List.length_drop]; omega, ?_⟩)
    rw [List.getElem_drop]
    congr 1
    omega
section
variable {l : List (List UInt8)} {k : Nat} {F : Nat}
theorem f45_mid (hF : 5000 ≤ F) (hl : l.length ≤ 8) (hle : ∀ v ∈ l,v.length ≤ 60) (hk : k < l.length) {s : List (List UInt8)} (hs : s.length ≤ 4096) (hsl : ∀ p ∈ s,p.length ≤ 60) {K : Unit → Option (List UInt8 × Int)} :
  ∀ (m t : Nat),s.length + 1 ≤ m + t → t ≤ s.length → f45_L2 F l (k : Int) s K m (t : Int) = match (s.drop t).find? (fun p => !((othL l k).any fun v => leftW v p)) with
   | some p => some (p,0)
   | none => K ()
 | 0,t,h,ht => absurd h (by omega)
 | m + 1,t,h,ht => by
  unfold f45_L2
  try dsimp only
  rw [Option.bind_some,Option.bind_some]
  by_cases hlt : t < s.length
  ·rw [decide_eq_true (by omega)]
   dsimp only
   have h1 := f45_in (F := F) (by omega) hl hle (k := k) hlt (hsl _ (List.getElem_mem hlt)) (K := fun b37 => match b37 with
    | true => (gI s (t : Int)).bind fun y38 => some (y38,0)
    | false => (some (IntKind.i64.wrap ((t : Int) + 1))).bind fun x39 => f45_L2 F l (k : Int) s K m x39) F 0 true (by omega) (by omega)
   rw [show ((0 : Nat) : Int) = 0 from rfl] at h1
   refine h1.trans ?_
   rw [alone_oth hk,List.drop_eq_getElem_cons hlt,List.find?_cons]
   cases (othL l k).any fun v => leftW v s[t] with
   | true =>
    try dsimp only
    rw [Option.bind_some,show IntKind.i64.wrap ((t : Int) + 1) = ((t + 1 : Nat) : Int) by rw [wrap64 (by omega) (by omega)]; omega]
    exact f45_mid hF hl hle hk hs hsl m (t + 1) (by omega) (by omega)
   | false =>
    try dsimp only
    rw [gI_at' hlt]
    rfl
  ·obtain rfl : t = s.length := by omega
   rw [decide_eq_false (by omega),List.drop_length]
   rfl
theorem f45_out (hF : 5000 ≤ F) (hl : l.length ≤ 8) (hle : ∀ v ∈ l,v.length ≤ 10) (hk : k < l.length) (hlk : ∀ c ∈ l[k],c ∈ lets 6) :
  ∀ (m n : Nat),l[k].length + 2 ≤ m + n → n ≤ l[k].length + 1 → f45_L1 F l (k : Int) (fun _ => some ([],12)) m (n : Int) = match (((List.range (l[k].length + 1)).drop n).flatMap fun j => sz j l[k]).find? (fun p => !((othL l k).any fun v => leftW v p)) with
   | some p => some (p,0)
   | none => some ([],12)
 | 0,n,h,hn => absurd h (by omega)
 | m + 1,n,h,hn => by
  have h10 := hle _ (List.getElem_mem hk)
  unfold f45_L1
  try dsimp only
  rw [gI_at' hk,Option.bind_some,Option.bind_some,Option.bind_some]
  by_cases hlt : n ≤ l[k].length
  ·rw [decide_eq_true (by omega)]
   dsimp only
   obtain ⟨ck,e⟩ := f63_law (F := F) (n := n) (D := F) (w := l[k]) (by omega) (by omega) (by omega) h10
   rw [e,Option.bind_some]
   dsimp only
   have h1 := f45_mid (k := k) hF hl (fun v hv => Nat.le_trans (hle v hv) (by omega)) hk (s := sz n l[k]) (by have := sz_len (n := n) h10; omega) (fun p hp => by have := (sz_mem hp).2; omega)
    (K := fun _ => (some (IntKind.i64.wrap ((n : Int) + 1))).bind fun x40 => f45_L1 F l (k : Int) (fun _ => some ([],12)) m x40) F 0 (by have := sz_len (n := n) h10; omega) (by omega)
   rw [show ((0 : Nat) : Int) = 0 from rfl,List.drop_zero] at h1
   rw [h1,range_drop (by omega),List.flatMap_cons,List.find?_append]
   cases (sz n l[k]).find? (fun p => !((othL l k).any fun v => leftW v p)) with
   | some p => rfl
   | none =>
    dsimp only
    rw [Option.bind_some,show IntKind.i64.wrap ((n : Int) + 1) = ((n + 1 : Nat) : Int) by rw [wrap64 (by omega) (by omega)]; omega]
    exact f45_out hF hl hle hk hlk m (n + 1) (by omega) (by omega)
  ·obtain rfl : n = l[k].length + 1 := by omega
   rw [decide_eq_false (by omega),List.drop_eq_nil_of_le (by simp)]
   rfl
end
theorem short_both {l : List (List UInt8)} {z : Int} {F : Nat} (hF : 5000 ≤ F) : f45S F l z = some (shortL l z) := by
 unfold f45S shortL
 rw [Option.bind_some,Option.bind_some]
 by_cases h8 : 8 < l.length
 ·rw [decide_eq_true (by omega),if_pos h8]
 ·rw [decide_eq_false (by omega),if_neg h8]
  dsimp only
  have hc := f45_check (F := F) (by omega) (l := l) (by omega) (K := fun _ => (some ((l.length : Int))).bind fun x11 => (some (IntKind.i64.wrap (x11 - 1))).bind fun x12 => (f62S F z 0 x12).bind fun b13 => match b13 with
   | true => f45_L1 F l z (fun _ => some ([],12)) F 0
   | false => some ([],2)) F 0 (by omega) (by omega)
  rw [show ((0 : Nat) : Int) = 0 from rfl,List.drop_zero] at hc
  refine hc.trans ?_
  by_cases h0 : chkL l = 0
  ·rw [if_pos h0,if_neg (by simpa using h0),Option.bind_some,Option.bind_some,f62_law,wrap64 (by omega) (by omega),Option.bind_some]
   by_cases hz : z < 0 ∨ (l.length : Int) ≤ z
   ·rw [if_pos hz]
    by_cases h1 : 0 ≤ z
    ·rw [decide_eq_true h1,decide_eq_false (by omega)]
     rfl
    ·rw [decide_eq_false h1]
     rfl
   ·rw [if_neg hz,decide_eq_true (by omega),decide_eq_true (by omega)]
    rw [Bool.and_true]
    obtain ⟨k,rfl⟩ : ∃ k : Nat,z = k := ⟨z.toNat,by omega⟩
    have hk : k < l.length := by omega
    have hall := chkL_zero h0
    have hcl := fun v hv => checkW_lets (hall v hv)
    have h1 := f45_out (F := F) hF (l := l) (k := k) (by omega) (fun v hv => (hcl v hv).1) hk (hcl _ (List.getElem_mem hk)).2 F 0 (by have := (hcl _ (List.getElem_mem hk)).1; omega) (by omega)
    rw [show ((0 : Nat) : Int) = 0 from rfl,List.drop_zero] at h1
    rw [h1]
    have e1 : l.getD (k : Int).toNat [] = l[k] := by rw [Int.toNat_natCast,List.getD_eq_getElem?_getD,List.getElem?_eq_getElem hk]; rfl
    have e2 : ptsL l[k] = (List.range (l[k].length + 1)).flatMap fun j => sz j l[k] := by
     unfold ptsL
     rw [List.flatMap_def,List.flatMap_def]
     congr 1
     refine List.map_congr_left fun t ht => ?_
     exact srt_eq (hcl _ (List.getElem_mem hk)).2 (by have := List.mem_range.1 ht; omega)
    rw [e1,e2,Int.toNat_natCast]
    cases ((List.range (l[k].length + 1)).flatMap fun j => sz j l[k]).find? (fun p => !((othL l k).any fun v => leftW v p)) with
    | some p => rfl
    | none => rfl
  ·rw [if_neg h0,if_pos (by simpa using h0)]
theorem f16_any {l : List UInt8} {F : Nat} : f16S F l = some (decide (60 < l.length)) := by
 have : f16S F l = f16S 0 l := rfl
 rw [this]
 exact f16_law
theorem f6_run {F : Nat} {l : List (List UInt8)} (hl : l.length ≤ 60) {K : Unit → Option Bool} (hK : (∀ v ∈ l,v.length ≤ 60) → K () = some true) : ∀ (m i : Nat),l.length + 1 ≤ m + i → i ≤ l.length → (∀ j (h : j < l.length),j < i → l[j].length ≤ 60) → f6_L0 F l K m (i : Int) = some true
 | 0,i,h,hi,_ => absurd h (by omega)
 | m + 1,i,h,hi,hp => by
  unfold f6_L0
  try dsimp only
  rw [Option.bind_some,Option.bind_some]
  by_cases hlt : i < l.length
  ·rw [decide_eq_true (by omega)]
   dsimp only
   rw [gI_at' hlt,Option.bind_some,f16_any,Option.bind_some]
   by_cases h60 : 60 < l[i].length
   ·rw [decide_eq_true h60]
   ·rw [decide_eq_false h60]
    dsimp only
    rw [Option.bind_some,show IntKind.i64.wrap ((i : Int) + 1) = ((i + 1 : Nat) : Int) by rw [wrap64 (by omega) (by omega)]; omega]
    refine f6_run hl hK m (i + 1) (by omega) (by omega) (fun j hj hji => ?_)
    by_cases hji2 : j < i
    ·exact hp j hj hji2
    ·obtain rfl : j = i := by omega
     omega
  ·obtain rfl : i = l.length := by omega
   rw [decide_eq_false (by omega)]
   dsimp only
   refine hK fun v hv => ?_
   obtain ⟨j,hj,rfl⟩ := List.mem_iff_getElem.1 hv
   exact hp j hj hj
theorem f6_law {a b : List UInt8} {z y : Int} {l : List (List UInt8)} {F : Nat} (hF : 5000 ≤ F) : f6S F a b z l y = some true := by
 unfold f6S
 rw [f16_any,Option.bind_some]
 by_cases h1 : 60 < a.length
 ·rw [decide_eq_true h1]
 ·rw [decide_eq_false h1]
  dsimp only
  rw [f16_any,Option.bind_some]
  by_cases h2 : 60 < b.length
  ·rw [decide_eq_true h2]
  ·rw [decide_eq_false h2]
   dsimp only
   rw [Option.bind_some,Option.bind_some]
   by_cases h3 : 60 < l.length
   ·rw [decide_eq_true (by omega)]
   ·rw [decide_eq_false (by omega)]
    dsimp only
    refine f6_run (by omega) (fun hw => ?_) F 0 (by omega) (by omega) (fun j hj hji => by omega)
    obtain ⟨⟨r1,r2⟩,e1,e2⟩ := apart_both (a := a) (b := b) hF
    obtain ⟨⟨s1,s2⟩,e3,e4⟩ := alike_both (a := a) (b := b) (z := z) hF
    have e5 : f44O l y = some (shortL l y) := by
     unfold f44O
     have hb : Nat.ble l.length 60 = true := Nat.ble_eq_true_of_le (by omega)
     have ha : (l.all fun v => Nat.ble v.length 60) = true := List.all_eq_true.2 fun v hv => Nat.ble_eq_true_of_le (hw v hv)
     rw [hb,ha]
     rfl
    have e6 := short_both (l := l) (z := y) hF
    rcases hsl : shortL l y with ⟨t1,t2⟩
    rw [hsl] at e5 e6
    rw [e1,Option.bind_some]
    dsimp only
    rw [e2,Option.bind_some]
    dsimp only
    rw [e3,Option.bind_some]
    dsimp only
    rw [e4,Option.bind_some]
    dsimp only
    rw [e5,Option.bind_some]
    dsimp only
    rw [e6,Option.bind_some]
    dsimp only
    simp
theorem shortApart_is (s t : ByteArray) (z : Int) (l : List (List UInt8)) (y : Int) : E Try.prog Y0 6 [.v (.string s),.v (.string t),.v (.int .i64 z),.l .fz .any l.length (l.map tv),.v (.int .i64 y)] [] = some (.v (.bool true),[],none) := by
 have h := f6_is (a3 := false) (c3 := .any) (p0 := s.data.toList) (p1 := t.data.toList) (p2 := z) (p3 := l) (p4 := y) (hp := []) (f6_law (Nat.le_refl 5000))
 exact h
end Go.Proofs.Ytmnmfmghmenkkaa
set_option linter.unusedSimpArgs false
set_option linter.unusedVariables false
set_option linter.unusedSectionVars false
namespace Go.Proofs.Ytmnmfmghmenkkaa
open Go.Abs Go.Pur Go.ChangeShapes Go.WideShapes Go.ChangeAt Go.RowKit
namespace ShortApartCard
set_option maxRecDepth 100000
theorem contract (H : Type) (enc : TypeId × Value → H) (W : World) (base : Nat) (args : Array Value) (ds gs : List (DataW H)) (before : List MemPlace)
  (hval0 : ∀ (j : Nat) t v,Try.f6.params[j]? = some t → args[j]? = some v → Value.okWide Try.prog W .any base t v)
  (hW : DataW.Whole enc Try.prog Try.f6.params.toList Rows.shortApartSpec.vars false W args.toList ds gs before) (hL : laidMetH Try.prog Rows.shortApartRow.laid W) (hS : W.ShapedOpen Try.prog) :
  Calls Try.prog 6 args W fun e W' => ∃ v,e = .returned v ∧ Rows.shortApartSpec.post enc Try.prog Try.f6 false true false false W args v W' := by
 have hval := hval0
 have hW' := hW
 obtain ⟨p,q,hA0,hV,rfl,hfz,hnd⟩ := hW
 have hA : DataW.TrodAll enc Try.prog W 0 (fun _ => true) true Try.f6.params.toList args.toList ds p := hA0
 rw [Try.params6] at hA hval
 obtain ⟨v0,v1,v2,v3,v4,d0,d1,d2,d3,d4,p0,p1,p2,p3,p4,rfl,rfl,rfl,h0,h1,h2,h3,h4⟩ := trodAll_five hA
 obtain ⟨rfl,rfl⟩ := trodVars_none hV
 clear hA0 hval0
 simp only [List.append_nil] at hW'
 have hlt : ∀ x ∈ p0 ++ (p1 ++ (p2 ++ (p3 ++ p4))),x.block < W.heap.size := fun x hx => by simpa using hW'.lt x (by simpa using hx)
 obtain ⟨s0,a0⟩ := arg_str (hval 0 9 v0 rfl rfl) h0
 obtain ⟨s1,a1⟩ := arg_str (hval 1 9 v1 rfl rfl) h1
 obtain ⟨z2,a2⟩ := arg_int3 (hval 2 3 v2 rfl rfl) h2
 obtain ⟨l3,a3⟩ := arg_strs (hval 3 36 v3 rfl rfl) h3
 obtain ⟨z4,a4⟩ := arg_int3 (hval 4 3 v4 rfl rfl) h4
 refine (law_true hS (.cons _ _ _ _ a0 (.cons _ _ _ _ a1 (.cons _ _ _ _ a2 (.cons _ _ _ _ a3 (.cons _ _ _ _ a4 .nil))))) (shortApart_is s0 s1 z2 l3 z4)).mono fun e W' ⟨he,hb⟩ => ?_
 subst he
 have hok : Value.okWide Try.prog W' .any 0 4 (.bool true) := okWide_bool_mk Try.underlying4 true
 exact ⟨_,rfl,post_below (pa := p0 ++ (p1 ++ (p2 ++ (p3 ++ p4)))) (pv := []) hW' (fun _ _ _ => trodAll_cons_mk (shut_bool Try.underlying4 _) trodAll_mk0) (fun sp hsp => trodAll_mk5
   (WideElems.Trod_stays laidOut (by kernel_rfl) (of_decide_eq_true (by kernel_rfl)) h0 (fun x hx => hb.same (hlt x (by simp [hx]))) (fun x hx => hsp x (by simp [hx])))
   (WideElems.Trod_stays laidOut (by kernel_rfl) (of_decide_eq_true (by kernel_rfl)) h1 (fun x hx => hb.same (hlt x (by simp [hx]))) (fun x hx => hsp x (by simp [hx])))
   (WideElems.Trod_stays laidOut (by kernel_rfl) (of_decide_eq_true (by kernel_rfl)) h2 (fun x hx => hb.same (hlt x (by simp [hx]))) (fun x hx => hsp x (by simp [hx])))
   (WideElems.Trod_stays laidOut (by kernel_rfl) (of_decide_eq_true (by kernel_rfl)) h3 (fun x hx => hb.same (hlt x (by simp [hx]))) (fun x hx => hsp x (by simp [hx])))
   (WideElems.Trod_stays laidOut (by kernel_rfl) (of_decide_eq_true (by kernel_rfl)) h4 (fun x hx => hb.same (hlt x (by simp [hx]))) (fun x hx => hsp x (by simp [hx])))) (fun _ _ => rfl) (by simp)
  hb (ok_one (by kernel_rfl) rfl hok)⟩
def wit : Array Value := #[.string ByteArray.empty,.string ByteArray.empty,.int .i64 0,.slice none 0 0,.int .i64 0]
theorem laid_met (os : Os) : laidMet Try.prog Rows.shortApartRow.laid ((laidWorld os).forCall (fun _ _ => 0) ⟨#[],wit,[]⟩).memory :=
 laidMet_of_run' 80 (by kernel_rfl) (by kernel_rfl)
theorem reads (os : Os) {H : Type} (enc : TypeId × Value → H) : ∃ places,DataW.whole enc Try.prog ((laidWorld os).forCall (fun _ _ => 0) ⟨#[],wit,[]⟩).memory Try.f6.params.toList Rows.shortApartSpec.vars false wit.toList 80 = some ([.lit (.string []),.lit (.string []),.lit (.int .i64 0),.nil,.lit (.int .i64 0)],[],places) :=
 ⟨[],by kernel_rfl⟩
theorem lifted (os : Os) (started : os.Started) (H : Type) (enc : TypeId × Value → H) (F : Stop.Interp) :
  ReturnsInHanded {} Try.checked os 6 .any ((OpenSpec.ofChange Rows.shortApartSpec).preRow enc Try.prog Try.f6 Rows.shortApartRow.domain false Rows.shortApartRow.laid) (((OpenSpec.ofChange Rows.shortApartSpec).at F).post enc Try.prog Try.f6 false true false false) := by
 obtain ⟨places,hx⟩ := reads os enc
 refine returnsInHanded_of_row (C := Try.checked) (s := OpenSpec.ofChange Rows.shortApartSpec) own started (by kernel_rfl) Try.func6
  (witness_row_at (enc := enc) (C := Try.checked) false (laidWorld os) wit rfl (by kernel_rfl) (by kernel_rfl) (by kernel_rfl)
   (OpenSpec.preRow_of_cond 80 hx (by kernel_rfl) (fun k hk => by cases hk) (by kernel_rfl) (laid_met os))) ?_
 intro W base args ds gs before hval hW _ _ _ hL hS _
 exact contract H enc W base args ds gs before hval hW hL hS
theorem said : Rows.ShortApartSaid :=
 OpenClaim.holds_of_cond 6 Try.f6 rfl rfl rfl rfl rfl rfl rfl ⟨rfl,rfl,rfl,rfl,rfl⟩ rfl rfl rfl rfl rfl (by kernel_rfl) Try.func6 (by kernel_rfl)
  (of_decide_eq_true (by kernel_rfl)) (by unfold Func.isWrapper; first | (rw [if_pos (by decide +kernel)]; kernel_rfl) | (rw [if_neg (by decide +kernel)]; exact ⟨rfl,rfl⟩))
  (fun os started H enc _ F => by rw [OpenClaim.pre_eq_preRow]; exact lifted os started H enc F)
end ShortApartCard
theorem shortApart_said : Rows.ShortApartSaid := ShortApartCard.said
end Go.Proofs.Ytmnmfmghmenkkaa
