/-
  From a call of the pure evaluator that answers true to the row's own words.
  Conditions: none; lemmas.
-/
import Derived.Test.YtcdhajbhpnbdkaaDoorPurLim
set_option linter.unusedSimpArgs false
set_option linter.unusedVariables false
set_option linter.unusedSectionVars false
namespace Go.Pur
open Go.Abs Go.RowKit

/-- A cell of an argument, and what stands for it. -/
inductive CellIn (W : World) : Value → PV → Prop where
  | plain (x : Value) (hp : Abs.plain x = true) (hn : ∀ n c, x ≠ .slice none n c) : CellIn W x (.v x)
  | nil : CellIn W (.slice none 0 0) (.l .fz .any 0 [])
  | slice (a : Addr) (n cap : Nat) (xs : List Value) (hn : n ≤ cap) (hc : n < unkCap) (h0 : n = 0 → xs = []) (h1 : n ≠ 0 → xs ≠ []) (hx : ∀ k v, xs[k]? = some v → W.cell? (a.add k) = some v ∧ Abs.plain v = true ∧ ∀ n c, v ≠ .slice none n c) : CellIn W (.slice (some a) n cap) (.l .fz .any n (xs.map .v))
/-- Cells, one by one. -/
inductive CellsIn (W : World) : List Value → List PV → Prop where
  | nil : CellsIn W [] []
  | cons (v : Value) (u : PV) (vs : List Value) (us : List PV) (h : CellIn W v u) (ht : CellsIn W vs us) : CellsIn W (v :: vs) (u :: us)
inductive ArgIn (W : World) : Value → PV → Prop where
  | one (v : Value) (u : PV) (h : CellIn W v u) : ArgIn W v u
  | agg (cs : Array Value) (us : List PV) (h : CellsIn W cs.toList us) : ArgIn W (.agg cs) (.a us)

/-- All blocks stay as they are. -/
def C0 (P : Program) (n : Nat) : Ctx := ⟨P.cellsOf, fun _ => none, fun id => id < n, fun id => id < n, fun _ => none⟩

section
variable {P : Program} {W : World} {Y : Pol}

theorem mapOf_app {l r : List Abs.Loc} {i : Nat} (h : i < l.length) : mapOf (l ++ r) i = mapOf l i := by
  unfold mapOf; rw [List.getElem?_append_left h]

/-- Cells of arguments, with blocks of their own behind those that were there. -/
theorem cell_in {v : Value} {u : PV} (h : CellIn W v u) {G : List Blk} {GL : List Abs.Loc} (hG : G ≠ []) (hlen : G.length = GL.length) :
    ∃ (l : List Blk) (ls : List Abs.Loc) (x : Value), l.length = ls.length ∧ (∀ (i : Nat) (B : Blk) (L : Abs.Loc), l[i]? = some B → ls[i]? = some L → Lies W B L) ∧
      ∀ l2 ls2, VRel (mapOf (GL ++ ls ++ ls2)) x v ∧ ∀ π, VR (C0 P (G ++ l ++ l2).length) (heapOf (G ++ l ++ l2)) π u x := by
  cases h with
  | plain x hp hn => exact ⟨[], [], v, rfl, by simp, fun l2 ls2 => ⟨.plain _ hp, fun π => .v _ _ hp hn⟩⟩
  | nil => exact ⟨[], [], .slice none 0 0, rfl, by simp, fun l2 ls2 => ⟨.plain _ rfl, fun π => .nil _ _ _⟩⟩
  | slice a n cap xs hn hc h0 h1 hx =>
    by_cases hn0 : n = 0
    · have := h0 hn0
      subst this; subst hn0
      have hlt : 0 < G.length := List.length_pos_iff.2 hG
      refine ⟨[], [], .slice (some ⟨0, 0, none⟩) 0 roCap, rfl, by simp, fun l2 ls2 => ⟨.ro _ _ _ _ hn (fun h => (h rfl).elim), fun π => ?_⟩⟩
      have hb : (heapOf (G ++ [] ++ l2)).get 0 = some G[0] := by
        rw [heapOf_get, List.append_nil, List.getElem?_append_left hlt, List.getElem?_eq_getElem hlt]
      exact .lst _ _ _ _ _ _ _ _ hb rfl (by show 0 < _; simp only [List.length_append]; omega) hc ⟨fun h => by (cases h), fun h => by (cases h), fun h => by (exact absurd h (by decide)), .inr (.inr rfl), fun h => by (cases h), by simp⟩ (by simp) (fun i hi => by (simp at hi))
    · have hne := h1 hn0
      obtain ⟨v0, r, hvr⟩ := List.exists_cons_of_ne_nil hne
      have hc0 := (hx 0 v0 (by rw [hvr]; rfl)).1
      have hsp : a.spot = none := by
        unfold World.cell? at hc0
        split at hc0
        · split at hc0
          · cases hc0
          · rename_i hs; simpa [Addr.add] using hs
        · cases hc0
      have hadd : ∀ k, a.add k = ⟨a.block, a.off + k, none⟩ := fun k => by
        cases a with
        | mk b o s => simp only at hsp; subst hsp; exact WideShapes.add_plain b o k
      refine ⟨[⟨xs, 0, false, false⟩], [⟨a.block, a.off, 0⟩], .slice (some ⟨G.length, 0, none⟩) n roCap, rfl, ?_, fun l2 ls2 => ⟨.ro _ _ _ _ hn (fun _ => ⟨⟨a.block, a.off, 0⟩, ?_, rfl, ?_⟩), fun π => ?_⟩⟩
      · intro i B L hB hL
        cases i with
        | succ i => simp at hB
        | zero =>
          simp at hB hL
          subst hB; subst hL
          refine ⟨rfl, rfl, ?_, hne, fun k v hk => ?_⟩
          · rw [hadd] at hc0
            have := block_lt_of_cell hc0
            exact this
          · obtain ⟨a1, a2, _⟩ := hx k v hk
            rw [hadd] at a1
            exact ⟨a1, a2⟩
      · unfold mapOf
        rw [List.append_assoc, List.getElem?_append_right (by simp [hlen])]
        simp [hlen]
      · cases a with
        | mk b o s => simp at hsp; subst hsp; simp
      · have hb : (heapOf (G ++ [⟨xs, 0, false, false⟩] ++ l2)).get G.length = some ⟨xs, 0, false, false⟩ := by
          rw [heapOf_get, List.append_assoc, List.getElem?_append_right (Nat.le_refl _)]
          simp
        refine .lst _ _ _ _ _ _ _ _ hb rfl (by show G.length < _; simp only [List.length_append, List.length_cons]; omega) hc ⟨fun h => by (cases h), fun h => by (cases h), fun h => by (exact absurd h (by decide)), .inr (.inr rfl), fun h => by (cases h), ?_⟩ (by simp) (fun i hi => ?_)
        · intro v hv
          obtain ⟨y, _, rfl⟩ := List.mem_map.1 hv
          rfl
        · have hi' : i < xs.length := by simpa using hi
          have e : xs[i]? = some xs[i] := List.getElem?_eq_getElem hi'
          obtain ⟨_, p1, p2⟩ := hx i _ e
          simp [List.getD_eq_getElem?_getD, e]
          exact .v _ _ p1 p2

theorem cells_in {vs : List Value} {us : List PV} (h : CellsIn W vs us) : ∀ {G : List Blk} {GL : List Abs.Loc}, G ≠ [] → G.length = GL.length →
    ∃ (l : List Blk) (ls : List Abs.Loc) (xs : List Value), l.length = ls.length ∧ (∀ (i : Nat) (B : Blk) (L : Abs.Loc), l[i]? = some B → ls[i]? = some L → Lies W B L) ∧
      ∀ l2 ls2, LRel (mapOf (GL ++ ls ++ ls2)) xs vs ∧ ∀ π, LR (C0 P (G ++ l ++ l2).length) (heapOf (G ++ l ++ l2)) π us xs := by
  induction h with
  | nil => exact fun {G GL} hG hlen => ⟨[], [], [], rfl, by simp, fun l2 ls2 => ⟨LRel.nil _, fun π => LR.nil _ _ _⟩⟩
  | cons v u vs us h ht ih =>
    intro G GL hG hlen
    obtain ⟨l, ls, x, a1, a2, a3⟩ := cell_in (P := P) h hG hlen
    obtain ⟨k, ks, xs, b1, b2, b3⟩ := ih (G := G ++ l) (GL := GL ++ ls) (by simp [hG]) (by simp [hlen, a1])
    refine ⟨l ++ k, ls ++ ks, x :: xs, by simp [a1, b1], fun i B L hB hL => ?_, fun l2 ls2 => ?_⟩
    · by_cases hi : i < l.length
      · rw [List.getElem?_append_left hi] at hB
        rw [List.getElem?_append_left (a1 ▸ hi)] at hL
        exact a2 i B L hB hL
      · rw [List.getElem?_append_right (by omega)] at hB
        rw [List.getElem?_append_right (by omega), ← a1] at hL
        exact b2 _ B L hB hL
    · obtain ⟨c1, c2⟩ := a3 (k ++ l2) (ks ++ ls2)
      obtain ⟨d1, d2⟩ := b3 l2 ls2
      simp only [List.append_assoc] at c1 c2 d1 d2 ⊢
      exact ⟨LRel.cons c1 d1, fun π => LR.cons (c2 π) (d2 π)⟩

/-- Arguments. -/
inductive ArgsIn (W : World) : List Value → List PV → Prop where
  | nil : ArgsIn W [] []
  | cons (v : Value) (u : PV) (vs : List Value) (us : List PV) (h : ArgIn W v u) (ht : ArgsIn W vs us) : ArgsIn W (v :: vs) (u :: us)
theorem arg_in {v : Value} {u : PV} (h : ArgIn W v u) {G : List Blk} {GL : List Abs.Loc} (hG : G ≠ []) (hlen : G.length = GL.length) :
    loose u = false ∧ ∃ (l : List Blk) (ls : List Abs.Loc) (x : Value), l.length = ls.length ∧ (∀ (i : Nat) (B : Blk) (L : Abs.Loc), l[i]? = some B → ls[i]? = some L → Lies W B L) ∧
      ∀ l2 ls2, VRel (mapOf (GL ++ ls ++ ls2)) x v ∧ ∀ π, VR (C0 P (G ++ l ++ l2).length) (heapOf (G ++ l ++ l2)) π u x := by
  cases h with
  | one _ _ h => exact ⟨by cases h <;> rfl, cell_in h hG hlen⟩
  | agg cs us h =>
    refine ⟨rfl, ?_⟩
    obtain ⟨l, ls, xs, a1, a2, a3⟩ := cells_in (P := P) h hG hlen
    refine ⟨l, ls, .agg xs.toArray, a1, a2, fun l2 ls2 => ?_⟩
    obtain ⟨b1, b2⟩ := a3 l2 ls2
    exact ⟨by simpa using VRel.agg_of b1, fun π => VR.agg_of (b2 none)⟩
theorem args_in {vs : List Value} {us : List PV} (h : ArgsIn W vs us) : ∀ {G : List Blk} {GL : List Abs.Loc}, G ≠ [] → G.length = GL.length →
    ∃ (l : List Blk) (ls : List Abs.Loc) (xs : List Value), l.length = ls.length ∧ (∀ (i : Nat) (B : Blk) (L : Abs.Loc), l[i]? = some B → ls[i]? = some L → Lies W B L) ∧
      ∀ l2 ls2, LRel (mapOf (GL ++ ls ++ ls2)) xs vs ∧ LP1 (C0 P (G ++ l ++ l2).length) (heapOf (G ++ l ++ l2)) us xs := by
  induction h with
  | nil => exact fun {G GL} hG hlen => ⟨[], [], [], rfl, by simp, fun l2 ls2 => ⟨LRel.nil _, trivial⟩⟩
  | cons v u vs us h ht ih =>
    intro G GL hG hlen
    obtain ⟨hlo, l, ls, x, a1, a2, a3⟩ := arg_in (P := P) h hG hlen
    obtain ⟨k, ks, xs, b1, b2, b3⟩ := ih (G := G ++ l) (GL := GL ++ ls) (by simp [hG]) (by simp [hlen, a1])
    refine ⟨l ++ k, ls ++ ks, x :: xs, by simp [a1, b1], fun i B L hB hL => ?_, fun l2 ls2 => ?_⟩
    · by_cases hi : i < l.length
      · rw [List.getElem?_append_left hi] at hB
        rw [List.getElem?_append_left (a1 ▸ hi)] at hL
        exact a2 i B L hB hL
      · rw [List.getElem?_append_right (by omega)] at hB
        rw [List.getElem?_append_right (by omega), ← a1] at hL
        exact b2 _ B L hB hL
    · obtain ⟨c1, c2⟩ := a3 (k ++ l2) (ks ++ ls2)
      obtain ⟨d1, d2⟩ := b3 l2 ls2
      simp only [List.append_assoc] at c1 c2 d1 d2 ⊢
      exact ⟨LRel.cons c1 d1, ⟨fun d => c2 _, hlo⟩, d2⟩

/-- A CALL THAT ANSWERS TRUE. -/
theorem pure_true (hmix : P.follows .mixedOrders = true) (hok : progOK P = true) {G : List Blk} {GL : List Abs.Loc} (hG : G ≠ []) (hlen : G.length = GL.length) (hw : ∀ B ∈ G, B.wr = false)
    (hstart : ∀ (l : List Blk) (ls : List Abs.Loc), l.length = ls.length → (∀ (i : Nat) (B : Blk) (L : Abs.Loc), l[i]? = some B → ls[i]? = some L → Lies W B L) → Rel P (mapOf (GL ++ ls)) (heapOf (G ++ l)) W)
    (hgr : ∀ l : List Blk, GR P Y (C0 P (G ++ l).length) (heapOf (G ++ l)))
    {f : FuncId} {us : List PV} {vs : List Value} {hp' : List (Option (List PV))} {wl : Option Nat} (hA : ArgsIn W vs us) (hE : E P Y f us [] = some (.v (.bool true), hp', wl)) :
    Calls P f vs.toArray W fun e W' => e = .returned (.bool true) ∧ Below W.heap.size W W' := by
  obtain ⟨l, ls, xs, a1, a2, a3⟩ := args_in (P := P) hA hG hlen
  obtain ⟨b1, b2⟩ := a3 [] []
  simp only [List.append_nil] at b1 b2
  obtain ⟨n, hn⟩ := E_iff.1 hE
  obtain ⟨C', h', x', r1, r2⟩ := purRun_sim hok n f us [] _ hp' wl hn (C0 P (G ++ l).length) (heapOf (G ++ l)) xs 0
    ⟨rfl, ⟨fun _ h => h, fun id h => ⟨h, rfl⟩, fun _ _ h => (by cases h), fun _ _ h => (by cases h), fun _ _ _ h => (by cases h), fun _ _ h => (by simp at h), fun _ _ h => (by simp at h)⟩, hgr l, fun _ _ h => (by cases h), b2⟩
  have hx : x' = .bool true := by
    have := r2.res
    cases this
    rfl
  subst hx
  refine call_true hmix noO_ext noO_ok (hstart l ls a1 a2) (fun B hB => ?_) b1 r1
  rw [List.mem_append] at hB
  rcases hB with hB | hB
  · exact hw B hB
  · obtain ⟨i, hi, rfl⟩ := List.mem_iff_getElem.1 hB
    exact (a2 i _ (ls[i]'(a1 ▸ hi)) (List.getElem?_eq_getElem hi) (List.getElem?_eq_getElem _)).1
end
end Go.Pur
