/-
  Contracts that were walked by hand, in the form of those that are printed.
  Conditions: none; definitions and lemmas.
-/
import Derived.Test.YtcdhajbhpnbdkaaDoorFewest
set_option linter.unusedSimpArgs false
set_option linter.unusedVariables false
namespace Go.Proofs.YtcdhajbhpnbdkaaDoor
open Go.Abs Go.Pur
set_option maxRecDepth 100000
theorem ble_addc {n a b : Nat} : Nat.ble (n + a + 1) (n + b) = decide (a + 1 ≤ b) := by rw [nble]; congr 1; simp; omega
def short (l : List Int) : Bool := Nat.ble (l.length + 1) 1000000000
theorem short_lt {l : List Int} (h : short l = true) : l.length < 1000000000 := Nat.le_of_ble_eq_true h
def onS {α : Type} (l : List Int) (x : α) : Option α := match short l with
 | true => some x
 | false => none
theorem onS_ok {α : Type} {l : List Int} {x r : α} (h : onS l x = some r) : l.length < 1000000000 ∧ x = r := by
 unfold onS at h
 split at h
 ·rename_i e; exact ⟨short_lt e, Option.some.inj h⟩
 ·cases h
section
variable {hp : List (Option (List PV))} {room : Int} {pages : List Int} {c : Ck}
theorem f24_is {r : Int} (h : onS pages (chk room pages) = some r) : E Tryd.prog Y0 24 [.a [iv room, .l .fz c pages.length (pages.map iv)]] hp = some (iv r, hp, none) := by
 obtain ⟨hl, rfl⟩ := onS_ok h; exact check_is hl
theorem f33_is {r : Int × Int} (h : onS pages (fewS room pages, chk room pages) = some r) : E Tryd.prog Y0 33 [.a [iv room, .l .fz c pages.length (pages.map iv)]] hp = some (.t [iv r.1, iv r.2], hp, none) := by
 obtain ⟨hl, rfl⟩ := onS_ok h; exact fewest_is hl
theorem f37_is {r : Int × Int} (h : onS pages (cntS room pages, chk room pages) = some r) : E Tryd.prog Y0 37 [.a [iv room, .l .fz c pages.length (pages.map iv)]] hp = some (.t [iv r.1, iv r.2], hp, none) := by
 obtain ⟨hl, rfl⟩ := onS_ok h; exact count_is hl
theorem f35_is {r : List Int × Int} (h : onS pages (firS room pages, chk room pages) = some r) : E Tryd.prog Y0 35 [.a [iv room, .l .fz c pages.length (pages.map iv)]] hp = some (.t [.l .fz .nz r.1.length (r.1.map iv), iv r.2], hp, none) := by
 obtain ⟨hl, rfl⟩ := onS_ok h; exact first_is hl
theorem f26_is {r : List Int × Int} (h : onS pages (refPlan true false room pages, chk room pages) = some r) : E Tryd.prog Y0 26 [.a [iv room, .l .fz c pages.length (pages.map iv)]] hp = some (.t [.l .fz .nz r.1.length (r.1.map iv), iv r.2], hp, none) := by
 obtain ⟨hl, rfl⟩ := onS_ok h; rw [← later_eq]; exact later_is hl
theorem f28_is {r : List Int × Int} (h : onS pages (refPlan false false room pages, chk room pages) = some r) : E Tryd.prog Y0 28 [.a [iv room, .l .fz c pages.length (pages.map iv)]] hp = some (.t [.l .fz .nz r.1.length (r.1.map iv), iv r.2], hp, none) := by
 obtain ⟨hl, rfl⟩ := onS_ok h; rw [← oldest_eq]; exact oldest_is hl
theorem f30_is {r : List Int × Int} (h : onS pages (refPlan false true room pages, chk room pages) = some r) : E Tryd.prog Y0 30 [.a [iv room, .l .fz c pages.length (pages.map iv)]] hp = some (.t [.l .fz .nz r.1.length (r.1.map iv), iv r.2], hp, none) := by
 obtain ⟨hl, rfl⟩ := onS_ok h; rw [← recent_eq]; exact recent_is hl
def onT {α : Type} (l : List Int) (t : Int) (f : Nat → α) : Option α := match t with
 | .ofNat n => match short l, Nat.ble n l.length with
  | true, true => some (f n)
  | _, _ => none
 | .negSucc _ => none
theorem onT_ok {α : Type} {l : List Int} {t : Int} {f : Nat → α} {r : α} (h : onT l t f = some r) : ∃ n : Nat, t = (n : Int) ∧ l.length < 1000000000 ∧ n ≤ l.length ∧ f n = r := by
 unfold onT at h
 split at h
 ·rename_i n
  split at h
  ·rename_i e1 e2; exact ⟨n, rfl, short_lt e1, Nat.le_of_ble_eq_true e2, Option.some.inj h⟩
  ·cases h
 ·cases h
theorem f75_is {p t r : Int} (h : onT pages t (aft pages p) = some r) : E Tryd.prog Y0 75 [.a [iv room, .l .fz c pages.length (pages.map iv)], iv p, iv t] hp = some (iv r, hp, none) := by
 obtain ⟨n, rfl, hl, hn, rfl⟩ := onT_ok h; exact after_is hl hn
end
section
variable {hp : List (Option (List PV))}
def onB {α : Type} (s : Int) (f : Nat → α) : Option α := match s with
 | .ofNat n => match Nat.ble (n + 1) 4096 with
  | true => some (f n)
  | false => none
 | .negSucc _ => none
theorem onB_ok {α : Type} {s : Int} {f : Nat → α} {r : α} (h : onB s f = some r) : ∃ n : Nat, s = (n : Int) ∧ n < 4096 ∧ f n = r := by
 unfold onB at h
 split at h
 ·rename_i n
  split at h
  ·rename_i e1; exact ⟨n, rfl, Nat.le_of_ble_eq_true e1, Option.some.inj h⟩
  ·cases h
 ·cases h
theorem f90_is {s r : Int} (h : onB s (fun n => (cnt n : Int)) = some r) : E Tryd.prog Y0 90 [kv .u64 s] hp = some (iv r, hp, none) := by
 obtain ⟨n, rfl, hn, rfl⟩ := onB_ok h
 rw [← onesE_eq hn]
 exact ones_is
theorem f68_is {s : Int} {r : List Int} (h : onB s bitsL = some r) : E Tryd.prog Y0 68 [kv .u64 s] hp = some (.l .own .nz r.length (r.map iv), hp, none) := by
 obtain ⟨n, rfl, hn, rfl⟩ := onB_ok h
 exact list_is hn
theorem f32_is {x y : List Int} {a0 a1 : Bool} {c0 c1 : Ck} {r : Bool} (h : onS x (decide (x = y)) = some r) : E Tryd.prog Y0 32 [.l (ak a0) c0 x.length (x.map iv), .l (ak a1) c1 y.length (y.map iv)] hp = some (.v (.bool r), hp, none) := by
 obtain ⟨hl, rfl⟩ := onS_ok h; exact same_is hl
end
end Go.Proofs.YtcdhajbhpnbdkaaDoor
