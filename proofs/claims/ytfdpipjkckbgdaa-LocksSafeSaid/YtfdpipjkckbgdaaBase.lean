/-
  WORDS FOR MEMORY, mine: a slice that reads as a list; what a world keeps.
-/
import Derived.Test.YtfdpipjkckbgdaaRows
import Derived.WalkKit
import Derived.WalkSpells
import Derived.WalkLawsBesides
import Derived.Lib.Hide
import Derived.Deep.QuietTactic
import Derived.BigQuiet
import Derived.Deep.Draws
namespace Go.Proofs.Ytfdpipjkckbgdaa
open Go.RowKit

theorem ret_int {k : IntKind} {a b : Int} (h : a = b) : Ending.returned (.int k a) = .returned (.int k b) := by rw [h]
theorem ret_bool {a b : Bool} (h : a = b) : Ending.returned (.bool a) = .returned (.bool b) := by rw [h]

/-- Integers as values. -/
def ints (zs : List Int) : List Value := zs.map (Value.int .i64)
theorem ints_len (zs : List Int) : (ints zs).length = zs.length := by simp [ints]
theorem ints_get (zs : List Int) (k : Nat) (h : k < zs.length) : (ints zs)[k]? = some (.int .i64 zs[k]) := by simp [ints, h]

theorem ints_app' (xs ys : List Int) : ints xs ++ ints ys = ints (xs ++ ys) := by simp [ints]

/-- The cells from an address on read as xs. -/
def Rd (w : World) (A : Option Addr) (xs : List Value) : Prop :=
  ∀ k v, xs[k]? = some v → ∃ b off, A = some ⟨b, off, none⟩ ∧ w.cell? ⟨b, off + k, none⟩ = some v
theorem Rd.nil (w : World) (A : Option Addr) : Rd w A [] := fun k v h => by simp at h
/-- What is there stays. -/
theorem cell_keep {w w' : World} (h : Below w.heap.size w w') {p : Addr} {v : Value} (hc : w.cell? p = some v) : w'.cell? p = some v :=
  (h.cell (World.block_lt_of_cell? w p hc)).trans hc
theorem Rd.keep {w w' : World} {A : Option Addr} {xs : List Value} (h : Rd w A xs) (hb : Below w.heap.size w w') : Rd w' A xs := fun k v hk =>
  let ⟨b, off, e, hc⟩ := h k v hk; ⟨b, off, e, cell_keep hb hc⟩
theorem Rd.far {w w' : World} {A : Option Addr} {xs : List Value} (h : Rd w A xs) {row : Option Nat} (hg : w.grownBy w' row) (hne : ∀ a, A = some a → some a.block ≠ row) : Rd w' A xs := fun k v hk =>
  let ⟨b, off, e, hc⟩ := h k v hk; ⟨b, off, e, hg.cell hc (fun q => hne _ e q)⟩
theorem Rd.ofRow {w : World} {base : Nat} {e : TypeId} {n c : Nat} {A : Option Addr} {size : Nat} {xs : List Value} (h : w.ownsRow base e size (.slice A n c) n xs) : Rd w A xs := by
  intro k v hk
  rcases h.2 with ⟨h1, rfl⟩ | ⟨g, cap, cur, h1, _⟩
  · have : xs = [] := List.eq_nil_of_length_eq_zero (by simpa using h.1)
    subst this; simp at hk
  · injection h1 with h1 h2 h3
    subst h1
    have hj := h.cells (g := g) rfl k v hk
    refine ⟨g, 0, rfl, ?_⟩
    have hadd : (⟨g, 0, none⟩ : Addr).add k = ⟨g, 0 + k, none⟩ := by unfold Addr.add; split <;> simp_all
    rwa [hadd] at hj
theorem Rd.take {w : World} {A : Option Addr} {xs : List Value} (h : Rd w A xs) (n : Nat) : Rd w A (xs.take n) := fun k v hk => by
  rw [List.getElem?_take] at hk
  split at hk
  · exact h k v hk
  · cases hk

theorem Rd.pre {w : World} {A : Option Addr} {xs ys : List Value} (h : Rd w A (xs ++ ys)) : Rd w A xs := fun k v hk =>
  h k v (by rw [List.getElem?_append_left (by have := (List.getElem?_eq_some_iff.1 hk).1; exact this)]; exact hk)

/-- A round: the cell of index k. -/
theorem Rd.int {w : World} {A : Option Addr} {zs : List Int} (h : Rd w A (ints zs)) {k : Nat} (hk : k < zs.length) : ∃ b off, A = some ⟨b, off, none⟩ ∧ w.cell? ⟨b, off + k, none⟩ = some (.int .i64 zs[k]) :=
  h k _ (ints_get zs k hk)

/-- A number of int. -/
def I64 (x : Int) : Prop := -9223372036854775808 ≤ x ∧ x ≤ 9223372036854775807

/-- A slice of integers that came in. -/
structure IntsArg (w : World) (A : Option Addr) (n : Nat) (zs : List Int) : Prop where
  len : zs.length = n
  max : n ≤ 9223372036854775807
  rd : Rd w A (ints zs)
  wf : ∀ z ∈ zs, I64 z

/-- Structs of two integers as cells. -/
def pairs (ps : List (Int × Int)) : List Value := ps.flatMap fun p => [.int .i64 p.1, .int .i64 p.2]
/-- Structs of three integers as cells. -/
def trips (ps : List (Int × Int × Int)) : List Value := ps.flatMap fun p => [.int .i64 p.1, .int .i64 p.2.1, .int .i64 p.2.2]
theorem pairs_len (ps : List (Int × Int)) : (pairs ps).length = 2 * ps.length := by
  induction ps with
  | nil => rfl
  | cons p ps ih => simp only [pairs, List.flatMap_cons, List.length_append, List.length_cons, List.length_nil] at *; omega
theorem trips_len (ps : List (Int × Int × Int)) : (trips ps).length = 3 * ps.length := by
  induction ps with
  | nil => rfl
  | cons p ps ih => simp only [trips, List.flatMap_cons, List.length_append, List.length_cons, List.length_nil] at *; omega
theorem pairs_get (ps : List (Int × Int)) : ∀ (k : Nat) (h : k < ps.length), (pairs ps)[k * 2]? = some (.int .i64 ps[k].1) ∧ (pairs ps)[k * 2 + 1]? = some (.int .i64 ps[k].2) := by
  induction ps with
  | nil => intro k h; simp at h
  | cons p ps ih =>
    intro k h
    rcases k with _ | k
    · exact ⟨rfl, rfl⟩
    · have := ih k (by simpa using h)
      have e : ∀ j, (pairs (p :: ps))[j + 2]? = (pairs ps)[j]? := fun j => rfl
      rw [show (k + 1) * 2 = k * 2 + 2 by omega, e, show k * 2 + 2 + 1 = (k * 2 + 1) + 2 by omega, e]
      simpa using this
theorem trips_get (ps : List (Int × Int × Int)) : ∀ (k : Nat) (h : k < ps.length), (trips ps)[k * 3]? = some (.int .i64 ps[k].1) ∧ (trips ps)[k * 3 + 1]? = some (.int .i64 ps[k].2.1) ∧ (trips ps)[k * 3 + 2]? = some (.int .i64 ps[k].2.2) := by
  induction ps with
  | nil => intro k h; simp at h
  | cons p ps ih =>
    intro k h
    rcases k with _ | k
    · exact ⟨rfl, rfl, rfl⟩
    · have := ih k (by simpa using h)
      have e : ∀ j, (trips (p :: ps))[j + 3]? = (trips ps)[j]? := fun j => rfl
      rw [show (k + 1) * 3 = k * 3 + 3 by omega, e, show k * 3 + 3 + 1 = (k * 3 + 1) + 3 by omega, e, show k * 3 + 3 + 2 = (k * 3 + 2) + 3 by omega, e]
      simpa using this
theorem pairs_app (ps qs : List (Int × Int)) : pairs ps ++ pairs qs = pairs (ps ++ qs) := by simp [pairs]
theorem trips_app (ps qs : List (Int × Int × Int)) : trips ps ++ trips qs = trips (ps ++ qs) := by simp [trips]
theorem pairs_one (ps : List (Int × Int)) : ∀ u ∈ pairs ps, u.oneCell' = true := by
  intro u hu
  simp [pairs] at hu
  obtain ⟨a, b, _, rfl | rfl⟩ := hu <;> rfl
theorem trips_one (ps : List (Int × Int × Int)) : ∀ u ∈ trips ps, u.oneCell' = true := by
  intro u hu
  simp [trips] at hu
  obtain ⟨a, b, c, _, rfl | rfl | rfl⟩ := hu <;> rfl
theorem Rd.pair {w : World} {A : Option Addr} {ps : List (Int × Int)} (h : Rd w A (pairs ps)) {k : Nat} (hk : k < ps.length) :
    ∃ b off, A = some ⟨b, off, none⟩ ∧ w.cell? ⟨b, off + k * 2, none⟩ = some (.int .i64 ps[k].1) ∧ w.cell? ⟨b, off + k * 2 + 1, none⟩ = some (.int .i64 ps[k].2) := by
  obtain ⟨g1, g2⟩ := pairs_get ps k hk
  obtain ⟨b, off, rfl, h1⟩ := h _ _ g1
  obtain ⟨b', off', e, h2⟩ := h _ _ g2
  injection e with e; injection e with e1 e2
  subst e1; subst e2
  exact ⟨b, off, rfl, h1, h2⟩
theorem Rd.trip {w : World} {A : Option Addr} {ps : List (Int × Int × Int)} (h : Rd w A (trips ps)) {k : Nat} (hk : k < ps.length) :
    ∃ b off, A = some ⟨b, off, none⟩ ∧ w.cell? ⟨b, off + k * 3, none⟩ = some (.int .i64 ps[k].1) ∧ w.cell? ⟨b, off + k * 3 + 1, none⟩ = some (.int .i64 ps[k].2.1) ∧ w.cell? ⟨b, off + k * 3 + 2, none⟩ = some (.int .i64 ps[k].2.2) := by
  obtain ⟨g1, g2, g3⟩ := trips_get ps k hk
  obtain ⟨b, off, rfl, h1⟩ := h _ _ g1
  obtain ⟨b', off', e, h2⟩ := h _ _ g2
  injection e with e; injection e with e1 e2
  subst e1; subst e2
  obtain ⟨b', off', e, h3⟩ := h _ _ g3
  injection e with e; injection e with e1 e2
  subst e1; subst e2
  exact ⟨b, off, rfl, h1, h2, h3⟩
/-- Slices of such structs that came in. -/
structure PairsArg (w : World) (A : Option Addr) (n : Nat) (ps : List (Int × Int)) : Prop where
  len : ps.length = n
  max : n ≤ 9223372036854775807
  rd : Rd w A (pairs ps)
  wf : ∀ p ∈ ps, I64 p.1 ∧ I64 p.2
structure TripsArg (w : World) (A : Option Addr) (n : Nat) (ps : List (Int × Int × Int)) : Prop where
  len : ps.length = n
  max : n ≤ 9223372036854775807
  rd : Rd w A (trips ps)
  wf : ∀ p ∈ ps, I64 p.1 ∧ I64 p.2.1 ∧ I64 p.2.2

theorem take_succ' {α : Type} (l : List α) (k : Nat) (h : k < l.length) : l.take (k + 1) = l.take k ++ [l[k]] := by
  rw [List.take_succ_eq_append_getElem h]
theorem quiet_same {P : Program} {f : FuncId} {args : Array Value} {w : World} {n : Nat} {v : Value}
    (h : Calls P f args (w.drewN n) fun e w' => e = .returned v ∧ w.drewN n = w') : Calls P f args (w.drewN n) fun e w'' => e = .returned v ∧ ∃ m, w'' = w.drewN m :=
  h.mono fun _ _ ⟨he, hm⟩ => ⟨he, n, hm.symm⟩
theorem quiet_drew {P : Program} {f : FuncId} {args : Array Value} {w : World} {n : Nat} {v : Value}
    (h : Calls P f args (w.drewN n) fun e w' => e = .returned v ∧ ∃ q, w' = (w.drewN n).drewN q) : Calls P f args (w.drewN n) fun e w'' => e = .returned v ∧ ∃ m, w'' = w.drewN m :=
  h.mono fun _ _ ⟨he, q, hq⟩ => ⟨he, n + q, by rw [hq, World.drewN_drewN]⟩
theorem below_drewN {B : Nat} {a w : World} (h : Below B a w) (n : Nat) : Below B a (w.drewN n) := ⟨h.os, h.tape, h.output, h.size, h.block⟩

end Go.Proofs.Ytfdpipjkckbgdaa
