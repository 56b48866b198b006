/-
  WALKS of what the statements share: what was answered is written over.
-/
import Derived.Test.YtfdpipjkckbgdaaApp
import Derived.Test.YtfdpipjkckbgdaaLend
import Derived.Test.YtfdpipjkckbgdaaDep
namespace Go.Proofs.Ytfdpipjkckbgdaa
open Go.RowKit

theorem Row.set1 {w : World} {base : Nat} {e : TypeId} {g n c : Nat} {xs : List Value} (h : Row w base e 1 (some ⟨g, 0, none⟩) n c xs) (k : Nat) (hk : k < n) (v : Value) :
    (∃ u, w.cell? ⟨g, k, none⟩ = some u) ∧ w.frozen? ⟨g, k, none⟩ = false ∧ Row (w.setCell ⟨g, k, none⟩ v) base e 1 (some ⟨g, 0, none⟩) n c (xs.set k v) := by
  have hlen := h.len
  rcases h.2 with ⟨h1, _⟩ | ⟨g', cap, cur, h1, hbg, hcur, hnc, hmax, hsz, htake⟩
  · cases h1
  · injection h1 with h1 h2 h3
    injection h1 with h1; injection h1 with h1
    subst h1; subst h3
    refine ⟨⟨cur[k]'(by omega), ?_⟩, frozen_of_row w g k cur e hcur, by simpa using hlen, .inr ⟨g, c, cur.setIfInBounds k v, rfl, hbg, ?_, hnc, hmax, by simpa using hsz, ?_⟩⟩
    · rw [cell_of_row w g k cur e (0, 0) hcur]; simp
    · simp [World.setCell, Array.getElem?_modify, hcur]
    · rw [← htake]; simp [List.take_set]

theorem Row.addr {w : World} {base : Nat} {e : TypeId} {n c size : Nat} {A : Option Addr} {xs : List Value} (h : Row w base e size A n c xs) (hn : 0 < n) : ∃ g, A = some ⟨g, 0, none⟩ := by
  rcases h.2 with ⟨_, h0⟩ | ⟨g', cap, cur, h1, _⟩
  · omega
  · injection h1 with h1; exact ⟨g', h1⟩

theorem Row.setAt {w : World} {base : Nat} {e : TypeId} {g n c size : Nat} {xs : List Value} (h : Row w base e size (some ⟨g, 0, none⟩) n c xs) (k : Nat) (hk : k < n * size) (v : Value) :
    w.cell? ⟨g, k, none⟩ = xs[k]? ∧ w.frozen? ⟨g, k, none⟩ = false ∧ Row (w.setCell ⟨g, k, none⟩ v) base e size (some ⟨g, 0, none⟩) n c (xs.set k v) := by
  have hlen := h.len
  rcases h.2 with ⟨h1, _⟩ | ⟨g', cap, cur, h1, hbg, hcur, hnc, hmax, hsz, htake⟩
  · cases h1
  · injection h1 with h1 h2 h3
    injection h1 with h1; injection h1 with h1
    subst h1; subst h3
    have hcs : n * size ≤ cur.size := by rw [hsz]; exact Nat.mul_le_mul_right _ hnc
    refine ⟨?_, frozen_of_row w g k cur e hcur, by simpa using hlen, .inr ⟨g, c, cur.setIfInBounds k v, rfl, hbg, ?_, hnc, hmax, by simpa using hsz, ?_⟩⟩
    · rw [cell_of_row w g k cur e (0, 0) hcur, ← htake, List.getElem?_take, if_pos hk]; simp
    · simp [World.setCell, Array.getElem?_modify, hcur]
    · rw [← htake]; simp [List.take_set]

theorem trips_set (ps : List (Int × Int × Int)) (k : Nat) (q : Int × Int × Int) : (((trips ps).set (k * 3) (.int .i64 q.1)).set (k * 3 + 1) (.int .i64 q.2.1)).set (k * 3 + 2) (.int .i64 q.2.2) = trips (ps.set k q) := by
  induction ps generalizing k with
  | nil => simp [trips]
  | cons p ps ih =>
    rcases k with _ | k
    · rfl
    · have e : ∀ (xs : List Value) (j : Nat) (v : Value), (([Value.int .i64 p.1, .int .i64 p.2.1, .int .i64 p.2.2] ++ xs).set (j + 3) v) = [Value.int .i64 p.1, .int .i64 p.2.1, .int .i64 p.2.2] ++ xs.set j v := fun xs j v => rfl
      have h : trips (p :: ps) = [Value.int .i64 p.1, .int .i64 p.2.1, .int .i64 p.2.2] ++ trips ps := rfl
      have h2 : trips ((p :: ps).set (k + 1) q) = [Value.int .i64 p.1, .int .i64 p.2.1, .int .i64 p.2.2] ++ trips (ps.set k q) := rfl
      rw [h, h2, ← ih k, show (k + 1) * 3 = k * 3 + 3 by omega, show k * 3 + 3 + 1 = (k * 3 + 1) + 3 by omega, show k * 3 + 3 + 2 = (k * 3 + 2) + 3 by omega, e, e, e]

/-- The three cells of an element: as they are, and as they are set. -/
theorem Row.set3 {w : World} {base : Nat} {e : TypeId} {g n c : Nat} {ps : List (Int × Int × Int)} (h : Row w base e 3 (some ⟨g, 0, none⟩) n c (trips ps)) (k : Nat) (hk : k < n) (q : Int × Int × Int) :
    (∃ u0 u1 u2, w.cell? ⟨g, k * 3, none⟩ = some u0 ∧ w.cell? ⟨g, k * 3 + 1, none⟩ = some u1 ∧ w.cell? ⟨g, k * 3 + 2, none⟩ = some u2) ∧ w.frozen? ⟨g, k * 3, none⟩ = false ∧ w.frozen? ⟨g, k * 3 + 1, none⟩ = false ∧ w.frozen? ⟨g, k * 3 + 2, none⟩ = false ∧
    Row (((w.setCell ⟨g, k * 3, none⟩ (.int .i64 q.1)).setCell ⟨g, k * 3 + 1, none⟩ (.int .i64 q.2.1)).setCell ⟨g, k * 3 + 2, none⟩ (.int .i64 q.2.2)) base e 3 (some ⟨g, 0, none⟩) n c (trips (ps.set k q)) := by
  have hl := h.len
  obtain ⟨a0, b0, r0⟩ := h.setAt (k * 3) (by omega) (.int .i64 q.1)
  obtain ⟨a1, b1, _⟩ := h.setAt (k * 3 + 1) (by omega) (.int .i64 q.2.1)
  obtain ⟨a2, b2, _⟩ := h.setAt (k * 3 + 2) (by omega) (.int .i64 q.2.2)
  obtain ⟨_, _, r1⟩ := r0.setAt (k * 3 + 1) (by omega) (.int .i64 q.2.1)
  obtain ⟨_, _, r2⟩ := r1.setAt (k * 3 + 2) (by omega) (.int .i64 q.2.2)
  rw [trips_set] at r2
  exact ⟨⟨_, _, _, a0.trans (List.getElem?_eq_getElem (by omega)), a1.trans (List.getElem?_eq_getElem (by omega)), a2.trans (List.getElem?_eq_getElem (by omega))⟩, b0, b1, b2, r2⟩

end Go.Proofs.Ytfdpipjkckbgdaa
