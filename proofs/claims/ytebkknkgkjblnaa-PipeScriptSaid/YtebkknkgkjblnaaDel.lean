/-
  'append(append(nil, xs..), ys..)' in a region that draws its order (mine): the second append may write into the room that the first one left.
-/
import Derived.Test.YtebkknkgkjblnaaAppB
import Derived.Test.YtebkknkgkjblnaaArr
namespace Go.Proofs.Ytebkknkgkjblnaa
open Go.RowKit

/-- What each operation leaves as it was: what is older than the statement; the first slice; both together. -/
structure Rx (B : Nat) (T : TypeId) (z n m : Nat) (xs ys : List Value) (w w' : World) : Prop where
  below : Below B w w'
  row : ∀ A c, Row w B T z A n c xs → Row w' B T z A n c xs
  row1 : ∀ A c, Row w B T z A (n + m) c ys → Row w' B T z A (n + m) c ys
/-- A slot that holds such a slice. -/
def RwV (base : Nat) (e : TypeId) (size n : Nat) (xs : List Value) (v : Value) (w : World) : Prop := ∃ A c, v = .slice A n c ∧ Row w base e size A n c xs
section
variable {B z n m : Nat} {T : TypeId} {xs ys : List Value}
theorem Rx.refl (w : World) : Rx B T z n m xs ys w w := ⟨Below.refl _ _, fun _ _ h => h, fun _ _ h => h⟩
theorem Rx.ext {w w' : World} (hB : B ≤ w.heap.size) (h : Ext w w') : Rx B T z n m xs ys w w' := ⟨Below.mono h hB, fun _ _ k => k.keep h, fun _ _ k => k.keep h⟩
theorem RwV.one : ∀ (v : Value) (w w' : World), Rx B T z n m xs ys w w' → RwV B T z n xs v w → RwV B T z n xs v w' := fun _ _ _ hS ⟨A, c, e, hr⟩ => ⟨A, c, e, hS.row _ _ hr⟩
theorem RwV.two : ∀ (v : Value) (w w' : World), Rx B T z n m xs ys w w' → RwV B T z (n + m) ys v w → RwV B T z (n + m) ys v w' := fun _ _ _ hS ⟨A, c, e, hr⟩ => ⟨A, c, e, hS.row1 _ _ hr⟩
theorem Row.le {w : World} {base c : Nat} {A : Option Addr} (h : Row w base T z A n c xs) : n ≤ c := by
  rcases h.2 with ⟨hv, h0⟩ | ⟨g, cap, cur, hv, _, _, hnc, _⟩
  · injection hv with e1 e2 e3; omega
  · injection hv with e1 e2 e3; omega
end
theorem rx_first {P : Program} (w0 w : World) (t ty e : TypeId) (i : TypeInfo) (z : Value) (size bytes : Nat) (h1 : P.underlying t = some (.slice e)) (h2 : P.info? e = some i) (h3 : i.zero = some z)
    (h4 : i.size = size) (h5 : i.bytes = bytes) (h6 : z.cells.size = size) (hpos : 0 < size) (hC : Ext w0 w) (B : Option Addr) (n d : Nat) (xs ys : List Value) (m : Nat) (hn : xs.length = n * size) (hr : Rd w B xs) (h1c : ∀ u ∈ xs, u.oneCell' = true)
    (b1 : n * bytes ≤ 140737488355328) (b2 : n ≤ 140737488355328) :
    ∃ A c w', (Builtin.append_ #[t, t] ty #[.slice none 0 0, .slice B n d]).run P w = .ok (.slice A n c) w' ∧ Rx w0.heap.size e size n m xs ys w w' ∧ Ext w0 w' ∧ RwV w0.heap.size e size n xs (.slice A n c) w' := by
  obtain ⟨A', c', w', hrun, r1, r2, _⟩ := run_append (P := P) w t ty e i z size bytes h1 h2 h3 h4 h5 h6 hpos w0.heap.size none 0 0 [] (Row.nil _ _ _ _) B n d xs hn hr h1c (by rw [Nat.zero_add]; exact b1) (by omega) hC.size
  have hE : Ext w w' := (Below.refl _ _).grown r2 (Nat.le_refl _) (fun k hk => by cases hk)
  rw [Nat.zero_add] at hrun r1
  exact ⟨A', c', w', hrun, Rx.ext hC.size hE, Ext.trans hC hE, A', c', rfl, r1⟩
theorem rx_second {P : Program} (w0 w : World) (t ty e : TypeId) (i : TypeInfo) (z : Value) (size bytes : Nat) (h1 : P.underlying t = some (.slice e)) (h2 : P.info? e = some i) (h3 : i.zero = some z)
    (h4 : i.size = size) (h5 : i.bytes = bytes) (h6 : z.cells.size = size) (hpos : 0 < size) (hC : Ext w0 w) (B : Option Addr) (n m d : Nat) (xs ys : List Value) (v : Value) (hv : RwV w0.heap.size e size n xs v w) (hn : ys.length = m * size) (hr : Rd w B ys) (h1c : ∀ u ∈ ys, u.oneCell' = true)
    (b1 : (n + m) * bytes ≤ 140737488355328) (b2 : n + m ≤ 140737488355328) :
    ∃ A c w', (Builtin.append_ #[t, t] ty #[v, .slice B m d]).run P w = .ok (.slice A (n + m) c) w' ∧ Rx w0.heap.size e size n m xs (xs ++ ys) w w' ∧ Ext w0 w' ∧ RwV w0.heap.size e size (n + m) (xs ++ ys) (.slice A (n + m) c) w' := by
  obtain ⟨A, c, rfl, hrow⟩ := hv
  rcases Nat.eq_zero_or_pos m with rfl | hm
  · have : ys = [] := List.eq_nil_of_length_eq_zero (by simpa using hn)
    subst this
    exact ⟨A, c, w, append_nothing (P := P) w t ty e i size h1 h2 _ A n c xs hrow B d, Rx.refl _, hC, A, c, rfl, by simpa using hrow⟩
  · obtain ⟨A2, c2, W', hrun, q1, q2, _, q4, q5⟩ := append_row (P := P) w t ty e i z size bytes h1 h2 h3 h4 h5 h6 hpos w0.heap.size A n c xs hrow B m d ys hn hm hr h1c b1 b2 hC.size
    exact ⟨A2, c2, W', hrun, ⟨q2, q4, q5⟩, Below.trans hC q2, A2, c2, rfl, q1⟩

end Go.Proofs.Ytebkknkgkjblnaa
