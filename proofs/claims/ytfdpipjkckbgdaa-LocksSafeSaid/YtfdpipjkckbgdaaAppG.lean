/-
  APPEND of one element in a region that draws its order, mine: onto a slice of the call's own of any length, where other slices of the call's own lie beside it.
-/
import Derived.Test.YtfdpipjkckbgdaaAppB
namespace Go.Proofs.Ytfdpipjkckbgdaa
open Go.RowKit

/-- What each operation keeps: all but one block; and the slice that is longer by one. -/
structure Gw (row : Option Nat) (B z n : Nat) (T : TypeId) (ys : List Value) (w w' : World) : Prop where
  grown : w.grownBy w' row
  row1 : ∀ A c, Row w B T z A (n + 1) c ys → Row w' B T z A (n + 1) c ys
/-- What each world is like: all but one block as at first; the slice as it was. -/
structure Gc (w0 : World) (A0 : Option Addr) (c0 : Nat) (B z n : Nat) (T : TypeId) (xs : List Value) (w : World) : Prop where
  grown : w0.grownBy w (blk A0)
  row : Row w B T z A0 n c0 xs
section
variable {row : Option Nat} {B z n : Nat} {T : TypeId} {xs ys : List Value}
theorem Gw.refl (w : World) : Gw row B z n T ys w w := ⟨World.grownBy.refl _ _, fun _ _ h => h⟩
theorem Gw.ext {w w' : World} (h : Ext w w') : Gw row B z n T ys w w' := ⟨⟨h.os, h.tape, h.output, h.size, fun i hi _ => h.block i hi⟩, fun _ _ k => k.keep h⟩
theorem Gc.ext {w0 : World} {A0 : Option Addr} {c0 : Nat} {w w' : World} (g : Gc w0 A0 c0 B z n T xs w) (h : Ext w w') : Gc w0 A0 c0 B z n T xs w' := ⟨g.grown.trans ⟨h.os, h.tape, h.output, h.size, fun i hi _ => h.block i hi⟩, g.row.keep h⟩
theorem Gc.start {w0 : World} {A0 : Option Addr} {c0 : Nat} (h : Row w0 B T z A0 n c0 xs) : Gc w0 A0 c0 B z n T xs w0.drew := ⟨⟨rfl, rfl, rfl, Nat.le_refl _, fun _ _ _ => rfl⟩, h.drew⟩
theorem Gc.cell {w0 : World} {A0 : Option Addr} {c0 : Nat} {w : World} (g : Gc w0 A0 c0 B z n T xs w) (hB : ∀ h, blk A0 = some h → B ≤ h) {p : Addr} {v : Value} (hp : p.block < B) (h : w0.cell? p = some v) : w.cell? p = some v :=
  g.grown.cell h (fun e => by have := hB _ e.symm; omega)
/-- The slice that holds the new element alone. -/
def SlG (T : TypeId) (new : List Value) (row : Option Nat) (v : Value) (w : World) : Prop := ∃ g, v = .slice (some ⟨g, 0, none⟩) 1 1 ∧ Own w g T new ∧ some g ≠ row
theorem SlG.keep {new : List Value} : ∀ (v : Value) (w w' : World), Gw row B z n T ys w w' → SlG T new row v w → SlG T new row v w' := fun _ _ _ hS ⟨g, e, ho, hne⟩ => ⟨g, e, ho.grown hS.grown hne, hne⟩
theorem SlG.new {w0 : World} {A0 : Option Addr} {c0 : Nat} {w : World} {new : List Value} (g : Gc w0 A0 c0 B z n T xs w) : SlG T new (blk A0) (.slice (some ⟨w.heap.size, 0, none⟩) 1 1) (w.alloc (.cells new.toArray T)) :=
  ⟨_, rfl, Own.new w T new, fun e => by have := (g.row.at_ _ e.symm).2; omega⟩
/-- The slice that is longer by one. -/
def GrV (B z n : Nat) (T : TypeId) (ys : List Value) (row : Option Nat) (lo : Nat) (v : Value) (w : World) : Prop := ∃ A' c', v = .slice A' (n + 1) c' ∧ Row w B T z A' (n + 1) c' ys ∧ (blk A' = row ∨ ∃ h, blk A' = some h ∧ lo ≤ h)
theorem GrV.keep {lo : Nat} : ∀ (v : Value) (w w' : World), Gw row B z n T ys w w' → GrV B z n T ys row lo v w → GrV B z n T ys row lo v w' := fun _ _ _ hS ⟨A', c', e, hr, hb⟩ => ⟨A', c', e, hS.row1 _ _ hr, hb⟩
end

theorem grow_run {P : Program} (w : World) (t ty e : TypeId) (i : TypeInfo) (z : Value) (size bytes : Nat) (h1 : P.underlying t = some (.slice e)) (h2 : P.info? e = some i) (h3 : i.zero = some z)
    (h4 : i.size = size) (h5 : i.bytes = bytes) (h6 : z.cells.size = size) (hpos : 0 < size) (w0 : World) (base : Nat) (A : Option Addr) (n c : Nat) (xs : List Value) (hC : Gc w0 A c base size n e xs w)
    (new : List Value) (hn : new.length = size) (h1c : ∀ u ∈ new, u.oneCell' = true) (ys : List Value) (hys : xs ++ new = ys) (v : Value) (hv : SlG e new (blk A) v w)
    (b1 : (n + 1) * bytes ≤ 140737488355328) (b2 : n + 1 ≤ 140737488355328) (hbase : base ≤ w.heap.size) :
    ∃ A' c' w', (Builtin.append_ #[t, t] ty #[.slice A n c, v]).run P w = .ok (.slice A' (n + 1) c') w' ∧ Gw (blk A) base size n e ys w w' ∧ Gc w0 A c base size n e xs w' ∧ GrV base size n e ys (blk A) w0.heap.size (.slice A' (n + 1) c') w' := by
  subst hys
  obtain ⟨g, rfl, hO, hne⟩ := hv
  obtain ⟨A1, c1, w1, r1, q1, q2, q3⟩ := run_append (P := P) w t ty e i z size bytes h1 h2 h3 h4 h5 h6 hpos base A n c xs hC.row (some ⟨g, 0, none⟩) 1 1 new (by omega) hO.rd0 h1c b1 b2 hbase
  obtain ⟨A2, c2, w2, r2, p1, _, _, p4, p5⟩ := append_row (P := P) w t ty e i z size bytes h1 h2 h3 h4 h5 h6 hpos base A n c xs hC.row (some ⟨g, 0, none⟩) 1 1 new (by omega) (by omega) hO.rd0 h1c b1 b2 hbase
  have he := r1.symm.trans r2
  injection he with e1 e2
  subst e2
  refine ⟨A1, c1, w1, r1, ⟨q2, p5⟩, ⟨hC.grown.trans q2, p4 _ _ hC.row⟩, A1, c1, rfl, q1, ?_⟩
  rcases q3 with h | h
  · exact .inl h
  · exact .inr ⟨_, h, hC.grown.size⟩

end Go.Proofs.Ytfdpipjkckbgdaa
