/-
  LAWS FOR ARRAYS AND STRUCTS THAT LIE WHOLE IN A BLOCK OF THE CALL'S OWN, mine: alloc, box, load, store, the result's cell.
-/
import Derived.Test.YtfdpipjkckbgdaaOwn
import Derived.Laws.Rows
import Derived.Laws.Tables
namespace Go.Proofs.Ytfdpipjkckbgdaa
open Go.RowKit

def aggB : Option TypeDesc → Bool
  | some (.struct _) => true
  | some (.array _ _) => true
  | _ => false
theorem aggB_spec {d? : Option TypeDesc} (h : aggB d? = true) : ∃ d, d? = some d ∧ (match d with | .struct _ | .array _ _ => true | _ => false) = true := by
  cases d? with
  | none => cases h
  | some d => refine ⟨d, rfl, ?_⟩; cases d <;> simp_all [aggB]

section
variable {P : Program} (w : World) {ops : Array Oper} {rest : List Oper} {o : Oper} {a : Act} {Q : Exit → Act → World → Prop}
theorem wpl_load_own (hg : o.guard = none) (ty : TypeId) (x : Operand) (hop : o.op = .load ty x) (hd : aggB (P.underlying ty) = true) (n : Nat) (hi : (P.info? ty).map (·.size) = some n)
    (g : Nat) (hx : a.eval x = .pointer (some ⟨g, 0, none⟩)) (t : TypeId) (xs : List Value) (hO : Own w g t xs) (hn : xs.length = n)
    (h : wpList P ops Q rest (a.put o.dst (.agg xs.toArray)) w) : wpList P ops Q (o :: rest) a w := by
  obtain ⟨d, h1, h2⟩ := aggB_spec hd
  exact wpList_load_row hg ty x hop g hx t xs.toArray (0, 0) d hO h1 (by cases d <;> first | rfl | cases h2) (by simp [hi, hn]) h

theorem wpl_store_own (hg : o.guard = none) (ty : TypeId) (x y : Operand) (hop : o.op = .store ty x y) (n : Nat) (hi : (P.info? ty).map (·.size) = some n)
    (g : Nat) (hx : a.eval x = .pointer (some ⟨g, 0, none⟩)) (ys : List Value) (hy : a.eval y = .agg ys.toArray) (t : TypeId) (xs : List Value) (hO : Own w g t xs) (hn : ys.length = n) (hl : xs.length = n)
    (h1 : ∀ u ∈ ys, u.oneCell' = true)
    (hK : ∀ w', Own w' g t ys → w.grownBy w' (some g) → w'.heap.size = w.heap.size → wpList P ops Q rest (a.put o.dst undef) w') : wpList P ops Q (o :: rest) a w := by
  refine wpList_store_row hg ty x y hop g ys.toArray hx hy t xs.toArray hO (by simp [hi, hn]) (by simp; omega) (by simpa using h1) (hK _ ?_ ?_ ?_)
  · exact setRow_heap w g _ _ t _ hO
  · exact ⟨rfl, rfl, rfl, by simp [World.setRow], fun j _ hj => setRow_other w g j _ (fun q => hj (by rw [q]))⟩
  · simp [World.setRow]

theorem wpl_alloc_own (hg : o.guard = none) (ty : TypeId) (hop : o.op = .alloc ty) (z : Value) (hz : (P.info? ty).map (·.zero) = some (some z))
    (hK : ∀ w', Own w' w.heap.size ty z.cells.toList → Below w.heap.size w w' → w'.heap.size = w.heap.size + 1 → wpList P ops Q rest (a.put o.dst (.pointer (some ⟨w.heap.size, 0, none⟩))) w') : wpList P ops Q (o :: rest) a w := by
  refine wpList_plain hg fun K hK' => ?_
  have hrun : (Instr.alloc ty true (.tuple #[])).run P w = .ok (.pointer (some ⟨w.heap.size, 0, none⟩)) (w.alloc (.cells z.cells ty)) := by
    cases hq : P.info? ty with
    | none => simp [hq] at hz
    | some i =>
      simp [hq] at hz
      simp [Instr.alloc, zeroValue, typeInfo, hq, hz, go_sem]
  unfold Oper.wp
  simp only [execOp, hop]
  simp [hrun, Result.andThen]
  refine hK' _ _ (hK _ ?_ ?_ ?_)
  · have := Own.new w ty z.cells.toList
    rwa [Array.toArray_toList] at this
  · exact (Below.refl _ _).alloc (Nat.le_refl _) _
  · simp

theorem wpl_alloc_agg (hg : o.guard = none) (ty : TypeId) (hop : o.op = .alloc ty) (zs : List Value) (hz : (P.info? ty).map (·.zero) = some (some (.agg zs.toArray)))
    (hK : ∀ w', Own w' w.heap.size ty zs → Below w.heap.size w w' → w'.heap.size = w.heap.size + 1 → wpList P ops Q rest (a.put o.dst (.pointer (some ⟨w.heap.size, 0, none⟩))) w') : wpList P ops Q (o :: rest) a w :=
  wpl_alloc_own w hg ty hop _ hz hK

theorem wpl_box_own (hg : o.guard = none) (ty : TypeId) (x : Operand) (hop : o.op = .box ty x) (ys : List Value) (hy : a.eval x = .agg ys.toArray)
    (hK : ∀ w', Own w' w.heap.size ty ys → Below w.heap.size w w' → w'.heap.size = w.heap.size + 1 → wpList P ops Q rest (a.put o.dst (.pointer (some ⟨w.heap.size, 0, none⟩))) w') : wpList P ops Q (o :: rest) a w := by
  refine wpList_plain hg fun K hK' => ?_
  have hrun : (Instr.box ty (.agg ys.toArray)).run P w = .ok (.pointer (some ⟨w.heap.size, 0, none⟩)) (w.alloc (.cells ys.toArray ty)) := by
    simp [Instr.box, newVar, newRow, go_sem, Value.cells]
  unfold Oper.wp
  simp only [execOp, hop, hy]
  simp [hrun, Result.andThen]
  refine hK' _ _ (hK _ (Own.new w ty ys) ?_ ?_)
  · exact (Below.refl _ _).alloc (Nat.le_refl _) _
  · simp
end

theorem results_own {P : Program} {fn : Func} {p : Tmp} {ty : TypeId} (h : fn.results = #[.cell p ty]) (hd : aggB (P.underlying ty) = true) (n : Nat) (hi : (P.info? ty).map (·.size) = some n)
    (tmps : Array Value) (w : World) (g : Nat) (t : TypeId) (xs : List Value) (hp : tmps.getD p undef = .pointer (some ⟨g, 0, none⟩)) (hO : Own w g t xs) (hn : xs.length = n) :
    (results fn tmps).run P w = .ok (.agg xs.toArray) w := by
  obtain ⟨d, h1, h2⟩ := aggB_spec hd
  exact results_cell_row h tmps w g t xs.toArray (0, 0) d hp hO h1 (by cases d <;> first | rfl | cases h2) (by simp [hi, hn])

/-- Truths as values. -/
def bools (bs : List Bool) : List Value := bs.map Value.bool
theorem bools_len (bs : List Bool) : (bools bs).length = bs.length := by simp [bools]
theorem bools_one (bs : List Bool) : ∀ u ∈ bools bs, u.oneCell' = true := by
  intro u hu; simp [bools] at hu; rcases hu with ⟨_, rfl⟩ | ⟨_, rfl⟩ <;> rfl
theorem bools_set (bs : List Bool) (k : Nat) (b : Bool) : (bools bs).set k (.bool b) = bools (bs.set k b) := by simp [bools, List.map_set]
theorem bools_get (bs : List Bool) (k : Nat) (h : k < bs.length) : (bools bs)[k]? = some (.bool bs[k]) := by simp [bools, h]

end Go.Proofs.Ytfdpipjkckbgdaa
