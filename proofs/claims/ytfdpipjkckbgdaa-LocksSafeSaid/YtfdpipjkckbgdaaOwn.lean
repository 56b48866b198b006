/-
  WORDS AND LAWS FOR MEMORY OF THE CALL'S OWN, mine: a block known whole; make; append within the capacity.
-/
import Derived.Test.YtfdpipjkckbgdaaBase
namespace Go.Proofs.Ytfdpipjkckbgdaa
open Go.RowKit

/-- Block g is just the cells xs, none frozen. -/
def Own (w : World) (g : Nat) (t : TypeId) (xs : List Value) : Prop := w.heap[g]? = some (.cells xs.toArray t (0, 0))
section
variable {w w' : World} {g : Nat} {t : TypeId} {xs : List Value}
theorem Own.lt (h : Own w g t xs) : g < w.heap.size := (Array.getElem?_eq_some_iff.1 h).1
theorem Own.cell (h : Own w g t xs) (i : Nat) : w.cell? ⟨g, i, none⟩ = xs[i]? := by
  rw [cell_of_row w g i xs.toArray t (0, 0) h]; simp
theorem Own.frozen (h : Own w g t xs) (i : Nat) : w.frozen? ⟨g, i, none⟩ = false := by
  unfold Own at h; simp [World.frozen?, h]
theorem Own.set (h : Own w g t xs) (i : Nat) (v : Value) : Own (w.setCell ⟨g, i, none⟩ v) g t (xs.set i v) := by
  unfold Own at h ⊢
  simp [World.setCell, Array.getElem?_modify, h]
theorem Own.far (h : Own w g t xs) {p : Addr} (hp : g ≠ p.block) (v : Value) : Own (w.setCell p v) g t xs := (Below.heap_setCell w p v g hp).trans h
theorem Own.alloc (h : Own w g t xs) (o : Obj) : Own (w.alloc o) g t xs := (Below.heap_alloc w o g h.lt).trans h
theorem Own.drew (h : Own w g t xs) : Own w.drew g t xs := h
theorem Own.drewN (h : Own w g t xs) (n : Nat) : Own (w.drewN n) g t xs := h
theorem Own.new (w : World) (t : TypeId) (xs : List Value) : Own (w.alloc (.cells xs.toArray t)) w.heap.size t xs := heap_alloc_new w _
theorem Own.keep (h : Own w g t xs) (hb : Below w.heap.size w w') : Own w' g t xs := (hb.block g h.lt).trans h
theorem Own.below {B : Nat} (h : Own w g t xs) (hb : Below B w w') (hg : g < B) : Own w' g t xs := (hb.block g hg).trans h
theorem Own.grown {row : Option Nat} (h : Own w g t xs) (hb : w.grownBy w' row) (hg : some g ≠ row) : Own w' g t xs := (hb.block g h.lt hg).trans h
theorem Own.rd (h : Own w g t xs) (off : Nat) : Rd w (some ⟨g, off, none⟩) (xs.drop off) := fun k v hk =>
  ⟨g, off, rfl, by rw [h.cell]; simpa [List.getElem?_drop] using hk⟩
theorem Own.rd0 (h : Own w g t xs) : Rd w (some ⟨g, 0, none⟩) xs := by simpa using h.rd 0
end

theorem below_of_grown {B : Nat} {w0 w w' : World} (h : Below B w0 w) {g : Nat} (hg : w.grownBy w' (some g)) (hB : B ≤ g) (hs : B ≤ w.heap.size) : Below B w0 w' :=
  h.grown hg hs (fun k hk => by injection hk with hk; omega)

section
variable {P : Program} (w : World) {ops : Array Oper} {rest : List Oper} {o : Oper} {a : Act} {Q : Exit → Act → World → Prop}
/-- make. -/
theorem wpl_make (hg : o.guard = none) (l c : Operand) (t : TypeId) (hop : o.op = Op.makeSlice t l c)
    (e : TypeId) (i : TypeInfo) (z : Value) (size bytes : Nat) (h1 : P.underlying t = some (.slice e)) (h2 : P.info? e = some i) (h3 : i.zero = some z) (h4 : i.size = size) (h5 : i.bytes = bytes)
    (L C : Nat) (hl : a.eval l = .int .i64 L) (hc : a.eval c = .int .i64 C) (hLC : L ≤ C) (b2 : bytes * C ≤ 281474976710656) (b3 : C ≤ 9223372036854775807)
    (hK : ∀ w', Own w' w.heap.size e (madeCells z.cells (C * size)).toList → Below w.heap.size w w' → w'.heap.size = w.heap.size + 1 → wpList P ops Q rest (a.put o.dst (.slice (some ⟨w.heap.size, 0, none⟩) L C)) w') :
    wpList P ops Q (o :: rest) a w := by
  refine wpList_plain hg fun K hK' => ?_
  subst h4; subst h5
  have hr := run_make (P := P) w t e i z h1 h2 h3 .i64 .i64 (L : Int) (C : Int) (by omega) (by omega) (by
    have h : ((i.bytes * C : Nat) : Int) ≤ 281474976710656 := by omega
    rwa [Int.natCast_mul] at h) (by omega)
  simp only [Int.toNat_natCast] at hr
  unfold Oper.wp
  simp only [execOp, hop, hl, hc]
  simp [hr, Result.andThen]
  refine hK' _ _ (hK _ ?_ ?_ ?_)
  · have := Own.new w e (madeCells z.cells (C * i.size)).toList
    rwa [Array.toArray_toList] at this
  · exact (Below.refl _ _).alloc (Nat.le_refl _) _
  · simp

/-- append within the capacity, from whatever reads as 'news'. -/
theorem wpl_append_room (hg : o.guard = none) (s x : Operand) (t : TypeId) (hop : o.op = Op.call { callee := Callee.builtin Builtin.append, args := #[s, x], argTypes := #[t, t] })
    (e : TypeId) (i : TypeInfo) (size : Nat) (h1 : P.underlying t = some (.slice e)) (h2 : P.info? e = some i) (h4 : i.size = size)
    (g k cap : Nat) (xs : List Value) (hs : a.eval s = .slice (some ⟨g, 0, none⟩) k cap) (hown : Own w g e xs)
    (A : Option Addr) (m c : Nat) (news : List Value) (hx : a.eval x = .slice A m c) (hn : news.length = m * size) (hr : Rd w A news) (h1c : ∀ u ∈ news, u.oneCell' = true)
    (b1 : k + m ≤ cap) (b2 : k * size + news.length ≤ xs.length) (hpos : 0 < size)
    (hK : ∀ w', Own w' g e (xs.take (k * size) ++ news ++ xs.drop (k * size + news.length)) → w.grownBy w' (some g) → w'.heap.size = w.heap.size → wpList P ops Q rest (a.put o.dst (.slice (some ⟨g, 0, none⟩) (k + m) cap)) w') :
    wpList P ops Q (o :: rest) a w := by
  refine wpList_plain hg fun K hK' => ?_
  subst h4
  rcases Nat.eq_zero_or_pos m with rfl | hm
  · have : news = [] := List.eq_nil_of_length_eq_zero (by simpa using hn)
    subst this
    have hrun : (Builtin.append_ #[t, t] o.type #[.slice (some ⟨g, 0, none⟩) k cap, .slice A 0 c]).run P w = .ok (.slice (some ⟨g, 0, none⟩) k cap) w := by
      have b3 : k ≤ cap := by omega
      simp [Builtin.append_, run_underlying h1, sizeOf, typeInfo, h2, Builtin.lenOf, b3]
      cases A <;> simp [Builtin.firstCells, loadCells, storeCells, go_sem]
    unfold Oper.wp
    simp only [execOp, hop, resolve, invoke, builtin, hs, hx, Sem.run_bind, Sem.run_pure, Result.andThen_ok, List.map_toArray, List.map_cons, List.map_nil, hrun]
    exact hK' _ _ (hK w (by simpa using hown) (World.grownBy.refl _ _) rfl)
  · have hpos' : 0 < news.length := by rw [hn]; exact Nat.mul_pos hm hpos
    obtain ⟨b, off, rfl, _⟩ := hr 0 news[0] (List.getElem?_eq_getElem hpos')
    have hcells : ∀ j u, news[j]? = some u → w.cell? ((⟨b, off, none⟩ : Addr).add j) = some u := by
      intro j u hu
      obtain ⟨b', off', e', hc⟩ := hr j u hu
      injection e' with e'; injection e' with e1 e2
      subst e1; subst e2
      have : (⟨b, off, none⟩ : Addr).add j = ⟨b, off + j, none⟩ := by unfold Addr.add; split <;> simp_all
      rw [this]; exact hc
    have hrun := run_append_room (P := P) w t o.type e i h1 h2 g k cap xs.toArray hown ⟨b, off, none⟩ m c news hn hcells h1c b1 (by simpa using b2)
    unfold Oper.wp
    simp only [execOp, hop, resolve, invoke, builtin, hs, hx, Sem.run_bind, Sem.run_pure, Result.andThen_ok, List.map_toArray, List.map_cons, List.map_nil, hrun]
    refine hK' _ _ (hK _ ?_ ?_ ?_)
    · exact setRow_heap w g _ _ e _ hown
    · exact ⟨rfl, rfl, rfl, by simp [World.setRow], fun j _ hj => setRow_other w g j _ (fun q => hj (by rw [q]))⟩
    · simp [World.setRow]
end

theorem rd1i (w : World) (a : Int) : Rd (w.alloc (.cells #[.int .i64 a] 3)) (some ⟨w.heap.size, 0, none⟩) (ints [a]) := (Own.new w 3 (ints [a])).rd0
theorem rd2i (w : World) (a b : Int) : Rd (w.alloc (.cells #[.int .i64 a, .int .i64 b] 3)) (some ⟨w.heap.size, 0, none⟩) (ints [a, b]) := (Own.new w 3 (ints [a, b])).rd0
theorem rd3i (w : World) (a b c : Int) : Rd (w.alloc (.cells #[.int .i64 a, .int .i64 b, .int .i64 c] 3)) (some ⟨w.heap.size, 0, none⟩) (ints [a, b, c]) := (Own.new w 3 (ints [a, b, c])).rd0

/-- The row of the table of int. -/
theorem info_int : (Try.prog.info? 3).map (fun i => (i.zero, i.size, i.bytes)) = some (some (.int .i64 0), 1, 8) := by kernel_rfl

end Go.Proofs.Ytfdpipjkckbgdaa
