/-
  APPEND that may grow, mine: onto a slice of the call's own, from whatever reads as a list.
-/
import Derived.Test.YtfdpipjkckbgdaaOwn
import Derived.Maps.AppendAt
import Derived.ArgAppend
namespace Go.Proofs.Ytfdpipjkckbgdaa
open Go.RowKit

/-- A slice of the call's own (from block 'base' on): its elements are xs. -/
def Row (w : World) (base : Nat) (e : TypeId) (size : Nat) (A : Option Addr) (n c : Nat) (xs : List Value) : Prop := w.ownsRow base e size (.slice A n c) n xs
/-- The block that it lies in. -/
def blk (A : Option Addr) : Option Nat := A.map (·.block)
section
variable {w w' : World} {base n c size : Nat} {e : TypeId} {A : Option Addr} {xs : List Value}
theorem Row.len (h : Row w base e size A n c xs) : xs.length = n * size := h.1
theorem Row.nil (w : World) (base : Nat) (e : TypeId) (size : Nat) : Row w base e size none 0 0 [] := ⟨by simp, .inl ⟨rfl, rfl⟩⟩
theorem Row.rd (h : Row w base e size A n c xs) : Rd w A xs := Rd.ofRow h
theorem Row.at_ (h : Row w base e size A n c xs) : ∀ g, blk A = some g → base ≤ g ∧ g < w.heap.size := by
  intro g hg
  cases A with
  | none => simp [blk] at hg
  | some a => exact World.ownsRow.lt h g (by simpa [blk, Value.ownBlock] using hg)
theorem Row.grown (h : Row w base e size A n c xs) {row : Option Nat} (hg : w.grownBy w' row) (hne : blk A = none ∨ blk A ≠ row) : Row w' base e size A n c xs := by
  refine World.ownsRow.kept h hg ?_
  cases A with
  | none => left; rfl
  | some a => simpa [blk, Value.ownBlock] using hne
theorem Row.keep (h : Row w base e size A n c xs) (hb : Below w.heap.size w w') : Row w' base e size A n c xs :=
  h.grown (row := none) ⟨hb.os, hb.tape, hb.output, hb.size, fun i hi _ => hb.block i hi⟩ (by cases h : blk A <;> simp)
theorem Row.drew (h : Row w base e size A n c xs) : Row w.drew base e size A n c xs := h
theorem Row.drewN (h : Row w base e size A n c xs) (k : Nat) : Row (w.drewN k) base e size A n c xs := h
theorem Row.alloc (h : Row w base e size A n c xs) (o : Obj) : Row (w.alloc o) base e size A n c xs := World.ownsRow.alloc h o
theorem Row.mono (h : Row w base e size A n c xs) {base' : Nat} (hb : base' ≤ base) : Row w base' e size A n c xs := by
  refine ⟨h.1, ?_⟩
  rcases h.2 with hn | ⟨g, cap, cur, hv, hg, rest⟩
  · exact .inl hn
  · exact .inr ⟨g, cap, cur, hv, Nat.le_trans hb hg, rest⟩
theorem Row.empty (h : Row w base e size A n c xs) (hn : n = 0) : xs = [] := List.eq_nil_of_length_eq_zero (by rw [h.len, hn]; simp)
end

theorem Row.ofOwn {w : World} {base g n size : Nat} {e : TypeId} {xs : List Value} (h : Own w g e xs) (hb : base ≤ g) (hl : xs.length = n * size) (hn : n ≤ 9223372036854775807) : Row w base e size (some ⟨g, 0, none⟩) n n xs :=
  ⟨hl, .inr ⟨g, n, xs.toArray, rfl, hb, h, Nat.le_refl _, by unfold maxLen; omega, by simpa using hl, by rw [← hl]; simp⟩⟩

theorem below_grown {B : Nat} {w0 w w' : World} (h : Below B w0 w) {row : Option Nat} (hg : w.grownBy w' row) (hs : B ≤ w.heap.size) (hr : ∀ g, row = some g → B ≤ g) : Below B w0 w' := h.grown hg hs hr

section
variable {P : Program} (w : World) {ops : Array Oper} {rest : List Oper} {o : Oper} {a : Act} {Q : Exit → Act → World → Prop}
theorem append_nothing (t ty e : TypeId) (i : TypeInfo) (size : Nat) (h1 : P.underlying t = some (.slice e)) (h2 : P.info? e = some i)
    (base : Nat) (A : Option Addr) (n c : Nat) (xs : List Value) (hown : Row w base e size A n c xs) (B : Option Addr) (d : Nat) :
    (Builtin.append_ #[t, t] ty #[.slice A n c, .slice B 0 d]).run P w = .ok (.slice A n c) w := by
  rcases hown.2 with ⟨hv, rfl⟩ | ⟨g, cap, cur, hv, _, _, hnc, _⟩
  · injection hv with e1 e2 e3
    subst e1; subst e3
    cases B <;> simp [Builtin.append_, run_underlying h1, sizeOf, typeInfo, h2, Builtin.lenOf, Builtin.firstCells, loadCells, go_sem]
  · injection hv with e1 e2 e3
    subst e1; subst e3
    cases B <;> simp [Builtin.append_, run_underlying h1, sizeOf, typeInfo, h2, Builtin.lenOf, Builtin.firstCells, loadCells, storeCells, go_sem, hnc]

theorem run_append (t ty e : TypeId) (i : TypeInfo) (z : Value) (size bytes : Nat) (h1 : P.underlying t = some (.slice e)) (h2 : P.info? e = some i) (h3 : i.zero = some z)
    (h4 : i.size = size) (h5 : i.bytes = bytes) (h6 : z.cells.size = size) (hpos : 0 < size)
    (base : Nat) (A : Option Addr) (n c : Nat) (xs : List Value) (hown : Row w base e size A n c xs)
    (B : Option Addr) (m d : Nat) (news : List Value) (hn : news.length = m * size) (hr : Rd w B news) (h1c : ∀ u ∈ news, u.oneCell' = true)
    (b1 : (n + m) * bytes ≤ 140737488355328) (b2 : n + m ≤ 140737488355328) (hbase : base ≤ w.heap.size) :
    ∃ A' c' w', (Builtin.append_ #[t, t] ty #[.slice A n c, .slice B m d]).run P w = .ok (.slice A' (n + m) c') w' ∧ Row w' base e size A' (n + m) c' (xs ++ news) ∧ w.grownBy w' (blk A) ∧
      (blk A' = blk A ∨ blk A' = some w.heap.size) := by
  rcases Nat.eq_zero_or_pos m with rfl | hm
  · have : news = [] := List.eq_nil_of_length_eq_zero (by simpa using hn)
    subst this
    exact ⟨A, c, w, append_nothing w t ty e i size h1 h2 base A n c xs hown B d, by simpa using hown, World.grownBy.refl _ _, .inl rfl⟩
  · have hpos' : 0 < news.length := by rw [hn]; exact Nat.mul_pos hm hpos
    obtain ⟨b, off, rfl, _⟩ := hr 0 news[0] (List.getElem?_eq_getElem hpos')
    have hcells : ∀ j u, news[j]? = some u → w.cell? ((⟨b, off, none⟩ : Addr).add j) = some u := by
      intro j u hu
      obtain ⟨b', off', e', hc⟩ := hr j u hu
      injection e' with e'; injection e' with e1 e2
      subst e1; subst e2
      have : (⟨b, off, none⟩ : Addr).add j = ⟨b, off + j, none⟩ := by unfold Addr.add; split <;> simp_all
      rw [this]; exact hc
    obtain ⟨v', w', hrun, hown', hg, _, hb⟩ := run_append_own_at (P := P) w base t ty e i z size bytes h1 h2 h3 h4 h5 h6 hpos (.slice A n c) n xs hown ⟨b, off, none⟩ m d news hn hcells h1c (by unfold maxLen; omega) b1 hbase
    have hform : ∃ A' c', v' = .slice A' (n + m) c' := by
      rcases hown'.2 with ⟨rfl, h0⟩ | ⟨g, cap, cur, rfl, _⟩
      · omega
      · exact ⟨_, _, rfl⟩
    obtain ⟨A', c', rfl⟩ := hform
    refine ⟨A', c', w', hrun, hown', ?_, ?_⟩
    · cases A <;> exact hg
    · cases A <;> cases A' <;> first | (exact hb) | (simp [Value.ownBlock] at hb) | (simpa [blk, Value.ownBlock] using hb)

theorem wpl_append (hg : o.guard = none) (s x : Operand) (t : TypeId) (hop : o.op = Op.call { callee := Callee.builtin Builtin.append, args := #[s, x], argTypes := #[t, t] })
    (e : TypeId) (i : TypeInfo) (z : Value) (size bytes : Nat) (h1 : P.underlying t = some (.slice e)) (h2 : P.info? e = some i) (h3 : i.zero = some z)
    (h4 : i.size = size) (h5 : i.bytes = bytes) (h6 : z.cells.size = size) (hpos : 0 < size)
    (base : Nat) (A : Option Addr) (n c : Nat) (xs : List Value) (hs : a.eval s = .slice A n c) (hown : Row w base e size A n c xs)
    (B : Option Addr) (m d : Nat) (news : List Value) (hx : a.eval x = .slice B m d) (hn : news.length = m * size) (hr : Rd w B news) (h1c : ∀ u ∈ news, u.oneCell' = true)
    (N : Nat) (L : List Value) (hN : n + m = N) (hL : xs ++ news = L) (b1 : N * bytes ≤ 140737488355328) (b2 : N ≤ 140737488355328) (hbase : base ≤ w.heap.size)
    (hK : ∀ A' c' w', Row w' base e size A' N c' L → w.grownBy w' (blk A) → (blk A' = blk A ∨ blk A' = some w.heap.size) → wpList P ops Q rest (a.put o.dst (.slice A' N c')) w') :
    wpList P ops Q (o :: rest) a w := by
  subst hN; subst hL
  refine wpList_plain hg fun K hK' => ?_
  obtain ⟨A', c', w', hrun, r1, r2, r3⟩ := run_append (P := P) w t o.type e i z size bytes h1 h2 h3 h4 h5 h6 hpos base A n c xs hown B m d news hn hr h1c b1 b2 hbase
  unfold Oper.wp
  simp only [execOp, hop, resolve, invoke, builtin, hs, hx, Sem.run_bind, Sem.run_pure, Result.andThen_ok, List.map_toArray, List.map_cons, List.map_nil, hrun]
  exact hK' _ _ (hK A' c' w' r1 r2 r3)
end

section
variable {P : Program} (w : World)
theorem append_zero (t ty e : TypeId) (i : TypeInfo) (h1 : P.underlying t = some (.slice e)) (h2 : P.info? e = some i) (A : Option Addr) (n c : Nat) (hnc : n ≤ c) (hA : A = none → n = 0) (B : Option Addr) (d : Nat) :
    (Builtin.append_ #[t, t] ty #[.slice A n c, .slice B 0 d]).run P w = .ok (.slice A n c) w := by
  cases A with
  | none =>
    obtain rfl := hA rfl
    cases B <;> simp [Builtin.append_, run_underlying h1, sizeOf, typeInfo, h2, Builtin.lenOf, Builtin.firstCells, loadCells, go_sem]
  | some a => cases B <;> simp [Builtin.append_, run_underlying h1, sizeOf, typeInfo, h2, Builtin.lenOf, Builtin.firstCells, loadCells, storeCells, go_sem, hnc]

/-- Onto a slice without spare room: nothing old turns. -/
theorem append_full (t ty e : TypeId) (i : TypeInfo) (z : Value) (size bytes : Nat) (h1 : P.underlying t = some (.slice e)) (h2 : P.info? e = some i) (h3 : i.zero = some z)
    (h4 : i.size = size) (h5 : i.bytes = bytes) (h6 : z.cells.size = size) (hpos : 0 < size)
    (b off n : Nat) (xs : List Value) (hxl : xs.length = n * size) (hxr : Rd w (some ⟨b, off, none⟩) xs)
    (B : Option Addr) (m d : Nat) (news : List Value) (hn : news.length = m * size) (hr : Rd w B news)
    (b1 : (n + m) * bytes ≤ 140737488355328) (b2 : n + m ≤ 140737488355328) :
    ∃ A' c' w', (Builtin.append_ #[t, t] ty #[.slice (some ⟨b, off, none⟩) n n, .slice B m d]).run P w = .ok (.slice A' (n + m) c') w' ∧ Rd w' A' (xs ++ news) ∧ Below w.heap.size w w' := by
  rcases Nat.eq_zero_or_pos m with rfl | hm
  · have : news = [] := List.eq_nil_of_length_eq_zero (by simpa using hn)
    subst this
    exact ⟨_, n, w, append_zero w t ty e i h1 h2 _ n n (Nat.le_refl _) (fun h => by cases h) B d, by simpa using hxr, Below.refl _ _⟩
  · have hpos' : 0 < news.length := by rw [hn]; exact Nat.mul_pos hm hpos
    obtain ⟨b', off', rfl, _⟩ := hr 0 news[0] (List.getElem?_eq_getElem hpos')
    have cells : ∀ (b off : Nat) (ys : List Value), Rd w (some ⟨b, off, none⟩) ys → ∀ j u, ys[j]? = some u → w.cell? ((⟨b, off, none⟩ : Addr).add j) = some u := by
      intro b off ys hy j u hu
      obtain ⟨b2, off2, e', hc⟩ := hy j u hu
      injection e' with e'; injection e' with e1 e2
      subst e1; subst e2
      have : (⟨b, off, none⟩ : Addr).add j = ⟨b, off + j, none⟩ := by unfold Addr.add; split <;> simp_all
      rw [this]; exact hc
    obtain ⟨v', w', hrun, hown, hg⟩ := run_append_arg_grows (P := P) w t ty e i z size bytes h1 h2 h3 h4 h5 h6 hpos ⟨b, off, none⟩ n n xs hxl (cells _ _ _ hxr) ⟨b', off', none⟩ m d news hn (cells _ _ _ hr) (by omega) (by unfold maxLen; omega) b1
    have hform : ∃ A' c', v' = .slice A' (n + m) c' := by
      rcases hown.2 with ⟨rfl, h0⟩ | ⟨g, cap, cur, rfl, _⟩
      · omega
      · exact ⟨_, _, rfl⟩
    obtain ⟨A', c', rfl⟩ := hform
    exact ⟨A', c', w', hrun, Rd.ofRow hown, (Below.refl _ _).grown hg (Nat.le_refl _) (fun k hk => by cases hk)⟩
end

end Go.Proofs.Ytfdpipjkckbgdaa
