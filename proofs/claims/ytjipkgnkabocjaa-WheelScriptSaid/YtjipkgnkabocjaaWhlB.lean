/-
  WALKS of package wheel: New, Len, Now, find. The state word WS.
-/
import Derived.Test.YtjipkgnkabocjaaWhlA
namespace Go.Proofs.Ytjipkgnkabocjaa
open Go.RowKit
attribute [local go_sem] depUpon Sp.ok

theorem results_own2 {P : Program} {fn : Func} {p q : Tmp} {ty : TypeId} (h : fn.results = #[.cell p ty, .tmp q]) (hd : aggB (P.underlying ty) = true) (n : Nat) (hi : (P.info? ty).map (·.size) = some n)
    (tmps : Array Value) (w : World) (g : Nat) (t : TypeId) (xs : List Value) (v : Value) (hp : tmps.getD p undef = .pointer (some ⟨g, 0, none⟩)) (hq : tmps.getD q undef = v) (hO : Own w g t xs) (hn : xs.length = n) :
    (results fn tmps).run P w = .ok (.tuple #[.agg xs.toArray, v]) w := by
  obtain ⟨d, h1, h2⟩ := aggB_spec hd
  have hp' : tmps[p]?.getD undef = .pointer (some ⟨g, 0, none⟩) := by simpa using hp
  have hq' : tmps[q]?.getD undef = v := by simpa using hq
  simp [results, h, hp', hq', asAddr, run_loadVar_row w g t ty xs.toArray (0, 0) d hO h1 (by cases d <;> first | rfl | cases h2) (by simp [hi, hn])]
section
variable {P : Program} (w : World) {ops : Array Oper} {rest : List Oper} {o : Oper} {a : Act} {Q : Exit → Act → World → Prop}
theorem wpl_build1 (hg : o.guard = none) (t : TypeId) (i : Nat) (x : Operand) (hop : o.op = .build t #[(i, x)]) (u : Value) (hx : a.eval x = u) (v : Value) (hrun : (Instr.build t #[(i, u)]).run P w = .ok v w)
    (h : wpList P ops Q rest (a.put o.dst v) w) : wpList P ops Q (o :: rest) a w := by
  refine wpList_plain hg fun K hK' => ?_
  unfold Oper.wp
  simp only [execOp, hop]
  simp only [List.map_toArray, List.map_cons, List.map_nil, hx]
  simp only [Sem.run_bind, hrun, Result.andThen_ok]
  exact hK' _ _ h
theorem wpl_index (hg : o.guard = none) (t : TypeId) (x ix : Operand) (hop : o.op = .index t x ix) (v : Value) (hrun : (Instr.index t (a.eval x) (a.eval ix)).run P w = .ok v w)
    (h : wpList P ops Q rest (a.put o.dst v) w) : wpList P ops Q (o :: rest) a w := by
  refine wpList_plain hg fun K hK' => ?_
  unfold Oper.wp
  simp only [execOp, hop]
  simp only [Sem.run_bind, hrun, Result.andThen_ok]
  exact hK' _ _ h
end

/-- Where the slots' timers lie: address and capacity. -/
abbrev FW := Nat → Option Addr × Nat
/-- The slots' timers. -/
abbrev RW := Nat → List (Int × Int)
def cellOf (F : FW) (R : RW) (k : Nat) : Value := .slice (F k).1 (R k).length (F k).2
def wcells (now n : Int) (F : FW) (R : RW) : List Value := .int .i64 now :: ((List.range 256).map (cellOf F R) ++ [.int .i64 n])
def rowcs (F : FW) (R : RW) (r : Nat) : List Value := (List.range 64).map fun j => cellOf F R (r * 64 + j)
theorem wcells_len (now n : Int) (F : FW) (R : RW) : (wcells now n F R).length = 258 := by simp [wcells]
theorem wcells_at (now n : Int) (F : FW) (R : RW) {k : Nat} (hk : k < 256) : (wcells now n F R)[1 + k]? = some (cellOf F R k) := by
  unfold wcells
  rw [Nat.add_comm, List.getElem?_cons_succ, List.getElem?_append_left (by simpa using hk)]
  simp [hk]
theorem wcells_n (now n : Int) (F : FW) (R : RW) : (wcells now n F R)[257]? = some (.int .i64 n) := by
  unfold wcells
  rw [List.getElem?_cons_succ, List.getElem?_append_right (by simp)]
  simp
theorem rowcs_len (F : FW) (R : RW) (r : Nat) : (rowcs F R r).length = 64 := by simp [rowcs]
theorem rowcs_at (F : FW) (R : RW) (r : Nat) {j : Nat} (hj : j < 64) : (rowcs F R r)[j]? = some (cellOf F R (r * 64 + j)) := by simp [rowcs, hj]
/-- The wheel in block g; all its slots' timers lie from block B on. -/
structure WS (w : World) (B g : Nat) (now n : Int) (F : FW) (R : RW) : Prop where
  own : Own w g 60 (wcells now n F R)
  row : ∀ k, k < 256 → Row w B 62 2 (F k).1 (R k).length (F k).2 (pairs (R k))
  sep : ∀ j k, j < 256 → k < 256 → j ≠ k → ∀ h, blk (F j).1 = some h → blk (F k).1 ≠ some h
  lo : B ≤ g
section
variable {w w' : World} {B g : Nat} {now n : Int} {F : FW} {R : RW}
theorem WS.keep (h : WS w B g now n F R) (hb : Ext w w') : WS w' B g now n F R := ⟨h.own.keep hb, fun k hk => (h.row k hk).keep hb, h.sep, h.lo⟩
theorem WS.now_ (h : WS w B g now n F R) : w.cell? ⟨g, 0, none⟩ = some (.int .i64 now) := h.own.cell 0
theorem WS.n_ (h : WS w B g now n F R) : w.cell? ⟨g, 257, none⟩ = some (.int .i64 n) := (h.own.cell 257).trans (wcells_n ..)
theorem WS.slot (h : WS w B g now n F R) {k : Nat} (hk : k < 256) : w.cell? ⟨g, 1 + k, none⟩ = some (cellOf F R k) := (h.own.cell (1 + k)).trans (wcells_at _ _ _ _ hk)
theorem WS.rowc (h : WS w B g now n F R) {r : Nat} (hr : r < 4) : ∀ j v, (rowcs F R r)[j]? = some v → w.cell? ⟨g, 1 + r * 64 + j, none⟩ = some v := fun j v hv => by
  have hj : j < 64 := by rw [← rowcs_len F R r]; exact (List.getElem?_eq_some_iff.1 hv).1
  rw [rowcs_at F R r hj] at hv
  injection hv with hv
  subst hv
  have := h.slot (k := r * 64 + j) (by omega)
  rwa [show 1 + (r * 64 + j) = 1 + r * 64 + j by omega] at this
end

theorem und_row : Try.prog.underlying 57 = some (.array 64 56) := Try.underlying57
theorem und_slot : Try.prog.underlying 56 = some (.slice 62) := Try.underlying56
set_option maxRecDepth 100000 in
theorem size_row : (Try.prog.info? 57).map (·.size) = some 64 := by kernel_rfl
set_option maxRecDepth 100000 in
theorem size_slot : (Try.prog.info? 56).map (·.size) = some 1 := by kernel_rfl
set_option maxRecDepth 100000 in
theorem zero_timer : (Try.prog.info? 62).map (·.zero) = some (some (.agg #[.int .i64 0, .int .i64 0])) := by kernel_rfl
set_option maxRecDepth 100000 in
theorem size_timer : (Try.prog.info? 62).map (·.size) = some 2 := by kernel_rfl
theorem run_index (F : FW) (R : RW) (r : Nat) {j : Nat} (hj : j < 64) (w : World) : (Instr.index 57 (.agg (rowcs F R r).toArray) (.int .i64 (j : Int))).run Try.prog w = .ok (cellOf F R (r * 64 + j)) w := by
  have h1 := rowcs_at F R r hj
  have h2 : (sizeOf 56).run Try.prog w = .ok 1 w := by
    have := size_slot
    cases hq : Try.prog.info? 56 with
    | none => rw [hq] at this; cases this
    | some i =>
      rw [hq] at this
      simp only [Option.map_some, Option.some.injEq] at this
      simp [sizeOf, typeInfo, hq, this, go_sem]
  unfold Instr.index
  simp [asIntOf, run_underlying und_row, h2, part, h1, go_sem]
  omega

/-- No timers. -/
def F0 : FW := fun _ => (none, 0)
def R0 : RW := fun _ => []
set_option maxRecDepth 1000000 in
theorem run_new (now : Int) (w : World) : (Instr.build 60 #[(0, .int .i64 now)]).run Try.prog w = .ok (.agg (wcells now 0 F0 R0).toArray) w := by kernel_rfl

theorem row0 (w : World) (B k : Nat) : Row w B 62 2 (F0 k).1 (R0 k).length (F0 k).2 (pairs (R0 k)) := by
  show Row w B 62 2 none 0 0 []
  exact Row.nil _ _ _ _
theorem sep0 (j : Nat) (h : Nat) : blk (F0 j).1 ≠ some h := by
  show blk none ≠ some h
  simp [blk]

set_option maxRecDepth 100000 in
set_option maxHeartbeats 400000 in
theorem w_new (now : Int) (w : World) (h0 : 0 ≤ now) (h1 : now < 16777216) :
    Calls Try.prog 11 #[.int .i64 now] w fun e w' => e = .returned (.tuple #[.pointer (some ⟨w.heap.size, 0, none⟩), .int .i64 0]) ∧ WS w' w.heap.size w.heap.size now 0 F0 R0 ∧ Below w.heap.size w w' := by
  have HN := Lib.hid (run_new now)
  go_enter Try.func11, Try.ntmps11
  go_wp2_with (first
    | (refine wpl_build1 _ rfl 60 0 _ rfl (.int .i64 now) rfl _ (HN.out _) ?_)
    | (refine wpl_box_own _ rfl _ _ rfl (wcells now 0 F0 R0) rfl ?_; intro w1 o1 b1 s1))
  go_ret2
  exact ⟨rfl, ⟨o1, fun k _ => row0 _ _ k, fun j k _ _ _ h hh => absurd hh (sep0 j h), Nat.le_refl _⟩, b1⟩
theorem w_new_bad (now : Int) (w : World) (h : now < 0 ∨ 16777216 ≤ now) :
    Calls Try.prog 11 #[.int .i64 now] w fun e w' => e = .returned (.tuple #[.pointer none, .int .i64 2]) ∧ w = w' := by
  by_cases h0 : now < 0
  · have t0 : decide (now < 0) = true := by simp [h0]
    clear h
    go_enter Try.func11, Try.ntmps11
    go_wp2
    go_ret2
    exact ⟨rfl, rfl⟩
  · have t0 : decide (now < 0) = false := by simp [h0]
    have h1 : 16777216 ≤ now := by omega
    have h2 : 0 ≤ now := by omega
    clear h
    go_enter Try.func11, Try.ntmps11
    go_wp2
    go_ret2
    exact ⟨rfl, rfl⟩
theorem w_len (B g : Nat) (now n : Int) (F : FW) (R : RW) (w : World) (h : WS w B g now n F R) :
    Calls Try.prog 14 #[.pointer (some ⟨g, 0, none⟩)] w fun e w' => e = .returned (.int .i64 n) ∧ w = w' := by
  have hc := h.n_
  clear h
  go_enter Try.func14, Try.ntmps14
  go_wp2
  go_ret
  exact ⟨rfl, rfl⟩
theorem w_now (B g : Nat) (now n : Int) (F : FW) (R : RW) (w : World) (h : WS w B g now n F R) :
    Calls Try.prog 16 #[.pointer (some ⟨g, 0, none⟩)] w fun e w' => e = .returned (.int .i64 now) ∧ w = w' := by
  have hc := h.now_
  clear h
  go_enter Try.func16, Try.ntmps16
  go_wp2
  go_ret
  exact ⟨rfl, rfl⟩

end Go.Proofs.Ytjipkgnkabocjaa
