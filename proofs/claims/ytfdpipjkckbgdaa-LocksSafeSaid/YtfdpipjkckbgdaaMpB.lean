/-
  A map of integers to whatever values: store and delete, for the walk.
-/
import Derived.Test.YtfdpipjkckbgdaaMp
namespace Go.Proofs.Ytfdpipjkckbgdaa
open Go.RowKit Go.Maps

section
variable (w : World) {ops : Array Oper} {rest : List Oper} {o : Oper} {a : Act} {Q : Exit → Act → World → Prop}
theorem wpl_put_kv (hg : o.guard = none) (m x v : Operand) (t : TypeId) (hop : o.op = Op.mapUpdate t m x v ∨ o.op = Op.insert t m x v) (e : TypeId) (ht : Try.prog.underlying t = some (.map 3 e)) (gm : Nat) (L : KV) (hm : a.eval m = .map (some gm)) (h : MS w gm L)
    (k : Int) (hk : I64 k) (hx : a.eval x = .int .i64 k) (val : Value) (hv : a.eval v = val) (hl : L.length ≤ 65536)
    (hK : ∀ w', MS w' gm (vput L k val) → w.grownBy w' (some gm) → wpList Try.prog ops Q rest (a.put o.dst undef) w') : wpList Try.prog ops Q (o :: rest) a w := by
  refine wpList_plain hg fun K' hK' => ?_
  obtain ⟨w', hrun, r1, r2⟩ := h.map.update keyedI ht (by unfold maxLen; omega) (keyOf_int_mk Try.underlying3 (wfI hk)) (val := val) (d := .held val) (ps := []) rfl
  unfold Oper.wp
  rcases hop with hop | hop <;> simp [execOp, hop, hm, hx, hv, hrun, Result.andThen] <;> exact hK' _ _ (hK w' (h.put hk val r1) r2)
theorem wpl_del_kv (hg : o.guard = none) (m x : Operand) (t : TypeId) (hop : o.op = Op.call { callee := Callee.builtin Builtin.delete, args := #[m, x], argTypes := #[t, 3 ] }) (e : TypeId) (ht : Try.prog.underlying t = some (.map 3 e)) (gm : Nat) (L : KV) (hm : a.eval m = .map (some gm)) (h : MS w gm L)
    (k : Int) (hk : I64 k) (hx : a.eval x = .int .i64 k)
    (hK : ∀ w', MS w' gm (vdel L k) → w.grownBy w' (some gm) → wpList Try.prog ops Q rest (a.put o.dst (.tuple #[])) w') : wpList Try.prog ops Q (o :: rest) a w := by
  refine wpList_plain hg fun K' hK' => ?_
  obtain ⟨w', hrun, r1, r2⟩ := h.map.drop keyedI ht (keyOf_int_mk Try.underlying3 (wfI hk)) o.type
  unfold Oper.wp
  simp [execOp, hop, resolve, invoke, builtin, hm, hx, hrun, Result.andThen]
  exact hK' _ _ (hK w' (h.del k r1) r2.grown)
end

end Go.Proofs.Ytfdpipjkckbgdaa
