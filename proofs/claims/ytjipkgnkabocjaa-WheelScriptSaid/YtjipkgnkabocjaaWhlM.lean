/-
  WHEEL: awake; the statement WheelNone.
-/
import Derived.Test.YtjipkgnkabocjaaWhlL
namespace Go.Proofs.Ytjipkgnkabocjaa
open Go.ChangeShapes Go.WideShapes Go.ChangeAt Go.RowKit
attribute [local go_sem] depUpon Sp.ok

theorem WL.below {w w' : World} {B g : Nat} {now : Int} {F F' : FW} {L : TL} (h : WL w B g now F L) (a : WT w w' g F F') : Below B w w' := by
  obtain ⟨R, h1, _, h3⟩ := h
  exact h1.below a h3
theorem WL.size {w : World} {B g : Nat} {now : Int} {F : FW} {L : TL} (h : WL w B g now F L) : B ≤ w.heap.size := by
  obtain ⟨R, h1, _, h3⟩ := h
  exact h3
set_option maxRecDepth 100000 in
theorem aw_arm : armE [] 0 1 65 = 0 ∧ armL [] 0 1 65 = [(1, 65)] := ⟨by kernel_rfl, by kernel_rfl⟩
set_option maxRecDepth 100000 in
theorem aw_place : placeV [(1, 65)] 0 1 = (1, 1, true) := by kernel_rfl
theorem whl_awake (w : World) : Calls Try.prog 9 #[] w fun e w' => e = .returned (.bool true) ∧ Below w.heap.size w w' := by
  have HN := Lib.hid (l_new 0 w (by omega) (by omega))
  have HA := Lib.hid (fun w1 (h : WL w1 w.heap.size w.heap.size 0 F0 []) => l_arm _ _ 0 F0 [] 1 65 w1 h)
  rw [aw_arm.1, aw_arm.2] at HA
  have HP := Lib.hid (fun F w1 (h : WL w1 w.heap.size w.heap.size 0 F [(1, 65)]) => l_place _ _ 0 F [(1, 65)] 1 w1 h)
  rw [aw_place] at HP
  have HL := Lib.hid (fun F w1 (h : WL w1 w.heap.size w.heap.size 0 F [(1, 65)]) => l_len _ _ 0 F [(1, 65)] w1 h)
  rw [show ((([(1, 65)] : TL).length : Nat) : Int) = 1 from rfl] at HL
  go_enter Try.func9, Try.ntmps9
  go_wp2_with (first
    | ((with_reducible go_at_call 11); (with_reducible refine HN.out.mono ?_); rintro e w1 ⟨rfl, s1, b1⟩; have S1 := Lib.hid s1; clear s1)
    | ((with_reducible go_at_call 12); (with_reducible refine (HA.out _ S1.out).mono ?_); rintro e w2 ⟨rfl, F2, s2, t2⟩; have b2 := Below.trans b1 (S1.out.below t2); have S2 := Lib.hid s2; clear s2)
    | ((with_reducible go_at_call 15); (with_reducible refine (HP.out _ _ S2.out).mono ?_); rintro e w3 ⟨rfl, b3⟩)
    | ((with_reducible go_at_call 14); (with_reducible refine (HL.out _ _ (S2.out.keep b3)).mono ?_); rintro e w4 ⟨rfl, rfl⟩))
  go_ret
  exact ⟨rfl, Below.trans b2 (Below.mono b3 S2.out.size)⟩

theorem n_at (id : Int) (w : World) : Calls Try.prog 26 #[.pointer none, .int .i64 id] w fun e w' => e = .returned (.tuple #[.int .i64 0, .bool false]) ∧ Below w.heap.size w w' := by
  have HF := Lib.hid (w_find_nil id w)
  go_enter Try.func26, Try.ntmps26
  go_wp2_with ((with_reducible go_at_call 27); (with_reducible refine (HF.out).mono ?_); rintro e w1 ⟨rfl, b1⟩)
  go_ret2
  exact ⟨rfl, Ext.trans b1 (Ext.alloc _ _)⟩
theorem n_place (id : Int) (w : World) : Calls Try.prog 15 #[.pointer none, .int .i64 id] w fun e w' => e = .returned (.tuple #[.int .i64 0, .int .i64 0, .bool false]) ∧ Below w.heap.size w w' := by
  have HF := Lib.hid (w_find_nil id w)
  go_enter Try.func15, Try.ntmps15
  go_wp2_with ((with_reducible go_at_call 27); (with_reducible refine (HF.out).mono ?_); rintro e w1 ⟨rfl, b1⟩)
  go_ret3
  exact ⟨rfl, Ext.trans b1 (Ext.alloc _ _)⟩
theorem n_arm (id at_ : Int) (w : World) : Calls Try.prog 12 #[.pointer none, .int .i64 id, .int .i64 at_] w fun e w' => e = .returned (.int .i64 1) ∧ Below w.heap.size w w' := by
  have HF := Lib.hid (w_find_nil id w)
  go_enter Try.func12, Try.ntmps12
  go_wp2_with ((with_reducible go_at_call 27); (with_reducible refine (HF.out).mono ?_); rintro e w1 ⟨rfl, b1⟩)
  go_ret
  exact ⟨rfl, Ext.trans b1 (Ext.alloc _ _)⟩
theorem n_cancel (id : Int) (w : World) : Calls Try.prog 17 #[.pointer none, .int .i64 id] w fun e w' => e = .returned (.bool false) ∧ Below w.heap.size w w' := by
  have HF := Lib.hid (w_find_nil id w)
  go_enter Try.func17, Try.ntmps17
  go_wp2_with ((with_reducible go_at_call 27); (with_reducible refine (HF.out).mono ?_); rintro e w1 ⟨rfl, b1⟩)
  go_ret
  exact ⟨rfl, Ext.trans b1 (Ext.alloc _ _)⟩
theorem n_tick (w : World) : Calls Try.prog 13 #[.pointer none] w fun e w' => e = .returned (.tuple #[.slice none 0 0, .int .i64 0]) ∧ w = w' := by
  go_enter Try.func13, Try.ntmps13
  go_wp2
  go_ret2
  exact ⟨rfl, rfl⟩
theorem n_now (w : World) : Calls Try.prog 16 #[.pointer none] w fun e w' => e = .returned (.int .i64 0) ∧ w = w' := by
  go_enter Try.func16, Try.ntmps16
  go_wp2
  go_ret
  exact ⟨rfl, rfl⟩
theorem n_len (w : World) : Calls Try.prog 14 #[.pointer none] w fun e w' => e = .returned (.int .i64 0) ∧ w = w' := by
  go_enter Try.func14, Try.ntmps14
  go_wp2
  go_ret
  exact ⟨rfl, rfl⟩

section
variable {H : Type} {enc : TypeId × Value → H} {W : World} {base : Nat} {v : Value} {d : DataW H} {p : List MemPlace}
set_option maxRecDepth 100000 in
theorem open_act6 (hv : Value.okWide Try.prog W .any base 47 v) (h : DataW.Trod enc Try.prog W 0 (fun _ => true) true 47 v d p) : ∃ a b c, v = .agg #[.int .i64 a, .int .i64 b, .int .i64 c] ∧ (I64 a ∧ I64 b ∧ I64 c) := by
  obtain ⟨zs, h1, h2, h3⟩ := open_struct Try.underlying47 (by kernel_rfl) (by kernel_rfl) hv h
  match zs, h1 with
  | [a, b, c], _ => exact ⟨a, b, c, h2, h3 a (by simp), h3 b (by simp), h3 c (by simp)⟩
set_option maxRecDepth 100000 in
theorem open_acts6 (hv : Value.okWide Try.prog W .any base 41 v) (h : DataW.Trod enc Try.prog W 0 (fun _ => true) true 41 v d p) : ∃ A n c ps, v = .slice A n c ∧ TripsArg W A n ps :=
  open_trips Try.underlying41 Try.underlying47 (by kernel_rfl) (by kernel_rfl) rfl hv h
end

set_option maxRecDepth 100000 in
set_option maxHeartbeats 1000000 in
theorem law_whlnone (a b c : Int) (w : World) (_ : I64 a ∧ I64 b ∧ I64 c) :
    Calls Try.prog 8 #[.agg #[.int .i64 a, .int .i64 b, .int .i64 c]] w fun e w' => e = .returned (.bool true) ∧ Below w.heap.size w w' := by
  have HAW := Lib.hid (fun w => whl_awake w)
  have oX := Own.new w 47 [.int .i64 a, .int .i64 b, .int .i64 c]
  have x1 := oX.cell 1
  have x2 := oX.cell 2
  simp only [List.getElem?_cons_zero, List.getElem?_cons_succ] at x1 x2
  have bW := Ext.alloc w (.cells #[.int .i64 a, .int .i64 b, .int .i64 c] 47)
  clear oX
  go_enter Try.func8, Try.ntmps8
  go_wp2_with (first
    | ((with_reducible go_at_call 26); (with_reducible refine (n_at _ _).mono ?_); rintro e w1 ⟨rfl, b1⟩; replace x1 := cell_keep b1 x1; replace x2 := cell_keep b1 x2; replace bW := Ext.trans bW b1; clear b1)
    | ((with_reducible go_at_call 15); (with_reducible refine (n_place _ _).mono ?_); rintro e w1 ⟨rfl, b1⟩; replace x1 := cell_keep b1 x1; replace x2 := cell_keep b1 x2; replace bW := Ext.trans bW b1; clear b1)
    | ((with_reducible go_at_call 12); (with_reducible refine (n_arm _ _ _).mono ?_); rintro e w1 ⟨rfl, b1⟩; replace x1 := cell_keep b1 x1; replace x2 := cell_keep b1 x2; replace bW := Ext.trans bW b1; clear b1)
    | ((with_reducible go_at_call 17); (with_reducible refine (n_cancel _ _).mono ?_); rintro e w1 ⟨rfl, b1⟩; replace x1 := cell_keep b1 x1; replace x2 := cell_keep b1 x2; replace bW := Ext.trans bW b1; clear b1)
    | ((with_reducible go_at_call 13); (with_reducible refine (n_tick _).mono ?_); rintro e w' ⟨rfl, rfl⟩)
    | ((with_reducible go_at_call 16); (with_reducible refine (n_now _).mono ?_); rintro e w' ⟨rfl, rfl⟩)
    | ((with_reducible go_at_call 14); (with_reducible refine (n_len _).mono ?_); rintro e w' ⟨rfl, rfl⟩)
    | ((with_reducible go_at_call 9); (with_reducible refine (HAW.out _).mono ?_); rintro e w1 ⟨rfl, b1⟩; replace x1 := cell_keep b1 x1; replace x2 := cell_keep b1 x2; replace bW := Ext.trans bW b1; clear b1))
  go_ret
  exact ⟨rfl, bW⟩

end Go.Proofs.Ytjipkgnkabocjaa
