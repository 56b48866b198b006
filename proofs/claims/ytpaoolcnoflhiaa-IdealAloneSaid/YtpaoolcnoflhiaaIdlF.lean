/-
  WALKS of the statements on package ideal: awake.
-/
import Derived.Test.YtpaoolcnoflhiaaIdlE
namespace Go.Proofs.Ytpaoolcnoflhiaa
open Go.RowKit
attribute [local go_sem] depUpon Sp.ok

/-- The threads of 'awake'. -/
def ath (c l st : Int) : List Value := [.int .i64 0, .int .i64 0, .int .i64 c, .int .i64 l, .int .i64 0, .int .i64 st, .int .i64 0, .int .i64 0, .int .i64 0, .bool false, .int .i64 0, .int .i64 0, .int .i64 0, .string ⟨#[]⟩, .bool false, .int .i64 0, .int .i64 0, .int .i64 0, .int .i64 0, .int .i64 0, .slice none 0 0]
def aths : List TH := [⟨ath 2 3 2, (2, 3, 0), 2, 0, 0⟩, ⟨ath 0 2 1, (0, 2, 0), 1, 0, 0⟩, ⟨ath 0 9 1, (0, 9, 0), 1, 0, 0⟩]
theorem ath_ok (c l st : Int) : TH.Ok ⟨ath c l st, (c, l, 0), st, 0, 0⟩ := ⟨rfl, by simp [ath, Value.oneCell'], rfl, rfl, rfl, rfl, rfl, ⟨none, 0, rfl⟩⟩
theorem aths_first : ifirst aths [1] = 1 := by decide +kernel
theorem aths_right1 : iright aths [1] 1 false = true := by decide +kernel
theorem aths_right2 : iright aths [1] 2 false = false := by decide +kernel
theorem aths_acy : iacy aths [1] = true := by decide +kernel
theorem aths_view (w : World) : ViewArg (((w.alloc (.cells (ath 2 3 2 ++ (ath 0 2 1 ++ ath 0 9 1)).toArray 44)).alloc (.cells #[.int .i64 1] 3)).alloc (.cells #[.int .i64 0, .slice (some ⟨w.heap.size, 0, none⟩) 3 3, .slice (some ⟨w.heap.size + 1, 0, none⟩) 1 1, .slice none 0 0, .slice none 0 0] 26)) (some ⟨w.heap.size, 0, none⟩) 3 aths (some ⟨w.heap.size + 1, 0, none⟩) 1 [1] := by
  have e1 : (w.alloc (.cells (ath 2 3 2 ++ (ath 0 2 1 ++ ath 0 9 1)).toArray 44)).heap.size = w.heap.size + 1 := by simp
  have r1 := (Own.new w 44 (ath 2 3 2 ++ (ath 0 2 1 ++ ath 0 9 1))).rd0
  have r2 := (Own.new (w.alloc (.cells (ath 2 3 2 ++ (ath 0 2 1 ++ ath 0 9 1)).toArray 44)) 3 (ints [1])).rd0
  rw [e1] at r2
  refine ⟨rfl, by omega, ?_, ?_, rfl, by omega, r2.keep (Ext.alloc _ _), by simp [I64]⟩
  · intro x hx
    simp only [aths, List.mem_cons, List.not_mem_nil, or_false] at hx
    rcases hx with rfl | rfl | rfl
    · exact ath_ok 2 3 2
    · exact ath_ok 0 2 1
    · exact ath_ok 0 9 1
  · have e2 : flat (aths.map (·.cs)) = ath 2 3 2 ++ (ath 0 2 1 ++ ath 0 9 1) := by simp [flat, aths]
    rw [e2]
    exact (r1.keep (Ext.alloc _ _)).keep (Ext.alloc _ _)

set_option maxRecDepth 100000 in
set_option maxHeartbeats 1000000 in
theorem ideal_awake (w : World) :
    Calls Try.prog 6 #[] w fun e w' => e = .returned (.bool true) ∧ Below w.heap.size w w' := by
  have hv := aths_view w
  have e1 : (w.alloc (.cells (ath 2 3 2 ++ (ath 0 2 1 ++ ath 0 9 1)).toArray 44)).heap.size = w.heap.size + 1 := by simp
  have e2 : ((w.alloc (.cells (ath 2 3 2 ++ (ath 0 2 1 ++ ath 0 9 1)).toArray 44)).alloc (.cells #[.int .i64 1] 3)).heap.size = w.heap.size + 1 + 1 := by simp
  have oV := Own.new ((w.alloc (.cells (ath 2 3 2 ++ (ath 0 2 1 ++ ath 0 9 1)).toArray 44)).alloc (.cells #[.int .i64 1] 3)) 26 [.int .i64 0, .slice (some ⟨w.heap.size, 0, none⟩) 3 3, .slice (some ⟨w.heap.size + 1, 0, none⟩) 1 1, .slice none 0 0, .slice none 0 0]
  rw [e2] at oV
  have hb0 : Ext w (((w.alloc (.cells (ath 2 3 2 ++ (ath 0 2 1 ++ ath 0 9 1)).toArray 44)).alloc (.cells #[.int .i64 1] 3)).alloc (.cells #[.int .i64 0, .slice (some ⟨w.heap.size, 0, none⟩) 3 3, .slice (some ⟨w.heap.size + 1, 0, none⟩) 1 1, .slice none 0 0, .slice none 0 0] 26)) := Ext.trans (Ext.trans (Ext.alloc _ _) (Ext.alloc _ _)) (Ext.alloc _ _)
  clear e1 e2
  simp only [ath, List.cons_append, List.nil_append] at hv oV hb0
  have c1 := fun w' h' => i_first 0 (some ⟨w.heap.size, 0, none⟩) 3 3 (some ⟨w.heap.size + 1, 0, none⟩) 1 1 none 0 0 none 0 0 aths [1] w' h' (by omega)
  rw [aths_first] at c1
  have c2 := fun w' h' => i_right 0 (some ⟨w.heap.size, 0, none⟩) 3 3 (some ⟨w.heap.size + 1, 0, none⟩) 1 1 none 0 0 none 0 0 aths [1] w' h' (by omega) 1 false
  rw [aths_right1] at c2
  have c3 := fun w' h' => i_right 0 (some ⟨w.heap.size, 0, none⟩) 3 3 (some ⟨w.heap.size + 1, 0, none⟩) 1 1 none 0 0 none 0 0 aths [1] w' h' (by omega) 2 false
  rw [aths_right2] at c3
  have c4 := fun w' h' => i_acyclic 0 (some ⟨w.heap.size, 0, none⟩) 3 3 (some ⟨w.heap.size + 1, 0, none⟩) 1 1 none 0 0 none 0 0 aths [1] w' h' (by omega)
  rw [aths_acy] at c4
  have C1 := Lib.hid c1
  have C2 := Lib.hid c2
  have C3 := Lib.hid c3
  have C4 := Lib.hid c4
  have HV := Lib.hid hv
  clear c1 c2 c3 c4 hv
  go_enter Try.func6, Try.ntmps6
  go_wp2_with fail
  refine (C1.out _ HV.out).mono ?_
  rintro e w1 ⟨rfl, bW⟩
  have oV1 := oV.keep bW
  have v0 := oV1.cell 0
  have v1 := oV1.cell 1
  have v2 := oV1.cell 2
  have v3 := oV1.cell 3
  have v4 := oV1.cell 4
  simp only [List.getElem?_cons_zero, List.getElem?_cons_succ] at v0 v1 v2 v3 v4
  clear oV oV1
  go_wp2_with (first | ((with_reducible go_at_call 9); (with_reducible refine (C2.out _ (HV.out.keep bW)).mono ?_); rintro e w1 ⟨rfl, b1⟩; replace v0 := cell_keep b1 v0; replace v1 := cell_keep b1 v1; replace v2 := cell_keep b1 v2; replace v3 := cell_keep b1 v3; replace v4 := cell_keep b1 v4; replace bW := Ext.trans bW b1; clear b1) | ((with_reducible go_at_call 9); (with_reducible refine (C3.out _ (HV.out.keep bW)).mono ?_); rintro e w1 ⟨rfl, b1⟩; replace v0 := cell_keep b1 v0; replace v1 := cell_keep b1 v1; replace v2 := cell_keep b1 v2; replace v3 := cell_keep b1 v3; replace v4 := cell_keep b1 v4; replace bW := Ext.trans bW b1; clear b1) | ((with_reducible go_at_call 12); (with_reducible refine (C4.out _ (HV.out.keep bW)).mono ?_); rintro e w1 ⟨rfl, b1⟩; replace v0 := cell_keep b1 v0; replace v1 := cell_keep b1 v1; replace v2 := cell_keep b1 v2; replace v3 := cell_keep b1 v3; replace v4 := cell_keep b1 v4; replace bW := Ext.trans bW b1; clear b1))
  go_ret
  exact ⟨rfl, Ext.trans hb0 bW⟩

end Go.Proofs.Ytpaoolcnoflhiaa
