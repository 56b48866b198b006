/-
  WALKS of package prio and of chapter 7's reference: comparing, which may be.
-/
import Derived.Test.YtlmpmlhmndegdaaDep
namespace Go.Proofs.Ytlmpmlhmndegdaa
open Go.RowKit
attribute [local go_sem] depUpon Sp.ok

/-- Comparing numbers. -/
def icmp (x y : Int) : Int := if x < y then -1 else if y < x then 1 else 0
/-- Comparing priorities (class, level, due). -/
def pcmp (a1 a2 a3 b1 b2 b3 : Int) : Int := if a1 = b1 then (if a1 = 1 then icmp b3 a3 else icmp a2 b2) else icmp a1 b1
def pgreater (a1 a2 a3 b1 b2 b3 : Int) : Bool := if a1 = b1 then (if a1 = 1 then decide (a3 < b3) else decide (b2 < a2)) else decide (b1 < a1)
def pmay (a1 a2 a3 : Int) : Bool :=
  if a1 = 0 then decide (0 ≤ a2 ∧ a2 ≤ 15 ∧ a3 = 0) else if a1 = 1 then decide (a2 = 0 ∧ 0 ≤ a3 ∧ a3 ≤ 1099511627776) else if a1 = 2 then decide (0 ≤ a2 ∧ a2 < 64 ∧ a3 = 0) else false

set_option maxRecDepth 100000 in
set_option maxHeartbeats 400000 in
theorem cmp_nan (x : Int) (w : World) : Calls Try.prog 41 #[.int .i64 x] w fun e w' => e = .returned (.bool false) ∧ w = w' := by
  go_enter Try.func41, Try.ntmps41
  go_wp2
  go_ret
  exact ⟨ret_bool (by simp), rfl⟩

set_option maxRecDepth 100000 in
set_option maxHeartbeats 400000 in
theorem cmp_compare (x y : Int) (w : World) : Calls Try.prog 34 #[.int .i64 x, .int .i64 y] w fun e w' => e = .returned (.int .i64 (icmp x y)) ∧ w = w' := by
  by_cases h1 : x < y
  · have H := Lib.hid (by simp [icmp, h1] : icmp x y = -1)
    go_enter Try.func34, Try.ntmps34
    go_wp2_with (go_at_call 41; refine (cmp_nan _ _).mono ?_; rintro e w' ⟨rfl, rfl⟩)
    go_ret
    exact ⟨ret_int H.out.symm, rfl⟩
  · by_cases h2 : y < x
    · have H := Lib.hid (by simp [icmp, h1, h2] : icmp x y = 1)
      go_enter Try.func34, Try.ntmps34
      go_wp2_with (go_at_call 41; refine (cmp_nan _ _).mono ?_; rintro e w' ⟨rfl, rfl⟩)
      go_ret
      exact ⟨ret_int H.out.symm, rfl⟩
    · have H := Lib.hid (by simp [icmp, h1, h2] : icmp x y = 0)
      go_enter Try.func34, Try.ntmps34
      go_wp2_with (go_at_call 41; refine (cmp_nan _ _).mono ?_; rintro e w' ⟨rfl, rfl⟩)
      go_ret
      exact ⟨ret_int H.out.symm, rfl⟩

set_option maxRecDepth 100000 in
set_option maxHeartbeats 400000 in
theorem prio_high (a1 a2 a3 b1 b2 b3 : Int) (w : World) : Calls Try.prog 35 #[.agg #[.int .i64 a1, .int .i64 a2, .int .i64 a3], .agg #[.int .i64 b1, .int .i64 b2, .int .i64 b3]] w fun e w' => e = .returned (.int .i64 (icmp a2 b2)) ∧ Below w.heap.size w w' := by
  go_enter Try.func35, Try.ntmps35
  go_wp2_with (go_at_call 34; refine (cmp_compare _ _ _).mono ?_; rintro e w' ⟨rfl, rfl⟩)
  go_ret
  exact ⟨rfl, Ext.trans (Ext.alloc _ _) (Ext.alloc _ _)⟩

set_option maxRecDepth 100000 in
set_option maxHeartbeats 400000 in
theorem prio_due (a1 a2 a3 b1 b2 b3 : Int) (w : World) : Calls Try.prog 36 #[.agg #[.int .i64 a1, .int .i64 a2, .int .i64 a3], .agg #[.int .i64 b1, .int .i64 b2, .int .i64 b3]] w fun e w' => e = .returned (.int .i64 (icmp b3 a3)) ∧ Below w.heap.size w w' := by
  go_enter Try.func36, Try.ntmps36
  go_wp2_with (go_at_call 34; refine (cmp_compare _ _ _).mono ?_; rintro e w' ⟨rfl, rfl⟩)
  go_ret
  exact ⟨rfl, Ext.trans (Ext.alloc _ _) (Ext.alloc _ _)⟩

set_option maxRecDepth 100000 in
set_option maxHeartbeats 1000000 in
theorem prio_compare (a1 a2 a3 b1 b2 b3 : Int) (w : World) : Calls Try.prog 16 #[.agg #[.int .i64 a1, .int .i64 a2, .int .i64 a3], .agg #[.int .i64 b1, .int .i64 b2, .int .i64 b3]] w fun e w' => e = .returned (.int .i64 (pcmp a1 a2 a3 b1 b2 b3)) ∧ Below w.heap.size w w' := by
  by_cases h1 : a1 = b1
  · have t1 : (a1 != b1) = false := by simp [h1]
    by_cases h2 : a1 = 1
    · have H := Lib.hid (by unfold pcmp; rw [if_pos h1, if_pos h2] : pcmp a1 a2 a3 b1 b2 b3 = icmp b3 a3)
      have t2 : (a1 == 1) = true := by simp [h2]
      clear h1 h2
      go_enter Try.func16, Try.ntmps16
      go_wp2_with (go_at_call 36; refine (prio_due _ _ _ _ _ _ _).mono ?_; rintro e w1 ⟨rfl, b1⟩)
      go_ret
      exact ⟨ret_int H.out.symm, Ext.trans (Ext.trans (Ext.alloc _ _) (Ext.alloc _ _)) b1⟩
    · have H := Lib.hid (by unfold pcmp; rw [if_pos h1, if_neg h2] : pcmp a1 a2 a3 b1 b2 b3 = icmp a2 b2)
      have t2 : (a1 == 1) = false := by simp [h2]
      clear h1 h2
      go_enter Try.func16, Try.ntmps16
      go_wp2_with (go_at_call 35; refine (prio_high _ _ _ _ _ _ _).mono ?_; rintro e w1 ⟨rfl, b1⟩)
      go_ret
      exact ⟨ret_int H.out.symm, Ext.trans (Ext.trans (Ext.alloc _ _) (Ext.alloc _ _)) b1⟩
  · have t1 : (a1 != b1) = true := by simp [h1]
    have H := Lib.hid (by unfold pcmp; rw [if_neg h1] : pcmp a1 a2 a3 b1 b2 b3 = icmp a1 b1)
    clear h1
    go_enter Try.func16, Try.ntmps16
    go_wp2_with (go_at_call 34; refine (cmp_compare _ _ _).mono ?_; rintro e w' ⟨rfl, rfl⟩)
    go_ret
    exact ⟨ret_int H.out.symm, Ext.trans (Ext.alloc _ _) (Ext.alloc _ _)⟩

set_option maxRecDepth 100000 in
set_option maxHeartbeats 1000000 in
theorem ref_greater (a1 a2 a3 b1 b2 b3 : Int) (w : World) : Calls Try.prog 40 #[.agg #[.int .i64 a1, .int .i64 a2, .int .i64 a3], .agg #[.int .i64 b1, .int .i64 b2, .int .i64 b3]] w fun e w' => e = .returned (.bool (pgreater a1 a2 a3 b1 b2 b3)) ∧ Below w.heap.size w w' := by
  by_cases h1 : a1 = b1
  · have t1 : (a1 != b1) = false := by simp [h1]
    by_cases h2 : a1 = 1
    · have H := Lib.hid (by unfold pgreater; rw [if_pos h1, if_pos h2] : pgreater a1 a2 a3 b1 b2 b3 = decide (a3 < b3))
      have t2 : (a1 == 1) = true := by simp [h2]
      clear h1 h2
      go_enter Try.func40, Try.ntmps40
      go_wp2
      go_ret
      exact ⟨ret_bool H.out.symm, Ext.trans (Ext.alloc _ _) (Ext.alloc _ _)⟩
    · have H := Lib.hid (by unfold pgreater; rw [if_pos h1, if_neg h2] : pgreater a1 a2 a3 b1 b2 b3 = decide (b2 < a2))
      have t2 : (a1 == 1) = false := by simp [h2]
      clear h1 h2
      go_enter Try.func40, Try.ntmps40
      go_wp2
      go_ret
      exact ⟨ret_bool H.out.symm, Ext.trans (Ext.alloc _ _) (Ext.alloc _ _)⟩
  · have t1 : (a1 != b1) = true := by simp [h1]
    have H := Lib.hid (by unfold pgreater; rw [if_neg h1] : pgreater a1 a2 a3 b1 b2 b3 = decide (b1 < a1))
    clear h1
    go_enter Try.func40, Try.ntmps40
    go_wp2
    go_ret
    exact ⟨ret_bool H.out.symm, Ext.trans (Ext.alloc _ _) (Ext.alloc _ _)⟩

theorem pcmp_greater (a1 a2 a3 b1 b2 b3 : Int) : pcmp a1 a2 a3 b1 b2 b3 = if pgreater a1 a2 a3 b1 b2 b3 = true then 1 else if pgreater b1 b2 b3 a1 a2 a3 = true then -1 else 0 := by
  unfold pcmp pgreater icmp
  by_cases h1 : a1 = b1
  · subst h1
    by_cases h2 : a1 = 1
    · simp [h2]; split <;> split <;> (try split) <;> omega
    · simp [h2]; split <;> split <;> (try split) <;> omega
  · have h1' : b1 ≠ a1 := fun h => h1 h.symm
    simp [h1, h1']; split <;> split <;> (try split) <;> omega

set_option maxRecDepth 100000 in
set_option maxHeartbeats 1000000 in
theorem ref_compare (a1 a2 a3 b1 b2 b3 : Int) (w : World) : Calls Try.prog 33 #[.agg #[.int .i64 a1, .int .i64 a2, .int .i64 a3], .agg #[.int .i64 b1, .int .i64 b2, .int .i64 b3]] w fun e w' => e = .returned (.int .i64 (pcmp a1 a2 a3 b1 b2 b3)) ∧ Below w.heap.size w w' := by
  have c0 : ∀ (W : World) (o1 o2 : Obj) (W' : World), Below ((W.alloc o1).alloc o2).heap.size ((W.alloc o1).alloc o2) W' → Ext W W' := fun W o1 o2 W' h => Ext.trans (Ext.trans (Ext.alloc _ _) (Ext.alloc _ _)) h
  have C0 := Lib.hid c0
  clear c0
  have HP := Lib.hid (pcmp_greater a1 a2 a3 b1 b2 b3)
  by_cases h1 : pgreater a1 a2 a3 b1 b2 b3 = true
  · go_enter Try.func33, Try.ntmps33
    go_wp2_with (go_at_call 40; refine (ref_greater _ _ _ _ _ _ _).mono ?_; rintro e w1 ⟨rfl, k1⟩)
    go_ret
    exact ⟨ret_int (by rw [HP.out, if_pos h1]), C0.out _ _ _ _ k1⟩
  · have h1' : pgreater a1 a2 a3 b1 b2 b3 = false := by simpa using h1
    clear h1
    have cells : ∀ (W W' : World) (v1 v2 v3 u1 u2 u3 : Value), Below ((W.alloc (.cells #[v1, v2, v3] 33)).alloc (.cells #[u1, u2, u3] 33)).heap.size ((W.alloc (.cells #[v1, v2, v3] 33)).alloc (.cells #[u1, u2, u3] 33)) W' →
        Own W' W.heap.size 33 [v1, v2, v3] ∧ Own W' (W.heap.size + 1) 33 [u1, u2, u3] := fun W W' v1 v2 v3 u1 u2 u3 h =>
      ⟨((Own.new W 33 [v1, v2, v3]).alloc _).keep h, by
        have := (Own.new (W.alloc (.cells #[v1, v2, v3] 33)) 33 [u1, u2, u3]).keep h
        rw [World.size_alloc] at this; exact this⟩
    have CE := Lib.hid cells
    clear cells
    cases h2 : pgreater b1 b2 b3 a1 a2 a3
    · go_enter Try.func33, Try.ntmps33
      go_wp2_with fail
      refine (ref_greater _ _ _ _ _ _ _).mono ?_
      rintro e w1 ⟨rfl, k1⟩
      obtain ⟨q1, q2⟩ := CE.out _ _ _ _ _ _ _ _ k1
      have e0 := q1.cell 0
      have e1 := q1.cell 1
      have e2 := q1.cell 2
      have f0 := q2.cell 0
      have f1 := q2.cell 1
      have f2 := q2.cell 2
      simp only [List.getElem?_cons_zero, List.getElem?_cons_succ] at e0 e1 e2 f0 f1 f2
      go_wp2_with (go_at_call 40; refine (ref_greater _ _ _ _ _ _ _).mono ?_; rintro e w2 ⟨rfl, k2⟩)
      go_ret
      exact ⟨ret_int (by rw [HP.out, if_neg (by simp [h1']), if_neg (by simp [h2])]), Ext.trans (C0.out _ _ _ _ k1) k2⟩
    · go_enter Try.func33, Try.ntmps33
      go_wp2_with fail
      refine (ref_greater _ _ _ _ _ _ _).mono ?_
      rintro e w1 ⟨rfl, k1⟩
      obtain ⟨q1, q2⟩ := CE.out _ _ _ _ _ _ _ _ k1
      have e0 := q1.cell 0
      have e1 := q1.cell 1
      have e2 := q1.cell 2
      have f0 := q2.cell 0
      have f1 := q2.cell 1
      have f2 := q2.cell 2
      simp only [List.getElem?_cons_zero, List.getElem?_cons_succ] at e0 e1 e2 f0 f1 f2
      go_wp2_with (go_at_call 40; refine (ref_greater _ _ _ _ _ _ _).mono ?_; rintro e w2 ⟨rfl, k2⟩)
      go_ret
      exact ⟨ret_int (by rw [HP.out, if_neg (by simp [h1']), if_pos h2]), Ext.trans (C0.out _ _ _ _ k1) k2⟩

end Go.Proofs.Ytlmpmlhmndegdaa
