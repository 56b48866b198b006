/-
  WALKS of the statements on prio, chapter 7: PrioCompares.
-/
import Derived.Test.YtjfldaagnccfpaaPrioC
namespace Go.Proofs.Ytjfldaagnccfpaa
open Go.RowKit
attribute [local go_sem] depUpon Sp.ok

set_option maxRecDepth 100000 in
set_option maxHeartbeats 2000000 in
theorem prio_awake (w : World) : Calls Try.prog 10 #[] w fun e w' => e = .returned (.bool true) ∧ Below w.heap.size w w' := by
  have e1 : pcmp 2 0 0 1 0 3 = 1 := by decide
  have e2 : pcmp 1 0 3 2 0 0 = -1 := by decide
  have e3 : pmax (1, 0, 3) [(2, 0, 0)] = (2, 0, 0) := by decide
  have e4 : pmay 1 0 3 = true := by decide
  have e5 : pmay 9 0 0 = false := by decide
  have cM : ∀ (g : Nat) (W : World), Own W g 23 (trips [(2, 0, 0)]) → Calls Try.prog 12 #[.agg #[.int .i64 1, .int .i64 0, .int .i64 3], .slice (some ⟨g, 0, none⟩) 1 1] W fun e w' => e = .returned (.agg #[.int .i64 2, .int .i64 0, .int .i64 0]) ∧ Below W.heap.size W w' := fun g W h => by
    have := prio_max (1, 0, 3) (some ⟨g, 0, none⟩) 1 1 [(2, 0, 0)] W (by omega) h.rd0 rfl
    rw [e3] at this; exact this
  have CM := Lib.hid cM
  have o1 := (Own.new w 23 (pv (2, 0, 0))).alloc (.cells #[.int .i64 1, .int .i64 0, .int .i64 3] 23)
  have o2 := Own.new (w.alloc (.cells #[.int .i64 2, .int .i64 0, .int .i64 0] 23)) 23 (pv (1, 0, 3))
  rw [World.size_alloc] at o2
  obtain ⟨a0, a1, a2, _, _, _⟩ := o1.pv3
  obtain ⟨b0, b1, b2, _, _, _⟩ := o2.pv3
  simp only at a0 a1 a2 b0 b1 b2
  have bW : Ext w ((w.alloc (.cells #[.int .i64 2, .int .i64 0, .int .i64 0] 23)).alloc (.cells #[.int .i64 1, .int .i64 0, .int .i64 3] 23)) := Ext.trans (Ext.alloc _ _) (Ext.alloc _ _)
  clear cM e3 o1 o2
  go_enter Try.func10, Try.ntmps10
  go_wp2
  refine wp_region_dep (S := Ext) (C := Ext ((w.alloc (.cells #[.int .i64 2, .int .i64 0, .int .i64 0] 23)).alloc (.cells #[.int .i64 1, .int .i64 0, .int .i64 3] 23))) (by kernel_rfl) (by kernel_rfl) rfl Ext.refl (Ext.drew _) ?_
  repeat (refine dep_det (by rfl) (fun K hK => ?_); go_simp; first
    | (refine ⟨_, fun w1 hw1 => ⟨Ext.refl w1, hw1, rfl⟩, hK _ ?_⟩; clear hK K)
    | (apply Exists.intro; refine ⟨fun w1 hw1 => ?_, hK _ ?_⟩
       first
         | (go_at_call 6; refine (prio_compare _ _ _ _ _ _ _).mono ?_; rintro e w' ⟨rfl, hb'⟩; exact ⟨_, rfl, hb', Ext.trans hw1 hb', rfl⟩)
         | (have c_a0 := cell_keep hw1 a0; have c_a1 := cell_keep hw1 a1; have c_a2 := cell_keep hw1 a2; have c_b0 := cell_keep hw1 b0; have c_b1 := cell_keep hw1 b1; have c_b2 := cell_keep hw1 b2; go_simp; first | exact ⟨Ext.refl _, hw1, rfl⟩ | exact ⟨Ext.refl _, rfl⟩)
       clear hK K))
  refine dep_var (SlAt 23 (trips [(2, 0, 0)]) 1 1) 18 rfl (by rfl) SlAt.keep (by go_simp) (fun w1 hw1 => ?_) ?_
  · go_simp
    exact ⟨Ext.alloc _ _, Ext.trans hw1 (Ext.alloc _ _), SlAt.new w1 23 (trips [(2, 0, 0)]) 1 1⟩
  refine dep_det1 18 _ (by rfl) (by intro V' h; simpa using h) (List.mem_cons_self ..) (by first | (simp; done) | simp [Act.put]) (fun K hK => ?_)
  apply Exists.intro
  refine ⟨fun w1 v hw1 hV => ?_, hK _ ?_⟩
  · obtain ⟨g, rfl, ho⟩ := hV
    go_simp
    refine (CM.out _ _ ho).mono ?_
    rintro e w' ⟨rfl, hb'⟩
    exact ⟨_, rfl, hb', Ext.trans hw1 hb', rfl⟩
  clear hK K
  repeat (refine dep_det (by rfl) (fun K hK => ?_); go_simp; first
    | (refine ⟨_, fun w1 hw1 => ⟨Ext.refl w1, hw1, rfl⟩, hK _ ?_⟩; clear hK K)
    | (apply Exists.intro; refine ⟨fun w1 hw1 => ?_, hK _ ?_⟩
       first
         | (go_at_call 8; refine (prio_may _ _ _ _).mono ?_; rintro e w' ⟨rfl, hb'⟩; exact ⟨_, rfl, hb', Ext.trans hw1 hb', rfl⟩)
         | (have c_a0 := cell_keep hw1 a0; have c_a1 := cell_keep hw1 a1; have c_a2 := cell_keep hw1 a2; have c_b0 := cell_keep hw1 b0; have c_b1 := cell_keep hw1 b1; have c_b2 := cell_keep hw1 b2; go_simp; first | exact ⟨Ext.refl _, hw1, rfl⟩ | exact ⟨Ext.refl _, rfl⟩)
       clear hK K))
  refine dep_nil ?_
  intro a' w' hC hE
  obtain ⟨v, ⟨g, rfl, _⟩, hE⟩ := atEnd_cons hE (by simp) (by first | (simp; done) | simp [Act.put])
  obtain rfl := atEnd_nil hE
  clear hE
  go_wp2
  go_ret
  exact ⟨rfl, Ext.trans bW hC⟩

set_option maxRecDepth 100000 in
set_option maxHeartbeats 2000000 in
theorem law_priocompares (a1 a2 a3 b1 b2 b3 : Int) (w : World) (_ : I64 a1 ∧ I64 a2 ∧ I64 a3) (_ : I64 b1 ∧ I64 b2 ∧ I64 b3) :
    Calls Try.prog 3 #[.agg #[.int .i64 a1, .int .i64 a2, .int .i64 a3], .agg #[.int .i64 b1, .int .i64 b2, .int .i64 b3]] w fun e w' => e = .returned (.bool true) ∧ Below w.heap.size w w' := by
  have o1 := (Own.new w 23 (pv (a1, a2, a3))).alloc (.cells #[.int .i64 b1, .int .i64 b2, .int .i64 b3] 23)
  have o2 := Own.new (w.alloc (.cells #[.int .i64 a1, .int .i64 a2, .int .i64 a3] 23)) 23 (pv (b1, b2, b3))
  rw [World.size_alloc] at o2
  obtain ⟨p0, p1, p2, _, _, _⟩ := o1.pv3
  obtain ⟨q0, q1, q2, _, _, _⟩ := o2.pv3
  simp only at p0 p1 p2 q0 q1 q2
  have bW : Ext w ((w.alloc (.cells #[.int .i64 a1, .int .i64 a2, .int .i64 a3] 23)).alloc (.cells #[.int .i64 b1, .int .i64 b2, .int .i64 b3] 23)) := Ext.trans (Ext.alloc _ _) (Ext.alloc _ _)
  clear o1 o2
  go_enter Try.func3, Try.ntmps3
  go_wp2
  refine wp_region_dep (S := Ext) (C := Ext ((w.alloc (.cells #[.int .i64 a1, .int .i64 a2, .int .i64 a3] 23)).alloc (.cells #[.int .i64 b1, .int .i64 b2, .int .i64 b3] 23))) (by kernel_rfl) (by kernel_rfl) rfl Ext.refl (Ext.drew _) ?_
  repeat (refine dep_det (by rfl) (fun K hK => ?_); go_simp; first
    | (refine ⟨_, fun w1 hw1 => ⟨Ext.refl w1, hw1, rfl⟩, hK _ ?_⟩; clear hK K)
    | (apply Exists.intro; refine ⟨fun w1 hw1 => ?_, hK _ ?_⟩
       first
         | (go_at_call 6; refine (prio_compare _ _ _ _ _ _ _).mono ?_; rintro e w' ⟨rfl, hb'⟩; exact ⟨_, rfl, hb', Ext.trans hw1 hb', rfl⟩)
         | (go_at_call 7; refine (ref_compare _ _ _ _ _ _ _).mono ?_; rintro e w' ⟨rfl, hb'⟩; exact ⟨_, rfl, hb', Ext.trans hw1 hb', rfl⟩)
         | (go_at_call 8; refine (prio_may _ _ _ _).mono ?_; rintro e w' ⟨rfl, hb'⟩; exact ⟨_, rfl, hb', Ext.trans hw1 hb', rfl⟩)
         | (go_at_call 9; refine (ref_may _ _ _ _).mono ?_; rintro e w' ⟨rfl, hb'⟩; exact ⟨_, rfl, hb', Ext.trans hw1 hb', rfl⟩)
         | (go_at_call 10; refine (prio_awake _).mono ?_; rintro e w' ⟨rfl, hb'⟩; exact ⟨_, rfl, hb', Ext.trans hw1 hb', rfl⟩)
         | (have c_p0 := cell_keep hw1 p0; have c_p1 := cell_keep hw1 p1; have c_p2 := cell_keep hw1 p2; have c_q0 := cell_keep hw1 q0; have c_q1 := cell_keep hw1 q1; have c_q2 := cell_keep hw1 q2; go_simp; first | exact ⟨Ext.refl _, hw1, rfl⟩ | exact ⟨Ext.refl _, rfl⟩)
       clear hK K))
  refine dep_nil ?_
  intro a' w' hC hE
  obtain rfl := atEnd_nil hE
  clear hE
  go_wp2
  go_ret
  exact ⟨rfl, Ext.trans bW hC⟩

end Go.Proofs.Ytjfldaagnccfpaa
