/-
  WALKS of the statements on prio, chapter 7: PrioOrder.
-/
import Derived.Test.YtjfldaagnccfpaaPrioD
namespace Go.Proofs.Ytjfldaagnccfpaa
open Go.RowKit
attribute [local go_sem] depUpon Sp.ok

theorem icmp_swap (x y : Int) : icmp y x = -icmp x y := by unfold icmp; split <;> split <;> (try split) <;> omega
theorem icmp_self (x : Int) : icmp x x = 0 := by unfold icmp; split <;> (try split) <;> omega
theorem icmp_rng (x y : Int) : icmp x y = -1 ∨ icmp x y = 0 ∨ icmp x y = 1 := by unfold icmp; split <;> (try split) <;> simp
theorem pcmp_swap (a1 a2 a3 b1 b2 b3 : Int) : pcmp b1 b2 b3 a1 a2 a3 = -pcmp a1 a2 a3 b1 b2 b3 := by
  unfold pcmp
  by_cases h1 : a1 = b1
  · subst h1
    by_cases h2 : a1 = 1
    · rw [if_pos rfl, if_pos rfl, if_pos h2, if_pos h2]; exact icmp_swap _ _
    · rw [if_pos rfl, if_pos rfl, if_neg h2, if_neg h2]; exact icmp_swap _ _
  · rw [if_neg h1, if_neg (fun h => h1 h.symm)]; exact icmp_swap _ _
theorem pcmp_self (a1 a2 a3 : Int) : pcmp a1 a2 a3 a1 a2 a3 = 0 := by
  unfold pcmp
  rw [if_pos rfl]
  split <;> exact icmp_self _
theorem pcmp_rng (a1 a2 a3 b1 b2 b3 : Int) : pcmp a1 a2 a3 b1 b2 b3 = -1 ∨ pcmp a1 a2 a3 b1 b2 b3 = 0 ∨ pcmp a1 a2 a3 b1 b2 b3 = 1 := by
  unfold pcmp
  split
  · split <;> exact icmp_rng _ _
  · exact icmp_rng _ _
theorem icmp_ge (x y : Int) : 0 ≤ icmp x y ↔ y ≤ x := by unfold icmp; split <;> (try split) <;> simp <;> omega
theorem icmp_gt (x y : Int) : 0 < icmp x y ↔ y < x := by unfold icmp; split <;> (try split) <;> simp <;> omega
def pkey (a1 a2 a3 : Int) : Int := if a1 = 1 then -a3 else a2
theorem pcmp_ge (a1 a2 a3 b1 b2 b3 : Int) : 0 ≤ pcmp a1 a2 a3 b1 b2 b3 ↔ b1 < a1 ∨ (a1 = b1 ∧ pkey b1 b2 b3 ≤ pkey a1 a2 a3) := by
  unfold pcmp pkey
  by_cases h1 : a1 = b1
  · subst h1
    by_cases h2 : a1 = 1
    · rw [if_pos rfl, if_pos h2, if_pos h2, if_pos h2, icmp_ge]; omega
    · rw [if_pos rfl, if_neg h2, if_neg h2, if_neg h2, icmp_ge]; omega
  · rw [if_neg h1, icmp_ge]; omega
theorem pcmp_gt (a1 a2 a3 b1 b2 b3 : Int) : 0 < pcmp a1 a2 a3 b1 b2 b3 ↔ b1 < a1 ∨ (a1 = b1 ∧ pkey b1 b2 b3 < pkey a1 a2 a3) := by
  unfold pcmp pkey
  by_cases h1 : a1 = b1
  · subst h1
    by_cases h2 : a1 = 1
    · rw [if_pos rfl, if_pos h2, if_pos h2, if_pos h2, icmp_gt]; omega
    · rw [if_pos rfl, if_neg h2, if_neg h2, if_neg h2, icmp_gt]; omega
  · rw [if_neg h1, icmp_gt]; omega
theorem pcmp_trans (a1 a2 a3 b1 b2 b3 c1 c2 c3 : Int) (h : 0 ≤ pcmp a1 a2 a3 b1 b2 b3) (k : 0 ≤ pcmp b1 b2 b3 c1 c2 c3) :
    0 ≤ pcmp a1 a2 a3 c1 c2 c3 ∧ ((0 < pcmp a1 a2 a3 b1 b2 b3 ∨ 0 < pcmp b1 b2 b3 c1 c2 c3) → 0 < pcmp a1 a2 a3 c1 c2 c3) := by
  rw [pcmp_ge] at *
  rw [pcmp_gt, pcmp_gt, pcmp_gt]
  omega
theorem pcmp_zero (a1 a2 a3 b1 b2 b3 : Int) (ha : pmay a1 a2 a3 = true) (hb : pmay b1 b2 b3 = true) : pcmp a1 a2 a3 b1 b2 b3 = 0 ↔ (a1 = b1 ∧ a2 = b2 ∧ a3 = b3) := by
  have iz : ∀ x y : Int, icmp x y = 0 ↔ x = y := fun x y => by unfold icmp; split <;> (try split) <;> simp <;> omega
  unfold pmay at *
  unfold pcmp
  by_cases h1 : a1 = b1
  · subst h1
    by_cases h0 : a1 = 0
    · simp [h0] at ha hb; simp [h0, iz]; omega
    · by_cases h2 : a1 = 1
      · simp [h2] at ha hb; simp [h2, iz]; omega
      · by_cases h3 : a1 = 2
        · simp [h3] at ha hb; simp [h3, iz]; omega
        · simp [h0, h2, h3] at ha
  · simp [h1, iz]


set_option maxRecDepth 100000 in
set_option maxHeartbeats 4000000 in
theorem law_prioorder (a1 a2 a3 b1 b2 b3 c1 c2 c3 : Int) (w : World) (_ : I64 a1 ∧ I64 a2 ∧ I64 a3) (_ : I64 b1 ∧ I64 b2 ∧ I64 b3) (_ : I64 c1 ∧ I64 c2 ∧ I64 c3) :
    Calls Try.prog 5 #[.agg #[.int .i64 a1, .int .i64 a2, .int .i64 a3], .agg #[.int .i64 b1, .int .i64 b2, .int .i64 b3], .agg #[.int .i64 c1, .int .i64 c2, .int .i64 c3]] w fun e w' => e = .returned (.bool true) ∧ Below w.heap.size w w' := by
  have hs := pcmp_swap a1 a2 a3 b1 b2 b3
  have ht := pcmp_trans a1 a2 a3 b1 b2 b3 c1 c2 c3
  have hz := pcmp_zero a1 a2 a3 b1 b2 b3
  have r1 := pcmp_rng a1 a2 a3 b1 b2 b3
  have r2 := pcmp_rng b1 b2 b3 c1 c2 c3
  have r3 := pcmp_rng a1 a2 a3 c1 c2 c3
  have o1 := ((Own.new w 23 (pv (a1, a2, a3))).alloc (.cells #[.int .i64 b1, .int .i64 b2, .int .i64 b3] 23)).alloc (.cells #[.int .i64 c1, .int .i64 c2, .int .i64 c3] 23)
  have o2 := (Own.new (w.alloc (.cells #[.int .i64 a1, .int .i64 a2, .int .i64 a3] 23)) 23 (pv (b1, b2, b3))).alloc (.cells #[.int .i64 c1, .int .i64 c2, .int .i64 c3] 23)
  have o3 := Own.new ((w.alloc (.cells #[.int .i64 a1, .int .i64 a2, .int .i64 a3] 23)).alloc (.cells #[.int .i64 b1, .int .i64 b2, .int .i64 b3] 23)) 23 (pv (c1, c2, c3))
  rw [World.size_alloc] at o2
  rw [World.size_alloc, World.size_alloc] at o3
  obtain ⟨p0, p1, p2, _, _, _⟩ := o1.pv3
  obtain ⟨q0, q1, q2, _, _, _⟩ := o2.pv3
  obtain ⟨s0, s1, s2, _, _, _⟩ := o3.pv3
  simp only at p0 p1 p2 q0 q1 q2 s0 s1 s2
  have bW : Ext w (((w.alloc (.cells #[.int .i64 a1, .int .i64 a2, .int .i64 a3] 23)).alloc (.cells #[.int .i64 b1, .int .i64 b2, .int .i64 b3] 23)).alloc (.cells #[.int .i64 c1, .int .i64 c2, .int .i64 c3] 23)) := Ext.trans (Ext.trans (Ext.alloc _ _) (Ext.alloc _ _)) (Ext.alloc _ _)
  have HSELF := Lib.hid (pcmp_self a1 a2 a3)
  clear o1 o2 o3
  have HS := Lib.hid hs
  have HT := Lib.hid ht
  have HZ := Lib.hid hz
  have R1 := Lib.hid r1
  have R2 := Lib.hid r2
  have R3 := Lib.hid r3
  clear hs ht hz r1 r2 r3
  go_enter Try.func5, Try.ntmps5
  go_wp2
  refine wp_region_dep (S := Ext) (C := Ext (((w.alloc (.cells #[.int .i64 a1, .int .i64 a2, .int .i64 a3] 23)).alloc (.cells #[.int .i64 b1, .int .i64 b2, .int .i64 b3] 23)).alloc (.cells #[.int .i64 c1, .int .i64 c2, .int .i64 c3] 23))) (by kernel_rfl) (by kernel_rfl) rfl Ext.refl (Ext.drew _) ?_
  repeat (refine dep_det (by rfl) (fun K hK => ?_); go_simp; first
    | (refine ⟨_, fun w1 hw1 => ⟨Ext.refl w1, hw1, rfl⟩, hK _ ?_⟩; clear hK K)
    | (apply Exists.intro; refine ⟨fun w1 hw1 => ?_, hK _ ?_⟩
       first
         | (go_at_call 6; refine (prio_compare _ _ _ _ _ _ _).mono ?_; rintro e w' ⟨rfl, hb'⟩; exact ⟨_, rfl, hb', Ext.trans hw1 hb', rfl⟩)
         | (have c_p0 := cell_keep hw1 p0; have c_p1 := cell_keep hw1 p1; have c_p2 := cell_keep hw1 p2; have c_q0 := cell_keep hw1 q0; have c_q1 := cell_keep hw1 q1; have c_q2 := cell_keep hw1 q2; have c_s0 := cell_keep hw1 s0; have c_s1 := cell_keep hw1 s1; have c_s2 := cell_keep hw1 s2; go_simp; first | exact ⟨Ext.refl _, hw1, rfl⟩ | exact ⟨Ext.refl _, rfl⟩)
       clear hK K))
  refine dep_nil ?_
  intro a' w' hC hE
  obtain rfl := atEnd_nil hE
  clear hE
  replace bW := Ext.trans bW hC
  replace p0 := cell_keep hC p0
  replace p1 := cell_keep hC p1
  replace p2 := cell_keep hC p2
  replace q0 := cell_keep hC q0
  replace q1 := cell_keep hC q1
  replace q2 := cell_keep hC q2
  clear hC s0 s1 s2
  have hself := HSELF.out
  have hs := HS.out
  have ht := HT.out
  have hz := HZ.out
  have r1 := R1.out
  have r2 := R2.out
  have r3 := R3.out
  clear HSELF HS HT HZ R1 R2 R3
  generalize pcmp a1 a2 a3 b1 b2 b3 = x at *
  generalize pcmp b1 b2 b3 c1 c2 c3 = y at *
  generalize pcmp a1 a2 a3 c1 c2 c3 = z at *
  have lo1 : -1 ≤ x := by omega
  have lo2 : x ≤ 1 := by omega
  have lo3 : -1 ≤ y := by omega
  have lo4 : y ≤ 1 := by omega
  have lo5 : -1 ≤ z := by omega
  have lo6 : z ≤ 1 := by omega
  have hx0 : (0 ≤ x ∧ 0 ≤ y) → 0 ≤ z := fun h => (ht h.1 h.2).1
  have hx1 : (0 ≤ x ∧ 0 ≤ y ∧ (0 < x ∨ 0 < y)) → 0 < z := fun h => (ht h.1 h.2.1).2 h.2.2
  have HX0 := Lib.hid hx0
  have HX1 := Lib.hid hx1
  have HZ := Lib.hid hz
  have n0 : (pcmp b1 b2 b3 a1 a2 a3 != -x) = false := by rw [hs]; simp
  have n1 : (pcmp a1 a2 a3 a1 a2 a3 != 0) = false := by rw [hself]; rfl
  have nw : IntKind.i64.wrap (-x) = -x := IntWalk.i64_in _ ⟨by omega, by omega⟩
  clear hx0 hx1 ht hz hs hself r1 r2 r3
  go_wp2_with (go_at_call 6; refine (prio_compare _ _ _ _ _ _ _).mono ?_; rintro e w1 ⟨rfl, b1⟩; replace p0 := cell_keep b1 p0; replace p1 := cell_keep b1 p1; replace p2 := cell_keep b1 p2; replace q0 := cell_keep b1 q0; replace q1 := cell_keep b1 q1; replace q2 := cell_keep b1 q2; replace bW := Ext.trans bW b1; clear b1)
  all_goals first
    | (exfalso; have := HX0.out; have := HX1.out; omega)
    | (cases hma : pmay a1 a2 a3
       · go_wp2_with (first | (go_at_call 8; refine (prio_may _ _ _ _).mono ?_; rintro e w1 ⟨rfl, b1⟩; replace p0 := cell_keep b1 p0; replace p1 := cell_keep b1 p1; replace p2 := cell_keep b1 p2; replace q0 := cell_keep b1 q0; replace q1 := cell_keep b1 q1; replace q2 := cell_keep b1 q2; replace bW := Ext.trans bW b1; clear b1) | (go_at_call 10; refine (prio_awake _).mono ?_; rintro e w1 ⟨rfl, b1⟩; replace p0 := cell_keep b1 p0; replace p1 := cell_keep b1 p1; replace p2 := cell_keep b1 p2; replace q0 := cell_keep b1 q0; replace q1 := cell_keep b1 q1; replace q2 := cell_keep b1 q2; replace bW := Ext.trans bW b1; clear b1))
         go_ret
         exact ⟨rfl, bW⟩
       · cases hmb : pmay b1 b2 b3
         · go_wp2_with (first | (go_at_call 8; refine (prio_may _ _ _ _).mono ?_; rintro e w1 ⟨rfl, b1⟩; replace p0 := cell_keep b1 p0; replace p1 := cell_keep b1 p1; replace p2 := cell_keep b1 p2; replace q0 := cell_keep b1 q0; replace q1 := cell_keep b1 q1; replace q2 := cell_keep b1 q2; replace bW := Ext.trans bW b1; clear b1) | (go_at_call 10; refine (prio_awake _).mono ?_; rintro e w1 ⟨rfl, b1⟩; replace p0 := cell_keep b1 p0; replace p1 := cell_keep b1 p1; replace p2 := cell_keep b1 p2; replace q0 := cell_keep b1 q0; replace q1 := cell_keep b1 q1; replace q2 := cell_keep b1 q2; replace bW := Ext.trans bW b1; clear b1))
           go_ret
           exact ⟨rfl, bW⟩
         · have hiff := HZ.out hma hmb
           by_cases hx : x = 0
           · obtain ⟨rfl, rfl, rfl⟩ := hiff.1 hx
             have tx : (x == 0) = true := by simp [hx]
             clear hiff hx
             go_wp2_with (first | (go_at_call 8; refine (prio_may _ _ _ _).mono ?_; rintro e w1 ⟨rfl, b1⟩; replace p0 := cell_keep b1 p0; replace p1 := cell_keep b1 p1; replace p2 := cell_keep b1 p2; replace q0 := cell_keep b1 q0; replace q1 := cell_keep b1 q1; replace q2 := cell_keep b1 q2; replace bW := Ext.trans bW b1; clear b1) | (go_at_call 10; refine (prio_awake _).mono ?_; rintro e w1 ⟨rfl, b1⟩; replace p0 := cell_keep b1 p0; replace p1 := cell_keep b1 p1; replace p2 := cell_keep b1 p2; replace q0 := cell_keep b1 q0; replace q1 := cell_keep b1 q1; replace q2 := cell_keep b1 q2; replace bW := Ext.trans bW b1; clear b1))
             go_ret
             exact ⟨rfl, bW⟩
           · have tx : (x == 0) = false := by simp [hx]
             have HNE := Lib.hid (fun h => hx (hiff.2 h))
             clear hiff hx
             go_wp2_with (first | (go_at_call 8; refine (prio_may _ _ _ _).mono ?_; rintro e w1 ⟨rfl, b1⟩; replace p0 := cell_keep b1 p0; replace p1 := cell_keep b1 p1; replace p2 := cell_keep b1 p2; replace q0 := cell_keep b1 q0; replace q1 := cell_keep b1 q1; replace q2 := cell_keep b1 q2; replace bW := Ext.trans bW b1; clear b1) | (go_at_call 10; refine (prio_awake _).mono ?_; rintro e w1 ⟨rfl, b1⟩; replace p0 := cell_keep b1 p0; replace p1 := cell_keep b1 p1; replace p2 := cell_keep b1 p2; replace q0 := cell_keep b1 q0; replace q1 := cell_keep b1 q1; replace q2 := cell_keep b1 q2; replace bW := Ext.trans bW b1; clear b1))
             all_goals first
               | (exfalso; exact HNE.out ⟨by assumption, by assumption, by assumption⟩)
               | (go_ret; exact ⟨rfl, bW⟩))

end Go.Proofs.Ytjfldaagnccfpaa
