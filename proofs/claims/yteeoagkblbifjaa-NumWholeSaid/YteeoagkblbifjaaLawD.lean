/-
  WALKS of the statements on num, chapter 1: NumWhole.
-/
import Derived.Test.YteeoagkblbifjaaLawA
import Derived.Test.YteeoagkblbifjaaDep
namespace Go.Proofs.Yteeoagkblbifjaa
open Go.RowKit
attribute [local go_sem] depUpon Sp.ok

structure WholeFacts (a b u d : Int) : Prop where
  a0 : 0 ≤ a
  a1 : a < 1073741824
  b0 : 1 ≤ b
  b1 : b ≤ 1048576
  u0 : 0 ≤ u
  u1 : u ≤ 1099511627776
  d0 : 0 ≤ d
  d1 : d ≤ 1099511627776
  e1 : d * b ≤ a
  e2 : a - d * b < b
  e3 : a ≤ u * b
  e4 : u * b - a < b
  e5 : 0 ≤ d * b
  e6 : 0 ≤ u * b
  e7 : nmul d b + a % b = a
  e8 : nsum [a, b] = a + b
  e9 : clip (1099511627776 + a) = 1099511627776

theorem whole_law (a b : Int) (a0 : 0 ≤ a) (a1 : a < 1073741824) (b0 : 1 ≤ b) (b1 : b ≤ 1048576) : WholeFacts a b (nup a b) (ndown a b) := by
  have ca : clip a = a := clip_of a a0 (by omega)
  have cb : clip b = b := clip_of b (by omega) (by omega)
  have mb : max b 1 = b := by omega
  have hd : ndown a b = a / b := by unfold ndown; rw [ca, cb, mb]
  have hu : nup a b = (a + b - 1) / b := by unfold nup; rw [ca, cb, mb]
  have h1 := Int.emod_add_mul_ediv a b
  have h2 := Int.emod_nonneg a (b := b) (by omega)
  have h3 := Int.emod_lt_of_pos a (b := b) (by omega)
  have h4 : a / b * b = b * (a / b) := Int.mul_comm _ _
  have h5 : 0 ≤ a / b := Int.ediv_nonneg a0 (by omega)
  have h6 := up_ge a b b0
  have k1 := Int.emod_add_mul_ediv (a + b - 1) b
  have k2 := Int.emod_nonneg (a + b - 1) (b := b) (by omega)
  have k4 : (a + b - 1) / b * b = b * ((a + b - 1) / b) := Int.mul_comm _ _
  have hm : nmul (a / b) b = a / b * b := down_mul a b a0 (by omega) b0 (by omega)
  refine ⟨a0, a1, b0, b1, nup_lo _ _, nup_hi _ _, ndown_lo _ _, ndown_hi _ _, ?_, ?_, ?_, ?_, ?_, ?_, ?_, ?_, ?_⟩
  · rw [hd]; omega
  · rw [hd]; omega
  · rw [hu]; omega
  · rw [hu]; omega
  · rw [hd]; exact Int.mul_nonneg h5 (by omega)
  · rw [hu]; omega
  · rw [hd, hm]; omega
  · rw [nsum2]; unfold nadd; rw [ca, cb, clip_of _ (by omega) (by omega)]
  · exact clip_big _ (by omega)

theorem rd2 (w : World) (a b : Int) : Rd (w.alloc (.cells #[.int .i64 a, .int .i64 b] 3)) (some ⟨w.heap.size, 0, none⟩) (ints [a, b]) := (Own.new w 3 (ints [a, b])).rd0

set_option maxHeartbeats 1000000 in
theorem law_whole (x y : Int) (w : World) (gx : I64 x) (gy : I64 y) :
    Calls Try.prog 6 #[.int .i64 x, .int .i64 y] w fun e w' => e = .returned (.bool true) ∧ Below w.heap.size w w' := by
  have l1 := low_lo x 1073741824 (by omega)
  have l2 := low_hi x 1073741824 (by omega)
  have l3 := low_lo y 1048576 (by omega)
  have l4 := low_hi y 1048576 (by omega)
  have W := whole_law (low x 1073741824) (1 + low y 1048576) l1 l2 (by omega) (by omega)
  obtain ⟨x0, x1⟩ := gx
  obtain ⟨y0, y1⟩ := gy
  go_enter Try.func6, Try.ntmps6
  go_wp2_with (first
    | (go_at_call 21; refine (low_any _ _ _ (by omega) (by omega)).mono ?_; rintro e w' ⟨rfl, rfl⟩)
    | (go_at_call 17; refine (num_up _ _ _).mono ?_; rintro e w' ⟨rfl, rfl⟩)
    | (go_at_call 19; refine (num_down _ _ _).mono ?_; rintro e w' ⟨rfl, rfl⟩))
  generalize low x 1073741824 = a at *
  generalize 1 + low y 1048576 = b at *
  generalize nup a b = u at *
  generalize ndown a b = d at *
  obtain ⟨a0, a1, b0, b1, u0, u1, d0, d1, e1, e2, e3, e4, e5, e6, e7, e8, e9⟩ := W
  have r0 : 0 ≤ a % b := Int.emod_nonneg _ (by omega)
  have r1 : a % b < b := Int.emod_lt_of_pos _ (by omega)
  have k1 : IntKind.i64.wrap (d * b) = d * b := IntWalk.i64_in _ ⟨by omega, by omega⟩
  have k2 : IntKind.i64.wrap (a - d * b) = a - d * b := IntWalk.i64_in _ ⟨by omega, by omega⟩
  have k3 : IntKind.i64.wrap (u * b) = u * b := IntWalk.i64_in _ ⟨by omega, by omega⟩
  have k4 : IntKind.i64.wrap (u * b - a) = u * b - a := IntWalk.i64_in _ ⟨by omega, by omega⟩
  have k5 : IntKind.i64.wrap (a % b) = a % b := IntWalk.i64_in _ ⟨by omega, by omega⟩
  have k6 : a.tmod b = a % b := Int.tmod_eq_emod_of_nonneg a0
  have k7 : IntKind.i64.wrap a = a := IntWalk.i64_in _ ⟨by omega, by omega⟩
  have k8 : IntKind.i64.wrap (a + b) = a + b := IntWalk.i64_in _ ⟨by omega, by omega⟩
  have k9 : IntKind.i64.wrap (1099511627776 + a) = 1099511627776 + a := IntWalk.i64_in _ ⟨by omega, by omega⟩
  have kb : ¬ b = 0 := by omega
  clear l1 l2 l3 l4 x0 x1 y0 y1
  refine wp_region_dep (S := Ext) (C := Ext w) (by kernel_rfl) (by kernel_rfl) rfl Ext.refl (Ext.drew w) ?_
  repeat (refine dep_det (by rfl) (fun K hK => ?_); go_simp; first
    | (refine ⟨_, fun w1 hw1 => ⟨Ext.refl w1, hw1, rfl⟩, hK _ ?_⟩; clear hK K)
    | (apply Exists.intro; refine ⟨fun w1 hw1 => ?_, hK _ ?_⟩
       first
         | (go_at_call 15; refine (num_mul _ _ _).mono ?_; rintro e w' ⟨rfl, rfl⟩; exact ⟨_, rfl, Ext.refl _, hw1, rfl⟩)
         | (go_at_call 10; refine (num_clip _ _).mono ?_; rintro e w' ⟨rfl, rfl⟩; exact ⟨_, rfl, Ext.refl _, hw1, rfl⟩)
       clear hK K))
  refine dep_var (SlAt 3 (ints [a, b]) 2 2) 62 rfl (by rfl) SlAt.keep (by go_simp) (fun w1 hw1 => ?_) ?_
  · go_simp
    exact ⟨Ext.alloc _ _, Ext.trans hw1 (Ext.alloc _ _), SlAt.new w1 3 (ints [a, b]) 2 2⟩
  refine dep_det1 62 _ (by rfl) (by intro V' h; simpa using h) (List.mem_cons_self ..) (by simp [Act.put]) (fun K hK => ?_)
  apply Exists.intro
  refine ⟨fun w1 v hw1 hV => ?_, hK _ ?_⟩
  · obtain ⟨g, rfl, ho⟩ := hV
    go_simp
    refine (num_add _ 2 _ [a, b] _ (by omega) ho.rd0 rfl).mono ?_
    rintro e w' ⟨rfl, rfl⟩
    exact ⟨_, rfl, Ext.refl _, hw1, rfl⟩
  clear hK K
  repeat (refine dep_det (by rfl) (fun K hK => ?_); go_simp; first
    | (refine ⟨_, fun w1 hw1 => ⟨Ext.refl w1, hw1, rfl⟩, hK _ ?_⟩; clear hK K)
    | (apply Exists.intro; refine ⟨fun w1 hw1 => ?_, hK _ ?_⟩
       first
         | (go_at_call 10; refine (num_clip _ _).mono ?_; rintro e w' ⟨rfl, rfl⟩; exact ⟨_, rfl, Ext.refl _, hw1, rfl⟩)
         | (go_at_call 8; refine (awake_any _).mono ?_; rintro e w' ⟨rfl, hb⟩; exact ⟨_, rfl, hb, Ext.trans hw1 hb, rfl⟩)
       clear hK K))
  refine dep_nil ?_
  intro a' w' hC hE
  obtain ⟨v, ⟨g, rfl, _⟩, hE⟩ := atEnd_cons hE (by simp) (by simp)
  obtain rfl := atEnd_nil hE
  clear hE
  go_wp2
  go_ret
  exact ⟨rfl, hC⟩

end Go.Proofs.Yteeoagkblbifjaa
