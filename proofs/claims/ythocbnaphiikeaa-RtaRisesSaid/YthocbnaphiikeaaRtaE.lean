/-
  WALKS of the statements on rta, chapter 16: RtaParts.
-/
import Derived.Test.YthocbnaphiikeaaRtaC
namespace Go.Proofs.Ythocbnaphiikeaa
open Go.RowKit
attribute [local go_sem] depUpon Sp.ok

theorem rwork_app (span : Int) (ps qs : List (Int × Int)) : rwork span (ps ++ qs) = clip (rwork span ps + rwork span qs) := by
  rcases List.eq_nil_or_concat qs with rfl | ⟨qs', q, rfl⟩
  · simp [rwork]
    exact (clip_of _ (rwork_lo span ps) (rwork_hi span ps)).symm
  · rw [List.concat_eq_append, ← List.append_assoc, rwork_snoc, rwork_app span ps qs', rwork_snoc]
    have h1 := rwork_lo span ps
    have h2 := rwork_lo span qs'
    generalize nmul (nup span q.1) q.2 = y
    simp [nsum]; unfold clip; omega
  termination_by qs.length
  decreasing_by subst_vars; simp
theorem info_part : (Try.prog.info? 35).map (fun i => (i.zero, i.size, i.bytes)) = some (some (.agg #[.int .i64 0, .int .i64 0]), 2, 16) := by kernel_rfl

/-- One part's work in a span that is more by its period. -/
theorem one_more (s p c : Int) (s0 : 1 ≤ s) (s1 : s ≤ 500) (p0 : 1 ≤ p) (p1 : p ≤ 100) (c0 : 0 ≤ c) (c1 : c < 100) :
    rwork (s + p) [(p, c)] = rwork s [(p, c)] + c ∧ 0 ≤ rwork s [(p, c)] ∧ rwork s [(p, c)] ≤ 1000000 := by
  have cp : clip p = p := clip_of p (by omega) (by omega)
  have mp : max p 1 = p := by omega
  have u1 : nup s p = (s + p - 1) / p := by unfold nup; rw [cp, mp, clip_of s (by omega) (by omega)]
  have u2 : nup (s + p) p = (s + p - 1) / p + 1 := by
    unfold nup; rw [cp, mp, clip_of (s + p) (by omega) (by omega)]
    rw [show s + p + p - 1 = (s + p - 1) + 1 * p by omega, Int.add_mul_ediv_right _ _ (by omega)]
  have d0 : 0 ≤ (s + p - 1) / p := Int.ediv_nonneg (by omega) (by omega)
  have d1 : (s + p - 1) / p ≤ 600 := by have := Int.ediv_le_self (a := s + p - 1) p (by omega); omega
  have m1 : ∀ u : Int, 0 ≤ u → u ≤ 700 → nmul u c = u * c := by
    intro u h0 h1
    have h2 : 0 ≤ u * c := Int.mul_nonneg h0 c0
    have h3 : u * c ≤ 700 * 100 := Int.mul_le_mul h1 (by omega) c0 (by omega)
    unfold nmul
    rw [clip_of u h0 (by omega), clip_of c c0 (by omega), clip_of _ h2 (by omega)]
  have e : ∀ t : Int, rwork t [(p, c)] = clip (nmul (nup t p) c) := by
    intro t
    simp [rwork, nsum]
    generalize nmul (nup t p) c = y
    unfold clip; omega
  have q0 : 0 ≤ (s + p - 1) / p * c := Int.mul_nonneg d0 c0
  have q1 : (s + p - 1) / p * c ≤ 600 * 100 := Int.mul_le_mul d1 (by omega) c0 (by omega)
  rw [e, e, u1, u2, m1 _ d0 (by omega), m1 _ (by omega) (by omega), Int.add_mul, Int.one_mul, clip_of _ q0 (by omega), clip_of _ (by omega) (by omega)]
  omega

set_option maxRecDepth 100000 in
set_option maxHeartbeats 2000000 in
theorem law_rtaparts (A : Option Addr) (n c : Nat) (ps : List (Int × Int)) (B : Option Addr) (m d : Nat) (qs : List (Int × Int)) (span pp pc : Int) (w : World) (ga : PairsArg w A n ps) (gb : PairsArg w B m qs) (_ : I64 span) (_ : I64 pp) (_ : I64 pc) :
    Calls Try.prog 6 #[.slice A n c, .slice B m d, .int .i64 span, .agg #[.int .i64 pp, .int .i64 pc]] w fun e w' => e = .returned (.bool true) ∧ Below w.heap.size w w' := by
  obtain ⟨ha, na, ra0, _⟩ := ga
  obtain ⟨hb, nb, rb0, _⟩ := gb
  by_cases h1 : 12 < n
  · go_enter Try.func6, Try.ntmps6
    go_wp2_with (go_at_call 8; refine (rta_awake _).mono ?_; rintro e w1 ⟨rfl, b1⟩)
    go_ret
    exact ⟨rfl, Ext.trans (Ext.alloc _ _) b1⟩
  by_cases h2 : 12 < m
  · go_enter Try.func6, Try.ntmps6
    go_wp2_with (go_at_call 8; refine (rta_awake _).mono ?_; rintro e w1 ⟨rfl, b1⟩)
    go_ret
    exact ⟨rfl, Ext.trans (Ext.alloc _ _) b1⟩
  obtain ⟨ip, hi, hz0, hz1, hz2⟩ := info_parts info_part
  have HA := Lib.hid ha
  have HB := Lib.hid hb
  have l1 := low_lo span 500 (by omega)
  have l2 := low_hi span 500 (by omega)
  have ra : Rd (w.alloc (.cells #[.int .i64 pp, .int .i64 pc] 35)) A (pairs ps) := ra0.keep (Ext.alloc _ _)
  have rb : Rd (w.alloc (.cells #[.int .i64 pp, .int .i64 pc] 35)) B (pairs qs) := rb0.keep (Ext.alloc _ _)
  have oM := Own.new w 35 [.int .i64 pp, .int .i64 pc]
  have bM := Ext.alloc w (.cells #[.int .i64 pp, .int .i64 pc] 35)
  have zM : (w.alloc (.cells #[.int .i64 pp, .int .i64 pc] 35)).heap.size = w.heap.size + 1 := World.size_alloc _ _
  have LA := Lib.hid (by rw [pairs_len, HA.out]; omega : (pairs ps).length = n * 2)
  have LB := Lib.hid (by rw [pairs_len, HB.out]; omega : (pairs qs).length = m * 2)
  clear ha hb
  go_enter Try.func6, Try.ntmps6
  go_wp2_with (first
    | (go_at_call 14; refine (low_any _ _ _ (by omega) (by omega)).mono ?_; rintro e w' ⟨rfl, rfl⟩)
    | (at_builtin; refine wpl_append _ rfl (.const (.slice none 0 0)) (.tmp 23) 22 rfl 35 ip _ 2 16 Try.underlying22 hi hz0 hz1 hz2 rfl (by omega) (w.heap.size + 1) none 0 0 [] rfl (Row.nil _ _ _ _) A n c (pairs ps) rfl LA.out ra (pairs_one ps) n (pairs ps) (by omega) rfl (by omega) (by omega) (by rw [zM]; omega) ?_; intro A1 c1 w1 o1 g1 e1)
    | (at_builtin; have b1 : Below (w.heap.size + 1) (w.alloc (.cells #[.int .i64 pp, .int .i64 pc] 35)) w1 := below_grown (Below.refl _ _) g1 (by rw [zM]; omega) (by simp [blk]); refine wpl_append _ rfl (.tmp 24) (.tmp 25) 22 rfl 35 ip _ 2 16 Try.underlying22 hi hz0 hz1 hz2 rfl (by omega) (w.heap.size + 1) A1 n c1 _ rfl o1 B m d (pairs qs) rfl LB.out (rb.keep (b1.mono (by rw [zM]; omega))) (pairs_one qs) (n + m) (pairs (ps ++ qs)) rfl (pairs_app ps qs) (by omega) (by omega) (by have := b1.size; omega) ?_; intro A2 c2 w2 o2 g2 e2))
  have b2 : Below (w.heap.size + 1) (w.alloc (.cells #[.int .i64 pp, .int .i64 pc] 35)) w2 := below_grown b1 g2 (by have := b1.size; omega) (fun g hg => (o1.at_ g hg).1)
  have oS := oM.below b2 (by omega)
  have hc0 := oS.cell 0
  have hc1 := oS.cell 1
  simp only [List.getElem?_cons_zero, List.getElem?_cons_succ] at hc0 hc1
  have p0 := low_lo pp 100 (by omega)
  have p1 := low_hi pp 100 (by omega)
  have q0 := low_lo pc 100 (by omega)
  have q1 := low_hi pc 100 (by omega)
  have k1 : IntKind.i64.wrap (1 + low pp 100) = 1 + low pp 100 := IntWalk.i64_in _ ⟨by omega, by omega⟩
  have s2 := b2.size
  refine wp_region_dep_tail 8 (S := Ext) (C := Ext (w2)) (by kernel_rfl) (by kernel_rfl) rfl Ext.refl (Ext.drew _) ?_
  simp only [List.take_succ_cons, List.take_zero]
  repeat (refine dep_det (by rfl) (fun K hK => ?_); go_simp; first
    | (refine ⟨_, fun w1 hw1 => ⟨Ext.refl w1, hw1, rfl⟩, hK _ ?_⟩; clear hK K)
    | (apply Exists.intro; refine ⟨fun w1 hw1 => ?_, hK _ ?_⟩
       first
         | (go_at_call 14; refine (low_any _ _ _ (by omega) (by omega)).mono ?_; rintro e w' ⟨rfl, rfl⟩; exact ⟨_, rfl, Ext.refl _, hw1, rfl⟩)
         | (have c_hc0 := cell_keep hw1 hc0; have c_hc1 := cell_keep hw1 hc1; go_simp; first | exact ⟨Ext.refl _, hw1, rfl⟩ | exact ⟨Ext.refl _, rfl⟩)
       clear hK K))
  refine dep_nil ?_
  intro a' w' hC hE
  obtain rfl := atEnd_nil hE
  clear hE
  simp only [List.drop_succ_cons, List.drop_zero]
  have oT := oS.keep hC
  have hd0 := oT.cell 0
  have hd1 := oT.cell 1
  simp only [List.getElem?_cons_zero, List.getElem?_cons_succ] at hd0 hd1
  have hf0 := oT.frozen 0
  have hf1 := oT.frozen 1
  have s3 := hC.size
  go_wp2
  have sz : ((w'.setCell ⟨w.heap.size, 0, none⟩ (.int .i64 (1 + low pp 100))).setCell ⟨w.heap.size, 1, none⟩ (.int .i64 (low pc 100))).heap.size = w'.heap.size := by simp [World.setCell]
  have oN := Own.new ((w'.setCell ⟨w.heap.size, 0, none⟩ (.int .i64 (1 + low pp 100))).setCell ⟨w.heap.size, 1, none⟩ (.int .i64 (low pc 100))) 35 [.int .i64 (1 + low pp 100), .int .i64 (low pc 100)]
  have oX := ((oT.set 0 (.int .i64 (1 + low pp 100))).set 1 (.int .i64 (low pc 100))).alloc (.cells #[.int .i64 (1 + low pp 100), .int .i64 (low pc 100)] 35)
  have bW : Below w.heap.size w w' := (bM.trans (b2.mono (by omega))).trans (hC.mono (by omega))
  have bX := (((bW.setCell (p := ⟨w.heap.size, 0, none⟩) (Nat.le_refl _) (.int .i64 (1 + low pp 100))).setCell (p := ⟨w.heap.size, 1, none⟩) (Nat.le_refl _) (.int .i64 (low pc 100))).alloc (by rw [sz]; omega) (.cells #[.int .i64 (1 + low pp 100), .int .i64 (low pc 100)] 35))
  have rowX : Rd (((w'.setCell ⟨w.heap.size, 0, none⟩ (.int .i64 (1 + low pp 100))).setCell ⟨w.heap.size, 1, none⟩ (.int .i64 (low pc 100))).alloc (.cells #[.int .i64 (1 + low pp 100), .int .i64 (low pc 100)] 35)) A2 (pairs (ps ++ qs)) := by
    have r1 := o2.keep hC
    have g : w'.grownBy (((w'.setCell ⟨w.heap.size, 0, none⟩ (.int .i64 (1 + low pp 100))).setCell ⟨w.heap.size, 1, none⟩ (.int .i64 (low pc 100))).alloc (.cells #[.int .i64 (1 + low pp 100), .int .i64 (low pc 100)] 35)) (some w.heap.size) :=
      ⟨rfl, rfl, rfl, by rw [World.size_alloc, sz]; omega, fun k hk hne => by
        have hne' : k ≠ w.heap.size := fun e => hne (by rw [e])
        rw [Below.heap_alloc _ _ _ (by rw [sz]; exact hk), Below.heap_setCell _ _ _ _ hne', Below.heap_setCell _ _ _ _ hne']⟩
    exact (r1.grown g (by
      right
      intro e
      have := r1.at_ _ e
      omega)).rd
  have szN : (((w'.setCell ⟨w.heap.size, 0, none⟩ (.int .i64 (1 + low pp 100))).setCell ⟨w.heap.size, 1, none⟩ (.int .i64 (low pc 100))).alloc (.cells #[.int .i64 (1 + low pp 100), .int .i64 (low pc 100)] 35)).heap.size = w'.heap.size + 1 := by rw [World.size_alloc, sz]
  rw [sz] at oN
  have rA := ra0.keep bX
  have rB := rb0.keep bX
  clear hc0 hc1 hd0 hd1 hf0 hf1 oT oS oM ra rb o1 o2 g1 g2 e1 e2 b1 b2 hC bW bM k1
  obtain ⟨E1, E2, E3⟩ := one_more (1 + low span 500) (1 + low pp 100) (low pc 100) (by omega) (by omega) (by omega) (by omega) (by omega) (by omega)
  have E0 : nadd (rwork (1 + low span 500) ps) (rwork (1 + low span 500) qs) = rwork (1 + low span 500) (ps ++ qs) := by
    rw [rwork_app]; unfold nadd; rw [clip_of _ (rwork_lo _ _) (rwork_hi _ _), clip_of _ (rwork_lo _ _) (rwork_hi _ _)]
  have w1 : IntKind.i64.wrap (1 + low span 500 + (1 + low pp 100)) = 1 + low span 500 + (1 + low pp 100) := IntWalk.i64_in _ ⟨by omega, by omega⟩
  generalize (((w'.setCell ⟨w.heap.size, 0, none⟩ (.int .i64 (1 + low pp 100))).setCell ⟨w.heap.size, 1, none⟩ (.int .i64 (low pc 100))).alloc (.cells #[.int .i64 (1 + low pp 100), .int .i64 (low pc 100)] 35)) = wx at *
  generalize 1 + low span 500 = s at *
  generalize 1 + low pp 100 = p at *
  generalize low pc 100 = k at *
  have w2 : IntKind.i64.wrap (rwork s [(p, k)] + k) = rwork s [(p, k)] + k := IntWalk.i64_in _ ⟨by omega, by omega⟩
  have hx0 : wx.cell? ⟨w.heap.size, 0, none⟩ = some (.int .i64 p) := by rw [oX.cell]; rfl
  have hx1 : wx.cell? ⟨w.heap.size, 1, none⟩ = some (.int .i64 k) := by rw [oX.cell]; rfl
  have r1 : Rd wx (some ⟨w'.heap.size, 0, none⟩) (pairs [(p, k)]) := oN.rd0
  have lAB : (ps ++ qs).length = n + m := by simp [HA.out, HB.out]
  have LAB := Lib.hid lAB
  have n1 : n + m ≤ 100 := by omega
  clear lAB sz szN oX oN s3 s2
  have N1 : n + m ≤ 4611686018427387904 := by omega
  have N2 : n ≤ 4611686018427387904 := by omega
  have N3 : m ≤ 4611686018427387904 := by omega
  have N4 : 1 ≤ 4611686018427387904 := by omega
  have N5 : [(p, k)].length = 1 := rfl
  refine wp_region_dep (S := Ext) (C := Ext (wx)) (by kernel_rfl) (by kernel_rfl) rfl Ext.refl (Ext.drew _) ?_
  repeat (refine dep_det (by rfl) (fun K hK => ?_); go_simp; first
    | (refine ⟨_, fun w1 hw1 => ⟨Ext.refl w1, hw1, rfl⟩, hK _ ?_⟩; clear hK K)
    | (apply Exists.intro; refine ⟨fun w1 hw1 => ?_, hK _ ?_⟩
       first
         | (go_at_call 12; ((with_reducible refine (rta_work _ A2 (n + m) _ (ps ++ qs) _ N1 (rowX.keep hw1) LAB.out).mono ?_); rintro e w' ⟨rfl, hb'⟩; exact ⟨_, rfl, hb', Ext.trans hw1 hb', rfl⟩))
         | (go_at_call 12; ((with_reducible refine (rta_work _ A n _ ps _ N2 (rA.keep hw1) HA.out).mono ?_); rintro e w' ⟨rfl, hb'⟩; exact ⟨_, rfl, hb', Ext.trans hw1 hb', rfl⟩))
         | (go_at_call 12; ((with_reducible refine (rta_work _ B m _ qs _ N3 (rB.keep hw1) HB.out).mono ?_); rintro e w' ⟨rfl, hb'⟩; exact ⟨_, rfl, hb', Ext.trans hw1 hb', rfl⟩))
         | (go_at_call 12; ((with_reducible refine (rta_work _ (some ⟨w'.heap.size, 0, none⟩) 1 _ [(p, k)] _ N4 (r1.keep hw1) N5).mono ?_); rintro e w' ⟨rfl, hb'⟩; exact ⟨_, rfl, hb', Ext.trans hw1 hb', rfl⟩))
         | (go_at_call 15; refine (ref_add _ _ _).mono ?_; rintro e w' ⟨rfl, rfl⟩; exact ⟨_, rfl, Ext.refl _, hw1, rfl⟩)
         | (go_at_call 8; refine (rta_awake _).mono ?_; rintro e w' ⟨rfl, hb'⟩; exact ⟨_, rfl, hb', Ext.trans hw1 hb', rfl⟩)
         | (have c_hx0 := cell_keep hw1 hx0; have c_hx1 := cell_keep hw1 hx1; go_simp; first | exact ⟨Ext.refl _, hw1, rfl⟩ | exact ⟨Ext.refl _, rfl⟩)
       clear hK K))
  refine dep_nil ?_
  intro a' w' hC hE
  obtain rfl := atEnd_nil hE
  clear hE
  go_wp2
  go_ret
  exact ⟨rfl, bX.trans (hC.mono bX.size)⟩

end Go.Proofs.Ythocbnaphiikeaa
