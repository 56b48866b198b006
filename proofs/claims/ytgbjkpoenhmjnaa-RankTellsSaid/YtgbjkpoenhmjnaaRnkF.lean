/-
  WALKS of the statements on rank, chapter 10: RankTells, RankRises.
-/
import Derived.Test.YtgbjkpoenhmjnaaRnkE
namespace Go.Proofs.Ytgbjkpoenhmjnaa
open Go.RowKit
attribute [local go_sem] depUpon Sp.ok

set_option maxRecDepth 100000 in
set_option maxHeartbeats 400000 in
theorem l_num (x : Int) (w : World) : Calls Try.prog 13 #[.int .i64 x] w fun e w' => e = .returned (.int .i64 x) ∧ w = w' := by
  go_enter Try.func13, Try.ntmps13
  go_wp2
  go_ret
  exact ⟨rfl, rfl⟩

theorem mmay_ways (ms : List (Int × Int)) (hs : List Int) (m : Int) : 0 ≤ mmay ms hs m ∧ mmay ms hs m ≤ 19 := by
  unfold mmay; split
  · omega
  · split <;> omega

set_option maxRecDepth 100000 in
set_option maxHeartbeats 4000000 in
theorem law_ranktells (A : Option Addr) (n c : Nat) (ms : List (Int × Int)) (B : Option Addr) (m d : Nat) (us : List Int) (q r : Int) (w : World) (ga : PairsArg w A n ms) (gb : IntsArg w B m us) (_ : I64 q) (_ : I64 r) :
    Calls Try.prog 3 #[.slice A n c, .slice B m d, .int .i64 q, .int .i64 r] w fun e w' => e = .returned (.bool true) ∧ Below w.heap.size w w' := by
  obtain ⟨hl, hn, hr, _⟩ := ga
  obtain ⟨hl2, hn2, hr2, _⟩ := gb
  by_cases h8 : 30 < n
  · go_enter Try.func3, Try.ntmps3
    go_wp2_with (go_at_call 6; refine (rnk_awake _).mono ?_; rintro e w1 ⟨rfl, b1⟩)
    go_ret
    exact ⟨rfl, b1⟩
  · by_cases h9 : 30 < m
    · go_enter Try.func3, Try.ntmps3
      go_wp2_with (go_at_call 6; refine (rnk_awake _).mono ?_; rintro e w1 ⟨rfl, b1⟩)
      go_ret
      exact ⟨rfl, b1⟩
    · have HL := Lib.hid hl
      have HL2 := Lib.hid hl2
      have HR := Lib.hid hr
      have HR2 := Lib.hid hr2
      clear hl hl2 hr hr2 hn hn2
      cases hok : okM ms with
      | false =>
        have G := Lib.hid (fun w h => r_good A n c ms w (by omega) h HL.out)
        rw [hok] at G
        have HOK := Lib.hid hok
        clear hok
        go_enter Try.func3, Try.ntmps3
        go_wp2_with fail
        refine (t_new_no A n c ms w (by omega) HR.out HL.out HOK.out).mono ?_
        rintro e w1 ⟨rfl, b1⟩
        go_wp2_with fail
        refine (G.out _ (HR.out.keep b1)).mono ?_
        rintro e w2 ⟨rfl, b2⟩
        go_wp2_with fail
        refine (rnk_awake _).mono ?_
        rintro e w3 ⟨rfl, b3⟩
        go_wp2
        go_ret
        exact ⟨rfl, Ext.trans (Ext.trans b1 b2) b3⟩
      | true =>
        have G := Lib.hid (fun w h => r_good A n c ms w (by omega) h HL.out)
        rw [hok] at G
        have HOK := Lib.hid hok
        clear hok
        go_enter Try.func3, Try.ntmps3
        go_wp2_with fail
        refine (t_new A n c ms w (by omega) HR.out HL.out HOK.out).mono ?_
        rintro e w1 ⟨g, rfl, tab1, b1⟩
        go_wp2_with fail
        refine (G.out _ (HR.out.keep b1)).mono ?_
        rintro e w2 ⟨rfl, b2⟩
        go_wp2_with fail
        refine (lend_ints B m d us _ (by omega) ((HR2.out.keep b1).keep b2) HL2.out).mono ?_
        rintro e w3 ⟨gl, rfl, ol, _, b3⟩
        have k3 : Ext w w3 := Ext.trans (Ext.trans b1 b2) b3
        have hrl : Rd w3 (some ⟨gl, 0, none⟩) (ints us) := by have := ol.rd0; unfold lentInts at this; exact this.pre
        have TB := Lib.hid ((tab1.keep b2).keep b3)
        have L1 := Lib.hid (HR.out.keep k3)
        have L2 := Lib.hid (HR2.out.keep k3)
        have L3 := Lib.hid hrl
        have OL := Lib.hid ol
        have bW := Ext.refl w3
        clear tab1 b1 b2 b3 hrl ol G
        have m0 := mmay_ways ms us q
        have t1 := fun w (h : Ext w3 w) => t_least _ ms (some ⟨gl, 0, none⟩) m (m + 3) us w (TB.out.keep h) (by omega) (L3.out.keep h) HL2.out
        have t2 := fun w (h : Ext w3 w) => r_least A n c ms B m d us w (by omega) (L1.out.keep h) HL.out (by omega) (L2.out.keep h) HL2.out HOK.out
        have t3 := fun w (h : Ext w3 w) => t_may g ms (some ⟨gl, 0, none⟩) m (m + 3) us q w (TB.out.keep h) (by omega) (L3.out.keep h) HL2.out
        have t4 := fun w (h : Ext w3 w) => r_may A n c ms B m d us q w (by omega) (L1.out.keep h) HL.out (by omega) (L2.out.keep h) HL2.out HOK.out
        have t5 := fun w (h : Ext w3 w) => t_sum _ ms r w (TB.out.keep h)
        have t6 := fun w (h : Ext w3 w) => r_sum A n c ms r w (by omega) (L1.out.keep h) HL.out
        have t7 := fun w (h : Ext w3 w) => t_len _ ms w (TB.out.keep h)
        rw [HL.out] at t7
        have t8 := fun w (h : Ext w3 w) => t_rank _ ms q w (TB.out.keep h)
        have t9 := fun w (h : Ext w3 w) => t_limit _ ms q w (TB.out.keep h)
        have t10 : ∀ w, Ext w3 w → Calls Try.prog 21 #[.slice (some ⟨gl, 0, none⟩) m (m + 3), .slice B m d] w fun e w' => e = .returned (.bool true) ∧ Below w.heap.size w w' := fun w h =>
          (kept_ints B gl m m d us us w (by omega) (by omega) (OL.out.keep h) (L2.out.keep h) HL2.out HL2.out).mono fun e w' ⟨h3, qq, h4⟩ => ⟨by simpa using h3, by rw [h4]; exact Ext.drewN _ _⟩
        generalize rleast ms us = rl at *
        generalize mmay ms us q = my at *
        generalize rsum r ms = sm at *
        obtain ⟨rl, rb⟩ := rl
        obtain ⟨m0, m1⟩ := m0
        have T1 := Lib.hid t1
        have T2 := Lib.hid t2
        have T3 := Lib.hid t3
        have T4 := Lib.hid t4
        have T5 := Lib.hid t5
        have T6 := Lib.hid t6
        have T7 := Lib.hid t7
        have T10 := Lib.hid t10
        clear t1 t2 t3 t4 t5 t6 t7 t10
        rcases mget_ways ms q with ⟨hg, hout⟩ | ⟨j, rfl, hj, hg⟩
        · rw [hg] at t8 t9
          have T8 := Lib.hid t8
          have T9 := Lib.hid t9
          have c1 := fun w => r_is A n c q w
          rw [isM_out (by rw [HL.out] at hout; exact hout)] at c1
          have C1 := Lib.hid c1
          clear t8 t9 hg hout c1
          go_wp2_with (first
            | ((with_reducible go_at_call 10); (with_reducible refine (T1.out _ bW).mono ?_); rintro e w4 ⟨rfl, b4⟩; replace bW := Ext.trans bW b4; clear b4)
            | ((with_reducible go_at_call 11); (with_reducible refine (T2.out _ bW).mono ?_); rintro e w4 ⟨rfl, b4⟩; replace bW := Ext.trans bW b4; clear b4)
            | ((with_reducible go_at_call 12); (with_reducible refine (C1.out _).mono ?_); rintro e w' ⟨rfl, rfl⟩)
            | ((with_reducible go_at_call 14); (with_reducible refine (T3.out _ bW).mono ?_); rintro e w4 ⟨rfl, b4⟩; replace bW := Ext.trans bW b4; clear b4)
            | ((with_reducible go_at_call 13); (with_reducible refine (l_num _ _).mono ?_); rintro e w' ⟨rfl, rfl⟩)
            | ((with_reducible go_at_call 15); (with_reducible refine (T4.out _ bW).mono ?_); rintro e w4 ⟨rfl, b4⟩; replace bW := Ext.trans bW b4; clear b4)
            | ((with_reducible go_at_call 16); (with_reducible refine (T5.out _ bW).mono ?_); rintro e w4 ⟨rfl, b4⟩; replace bW := Ext.trans bW b4; clear b4)
            | ((with_reducible go_at_call 17); (with_reducible refine (T6.out _ bW).mono ?_); rintro e w4 ⟨rfl, b4⟩; replace bW := Ext.trans bW b4; clear b4)
            | ((with_reducible go_at_call 18); (with_reducible refine (T7.out _ bW).mono ?_); rintro e w' ⟨rfl, rfl⟩)
            | ((with_reducible go_at_call 19); (with_reducible refine (T8.out _ bW).mono ?_); rintro e w4 ⟨rfl, b4⟩; replace bW := Ext.trans bW b4; clear b4)
            | ((with_reducible go_at_call 20); (with_reducible refine (T9.out _ bW).mono ?_); rintro e w4 ⟨rfl, b4⟩; replace bW := Ext.trans bW b4; clear b4)
            | ((with_reducible go_at_call 21); (with_reducible refine (T10.out _ bW).mono ?_); rintro e w4 ⟨rfl, b4⟩; replace bW := Ext.trans bW b4; clear b4)
            | ((with_reducible go_at_call 6); refine (rnk_awake _).mono ?_; rintro e w4 ⟨rfl, b4⟩; replace bW := Ext.trans bW b4; clear b4))
          go_ret
          exact ⟨rfl, Ext.trans k3 bW⟩
        · obtain ⟨bm, offm, eA, hq1, hq2⟩ := L1.out.pair hj
          subst eA
          rw [hg] at t8 t9
          generalize ms[j] = x at *
          obtain ⟨x, xl⟩ := x
          simp only at t8 t9 hq1 hq2
          have hjn : j < n := by have := HL.out; omega
          have T8 := Lib.hid t8
          have T9 := Lib.hid t9
          have c1 := fun w => r_is (some ⟨bm, offm, none⟩) n c (j : Int) w
          rw [isM_in hjn] at c1
          have C1 := Lib.hid c1
          have Q1 := Lib.hid hq1
          have Q2 := Lib.hid hq2
          have hj2 : (j : Int) < (n : Int) := by omega
          clear t8 t9 hg hj c1 hq1 hq2
          go_wp2_with fail
          refine (T1.out _ bW).mono ?_
          rintro e w4 ⟨rfl, b4⟩
          replace bW := Ext.trans bW b4
          clear b4
          go_wp2_with fail
          refine (T2.out _ bW).mono ?_
          rintro e w4 ⟨rfl, b4⟩
          replace bW := Ext.trans bW b4
          clear b4
          go_wp2_with ((with_reducible go_at_call 12); (with_reducible refine (C1.out _).mono ?_); rintro e w' ⟨rfl, rfl⟩)
          have hq1 := cell_keep bW Q1.out
          have hq2 := cell_keep bW Q2.out
          go_wp2
          refine wp_region_dep (S := Ext) (C := Ext (w4)) (by kernel_rfl) (by kernel_rfl) rfl Ext.refl (Ext.drew _) ?_
          repeat (refine dep_det (by rfl) (fun K hK => ?_); go_simp; first
            | ((with_reducible refine hK _ ?_); clear hK K)
            | (refine ⟨_, fun w1 hw1 => ⟨Ext.refl w1, hw1, rfl⟩, hK _ ?_⟩; clear hK K)
            | (apply Exists.intro; refine ⟨fun w1 hw1 => ?_, hK _ ?_⟩
               first
                 | (have c_hq1 := cell_keep hw1 hq1; have c_hq2 := cell_keep hw1 hq2; go_simp; first | exact ⟨Ext.refl _, hw1, rfl⟩ | exact ⟨Ext.refl _, rfl⟩)
               clear hK K))
          refine dep_nil ?_
          intro a' w' hC hE
          obtain rfl := atEnd_nil hE
          clear hE
          replace bW := Ext.trans bW hC
          clear hC hq1 hq2
          go_wp2_with (first
            | ((with_reducible go_at_call 13); (with_reducible refine (l_num _ _).mono ?_); rintro e w' ⟨rfl, rfl⟩)
            | ((with_reducible go_at_call 14); (with_reducible refine (T3.out _ bW).mono ?_); rintro e w4 ⟨rfl, b4⟩; replace bW := Ext.trans bW b4; clear b4)
            | ((with_reducible go_at_call 15); (with_reducible refine (T4.out _ bW).mono ?_); rintro e w4 ⟨rfl, b4⟩; replace bW := Ext.trans bW b4; clear b4)
            | ((with_reducible go_at_call 16); (with_reducible refine (T5.out _ bW).mono ?_); rintro e w4 ⟨rfl, b4⟩; replace bW := Ext.trans bW b4; clear b4)
            | ((with_reducible go_at_call 17); (with_reducible refine (T6.out _ bW).mono ?_); rintro e w4 ⟨rfl, b4⟩; replace bW := Ext.trans bW b4; clear b4)
            | ((with_reducible go_at_call 18); (with_reducible refine (T7.out _ bW).mono ?_); rintro e w' ⟨rfl, rfl⟩)
            | ((with_reducible go_at_call 19); (with_reducible refine (T8.out _ bW).mono ?_); rintro e w4 ⟨rfl, b4⟩; replace bW := Ext.trans bW b4; clear b4)
            | ((with_reducible go_at_call 20); (with_reducible refine (T9.out _ bW).mono ?_); rintro e w4 ⟨rfl, b4⟩; replace bW := Ext.trans bW b4; clear b4)
            | ((with_reducible go_at_call 21); (with_reducible refine (T10.out _ bW).mono ?_); rintro e w4 ⟨rfl, b4⟩; replace bW := Ext.trans bW b4; clear b4)
            | ((with_reducible go_at_call 6); refine (rnk_awake _).mono ?_; rintro e w4 ⟨rfl, b4⟩; replace bW := Ext.trans bW b4; clear b4))
          go_ret
          exact ⟨rfl, Ext.trans k3 bW⟩

end Go.Proofs.Ytgbjkpoenhmjnaa
