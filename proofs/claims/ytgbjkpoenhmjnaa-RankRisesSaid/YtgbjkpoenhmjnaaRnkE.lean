/-
  WALKS of chapter 10: the reference's May, what every program answers that is one, and the statement RankNone.
-/
import Derived.Test.YtgbjkpoenhmjnaaRnkD
namespace Go.Proofs.Ytgbjkpoenhmjnaa
open Go.RowKit
attribute [local go_sem] depUpon Sp.ok

theorem many_snoc (ms : List (Int × Int)) (r : Int) (hs : List Int) (h : Int) : manyB ms r (hs ++ [h]) = (manyB ms r hs || decide (r ≤ (mget ms h).1)) := by
  unfold manyB; simp

set_option maxRecDepth 100000 in
set_option maxHeartbeats 2000000 in
theorem r_may (A : Option Addr) (n c : Nat) (ms : List (Int × Int)) (B : Option Addr) (m d : Nat) (hs : List Int) (q : Int) (w : World) (hn : n ≤ 65536) (hr : Rd w A (pairs ms)) (hl : ms.length = n) (hm : m ≤ 65536) (hrs : Rd w B (ints hs)) (hk : hs.length = m) (hok : okM ms = true) :
    Calls Try.prog 15 #[.slice A n c, .slice B m d, .int .i64 q] w fun e w' => e = .returned (.int .i64 (mmay ms hs q)) ∧ Below w.heap.size w w' := by
  subst hl; subst hk
  have HOK := Lib.hid hok
  clear hok
  have hval : mmay ms hs q = if (mget ms q).1 = 0 then 19 else if manyB ms (mget ms q).1 hs = true then 7 else 0 := rfl
  rcases mget_ways ms q with ⟨hg, hout⟩ | ⟨i, rfl, hi, hg⟩
  · rw [hg] at hval
    have HE : Hid (mmay ms hs q = 19) := Lib.hid (by rw [hval]; rfl)
    have c1 := fun w => r_is A ms.length c q w
    rw [isM_out hout] at c1
    have C1 := Lib.hid c1
    clear c1 hval hg hout
    go_enter Try.func15, Try.ntmps15
    go_wp2_with ((with_reducible go_at_call 12); (with_reducible refine (C1.out _).mono ?_); rintro e w' ⟨rfl, rfl⟩)
    go_ret
    exact ⟨by rw [HE.out]; rfl, Below.refl _ _⟩
  · have hpos := ok_rank HOK.out hi
    rw [hg, if_neg (by omega)] at hval
    obtain ⟨bm, offm, rfl, hq1, hq2⟩ := hr.pair hi
    have c1 := fun w => r_is (some ⟨bm, offm, none⟩) ms.length c (i : Int) w
    rw [isM_in hi] at c1
    generalize ms[i] = x at *
    obtain ⟨x, xl⟩ := x
    simp only at hpos hval hq1 hq2
    have C1 := Lib.hid c1
    have HV := Lib.hid hval
    have hi' : (i : Int) < (ms.length : Int) := by omega
    clear c1 hval hg
    go_enter Try.func15, Try.ntmps15
    go_wp2_with ((with_reducible go_at_call 12); (with_reducible refine (C1.out _).mono ?_); rintro e w' ⟨rfl, rfl⟩)
    go_loopw [7] (fun v wr => ∃ k : Nat, k ≤ hs.length ∧ v = .int .i64 k ∧ Hid (manyB ms x (hs.take k) = false) ∧ Below w.heap.size w wr) (fun v _ => hs.length - (intOf v).toNat)
    case atStart => exact ⟨0, Nat.zero_le _, rfl, Lib.hid rfl, Below.refl _ _⟩
    case round =>
      obtain ⟨k, hk, rfl, HA, hb⟩ := hrel
      by_cases hlt : k < hs.length
      · obtain ⟨bb, off, rfl, hc⟩ := (hrs.keep hb).int hlt
        have HT := Lib.hid (take_succ' hs k hlt)
        have HM := Lib.hid (List.getElem_mem hlt : hs[k] ∈ hs)
        have hq1' := cell_keep hb hq1
        generalize hs[k] = u at *
        have HSN := Lib.hid (many_snoc ms x (hs.take k) u)
        rcases mget_ways ms u with ⟨hg, hout⟩ | ⟨j, rfl, hj, hg⟩
        · have HE : Hid (manyB ms x (hs.take (k + 1)) = false) := Lib.hid (by rw [HT.out, HSN.out, HA.out, hg]; simp; omega)
          have c1 := fun w => r_is (some ⟨bm, offm, none⟩) ms.length c u w
          rw [isM_out hout] at c1
          have C2 := Lib.hid c1
          clear c1 hg hout
          go_wp2
          refine wp_region_dep (S := Ext) (C := Ext (wr)) (by kernel_rfl) (by kernel_rfl) rfl Ext.refl (Ext.drew _) ?_
          repeat (refine dep_det (by rfl) (fun K hK => ?_); go_simp; first
            | ((with_reducible refine hK _ ?_); clear hK K)
            | (refine ⟨_, fun w1 hw1 => ⟨Ext.refl w1, hw1, rfl⟩, hK _ ?_⟩; clear hK K)
            | (apply Exists.intro; refine ⟨fun w1 hw1 => ?_, hK _ ?_⟩
               first
                 | (go_at_call 12; ((with_reducible refine (C2.out _).mono ?_); rintro e w' ⟨rfl, rfl⟩; exact ⟨_, rfl, Ext.refl _, hw1, rfl⟩))
                 | (have c_hc := cell_keep hw1 hc; have c_hq1' := cell_keep hw1 hq1'; go_simp; first | exact ⟨Ext.refl _, hw1, rfl⟩ | exact ⟨Ext.refl _, rfl⟩)
               clear hK K))
          refine dep_nil ?_
          intro a' w' hC hE
          obtain rfl := atEnd_nil hE
          clear hE
          go_wp2
          go_roundw
          case rel => exact ⟨k + 1, by omega, by go_num, HE, Ext.trans hb hC⟩
          case measure => simp [intOf]; omega
        · obtain ⟨bj, offj, ej, hj1, hj2⟩ := (hr.keep hb).pair hj
          injection ej with ej; injection ej with ej1 ej2
          subst ej1; subst ej2
          have c1 := fun w => r_is (some ⟨bm, offm, none⟩) ms.length c (j : Int) w
          rw [isM_in hj] at c1
          have hgm : (mget ms (j : Int)).1 = ms[j].1 := by rw [hg]
          generalize ms[j].1 = y at *
          have C2 := Lib.hid c1
          have hj' : (j : Int) < (ms.length : Int) := by omega
          have k0 : (0 : Int) ≤ (k : Int) := by omega
          have k1 : (k : Int) < (hs.length : Int) := by omega
          have HG := Lib.hid hgm
          clear c1 hg hgm hj2
          by_cases hxy : x ≤ y
          · have HE : Hid (manyB ms x hs = true) := Lib.hid (List.any_eq_true.2 ⟨(j : Int), HM.out, by rw [HG.out]; simpa using hxy⟩)
            have HV2 : Hid (mmay ms hs (i : Int) = 7) := Lib.hid (by rw [HV.out, HE.out]; rfl)
            have hd : decide (x ≤ y) = true := by simpa using hxy
            go_wp2
            refine wp_region_dep (S := Ext) (C := Ext (wr)) (by kernel_rfl) (by kernel_rfl) rfl Ext.refl (Ext.drew _) ?_
            repeat (refine dep_det (by rfl) (fun K hK => ?_); go_simp; first
              | ((with_reducible refine hK _ ?_); clear hK K)
              | (refine ⟨_, fun w1 hw1 => ⟨Ext.refl w1, hw1, rfl⟩, hK _ ?_⟩; clear hK K)
              | (apply Exists.intro; refine ⟨fun w1 hw1 => ?_, hK _ ?_⟩
                 first
                   | (go_at_call 12; ((with_reducible refine (C2.out _).mono ?_); rintro e w' ⟨rfl, rfl⟩; exact ⟨_, rfl, Ext.refl _, hw1, rfl⟩))
                   | (have c_hc := cell_keep hw1 hc; have c_hq1' := cell_keep hw1 hq1'; have c_hj1 := cell_keep hw1 hj1; go_simp; first | exact ⟨Ext.refl _, hw1, rfl⟩ | exact ⟨Ext.refl _, rfl⟩)
                 clear hK K))
            refine dep_nil ?_
            intro a' w' hC hE
            obtain rfl := atEnd_nil hE
            clear hE
            go_wp2
            go_ret
            exact ⟨by rw [HV2.out]; rfl, Ext.trans hb hC⟩
          · have HE : Hid (manyB ms x (hs.take (k + 1)) = false) := Lib.hid (by rw [HT.out, HSN.out, HA.out, HG.out]; simp; omega)
            have hd : decide (x ≤ y) = false := by simpa using hxy
            go_wp2
            refine wp_region_dep (S := Ext) (C := Ext (wr)) (by kernel_rfl) (by kernel_rfl) rfl Ext.refl (Ext.drew _) ?_
            repeat (refine dep_det (by rfl) (fun K hK => ?_); go_simp; first
              | ((with_reducible refine hK _ ?_); clear hK K)
              | (refine ⟨_, fun w1 hw1 => ⟨Ext.refl w1, hw1, rfl⟩, hK _ ?_⟩; clear hK K)
              | (apply Exists.intro; refine ⟨fun w1 hw1 => ?_, hK _ ?_⟩
                 first
                   | (go_at_call 12; ((with_reducible refine (C2.out _).mono ?_); rintro e w' ⟨rfl, rfl⟩; exact ⟨_, rfl, Ext.refl _, hw1, rfl⟩))
                   | (have c_hc := cell_keep hw1 hc; have c_hq1' := cell_keep hw1 hq1'; have c_hj1 := cell_keep hw1 hj1; go_simp; first | exact ⟨Ext.refl _, hw1, rfl⟩ | exact ⟨Ext.refl _, rfl⟩)
                 clear hK K))
            refine dep_nil ?_
            intro a' w' hC hE
            obtain rfl := atEnd_nil hE
            clear hE
            go_wp2
            go_roundw
            case rel => exact ⟨k + 1, by omega, by go_num, HE, Ext.trans hb hC⟩
            case measure => simp [intOf]; omega
      · have HV2 : Hid (mmay ms hs (i : Int) = 0) := Lib.hid (by
          have := HA.out
          rw [List.take_of_length_le (by omega)] at this
          rw [HV.out, this]; rfl)
        go_wp2
        go_ret
        exact ⟨by rw [HV2.out]; rfl, hb⟩

theorem rd_mutex3 (w : World) (a b c d e f : Int) : Rd (w.alloc (.cells #[.int .i64 a, .int .i64 b, .int .i64 c, .int .i64 d, .int .i64 e, .int .i64 f] 36)) (some ⟨w.heap.size, 0, none⟩) (pairs [(a, b), (c, d), (e, f)]) := (Own.new w 36 (pairs [(a, b), (c, d), (e, f)])).rd0

set_option maxRecDepth 100000 in
set_option maxHeartbeats 2000000 in
theorem rnk_awake (w : World) :
    Calls Try.prog 6 #[] w fun e w' => e = .returned (.bool true) ∧ Below w.heap.size w w' := by
  have h1 : okM [(1, 5), (2, 7), (2, 9)] = true := by decide +kernel
  have h2 : mmay [(1, 5), (2, 7), (2, 9)] [0] 2 = 0 := by decide +kernel
  have h3 : mmay [(1, 5), (2, 7), (2, 9)] [1] 2 = 7 := by decide +kernel
  have h4 : rsum 2 [(1, 5), (2, 7), (2, 9)] = 16 := by decide +kernel
  have c1 := fun w A c (h : Rd w A (pairs [(1, 5), (2, 7), (2, 9)])) => t_new A 3 c [(1, 5), (2, 7), (2, 9)] w (by omega) h rfl h1
  have c2 := fun g w B d (h : Tab w (.pointer (some ⟨g, 0, none⟩)) [(1, 5), (2, 7), (2, 9)]) (k : Rd w B (ints [0])) => t_may g [(1, 5), (2, 7), (2, 9)] B 1 d [0] 2 w h (by omega) k rfl
  have c3 := fun g w B d (h : Tab w (.pointer (some ⟨g, 0, none⟩)) [(1, 5), (2, 7), (2, 9)]) (k : Rd w B (ints [1])) => t_may g [(1, 5), (2, 7), (2, 9)] B 1 d [1] 2 w h (by omega) k rfl
  have c4 := fun p w (h : Tab w p [(1, 5), (2, 7), (2, 9)]) => t_sum p [(1, 5), (2, 7), (2, 9)] 2 w h
  rw [h2] at c2
  rw [h3] at c3
  rw [h4] at c4
  have C1 := Lib.hid c1
  have C2 := Lib.hid c2
  have C3 := Lib.hid c3
  have C4 := Lib.hid c4
  clear h1 h2 h3 h4 c1 c2 c3 c4
  go_enter Try.func6, Try.ntmps6
  go_wp2_with fail
  refine (C1.out _ _ _ (rd_mutex3 _ _ _ _ _ _ _)).mono ?_
  rintro e w1 ⟨g, rfl, t1, b1⟩
  have k1 := Ext.trans (Ext.alloc w (.cells #[.int .i64 1, .int .i64 5, .int .i64 2, .int .i64 7, .int .i64 2, .int .i64 9] 36)) b1
  clear b1
  go_wp2_with fail
  refine (C2.out _ _ _ _ (t1.keep (Ext.alloc _ _)) (rd1i _ _)).mono ?_
  rintro e w2 ⟨rfl, b2⟩
  have t2 := (t1.keep (Ext.alloc w1 (.cells #[.int .i64 0] 3))).keep b2
  have k2 := Ext.trans (Ext.trans k1 (Ext.alloc w1 (.cells #[.int .i64 0] 3))) b2
  clear t1 b2 k1
  go_wp2_with fail
  refine (C3.out _ _ _ _ (t2.keep (Ext.alloc _ _)) (rd1i _ _)).mono ?_
  rintro e w3 ⟨rfl, b3⟩
  have t3 := (t2.keep (Ext.alloc w2 (.cells #[.int .i64 1] 3))).keep b3
  have k3 := Ext.trans (Ext.trans k2 (Ext.alloc w2 (.cells #[.int .i64 1] 3))) b3
  clear t2 b3 k2
  go_wp2_with fail
  refine (C4.out _ _ t3).mono ?_
  rintro e w4 ⟨rfl, b4⟩
  go_wp2
  go_ret
  exact ⟨rfl, Ext.trans k3 b4⟩

set_option maxRecDepth 100000 in
set_option maxHeartbeats 2000000 in
theorem law_ranknone (A : Option Addr) (n c : Nat) (us : List Int) (m : Int) (w : World) (ga : IntsArg w A n us) (_ : I64 m) :
    Calls Try.prog 5 #[.slice A n c, .int .i64 m] w fun e w' => e = .returned (.bool true) ∧ Below w.heap.size w w' := by
  obtain ⟨hl, hn, hr, _⟩ := ga
  by_cases h30 : 30 < n
  · go_enter Try.func5, Try.ntmps5
    go_wp2_with (go_at_call 6; refine (rnk_awake _).mono ?_; rintro e w1 ⟨rfl, b1⟩)
    go_ret
    exact ⟨rfl, b1⟩
  · have hnil : ∀ w, Tab w (.pointer none) [] := fun w => .inl ⟨rfl, rfl⟩
    have hg : ∀ u, mget [] u = (0, 0) := fun u => by unfold mget; split <;> simp
    have hstep : ∀ (l : List Int), l.foldl (rleastStep []) (0, false) = (0, false) := by
      intro l
      induction l with
      | nil => rfl
      | cons a l ih => rw [List.foldl_cons, show rleastStep [] (0, false) a = (0, false) by simp [rleastStep, hg], ih]
    have hlz : rleast [] us = (0, false) := hstep us
    have t1 := fun w h => t_least (.pointer none) [] A n c us w (hnil w) (by omega) h hl
    have t2 := fun w => t_len (.pointer none) [] w (hnil w)
    have t3 := fun w => t_rank (.pointer none) [] m w (hnil w)
    have t4 := fun w => t_limit (.pointer none) [] m w (hnil w)
    have t5 := fun w => t_sum (.pointer none) [] m w (hnil w)
    rw [hg] at t3 t4
    rw [hlz] at t1
    have e5 : rsum m [] = 0 := rfl
    rw [e5] at t5
    have T1 := Lib.hid t1
    have T2 := Lib.hid t2
    have T3 := Lib.hid t3
    have T4 := Lib.hid t4
    have T5 := Lib.hid t5
    clear t1 t2 t3 t4 t5 e5 hlz hstep hg hnil hl
    go_enter Try.func5, Try.ntmps5
    go_wp2_with (first
      | ((with_reducible go_at_call 10); refine (T1.out _ hr).mono ?_; rintro e w1 ⟨rfl, b1⟩; have bW := b1; clear b1)
      | ((with_reducible go_at_call 14); refine (t_may_nil _ _ _ _ _).mono ?_; rintro e w1 ⟨rfl, b1⟩; replace bW := Ext.trans bW b1; clear b1)
      | ((with_reducible go_at_call 18); (with_reducible refine (T2.out _).mono ?_); rintro e w' ⟨rfl, rfl⟩)
      | ((with_reducible go_at_call 19); refine (T3.out _).mono ?_; rintro e w1 ⟨rfl, b1⟩; replace bW := Ext.trans bW b1; clear b1)
      | ((with_reducible go_at_call 20); refine (T4.out _).mono ?_; rintro e w1 ⟨rfl, b1⟩; replace bW := Ext.trans bW b1; clear b1)
      | ((with_reducible go_at_call 16); refine (T5.out _).mono ?_; rintro e w1 ⟨rfl, b1⟩; replace bW := Ext.trans bW b1; clear b1)
      | ((with_reducible go_at_call 6); refine (rnk_awake _).mono ?_; rintro e w1 ⟨rfl, b1⟩; replace bW := Ext.trans bW b1; clear b1))
    go_ret
    exact ⟨rfl, bW⟩

end Go.Proofs.Ytgbjkpoenhmjnaa
