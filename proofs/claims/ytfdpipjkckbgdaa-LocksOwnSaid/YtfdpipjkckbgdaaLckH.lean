/-
  LOCKS: lists of what is held, held against each other; the statement LocksTicks.
-/
import Derived.Test.YtfdpipjkckbgdaaLckG
namespace Go.Proofs.Ytfdpipjkckbgdaa
open Go.ChangeShapes Go.WideShapes Go.ChangeAt Go.RowKit Go.Maps
attribute [local go_sem] depUpon Sp.ok

set_option maxRecDepth 100000 in
set_option maxHeartbeats 2000000 in
theorem same_helds (A B : Option Addr) (n c d : Nat) (xs : List (Int × Int)) (w : World) (hn : n ≤ 4611686018427387904) (ha : Rd w A (pairs xs)) (hb : Rd w B (pairs xs)) (hla : xs.length = n) :
    Calls Try.prog 19 #[.slice A n c, .slice B n d] w fun e w' => e = .returned (.bool true) ∧ Ext w w' := by
  subst hla
  have hl' : (((xs.length : Nat) : Int) != ((xs.length : Nat) : Int)) = false := by simp
  go_enter Try.func19, Try.ntmps19
  go_wp2
  go_loopw [5] (fun i wr => ∃ k : Nat, k ≤ xs.length ∧ i = .int .i64 k ∧ Ext w wr) (fun i _ => xs.length - (intOf i).toNat)
  case atStart => exact ⟨0, Nat.zero_le _, rfl, Ext.refl _⟩
  case round =>
    obtain ⟨k, hk, rfl, bb⟩ := hrel
    by_cases hlt : k < xs.length
    · obtain ⟨b, off, rfl, h1, h2⟩ := (ha.keep bb).pair hlt
      obtain ⟨b', off', rfl, k1, k2⟩ := (hb.keep bb).pair hlt
      have i0 : (0 : Int) ≤ (k : Int) := by omega
      have i1 : (k : Int) < (xs.length : Int) := by omega
      generalize xs[k].1 = x1 at *
      generalize xs[k].2 = x2 at *
      go_wp2
      refine wp_region_dep (S := Ext) (C := Ext (wr)) (by kernel_rfl) (by kernel_rfl) rfl Ext.refl (Ext.drew _) ?_
      repeat (refine dep_det (by rfl) (fun K hK => ?_); go_simp; first
        | ((with_reducible refine hK _ ?_); clear hK K)
        | (rw [if_neg (by decide)]; (with_reducible refine hK _ ?_); clear hK K)
        | (refine ⟨_, fun w1 hw1 => ⟨Ext.refl w1, hw1, rfl⟩, hK _ ?_⟩; clear hK K)
        | (apply Exists.intro; refine ⟨fun w1 hw1 => ?_, hK _ ?_⟩
           first
             | (have c_h1 := cell_keep hw1 h1; have c_h2 := cell_keep hw1 h2; have c_k1 := cell_keep hw1 k1; have c_k2 := cell_keep hw1 k2; go_simp; first | exact ⟨Ext.refl _, hw1, rfl⟩ | exact ⟨Ext.refl _, rfl⟩)
           clear hK K))
      refine dep_nil ?_
      intro a' w' hC hE
      obtain rfl := atEnd_nil hE
      clear hE
      go_wp2
      go_roundw
      case rel => exact ⟨k + 1, by omega, by go_num, Ext.trans bb hC⟩
      case measure => simp [intOf]; omega
    · go_wp2
      go_ret
      exact ⟨rfl, bb⟩

/-- The two mutexes of LocksTicks; what thread 1 holds of them. -/
def tk0 : LS := ls0 [(1, 100), (2, 50)]
def tk (xs : List (Int × Int)) : LS := tk0.setH 1 (some xs)
theorem nsum2 {x y : Int} (h0 : 0 ≤ x) (h1 : 0 ≤ y) (h2 : x + y ≤ 1099511627776) : nsum [x, y] = x + y := by simp [nsum]; unfold clip; omega
theorem tk_hl (xs : List (Int × Int)) : (tk xs).hl 1 = xs ∧ ∀ t, t ≠ 1 → (tk xs).hl t = [] := by
  refine ⟨rfl, fun t ht => ?_⟩
  unfold LS.hl tk LS.setH
  show (fset tk0.H 1 (some xs) t).getD [] = []
  rw [fset_ne _ _ ht]
  rfl
theorem tk_mu (xs : List (Int × Int)) (t : Int) : (tk xs).mu t = if t = 1 then xs.map Prod.fst else [] := by
  unfold tk
  rw [mu_setH]
  split <;> rfl
theorem tk_run1 (xs : List (Int × Int)) (n : Int) : runS (tk xs) 1 n = tk (xs.map (tick n)) := by
  have h : (tk xs).H 1 = some xs := fset_at tk0.H 1 (some xs)
  unfold runS
  rw [h]
  exact setH_setH _ _ _ _
theorem tk_run2 (xs : List (Int × Int)) (n : Int) : runS (tk xs) 2 n = tk xs := by
  have h : (tk xs).H 2 = none := by
    show fset tk0.H 1 (some xs) 2 = none
    rw [fset_ne _ _ (by decide)]; rfl
  unfold runS
  rw [h]
theorem tk_lock0 : lockS tk0 1 0 = tk [(0, 0)] ∧ LI (tk [(0, 0)]) := by
  have he : lockE tk0 1 0 = 0 := by rfl
  have ho : ownO tk0 0 = -1 := ownO_no fun t h => by cases h
  have hs : lockS tk0 1 0 = tk [(0, 0)] := by
    unfold lockS
    rw [if_neg (by rw [he]; simp), if_neg (by rw [ho]; decide)]
    rfl
  exact ⟨hs, by rw [← hs]; exact (LI.zero _).lock 1 0⟩
theorem tk_lock1 (a : Int) (hi : LI (tk [(0, a)])) : lockS (tk [(0, a)]) 1 1 = tk [(0, a), (1, 0)] ∧ LI (tk [(0, a), (1, 0)]) := by
  have he : lockE (tk [(0, a)]) 1 1 = 0 := by rfl
  have ho : ownO (tk [(0, a)]) 1 = -1 := ownO_no fun t h => by
    rw [tk_mu] at h
    split at h
    · simp at h
    · cases h
  have hs : lockS (tk [(0, a)]) 1 1 = tk [(0, a), (1, 0)] := by
    unfold lockS
    rw [if_neg (by rw [he]; simp), if_neg (by rw [ho]; decide)]
    exact setH_setH _ _ _ _
  exact ⟨hs, by rw [← hs]; exact hi.lock 1 1⟩
theorem tk_all {a b c : Int} (ha : 1 ≤ a ∧ a ≤ 20) (hb : 1 ≤ b ∧ b ≤ 20) : runS (tk [(0, 0)]) 1 a = tk [(0, a)] ∧ LI (tk [(0, a)]) ∧ runS (tk [(0, a)]) 2 c = tk [(0, a)] ∧ runS (tk [(0, a), (1, 0)]) 1 b = tk [(0, a + b), (1, b)] := by
  have h1 : runS (tk [(0, 0)]) 1 a = tk [(0, a)] := by
    rw [tk_run1]
    show tk [(0, nsum [0, a])] = _
    rw [nsum2 (by omega) (by omega) (by omega), Int.zero_add]
  refine ⟨h1, by rw [← h1]; exact tk_lock0.2.run 1 a, tk_run2 _ _, ?_⟩
  rw [tk_run1]
  show tk [(0, nsum [a, b]), (1, nsum [0, b])] = _
  rw [nsum2 (by omega) (by omega) (by omega), nsum2 (by omega) (by omega) (by omega), Int.zero_add]
theorem tk_over {a b r : Int} (ha : 1 ≤ a ∧ a ≤ 20) (hb : 1 ≤ b ∧ b ≤ 20) (hr0 : 0 ≤ r) (hr1 : r ≤ 200) : ((tk [(0, a + b), (1, b)]).hl 1).any (overP (tk [(0, a + b), (1, b)]).ms r) = (decide (100 < a + b + r) || decide (50 < b + r)) := by
  have e1 : overP [(1, 100), (2, 50)] r (0, a + b) = decide (100 < a + b + r) := by
    unfold overP
    rw [nsum2 (by omega) (by omega) (by omega)]
    rfl
  have e2 : overP [(1, 100), (2, 50)] r (1, b) = decide (50 < b + r) := by
    unfold overP
    rw [nsum2 (by omega) (by omega) (by omega)]
    rfl
  show (overP [(1, 100), (2, 50)] r (0, a + b) || (overP [(1, 100), (2, 50)] r (1, b) || false)) = _
  rw [e1, e2, Bool.or_false]
theorem run_held2 (a b : Int) (w : World) : (Instr.build 46 #[(0, .int .i64 a), (1, .int .i64 b)]).run Try.prog w = .ok (.agg #[.int .i64 a, .int .i64 b]) w := by kernel_rfl

set_option maxRecDepth 100000 in
set_option maxHeartbeats 8000000 in
theorem law_locksticks (x y z : Int) (w : World) (_ : I64 x) (_ : I64 y) (_ : I64 z) :
    Calls Try.prog 4 #[.int .i64 x, .int .i64 y, .int .i64 z] w fun e w' => e = .returned (.bool true) ∧ Below w.heap.size w w' := by
  have HAW := Lib.hid (fun w => lck_awake w)
  have HX := Lib.hid (fun w => low_any x 20 w (by omega) (by omega))
  have HY := Lib.hid (fun w => low_any y 20 w (by omega) (by omega))
  have HZ := Lib.hid (fun w => low_any z 20 w (by omega) (by omega))
  have x0 := low_lo x 20 (by omega)
  have x1 := low_hi x 20 (by omega)
  have y0 := low_lo y 20 (by omega)
  have y1 := low_hi y 20 (by omega)
  have q0 := low_lo z 20 (by omega)
  have q1 := low_hi z 20 (by omega)
  generalize low x 20 = la at *
  generalize low y 20 = lb at *
  generalize low z 20 = lc at *
  have HT := Lib.hid (t_new2 (some ⟨w.heap.size, 0, none⟩) 2 2 [(1, 100), (2, 50)] (w.alloc (.cells #[.int .i64 1, .int .i64 100, .int .i64 2, .int .i64 50] 29)) (by omega) (show Rd (w.alloc (.cells #[.int .i64 1, .int .i64 100, .int .i64 2, .int .i64 50] 29)) (some ⟨w.heap.size, 0, none⟩) (pairs [(1, 100), (2, 50)]) from (Own.new w 29 (pairs [(1, 100), (2, 50)])).rd0) rfl (by decide))
  have b0 := Ext.alloc w (.cells #[.int .i64 1, .int .i64 100, .int .i64 2, .int .i64 50] 29)
  have z0 := b0.size
  have HK := Lib.hid (fun gt K kc w2 ho hr hB hBw => k_new w.heap.size gt K kc [(1, 100), (2, 50)] w2 ho hr (by decide) hB hBw)
  have hb0 := run_mutex 1 100
  have hb1 := run_mutex 2 50
  obtain ⟨r1, r2, r3, r4⟩ := tk_all (a := 1 + la) (b := 1 + lb) (c := 1 + lc) (by omega) (by omega)
  have H1 := Lib.hid (fun g P w3 (h : KW w3 w.heap.size g tk0 0 P) hB => kw_lock w.heap.size g tk0 0 P 1 0 w3 h (by omega) ⟨by omega, by omega⟩ (LI.zero _) hB)
  rw [tk_lock0.1] at H1
  have H2 := Lib.hid (fun g P w3 (h : KW w3 w.heap.size g (tk [(0, 0)]) 1 P) => kw_run w.heap.size g (tk [(0, 0)]) 1 P 1 (1 + la) w3 h (by omega) ⟨by omega, by omega⟩)
  rw [r1] at H2
  have H3 := Lib.hid (fun g P w3 (h : KW w3 w.heap.size g (tk [(0, 1 + la)]) 1 P) => kw_run w.heap.size g (tk [(0, 1 + la)]) 1 P 2 (1 + lc) w3 h (by omega) ⟨by omega, by omega⟩)
  rw [r3] at H3
  have H4 := Lib.hid (fun g P w3 (h : KW w3 w.heap.size g (tk [(0, 1 + la)]) 1 P) hB => kw_lock w.heap.size g (tk [(0, 1 + la)]) 1 P 1 1 w3 h (by omega) ⟨by omega, by omega⟩ r2 hB)
  rw [(tk_lock1 _ r2).1] at H4
  have H5 := Lib.hid (fun g P w3 (h : KW w3 w.heap.size g (tk [(0, 1 + la), (1, 0)]) 2 P) => kw_run w.heap.size g (tk [(0, 1 + la), (1, 0)]) 2 P 1 (1 + lb) w3 h (by omega) ⟨by omega, by omega⟩)
  rw [r4] at H5
  have H6 := Lib.hid (fun g P w3 (h : KW w3 w.heap.size g (tk [(0, 1 + la + (1 + lb)), (1, 1 + lb)]) 2 P) => kw_held w.heap.size g (tk [(0, 1 + la + (1 + lb)), (1, 1 + lb)]) 2 P 1 w3 h (by omega) ⟨by omega, by omega⟩)
  rw [(tk_hl _).1] at H6
  have H7 := Lib.hid (fun g P n w3 (h : KW w3 w.heap.size g (tk [(0, 1 + la + (1 + lb)), (1, 1 + lb)]) 2 P) => kw_over w.heap.size g (tk [(0, 1 + la + (1 + lb)), (1, 1 + lb)]) 2 P 1 n w3 h (by omega) ⟨by omega, by omega⟩)
  have H8 := Lib.hid (fun g P n w3 (h : KW w3 w.heap.size g (tk [(0, 1 + la + (1 + lb)), (1, 1 + lb)]) 2 P) => kw_over w.heap.size g (tk [(0, 1 + la + (1 + lb)), (1, 1 + lb)]) 2 P 2 n w3 h (by omega) ⟨by omega, by omega⟩)
  rw [(tk_hl _).2 2 (by decide)] at H8
  simp only [List.any_nil] at H8
  have HOV := Lib.hid (fun r (h0 : 0 ≤ r) (h1 : r ≤ 200) => tk_over (a := 1 + la) (b := 1 + lb) (r := r) (by omega) (by omega) h0 h1)
  have HSM := Lib.hid (fun A B c d w1 ha hb => same_helds A B 2 c d [(0, 1 + la + (1 + lb)), (1, 1 + lb)] w1 (by omega) ha hb rfl)
  have hb2 := fun a b => run_held2 a b
  clear r1 r2 r3 r4
  go_enter Try.func4, Try.ntmps4
  go_upto_region 13 with (first
    | ((with_reducible go_at_call 12); (with_reducible refine (HX.out _).mono ?_); rintro e w' ⟨rfl, rfl⟩)
    | ((with_reducible go_at_call 12); (with_reducible refine (HY.out _).mono ?_); rintro e w' ⟨rfl, rfl⟩)
    | ((with_reducible go_at_call 12); (with_reducible refine (HZ.out _).mono ?_); rintro e w' ⟨rfl, rfl⟩)
    | ((with_reducible go_at_call 9); (with_reducible refine (HT.out).mono ?_); rintro e w2 ⟨gt, K, kc, rfl, ot, rt, ht6, hgt, b2⟩; have b02 := Ext.trans b0 b2; have HN := Lib.hid (HK.out gt K kc _ ot (rt.mono z0) (by omega) b02.size); clear ot rt ht6)
    | ((with_reducible go_at_call 10); (with_reducible refine (HN.out).mono ?_); rintro e w3 ⟨g, P3, rfl, s3, bb3⟩; have b3 := Ext.trans b02 bb3; have S3 := Lib.hid s3; clear s3)
    | ((with_reducible go_at_call 11); (with_reducible refine (H1.out _ _ _ S3.out b3.size).mono ?_); rintro e w4 ⟨rfl, P4, s4, t4⟩; have b4 := t4.belowOf b3 S3.out.ge; have S4 := Lib.hid s4; clear s4 t4)
    | ((with_reducible go_at_call 17); (with_reducible refine (H2.out _ _ _ S4.out).mono ?_); rintro e w5 ⟨rfl, P5, s5, t5⟩; have b5 := t5.belowOf b4 S4.out.ge; have S5 := Lib.hid s5; clear s5 t5)
    | ((with_reducible go_at_call 17); (with_reducible refine (H3.out _ _ _ S5.out).mono ?_); rintro e w6 ⟨rfl, P6, s6, t6⟩; have b6 := t6.belowOf b5 S5.out.ge; have S6 := Lib.hid s6; clear s6 t6)
    | ((with_reducible go_at_call 11); (with_reducible refine (H4.out _ _ _ S6.out b6.size).mono ?_); rintro e w7 ⟨rfl, P7, s7, t7⟩; have b7 := t7.belowOf b6 S6.out.ge; have S7 := Lib.hid s7; clear s7 t7)
    | ((with_reducible go_at_call 17); (with_reducible refine (H5.out _ _ _ S7.out).mono ?_); rintro e w8 ⟨rfl, P8, s8, t8⟩; have b8 := t8.belowOf b7 S7.out.ge; have S8 := Lib.hid s8; clear s8 t8)
    | ((with_reducible go_at_call 18); (with_reducible refine (H6.out _ _ _ S8.out).mono ?_); rintro e w9 ⟨A9, c9, rfl, r9, bb9⟩; have b9 := Ext.trans b8 bb9; have S9 := Lib.hid (S8.out.keep bb9)))
  have R9 := Lib.hid r9
  clear r9
  have bA := Ext.alloc w9 (.cells #[.int .i64 0, .int .i64 (1 + la + (1 + lb)), .int .i64 1, .int .i64 (1 + lb)] 46)
  have RA := Lib.hid (R9.out.keep bA).rd
  have RB := Lib.hid (show Rd (w9.alloc (.cells #[.int .i64 0, .int .i64 (1 + la + (1 + lb)), .int .i64 1, .int .i64 (1 + lb)] 46)) (some ⟨w9.heap.size, 0, none⟩) (pairs [(0, 1 + la + (1 + lb)), (1, 1 + lb)]) from (Own.new w9 46 (pairs [(0, 1 + la + (1 + lb)), (1, 1 + lb)])).rd0)
  have SA := Lib.hid (S9.out.keep bA)
  have bb := Ext.trans b9 bA
  have hrm0 : 0 ≤ min (100 - (1 + la) - (1 + lb)) (50 - (1 + lb)) ∧ min (100 - (1 + la) - (1 + lb)) (50 - (1 + lb)) ≤ 100 := by omega
  have hq1 := HOV.out (min (100 - (1 + la) - (1 + lb)) (50 - (1 + lb))) hrm0.1 (by omega)
  have hq2 := HOV.out (min (100 - (1 + la) - (1 + lb)) (50 - (1 + lb)) + 1) (by omega) (by omega)
  rw [show (decide (100 < 1 + la + (1 + lb) + min (100 - (1 + la) - (1 + lb)) (50 - (1 + lb))) || decide (50 < 1 + lb + min (100 - (1 + la) - (1 + lb)) (50 - (1 + lb)))) = false by simp only [Bool.or_eq_false_iff, decide_eq_false_iff_not]; omega] at hq1
  rw [show (decide (100 < 1 + la + (1 + lb) + (min (100 - (1 + la) - (1 + lb)) (50 - (1 + lb)) + 1)) || decide (50 < 1 + lb + (min (100 - (1 + la) - (1 + lb)) (50 - (1 + lb)) + 1))) = true by simp only [Bool.or_eq_true, decide_eq_true_eq]; omega] at hq2
  have HV1 := Lib.hid (fun g P w3 h => H7.out g P (min (100 - (1 + la) - (1 + lb)) (50 - (1 + lb))) w3 h)
  rw [hq1] at HV1
  have HV2 := Lib.hid (fun g P w3 h => H7.out g P (min (100 - (1 + la) - (1 + lb)) (50 - (1 + lb)) + 1) w3 h)
  rw [hq2] at HV2
  obtain ⟨hrmA, hrmB⟩ := hrm0
  clear hq1 hq2
  generalize min (100 - (1 + la) - (1 + lb)) (50 - (1 + lb)) = rm at *
  go_wp2_with (first
    | ((with_reducible go_at_call 19); (with_reducible refine (HSM.out _ _ _ _ _ RA.out RB.out).mono ?_); rintro e wa ⟨rfl, ba⟩; have SB := Lib.hid (SA.out.keep ba); have c10 := Ext.trans bb ba)
    | ((with_reducible go_at_call 20); (with_reducible refine (HV1.out _ _ _ SB.out).mono ?_); rintro e wb ⟨rfl, b_⟩; have SC := Lib.hid (SB.out.keep b_); have c11 := Ext.trans c10 b_)
    | ((with_reducible go_at_call 20); (with_reducible refine (HV2.out _ _ _ SC.out).mono ?_); rintro e wc ⟨rfl, b__⟩; have SD := Lib.hid (SC.out.keep b__); have c12 := Ext.trans c11 b__)
    | ((with_reducible go_at_call 20); (with_reducible refine (H8.out _ _ 5000 _ SD.out).mono ?_); rintro e we ⟨rfl, b___⟩; have c13 := Ext.trans c12 b___)
    | ((with_reducible go_at_call 8); (with_reducible refine (HAW.out _).mono ?_); rintro e wd ⟨rfl, bd⟩))
  go_ret
  exact ⟨rfl, Ext.trans c13 bd⟩

end Go.Proofs.Ytfdpipjkckbgdaa
