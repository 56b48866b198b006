/-
  WALKS of chapter 18's reference: in, MayTask.
-/
import Derived.Test.YtdninhdabeddeaaAdmT
import Derived.Test.YtdninhdabeddeaaAdmU
import Derived.Test.YtdninhdabeddeaaOver
import Derived.Test.YtdninhdabeddeaaRnkD
import Derived.Test.YtdninhdabeddeaaRefE
namespace Go.Proofs.Ytdninhdabeddeaa
open Go.RowKit
attribute [local go_sem] depUpon Sp.ok

theorem r_in (x lo hi : Int) (w : World) :
    Calls Try.prog 31 #[.int .i64 x, .int .i64 lo, .int .i64 hi] w fun e w' => e = .returned (.bool (inB x lo hi)) ∧ w = w' := by
  have hI : inB x lo hi = decide (lo ≤ x ∧ x ≤ hi) := rfl
  by_cases h1 : lo ≤ x
  · by_cases h2 : x ≤ hi
    · have hv : decide (lo ≤ x ∧ x ≤ hi) = true := by simp [h1, h2]
      rw [hI, hv]
      clear hv hI
      go_enter Try.func31, Try.ntmps31
      go_wp2
      go_ret
      exact ⟨rfl, rfl⟩
    · have hv : decide (lo ≤ x ∧ x ≤ hi) = false := by simp [h2]
      rw [hI, hv]
      clear hv hI
      go_enter Try.func31, Try.ntmps31
      go_wp2
      go_ret
      exact ⟨rfl, rfl⟩
  · have hv : decide (lo ≤ x ∧ x ≤ hi) = false := by simp [h1]
    rw [hI, hv]
    clear hv hI
    go_enter Try.func31, Try.ntmps31
    go_wp2
    go_ret
    exact ⟨rfl, rfl⟩

set_option maxRecDepth 100000 in
set_option maxHeartbeats 4000000 in
theorem r_mayTask (x : TK) (nm ng : Nat) (w : World) (hx : x.Ok w) (hm : nm ≤ 65536) (hg : ng ≤ 65536) :
    Calls Try.prog 32 #[.agg #[.int .i64 x.cls, .int .i64 x.lvl, .int .i64 x.per, .int .i64 x.ddl, .int .i64 x.bud, .int .i64 x.line, .slice x.U x.un x.uc, .slice x.O x.on x.oc], .int .i64 nm, .int .i64 ng] w fun e w' => e = .returned (.bool (mayT nm ng x)) ∧ Below w.heap.size w w' := by
  have hb0 : Ext w (w.alloc (.cells #[.int .i64 x.cls, .int .i64 x.lvl, .int .i64 x.per, .int .i64 x.ddl, .int .i64 x.bud, .int .i64 x.line, .slice x.U x.un x.uc, .slice x.O x.on x.oc] 47)) := Ext.alloc _ _
  have oT := Own.new w 47 [.int .i64 x.cls, .int .i64 x.lvl, .int .i64 x.per, .int .i64 x.ddl, .int .i64 x.bud, .int .i64 x.line, .slice x.U x.un x.uc, .slice x.O x.on x.oc]
  have t0' := oT.cell 0
  have t1' := oT.cell 1
  have t2' := oT.cell 2
  have t3' := oT.cell 3
  have t4' := oT.cell 4
  have t5' := oT.cell 5
  have t6' := oT.cell 6
  have t7' := oT.cell 7
  simp only [List.getElem?_cons_zero, List.getElem?_cons_succ] at t0' t1' t2' t3' t4' t5' t6' t7'
  clear oT
  go_enter Try.func32, Try.ntmps32
  go_upto_region 1 with fail
  go_cut [7] from 9 (fun s7 wx => s7 = .bool (clsB x) ∧ wx = (w.alloc (.cells #[.int .i64 x.cls, .int .i64 x.lvl, .int .i64 x.per, .int .i64 x.ddl, .int .i64 x.bud, .int .i64 x.line, .slice x.U x.un x.uc, .slice x.O x.on x.oc] 47)))
  case first =>
    by_cases h2 : x.cls = 2
    · have hv : clsB x = inB x.lvl 0 63 := by unfold clsB; rw [if_pos h2]
      have hc := fun w => r_in x.lvl 0 63 w
      rw [← hv] at hc
      have t2 : (x.cls == 2) = true := by simp [h2]
      have t1 : (x.cls == 1) = false := by simp [h2]
      clear hv h2
      cases hq : clsB x
      all_goals
        rw [hq] at hc
        have HC := Lib.hid hc
        have HQ := Lib.hid hq
        clear hc hq
        go_wp2_with ((with_reducible go_at_call 31); (with_reducible refine (HC.out _).mono ?_); rintro e w' ⟨rfl, rfl⟩)
        go_meet
        exact ⟨by rw [HQ.out], rfl⟩
    · have t2 : (x.cls == 2) = false := by simp [h2]
      by_cases h1 : x.cls = 1
      · have t1 : (x.cls == 1) = true := by simp [h1]
        by_cases h0 : x.lvl = 0
        · have t0 : (x.lvl == 0) = true := by simp [h0]
          have HQ := Lib.hid (show clsB x = true by unfold clsB; rw [if_neg h2]; simp [h1, h0])
          clear h0 h1 h2
          go_wp2
          go_meet
          exact ⟨by rw [HQ.out], rfl⟩
        · have t0 : (x.lvl == 0) = false := by simp [h0]
          have HQ := Lib.hid (show clsB x = false by unfold clsB; rw [if_neg h2]; simp [h0])
          clear h0 h1 h2
          go_wp2
          go_meet
          exact ⟨by rw [HQ.out], rfl⟩
      · have t1 : (x.cls == 1) = false := by simp [h1]
        have HQ := Lib.hid (show clsB x = false by unfold clsB; rw [if_neg h2]; simp [h1])
        clear h1 h2
        go_wp2
        go_meet
        exact ⟨by rw [HQ.out], rfl⟩
  case rest =>
    obtain ⟨rfl, rfl⟩ := hcut
    have hs : mayT nm ng x = (clsB x && (inB x.per 1 1000000 && inB x.ddl 1 x.per && inB x.bud 1 x.ddl) && (decide (x.un ≤ 6) && !useB nm x.us) && inB x.line (-1) ((ng : Int) - 1) && decide (x.on ≤ 40)) := rfl
    have c1 := fun w => r_in x.per 1 1000000 w
    have c2 := fun w => r_in x.ddl 1 x.per w
    have c3 := fun w => r_in x.bud 1 x.ddl w
    have c4 := fun w => r_in x.line (-1) ((ng : Int) - 1) w
    have hk : IntKind.i64.wrap ((ng : Int) - 1) = (ng : Int) - 1 := IntWalk.i64_in _ ⟨by omega, by omega⟩
    have hk2 : IntKind.i64.wrap ((nm : Int) - 1) = (nm : Int) - 1 := IntWalk.i64_in _ ⟨by omega, by omega⟩
    have hUL := hx.us.len
    have HR := Lib.hid (hx.us.rd.keep hb0)
    generalize clsB x = p1 at *
    generalize inB x.per 1 1000000 = q1 at *
    generalize inB x.ddl 1 x.per = q2 at *
    generalize inB x.bud 1 x.ddl = q3 at *
    generalize inB x.line (-1) ((ng : Int) - 1) = q4 at *
    have C1 := Lib.hid c1
    have C2 := Lib.hid c2
    have C3 := Lib.hid c3
    have C4 := Lib.hid c4
    clear c1 c2 c3 c4 hx
    cases p1
    · have HQ := Lib.hid (show mayT nm ng x = false by rw [hs]; simp)
      clear hs
      go_wp2
      go_ret
      exact ⟨by rw [HQ.out]; rfl, hb0⟩
    cases q1
    · have HQ := Lib.hid (show mayT nm ng x = false by rw [hs]; simp)
      clear hs
      go_wp2_with (first | ((with_reducible go_at_call 31); (with_reducible refine (C1.out _).mono ?_); rintro e w' ⟨rfl, rfl⟩) | ((with_reducible go_at_call 31); (with_reducible refine (C2.out _).mono ?_); rintro e w' ⟨rfl, rfl⟩) | ((with_reducible go_at_call 31); (with_reducible refine (C3.out _).mono ?_); rintro e w' ⟨rfl, rfl⟩) | ((with_reducible go_at_call 31); (with_reducible refine (C4.out _).mono ?_); rintro e w' ⟨rfl, rfl⟩))
      go_ret
      exact ⟨by rw [HQ.out]; rfl, hb0⟩
    cases q2
    · have HQ := Lib.hid (show mayT nm ng x = false by rw [hs]; simp)
      clear hs
      go_wp2_with (first | ((with_reducible go_at_call 31); (with_reducible refine (C1.out _).mono ?_); rintro e w' ⟨rfl, rfl⟩) | ((with_reducible go_at_call 31); (with_reducible refine (C2.out _).mono ?_); rintro e w' ⟨rfl, rfl⟩) | ((with_reducible go_at_call 31); (with_reducible refine (C3.out _).mono ?_); rintro e w' ⟨rfl, rfl⟩) | ((with_reducible go_at_call 31); (with_reducible refine (C4.out _).mono ?_); rintro e w' ⟨rfl, rfl⟩))
      go_ret
      exact ⟨by rw [HQ.out]; rfl, hb0⟩
    cases q3
    · have HQ := Lib.hid (show mayT nm ng x = false by rw [hs]; simp)
      clear hs
      go_wp2_with (first | ((with_reducible go_at_call 31); (with_reducible refine (C1.out _).mono ?_); rintro e w' ⟨rfl, rfl⟩) | ((with_reducible go_at_call 31); (with_reducible refine (C2.out _).mono ?_); rintro e w' ⟨rfl, rfl⟩) | ((with_reducible go_at_call 31); (with_reducible refine (C3.out _).mono ?_); rintro e w' ⟨rfl, rfl⟩) | ((with_reducible go_at_call 31); (with_reducible refine (C4.out _).mono ?_); rintro e w' ⟨rfl, rfl⟩))
      go_ret
      exact ⟨by rw [HQ.out]; rfl, hb0⟩
    cases q4
    · have HQ := Lib.hid (show mayT nm ng x = false by rw [hs]; simp)
      clear hs
      go_wp2_with (first | ((with_reducible go_at_call 31); (with_reducible refine (C1.out _).mono ?_); rintro e w' ⟨rfl, rfl⟩) | ((with_reducible go_at_call 31); (with_reducible refine (C2.out _).mono ?_); rintro e w' ⟨rfl, rfl⟩) | ((with_reducible go_at_call 31); (with_reducible refine (C3.out _).mono ?_); rintro e w' ⟨rfl, rfl⟩) | ((with_reducible go_at_call 31); (with_reducible refine (C4.out _).mono ?_); rintro e w' ⟨rfl, rfl⟩))
      go_ret
      exact ⟨by rw [HQ.out]; rfl, hb0⟩
    simp only [Bool.true_and, Bool.and_true] at hs
    by_cases h6 : (6 : Int) < (x.un : Int)
    · have HQ := Lib.hid (show mayT nm ng x = false by rw [hs, show decide (x.un ≤ 6) = false by simp; omega]; simp)
      clear hs
      go_wp2_with (first | ((with_reducible go_at_call 31); (with_reducible refine (C1.out _).mono ?_); rintro e w' ⟨rfl, rfl⟩) | ((with_reducible go_at_call 31); (with_reducible refine (C2.out _).mono ?_); rintro e w' ⟨rfl, rfl⟩) | ((with_reducible go_at_call 31); (with_reducible refine (C3.out _).mono ?_); rintro e w' ⟨rfl, rfl⟩) | ((with_reducible go_at_call 31); (with_reducible refine (C4.out _).mono ?_); rintro e w' ⟨rfl, rfl⟩))
      go_ret
      exact ⟨by rw [HQ.out]; rfl, hb0⟩
    by_cases h40 : (40 : Int) < (x.on : Int)
    · have HQ := Lib.hid (show mayT nm ng x = false by rw [hs, show decide (x.on ≤ 40) = false by simp; omega]; simp)
      clear hs
      go_wp2_with (first | ((with_reducible go_at_call 31); (with_reducible refine (C1.out _).mono ?_); rintro e w' ⟨rfl, rfl⟩) | ((with_reducible go_at_call 31); (with_reducible refine (C2.out _).mono ?_); rintro e w' ⟨rfl, rfl⟩) | ((with_reducible go_at_call 31); (with_reducible refine (C3.out _).mono ?_); rintro e w' ⟨rfl, rfl⟩) | ((with_reducible go_at_call 31); (with_reducible refine (C4.out _).mono ?_); rintro e w' ⟨rfl, rfl⟩))
      go_ret
      exact ⟨by rw [HQ.out]; rfl, hb0⟩
    have HQ := Lib.hid (show mayT nm ng x = !useB nm x.us by rw [hs, show decide (x.on ≤ 40) = true by simp; omega, show decide (x.un ≤ 6) = true by simp; omega]; simp)
    clear hs
    generalize x.us = us at *
    generalize x.un = un at *
    generalize x.U = U at *
    go_wp2_with (first | ((with_reducible go_at_call 31); (with_reducible refine (C1.out _).mono ?_); rintro e w' ⟨rfl, rfl⟩) | ((with_reducible go_at_call 31); (with_reducible refine (C2.out _).mono ?_); rintro e w' ⟨rfl, rfl⟩) | ((with_reducible go_at_call 31); (with_reducible refine (C3.out _).mono ?_); rintro e w' ⟨rfl, rfl⟩) | ((with_reducible go_at_call 31); (with_reducible refine (C4.out _).mono ?_); rintro e w' ⟨rfl, rfl⟩))
    go_loop [8] (fun i => ∃ k : Nat, k ≤ un ∧ i = .int .i64 k ∧ Hid (useB nm (us.take k) = false)) (fun i => un - (intOf i).toNat)
    case atStart => exact ⟨0, by omega, rfl, Lib.hid rfl⟩
    case round =>
      obtain ⟨k, hk, rfl, HN⟩ := hrel
      by_cases hlt : k < un
      · have hkl : k < us.length := by omega
        obtain ⟨b, off, rfl, hc⟩ := HR.out.int hkl
        have hst : useB nm (us.take (k + 1)) = !inB us[k] 0 ((nm : Int) - 1) := by
          have h0 := HN.out
          unfold useB at h0 ⊢
          rw [take_succ' us k hkl, List.any_append, h0]
          simp
        have hall : useB nm us = false → inB us[k] 0 ((nm : Int) - 1) = true := fun h => by
          unfold useB at h
          rw [List.any_eq_false] at h
          have := h us[k] (List.getElem_mem hkl)
          simpa using this
        have c5 := fun w => r_in us[k] 0 ((nm : Int) - 1) w
        generalize us[k] = u at *
        generalize inB u 0 ((nm : Int) - 1) = q at *
        have C5 := Lib.hid c5
        have HST := Lib.hid hst
        have HAL := Lib.hid hall
        have i0' : (0 : Int) ≤ (k : Int) := by omega
        have i1' : (k : Int) < (un : Int) := by omega
        clear c5 hst hall hkl
        cases q
        · have HF := Lib.hid (show mayT nm ng x = false by
            rw [HQ.out]
            cases h : useB nm us
            · have := HAL.out h; cases this
            · rfl)
          go_wp2_with ((with_reducible go_at_call 31); (with_reducible refine (C5.out _).mono ?_); rintro e w' ⟨rfl, rfl⟩)
          go_ret
          exact ⟨by rw [HF.out]; rfl, hb0⟩
        · go_wp2_with ((with_reducible go_at_call 31); (with_reducible refine (C5.out _).mono ?_); rintro e w' ⟨rfl, rfl⟩)
          go_round
          case rel => exact ⟨k + 1, by omega, by go_num, Lib.hid (by rw [HST.out]; rfl)⟩
          case measure => simp [intOf]; omega
      · have HF := Lib.hid (show mayT nm ng x = true by
          rw [HQ.out]
          have h0 := HN.out
          rw [List.take_of_length_le (by omega)] at h0
          rw [h0]; rfl)
        go_wp2
        go_ret
        exact ⟨by rw [HF.out]; rfl, hb0⟩

end Go.Proofs.Ytdninhdabeddeaa
