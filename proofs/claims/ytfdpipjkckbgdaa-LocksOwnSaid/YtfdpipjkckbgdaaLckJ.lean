/-
  LOCKS: the statement LocksOwn.
-/
import Derived.Test.YtfdpipjkckbgdaaLckH
namespace Go.Proofs.Ytfdpipjkckbgdaa
open Go.ChangeShapes Go.WideShapes Go.ChangeAt Go.RowKit Go.Maps
attribute [local go_sem] depUpon Sp.ok

theorem blkQ' {w : World} {B n c z : Nat} {T : TypeId} {A : Option Addr} {xs : List Value} (h : Row w B T z A n c xs) : ∀ i, blk A = some i → i < w.heap.size := fun i hi => (h.at_ i hi).2
theorem hl_setH {s : LS} {t u : Int} (h : u ≠ t) (o : Option (List (Int × Int))) : (s.setH t o).hl u = s.hl u := by
  unfold LS.hl LS.setH
  show (fset s.H t o u).getD [] = _
  rw [fset_ne _ _ h]
theorem hl_lock {s : LS} {t u : Int} (h : u ≠ t) (m : Int) : (lockS s t m).hl u = s.hl u := by
  unfold lockS
  split
  · rfl
  · split
    · rfl
    · exact hl_setH h _
theorem hl_unl {s : LS} {t u : Int} (h : u ≠ t) (m : Int) : (unlS s t m).hl u = s.hl u := by
  unfold unlS
  split
  · exact hl_setH h _
  · rfl
theorem hl_leave {s : LS} {t u : Int} (h : u ≠ t) : (leaveS s t).hl u = s.hl u := by
  unfold leaveS
  exact hl_setH (s := s.setW (fset s.W t none)) h none
theorem hl_run {s : LS} {t u : Int} (h : u ≠ t) (n : Int) : (runS s t n).hl u = s.hl u := by
  unfold runS
  cases s.H t with
  | none => rfl
  | some xs => exact hl_setH h _

set_option maxRecDepth 100000 in
set_option maxHeartbeats 16000000 in
theorem law_locksown (A : Option Addr) (n c : Nat) (zs : List Int) (Bo : Option Addr) (m d : Nat) (ys : List Int) (w : World) (ga : IntsArg w A n zs) (gb : IntsArg w Bo m ys) :
    Calls Try.prog 5 #[.slice A n c, .slice Bo m d] w fun e w' => e = .returned (.bool true) ∧ Below w.heap.size w w' := by
  have HAW := Lib.hid (fun w => lck_awake w)
  by_cases h10 : 10 < n
  · have h1 : (10 : Int) < (n : Int) := by omega
    clear ga gb
    go_enter Try.func5, Try.ntmps5
    go_wp2_with ((with_reducible go_at_call 8); (with_reducible refine (HAW.out _).mono ?_); rintro e w1 ⟨rfl, b1⟩)
    go_ret
    exact ⟨rfl, b1⟩
  have n1 : (n : Int) ≤ 10 := by omega
  by_cases h60 : 60 < m
  · have h1 : (60 : Int) < (m : Int) := by omega
    clear ga gb
    go_enter Try.func5, Try.ntmps5
    go_wp2_with ((with_reducible go_at_call 8); (with_reducible refine (HAW.out _).mono ?_); rintro e w1 ⟨rfl, b1⟩)
    go_ret
    exact ⟨rfl, b1⟩
  have m1 : (m : Int) ≤ 60 := by omega
  have hl := ga.len
  have HR := Lib.hid ga.rd
  have hlm := gb.len
  have HRB := Lib.hid gb.rd
  have HT := Lib.hid (t_new2 (some ⟨w.heap.size, 0, none⟩) 3 3 [(1, 5), (2, 9), (3, 7)] (w.alloc (.cells #[.int .i64 1, .int .i64 5, .int .i64 2, .int .i64 9, .int .i64 3, .int .i64 7] 29)) (by omega) (show Rd (w.alloc (.cells #[.int .i64 1, .int .i64 5, .int .i64 2, .int .i64 9, .int .i64 3, .int .i64 7] 29)) (some ⟨w.heap.size, 0, none⟩) (pairs [(1, 5), (2, 9), (3, 7)]) from (Own.new w 29 (pairs [(1, 5), (2, 9), (3, 7)])).rd0) rfl (by decide))
  have b0 := Ext.alloc w (.cells #[.int .i64 1, .int .i64 5, .int .i64 2, .int .i64 9, .int .i64 3, .int .i64 7] 29)
  have z0 := b0.size
  have HK := Lib.hid (fun gt K kc w2 ho hr hB hBw => k_new w.heap.size gt K kc [(1, 5), (2, 9), (3, 7)] w2 ho hr (by decide) hB hBw)
  have hb0 := run_mutex 1 5
  have hb1 := run_mutex 2 9
  have hb2 := run_mutex 3 7
  clear ga gb h10 h60
  go_enter Try.func5, Try.ntmps5
  go_wp2_with (first
    | ((with_reducible go_at_call 9); (with_reducible refine (HT.out).mono ?_); rintro e w2 ⟨gt, K, kc, rfl, ot, rt, ht6, hgt, b2⟩; have b02 := Ext.trans b0 b2; have HN := Lib.hid (HK.out gt K kc _ ot (rt.mono z0) (by omega) b02.size); clear ot rt ht6)
    | ((with_reducible go_at_call 10); (with_reducible refine (HN.out).mono ?_); rintro e w3 ⟨g, P3, rfl, s3, bb3⟩; have b3 := Ext.trans b02 bb3; have S3 := Lib.hid s3; clear s3))
  go_loopw [8] (fun q wr => ∃ (i : Nat) (s : LS) (P : Nat → Prop), q = .int .i64 (i : Int) ∧ i ≤ n ∧ Hid (LI s) ∧ KW wr w.heap.size g s i P ∧ Ext w wr) (fun q _ => n - (intOf q).toNat)
  case atStart => exact ⟨0, _, P3, rfl, by omega, Lib.hid (LI.zero _), S3.out, b3⟩
  case round =>
    clear S3 b3 HT HK HN
    obtain ⟨i, s, P, rfl, hi, HL, hS, hb⟩ := hrel
    have HS := Lib.hid hS
    clear hS
    have i0' : (0 : Int) ≤ (i : Int) := by omega
    by_cases hlt : i < n
    · have i1' : (i : Int) < (n : Int) := by omega
      obtain ⟨bz, oz, rfl, hc⟩ := (HR.out.keep hb).int (k := i) (by omega)
      generalize zs[i]'(by omega) = z at *
      have HLO := Lib.hid (fun w => low_any z 3 w (by omega) (by omega))
      generalize low z 3 = t at *
      have HLK := Lib.hid (kw_lock w.heap.size g s i P 1 t wr HS.out (by omega) ⟨by omega, by omega⟩ HL.out hb.size)
      have HRN := Lib.hid (fun P w1 (h : KW w1 w.heap.size g (lockS s 1 t) (i + 1) P) => kw_run w.heap.size g (lockS s 1 t) (i + 1) P 1 1 w1 h (by omega) ⟨by omega, by omega⟩)
      have HL2 := Lib.hid ((HL.out.lock 1 t).run 1 1)
      go_wp2_with (first
        | ((with_reducible go_at_call 12); (with_reducible refine (HLO.out _).mono ?_); rintro e w' ⟨rfl, rfl⟩)
        | ((with_reducible go_at_call 11); (with_reducible refine (HLK.out).mono ?_); rintro e w6 ⟨rfl, P6, s6, t6⟩; have b6 := t6.belowOf hb HS.out.ge; have S6 := Lib.hid s6; clear s6 t6)
        | ((with_reducible go_at_call 17); (with_reducible refine (HRN.out _ _ S6.out).mono ?_); rintro e w7 ⟨rfl, P7, s7, t7⟩; have b7 := t7.belowOf b6 S6.out.ge; have S7 := Lib.hid s7; clear s7 t7))
      go_roundw
      case rel => exact ⟨i + 1, _, P7, by go_num, by omega, HL2, S7.out, b7⟩
      case measure => simp [intOf]; omega
    · obtain rfl : i = n := by omega
      clear hlt HR i0'
      have HH := Lib.hid (kw_held w.heap.size g s i P 1 wr HS.out (by omega) ⟨by omega, by omega⟩)
      have hhl := HS.out.hlen 1
      go_wp2_with ((with_reducible go_at_call 18); (with_reducible refine (HH.out).mono ?_); rintro e w9 ⟨A9, c9, rfl, r9, bb9⟩)
      have R9 := Lib.hid (r9.mono hb.size)
      have AP9 := Lib.hid (show ∀ j, blk A9 = some j → ¬ P j from fun j hj hp => by have h1 := (r9.at_ j hj).1; have h2 := HS.out.lt j hp; omega)
      have S9 := Lib.hid (HS.out.keep bb9)
      have b9 := Ext.trans hb bb9
      clear r9 HS HH bb9 hi
      generalize hhs : s.hl 1 = hs at *
      have HHS := Lib.hid hhs
      clear hhs
      go_loopw [10, 11] (fun q _ wr => ∃ (j : Nat) (s' : LS) (P' : Nat → Prop), q = .int .i64 (j : Int) ∧ j ≤ m ∧ Hid (LI s' ∧ s'.hl 1 = hs) ∧ KW wr w.heap.size g s' (i + j) P' ∧ Row wr w.heap.size 46 2 A9 hs.length c9 (pairs hs) ∧ Hid (∀ k, blk A9 = some k → ¬ P' k) ∧ Ext w wr) (fun q _ _ => m - (intOf q).toNat)
      case atStart => exact ⟨0, s, P, rfl, by omega, Lib.hid ⟨HL.out, HHS.out⟩, S9.out, R9.out, AP9, b9⟩
      case round =>
        clear HL S9 R9 AP9 b9 HHS
        obtain ⟨j, s', P', rfl, hj, HL, hS, hR, HA, hb'⟩ := hrel
        have HS := Lib.hid hS
        have RW := Lib.hid hR
        clear hS hR
        have j0' : (0 : Int) ≤ (j : Int) := by omega
        by_cases hjl : j < m
        · have j1' : (j : Int) < (m : Int) := by omega
          obtain ⟨bz, oz, rfl, hc⟩ := (HRB.out.keep hb').int (k := j) (by omega)
          generalize ys[j]'(by omega) = z at *
          have HLO := Lib.hid (fun w => low_any z 12 w (by omega) (by omega))
          have k0 := low_lo z 12 (by omega)
          have k1 := low_hi z 12 (by omega)
          generalize low z 12 = t at *
          by_cases h3 : t < 3
          · have t3 : decide (t < 3) = true := by simp [h3]
            have HX := Lib.hid (kw_lock w.heap.size g s' (i + j) P' 2 t wr HS.out (by omega) ⟨by omega, by omega⟩ HL.out.1 hb'.size)
            have HL2 := Lib.hid (show LI (lockS s' 2 t) ∧ (lockS s' 2 t).hl 1 = hs from ⟨HL.out.1.lock 2 t, by rw [hl_lock (by decide)]; exact HL.out.2⟩)
            generalize lockS s' 2 t = s2 at *
            have HH := Lib.hid (fun P w1 (h : KW w1 w.heap.size g s2 (i + j + 1) P) => kw_held w.heap.size g s2 (i + j + 1) P 1 w1 h (by omega) ⟨by omega, by omega⟩)
            rw [HL2.out.2] at HH
            go_upto_region 26 with (first
              | ((with_reducible go_at_call 12); (with_reducible refine (HLO.out _).mono ?_); rintro e w' ⟨rfl, rfl⟩)
              | ((with_reducible go_at_call 11); (with_reducible refine (HX.out).mono ?_); rintro e w7 ⟨rfl, P7, s7, q7⟩))
            have SX := Lib.hid (show KW w7 w.heap.size g s2 (i + j + 1) P7 from s7)
            have RX := Lib.hid (q7.row RW.out HA.out)
            have AX := Lib.hid (q7.apart (Q := fun k => blk A9 = some k) HA.out (blkQ' RW.out))
            have b7 := q7.belowOf hb' HS.out.ge
            have HHX := Lib.hid (HH.out _ _ SX.out)
            clear q7 s7
            go_wp2_with (first
              | ((with_reducible go_at_call 18); (with_reducible refine HHX.out.mono ?_); rintro e w8 ⟨A8, c8, rfl, r8, b8⟩; have R8 := Lib.hid r8.rd; have RX8 := Lib.hid (RX.out.keep b8))
              | ((with_reducible go_at_call 19); (with_reducible refine (same_helds A8 A9 hs.length c8 c9 hs w8 (by omega) R8.out RX8.out.rd rfl).mono ?_); rintro e w9 ⟨rfl, b9⟩))
            go_roundw
            case rel => exact ⟨j + 1, s2, P7, by go_num, by omega, HL2, by rw [← Nat.add_assoc]; exact SX.out.keep (Ext.trans b8 b9), RX.out.keep (Ext.trans b8 b9), AX, Ext.trans b7 (Ext.trans b8 b9)⟩
            case measure => simp [intOf]; omega
          have t3 : decide (t < 3) = false := by simp [h3]
          have t30 : 3 ≤ t := by omega
          by_cases h6 : t < 6
          · have t6 : decide (t < 6) = true := by simp [h6]
            have HX := Lib.hid (kw_unlock w.heap.size g s' (i + j) P' 2 (t - 3) wr HS.out (by omega) ⟨by omega, by omega⟩)
            have HL2 := Lib.hid (show LI (unlS s' 2 (t - 3)) ∧ (unlS s' 2 (t - 3)).hl 1 = hs from ⟨HL.out.1.unlock 2 (t - 3), by rw [hl_unl (by decide)]; exact HL.out.2⟩)
            generalize unlS s' 2 (t - 3) = s2 at *
            have HH := Lib.hid (fun P w1 (h : KW w1 w.heap.size g s2 (i + j + 1) P) => kw_held w.heap.size g s2 (i + j + 1) P 1 w1 h (by omega) ⟨by omega, by omega⟩)
            rw [HL2.out.2] at HH
            go_upto_region 26 with (first
              | ((with_reducible go_at_call 12); (with_reducible refine (HLO.out _).mono ?_); rintro e w' ⟨rfl, rfl⟩)
              | ((with_reducible go_at_call 14); (with_reducible refine (HX.out).mono ?_); rintro e w7 ⟨ws7, A7, c7, rfl, r7, k7, l7, P7, s7, q7⟩; clear r7 k7 l7))
            have SX := Lib.hid (show KW w7 w.heap.size g s2 (i + j + 1) P7 from s7)
            have RX := Lib.hid (q7.row RW.out HA.out)
            have AX := Lib.hid (q7.apart (Q := fun k => blk A9 = some k) HA.out (blkQ' RW.out))
            have b7 := q7.belowOf hb' HS.out.ge
            have HHX := Lib.hid (HH.out _ _ SX.out)
            clear q7 s7
            go_wp2_with (first
              | ((with_reducible go_at_call 18); (with_reducible refine HHX.out.mono ?_); rintro e w8 ⟨A8, c8, rfl, r8, b8⟩; have R8 := Lib.hid r8.rd; have RX8 := Lib.hid (RX.out.keep b8))
              | ((with_reducible go_at_call 19); (with_reducible refine (same_helds A8 A9 hs.length c8 c9 hs w8 (by omega) R8.out RX8.out.rd rfl).mono ?_); rintro e w9 ⟨rfl, b9⟩))
            go_roundw
            case rel => exact ⟨j + 1, s2, P7, by go_num, by omega, HL2, by rw [← Nat.add_assoc]; exact SX.out.keep (Ext.trans b8 b9), RX.out.keep (Ext.trans b8 b9), AX, Ext.trans b7 (Ext.trans b8 b9)⟩
            case measure => simp [intOf]; omega
          have t6 : decide (t < 6) = false := by simp [h6]
          have t60 : 6 ≤ t := by omega
          by_cases h9 : t < 9
          · have t9 : decide (t < 9) = true := by simp [h9]
            have HX := Lib.hid (kw_run w.heap.size g s' (i + j) P' 2 t wr HS.out (by omega) ⟨by omega, by omega⟩)
            have HL2 := Lib.hid (show LI (runS s' 2 t) ∧ (runS s' 2 t).hl 1 = hs from ⟨HL.out.1.run 2 t, by rw [hl_run (by decide)]; exact HL.out.2⟩)
            generalize runS s' 2 t = s2 at *
            have HH := Lib.hid (fun P w1 (h : KW w1 w.heap.size g s2 (i + j + 1) P) => kw_held w.heap.size g s2 (i + j + 1) P 1 w1 h (by omega) ⟨by omega, by omega⟩)
            rw [HL2.out.2] at HH
            go_upto_region 26 with (first
              | ((with_reducible go_at_call 12); (with_reducible refine (HLO.out _).mono ?_); rintro e w' ⟨rfl, rfl⟩)
              | ((with_reducible go_at_call 17); (with_reducible refine (HX.out).mono ?_); rintro e w7 ⟨rfl, P7, s7, q7⟩))
            have SX := Lib.hid (show KW w7 w.heap.size g s2 (i + j + 1) P7 from s7.mono (by omega))
            have RX := Lib.hid (q7.row RW.out HA.out)
            have AX := Lib.hid (q7.apart (Q := fun k => blk A9 = some k) HA.out (blkQ' RW.out))
            have b7 := q7.belowOf hb' HS.out.ge
            have HHX := Lib.hid (HH.out _ _ SX.out)
            clear q7 s7
            go_wp2_with (first
              | ((with_reducible go_at_call 18); (with_reducible refine HHX.out.mono ?_); rintro e w8 ⟨A8, c8, rfl, r8, b8⟩; have R8 := Lib.hid r8.rd; have RX8 := Lib.hid (RX.out.keep b8))
              | ((with_reducible go_at_call 19); (with_reducible refine (same_helds A8 A9 hs.length c8 c9 hs w8 (by omega) R8.out RX8.out.rd rfl).mono ?_); rintro e w9 ⟨rfl, b9⟩))
            go_roundw
            case rel => exact ⟨j + 1, s2, P7, by go_num, by omega, HL2, by rw [← Nat.add_assoc]; exact SX.out.keep (Ext.trans b8 b9), RX.out.keep (Ext.trans b8 b9), AX, Ext.trans b7 (Ext.trans b8 b9)⟩
            case measure => simp [intOf]; omega
          have t9 : decide (t < 9) = false := by simp [h9]
          have t90 : 9 ≤ t := by omega
          · have HX := Lib.hid (kw_leave w.heap.size g s' (i + j) P' 2 wr HS.out (by omega) ⟨by omega, by omega⟩)
            have HL2 := Lib.hid (show LI (leaveS s' 2) ∧ (leaveS s' 2).hl 1 = hs from ⟨HL.out.1.leave 2, by rw [hl_leave (by decide)]; exact HL.out.2⟩)
            generalize leaveS s' 2 = s2 at *
            have HH := Lib.hid (fun P w1 (h : KW w1 w.heap.size g s2 (i + j + 1) P) => kw_held w.heap.size g s2 (i + j + 1) P 1 w1 h (by omega) ⟨by omega, by omega⟩)
            rw [HL2.out.2] at HH
            go_upto_region 26 with (first
              | ((with_reducible go_at_call 12); (with_reducible refine (HLO.out _).mono ?_); rintro e w' ⟨rfl, rfl⟩)
              | ((with_reducible go_at_call 13); (with_reducible refine (HX.out).mono ?_); rintro e w7 ⟨ws7, A7, c7, rfl, r7, k7, l7, P7, s7, q7⟩; clear r7 k7 l7))
            have SX := Lib.hid (show KW w7 w.heap.size g s2 (i + j + 1) P7 from s7.mono (by omega))
            have RX := Lib.hid (q7.row RW.out HA.out)
            have AX := Lib.hid (q7.apart (Q := fun k => blk A9 = some k) HA.out (blkQ' RW.out))
            have b7 := q7.belowOf hb' HS.out.ge
            have HHX := Lib.hid (HH.out _ _ SX.out)
            clear q7 s7
            go_wp2_with (first
              | ((with_reducible go_at_call 18); (with_reducible refine HHX.out.mono ?_); rintro e w8 ⟨A8, c8, rfl, r8, b8⟩; have R8 := Lib.hid r8.rd; have RX8 := Lib.hid (RX.out.keep b8))
              | ((with_reducible go_at_call 19); (with_reducible refine (same_helds A8 A9 hs.length c8 c9 hs w8 (by omega) R8.out RX8.out.rd rfl).mono ?_); rintro e w9 ⟨rfl, b9⟩))
            go_roundw
            case rel => exact ⟨j + 1, s2, P7, by go_num, by omega, HL2, by rw [← Nat.add_assoc]; exact SX.out.keep (Ext.trans b8 b9), RX.out.keep (Ext.trans b8 b9), AX, Ext.trans b7 (Ext.trans b8 b9)⟩
            case measure => simp [intOf]; omega
        · obtain rfl : j = m := by omega
          go_wp2_with ((with_reducible go_at_call 8); (with_reducible refine (HAW.out _).mono ?_); rintro e wd ⟨rfl, bd⟩)
          go_ret
          exact ⟨rfl, Ext.trans hb' bd⟩

end Go.Proofs.Ytfdpipjkckbgdaa
