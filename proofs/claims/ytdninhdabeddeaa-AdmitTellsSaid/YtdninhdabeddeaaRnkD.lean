/-
  WALKS of the reference of chapter 10, and of what every program answers that is one.
-/
import Derived.Test.YtdninhdabeddeaaRnkC
namespace Go.Proofs.Ytdninhdabeddeaa
open Go.RowKit
attribute [local go_sem] depUpon Sp.ok

def isM (n : Nat) (m : Int) : Bool := decide (0 ≤ m) && decide (m < (n : Int))
theorem isM_out {n : Nat} {m : Int} (h : m < 0 ∨ (n : Int) ≤ m) : isM n m = false := by unfold isM; simp; omega
theorem isM_in {n k : Nat} (h : k < n) : isM n (k : Int) = true := by unfold isM; simp; omega

set_option maxRecDepth 100000 in
set_option maxHeartbeats 1000000 in
theorem r_is (A : Option Addr) (n c : Nat) (m : Int) (w : World) :
    Calls Try.prog 60 #[.slice A n c, .int .i64 m] w fun e w' => e = .returned (.bool (isM n m)) ∧ w = w' := by
  have HE : Hid (isM n m = (decide (0 ≤ m) && decide (m < (n : Int)))) := rfl
  by_cases h0 : 0 ≤ m
  · go_enter Try.func60, Try.ntmps60
    go_wp2
    go_ret
    exact ⟨by rw [HE.out]; simp [h0], rfl⟩
  · have HF : Hid (isM n m = false) := Lib.hid (isM_out (.inl (by omega)))
    go_enter Try.func60, Try.ntmps60
    go_wp2
    go_ret
    exact ⟨by rw [HF.out]; rfl, rfl⟩

set_option maxRecDepth 100000 in
set_option maxHeartbeats 2000000 in
theorem r_good (A : Option Addr) (n c : Nat) (ms : List (Int × Int)) (w : World) (hn : n ≤ 65536) (hr : Rd w A (pairs ms)) (hl : ms.length = n) :
    Calls Try.prog 30 #[.slice A n c] w fun e w' => e = .returned (.bool (okM ms)) ∧ Below w.heap.size w w' := by
  subst hl
  have HE : Hid (okM ms = (decide (ms.length ≤ 6) && ms.all goodM)) := rfl
  go_enter Try.func30, Try.ntmps30
  go_wp2
  go_loopw [3] (fun i wr => ∃ k : Nat, k ≤ ms.length ∧ i = .int .i64 k ∧ Hid ((ms.take k).all goodM = true) ∧ Below w.heap.size w wr) (fun i _ => ms.length - (intOf i).toNat)
  case atStart => exact ⟨0, Nat.zero_le _, rfl, Lib.hid rfl, Below.refl _ _⟩
  case round =>
    obtain ⟨k, hk, rfl, HA, hb⟩ := hrel
    by_cases hlt : k < ms.length
    · obtain ⟨b, off, rfl, h1, h2⟩ := (hr.keep hb).pair hlt
      have HT := Lib.hid (take_succ' ms k hlt)
      have HM := Lib.hid (List.getElem_mem hlt : ms[k] ∈ ms)
      generalize ms[k] = x at *
      obtain ⟨xa, xb⟩ := x
      simp only at h1 h2
      have hgd : goodM (xa, xb) = decide (1 ≤ xa ∧ xa ≤ 100 ∧ 1 ≤ xb ∧ xb ≤ 1000) := rfl
      have bad : goodM (xa, xb) = false → Hid (false = okM ms) := fun hg => Lib.hid (by
          have : ms.all goodM = false := by rw [List.all_eq_false]; exact ⟨_, HM.out, by simp [hg]⟩
          rw [HE.out, this]; simp)
      by_cases g1 : 1 ≤ xa
      · by_cases g2 : xa ≤ 100
        · by_cases g3 : 1 ≤ xb
          · by_cases g4 : xb ≤ 1000
            · have HE2 : Hid ((ms.take (k + 1)).all goodM = true) := Lib.hid (by rw [HT.out, List.all_append, HA.out]; simp [hgd]; omega)
              clear bad hgd
              go_wp2
              go_roundw
              case rel => exact ⟨k + 1, by omega, by go_num, HE2, hb⟩
              case measure => simp [intOf]; omega
            · have HB := bad (by rw [hgd]; simp; omega)
              clear bad hgd
              go_wp2
              go_ret
              exact ⟨by rw [← HB.out]; rfl, hb⟩
          · have HB := bad (by rw [hgd]; simp; omega)
            clear bad hgd
            go_wp2
            go_ret
            exact ⟨by rw [← HB.out]; rfl, hb⟩
        · have HB := bad (by rw [hgd]; simp; omega)
          clear bad hgd
          go_wp2
          go_ret
          exact ⟨by rw [← HB.out]; rfl, hb⟩
      · have HB := bad (by rw [hgd]; simp; omega)
        clear bad hgd
        go_wp2
        go_ret
        exact ⟨by rw [← HB.out]; rfl, hb⟩
    · have HB : Hid (decide ((ms.length : Int) ≤ 6) = okM ms) := Lib.hid (by
        have := HA.out
        rw [List.take_of_length_le (by omega)] at this
        rw [HE.out, this]
        by_cases h6 : ms.length ≤ 6
        · simp [h6]; omega
        · simp [h6]; omega)
      go_wp2
      go_ret
      exact ⟨by rw [← HB.out]; rfl, hb⟩

set_option maxRecDepth 100000 in
set_option maxHeartbeats 1000000 in
theorem r_sum (A : Option Addr) (n c : Nat) (ms : List (Int × Int)) (r : Int) (w : World) (hn : n ≤ 65536) (hr : Rd w A (pairs ms)) (hl : ms.length = n) :
    Calls Try.prog 42 #[.slice A n c, .int .i64 r] w fun e w' => e = .returned (.int .i64 (rsum r ms)) ∧ Below w.heap.size w w' := by
  subst hl
  go_enter Try.func42, Try.ntmps42
  go_wp2
  go_loopw [5, 6] (fun s i wr => ∃ k : Nat, k ≤ ms.length ∧ i = .int .i64 k ∧ s = .int .i64 (rsum r (ms.take k)) ∧ Below w.heap.size w wr) (fun _ i _ => ms.length - (intOf i).toNat)
  case atStart => exact ⟨0, Nat.zero_le _, rfl, rfl, Below.refl _ _⟩
  case round =>
    obtain ⟨k, hk, rfl, rfl, hb⟩ := hrel
    by_cases hlt : k < ms.length
    · obtain ⟨b, off, rfl, h1, h2⟩ := (hr.keep hb).pair hlt
      have HS := Lib.hid (rsum_snoc r (ms.take k) ms[k])
      have HT := Lib.hid (take_succ' ms k hlt)
      generalize ms[k] = x at *
      obtain ⟨xr, xl⟩ := x
      simp only at h1 h2
      by_cases hle : r ≤ xr
      · have HE : Hid (rsumStep r (rsum r (ms.take k)) (xr, xl) = nadd (rsum r (ms.take k)) xl) := Lib.hid (by rw [nadd_nsum]; exact if_pos hle)
        go_wp2_with ((with_reducible go_at_call 61); (with_reducible refine (ref_add _ _ _).mono ?_); rintro e w' ⟨rfl, rfl⟩)
        go_roundw
        case rel => exact ⟨k + 1, by omega, by go_num, by rw [HT.out, HS.out, HE.out], hb⟩
        case measure => simp [intOf]; omega
      · have HE : Hid (rsumStep r (rsum r (ms.take k)) (xr, xl) = rsum r (ms.take k)) := if_neg hle
        go_wp2
        go_roundw
        case rel => exact ⟨k + 1, by omega, by go_num, by rw [HT.out, HS.out, HE.out], hb⟩
        case measure => simp [intOf]; omega
    · go_wp2
      go_ret
      exact ⟨ret_int (by rw [List.take_of_length_le (by omega)]), hb⟩

theorem ok_rank {ms : List (Int × Int)} (h : okM ms = true) {k : Nat} (hk : k < ms.length) : 1 ≤ ms[k].1 := by
  unfold okM at h
  rw [Bool.and_eq_true] at h
  have := List.all_eq_true.1 h.2 ms[k] (List.getElem_mem hk)
  simp [goodM] at this
  omega

set_option maxRecDepth 100000 in
set_option maxHeartbeats 2000000 in
theorem r_least (A : Option Addr) (n c : Nat) (ms : List (Int × Int)) (B : Option Addr) (m d : Nat) (us : List Int) (w : World) (hn : n ≤ 65536) (hr : Rd w A (pairs ms)) (hl : ms.length = n) (hm : m ≤ 65536) (hs : Rd w B (ints us)) (hk : us.length = m) (hok : okM ms = true) :
    Calls Try.prog 41 #[.slice A n c, .slice B m d] w fun e w' => e = .returned (.tuple #[.int .i64 (rleast ms us).1, .bool (rleast ms us).2]) ∧ Below w.heap.size w w' := by
  subst hl; subst hk
  have HOK := Lib.hid hok
  clear hok
  go_enter Try.func41, Try.ntmps41
  go_wp2
  go_loopw [6, 7, 8] (fun s o i wr => ∃ (k : Nat) (b : Int) (q : Bool), k ≤ us.length ∧ i = .int .i64 k ∧ s = .int .i64 b ∧ o = .bool q ∧ Hid (rleast ms (us.take k) = (b, q)) ∧ Below w.heap.size w wr) (fun _ _ i _ => us.length - (intOf i).toNat)
  case atStart => exact ⟨0, 0, false, Nat.zero_le _, rfl, rfl, rfl, Lib.hid rfl, Below.refl _ _⟩
  case round =>
    obtain ⟨k, b, q, hk, rfl, rfl, rfl, HR, hb⟩ := hrel
    by_cases hlt : k < us.length
    · obtain ⟨bb, off, rfl, hc⟩ := (hs.keep hb).int hlt
      have HS := Lib.hid (rleast_snoc ms (us.take k) us[k])
      have HT := Lib.hid (take_succ' us k hlt)
      have hstep : rleastStep ms (b, q) us[k] = if 0 < (mget ms us[k]).1 ∧ (q = false ∨ (mget ms us[k]).1 < b) then ((mget ms us[k]).1, true) else (b, q) := rfl
      generalize us[k] = u at *
      have hiw := mget_ways ms u
      rcases hiw with ⟨hg, hout⟩ | ⟨j, rfl, hj, hg⟩
      · rw [hg] at hstep
        have HE := Lib.hid (by rw [HT.out, HS.out, HR.out, hstep]; simp : rleast ms (us.take (k + 1)) = (b, q))
        have c1 := fun A c w => r_is A ms.length c u w
        rw [isM_out hout] at c1
        have C1 := Lib.hid c1
        clear c1 hstep hg hout
        go_wp2_with ((with_reducible go_at_call 60); (with_reducible refine (C1.out _ _ _).mono ?_); rintro e w' ⟨rfl, rfl⟩)
        go_roundw
        case rel => exact ⟨k + 1, b, q, by omega, by go_num, rfl, rfl, HE, hb⟩
        case measure => simp [intOf]; omega
      · rw [hg] at hstep
        have hpos := ok_rank HOK.out hj
        obtain ⟨bm, offm, rfl, hc1, hc2⟩ := (hr.keep hb).pair hj
        have c1 := fun A c w => r_is A ms.length c (j : Int) w
        rw [isM_in hj] at c1
        have C1 := Lib.hid c1
        generalize ms[j] = x at *
        obtain ⟨x, xl⟩ := x
        simp only at hpos hstep hc1 hc2
        have hj' : (j : Int) < (ms.length : Int) := by omega
        have HST := Lib.hid hstep
        clear c1 hstep hg
        by_cases hw : q = false ∨ x < b
        · have HE := Lib.hid (by rw [HT.out, HS.out, HR.out, HST.out, if_pos ⟨by omega, hw⟩] : rleast ms (us.take (k + 1)) = (x, true))
          rcases hw with rfl | hxb
          · go_wp2_with ((with_reducible go_at_call 60); (with_reducible refine (C1.out _ _ _).mono ?_); rintro e w' ⟨rfl, rfl⟩)
            go_roundw
            case rel => exact ⟨k + 1, x, true, by omega, by go_num, rfl, rfl, HE, hb⟩
            case measure => simp [intOf]; omega
          · cases q <;>
              (go_wp2_with ((with_reducible go_at_call 60); (with_reducible refine (C1.out _ _ _).mono ?_); rintro e w' ⟨rfl, rfl⟩)
               go_roundw
               case rel => exact ⟨k + 1, x, true, by omega, by go_num, rfl, rfl, HE, hb⟩
               case measure => simp [intOf]; omega)
        · have HE := Lib.hid (by rw [HT.out, HS.out, HR.out, HST.out, if_neg (fun h => hw h.2)] : rleast ms (us.take (k + 1)) = (b, q))
          have hq : q = true := by cases q; exact absurd (.inl rfl) hw; rfl
          subst hq
          have hxb : ¬ x < b := fun h => hw (.inr h)
          clear hw
          go_wp2_with ((with_reducible go_at_call 60); (with_reducible refine (C1.out _ _ _).mono ?_); rintro e w' ⟨rfl, rfl⟩)
          go_roundw
          case rel => exact ⟨k + 1, b, true, by omega, by go_num, rfl, rfl, HE, hb⟩
          case measure => simp [intOf]; omega
    · have HE := Lib.hid (by have := HR.out; rwa [List.take_of_length_le (by omega)] at this : rleast ms us = (b, q))
      go_wp2
      go_ret2
      exact ⟨by rw [HE.out]; rfl, hb⟩

end Go.Proofs.Ytdninhdabeddeaa
