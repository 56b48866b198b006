/-
  WALKS of the reference of chapter 2: Row, Word, Put, All; and bits.All.
-/
import Derived.Test.YtaemgmlcfkpaeaaBitX
import Derived.Test.YtaemgmlcfkpaeaaArr
import Derived.Test.YtaemgmlcfkpaeaaApp
import Derived.Test.YtaemgmlcfkpaeaaLend
namespace Go.Proofs.Ytaemgmlcfkpaeaa
open Go.RowKit

theorem info_row : (Try.prog.info? 25).map (·.zero) = some (some (.agg (bools (List.replicate 64 false)).toArray)) := by kernel_rfl
theorem size_row : (Try.prog.info? 25).map (·.size) = some 64 := by kernel_rfl
theorem agg_row : aggB (Try.prog.underlying 25) = true := by kernel_rfl

/-- The first k bits, then nothing. -/
def prow (m k : Nat) : List Bool := (List.range 64).map fun j => decide (j < k) && m.testBit j
theorem prow_len (m k : Nat) : (prow m k).length = 64 := by simp [prow]
theorem prow_zero (m : Nat) : prow m 0 = List.replicate 64 false := by
  refine List.ext_getElem (by simp [prow]) fun i h1 h2 => ?_
  rw [List.getElem_replicate]
  simp [prow]
theorem prow_all (m : Nat) : prow m 64 = brow m := by
  refine List.ext_getElem (by simp [prow, brow]) fun i h1 h2 => ?_
  simp [prow] at h1
  simp [prow, brow, h1]
theorem prow_set (m k : Nat) : (prow m k).set k (m.testBit k) = prow m (k + 1) := by
  refine List.ext_getElem (by simp [prow]) fun i h1 h2 => ?_
  simp [prow] at h1
  rw [List.getElem_set]
  by_cases h : k = i
  · subst h; simp [prow]
  · simp [prow, h]
    congr 1
    simp; omega
theorem bit_law (m k : Nat) : (((m / 2 ^ k : Nat) : Int) % 2 == 1) = m.testBit k := by
  rw [Nat.testBit_eq_decide_div_mod_eq]
  by_cases h : m / 2 ^ k % 2 = 1
  · rw [show ((m / 2 ^ k : Nat) : Int) % 2 = 1 by omega, h]; rfl
  · rw [show ((m / 2 ^ k : Nat) : Int) % 2 = 0 by omega, show m / 2 ^ k % 2 = 0 by omega]; rfl

set_option maxRecDepth 100000 in
set_option maxHeartbeats 1000000 in
theorem ref_row (m : Nat) (w : World) (h : m < W64) :
    Calls Try.prog 8 #[.int .u64 m] w fun e w' => e = .returned (.agg (bools (brow m)).toArray) ∧ Below w.heap.size w w' := by
  have hz := info_row
  have HM := Lib.hid h
  clear h
  go_enter Try.func8, Try.ntmps8
  go_wp2_with (refine wpl_alloc_agg _ rfl 25 rfl (bools (List.replicate 64 false)) hz ?_; intro w1 o1 b1 s1)
  rename_i w0 o0 b0 s0 K0 a0
  rw [s0] at o1
  have o2 : Own w1 w.heap.size 25 (bools (List.replicate 64 false)) := o0.keep b1
  have o3 : Own w1 (w.heap.size + 1) 25 (bools (prow m 0)) := by rw [prow_zero]; exact o1
  have b2 : Below w.heap.size w w1 := Ext.trans b0 b1
  clear o0 o1 b0 b1 s1 s0
  go_loopw [0, 4] (fun x i wr => ∃ k : Nat, k ≤ 64 ∧ i = .int .i64 k ∧ x = .int .u64 ((m / 2 ^ k : Nat) : Int) ∧ Own wr w.heap.size 25 (bools (List.replicate 64 false)) ∧ Own wr (w.heap.size + 1) 25 (bools (prow m k)) ∧ Below w.heap.size w wr) (fun _ i _ => 64 - (intOf i).toNat)
  case atStart => exact ⟨0, by omega, rfl, by simp, o2, o3, b2⟩
  case round =>
    obtain ⟨k, hk, rfl, rfl, q1, q2, q3⟩ := hrel
    clear o2 o3 b2
    by_cases hlt : k < 64
    · have hc : wr.cell? ⟨w.heap.size + 1, k, none⟩ = some (.bool ((prow m k)[k]'(by rw [prow_len]; exact hlt))) := by
        rw [q2.cell, bools_get _ _ (by rw [prow_len]; exact hlt)]
      have hf : wr.frozen? ⟨w.heap.size + 1, k, none⟩ = false := q2.frozen _
      have q4 := q2.set k (.bool (((m / 2 ^ k : Nat) : Int) % 2 == 1))
      have q5 := q1.far (p := ⟨w.heap.size + 1, k, none⟩) (by simp) (.bool (((m / 2 ^ k : Nat) : Int) % 2 == 1))
      have q6 := q3.setCell (p := ⟨w.heap.size + 1, k, none⟩) (by simp) (.bool (((m / 2 ^ k : Nat) : Int) % 2 == 1))
      have HB := Lib.hid (bit_law m k)
      have HD := Lib.hid (by rw [Nat.pow_succ, Nat.div_div_eq_div_mul] : m / 2 ^ k / 2 = m / 2 ^ (k + 1))
      have hx : m / 2 ^ k < W64 := Nat.lt_of_le_of_lt (Nat.div_le_self _ _) HM.out
      unfold W64 at hx
      generalize m / 2 ^ k = x at *
      go_wp2
      go_roundw
      case rel =>
        refine ⟨k + 1, by omega, by go_num, ?_, q5, ?_, q6⟩
        · rw [← HD.out]; go_num
        · rw [← prow_set, ← HB.out, ← bools_set]; exact q4
      case measure => simp [intOf]; omega
    · obtain rfl : k = 64 := by omega
      rw [prow_all] at q2
      go_wp2_with (first
        | (refine wpl_load_own _ rfl 25 _ rfl agg_row 64 size_row _ rfl _ _ q2 (by rw [bools_len, brow_len]) ?_)
        | (refine wpl_store_own _ rfl 25 _ _ rfl 64 size_row _ rfl (bools (brow m)) rfl _ _ q1 (by rw [bools_len, brow_len]) (by rw [bools_len]; simp) (bools_one _) ?_; intro w2 o2 g2 s2))
      exact bodyPost_ret (v := .agg (bools (brow m)).toArray) (results_own rfl agg_row 64 size_row _ _ _ _ _ rfl o2 (by rw [bools_len, brow_len])) rfl ⟨rfl, below_of_grown q3 g2 (Nat.le_refl _) q3.size⟩

theorem wordOf_drop (bs : List Bool) (k : Nat) (h : k < bs.length) : wordOf (bs.drop k) = 2 * wordOf (bs.drop (k + 1)) + (if bs[k] = true then 1 else 0) := by
  rw [List.drop_eq_getElem_cons h, wordOf]
theorem wordOf_room (bs : List Bool) (k : Nat) (hl : bs.length = 64) (h : k < 64) : wordOf (bs.drop (k + 1)) ≤ 9223372036854775807 := by
  have h1 := wordOf_lt (bs.drop (k + 1))
  rw [List.length_drop, hl] at h1
  have h2 : 2 ^ (64 - (k + 1)) ≤ 2 ^ 63 := Nat.pow_le_pow_right (by omega) (by omega)
  omega

set_option maxRecDepth 100000 in
set_option maxHeartbeats 1000000 in
theorem ref_word (bs : List Bool) (w : World) (hl : bs.length = 64) :
    Calls Try.prog 22 #[.agg (bools bs).toArray] w fun e w' => e = .returned (.int .u64 (wordOf bs : Nat)) ∧ Below w.heap.size w w' := by
  have HL := Lib.hid hl
  clear hl
  go_enter Try.func22, Try.ntmps22
  go_wp2_with (refine wpl_box_own _ rfl 25 _ rfl (bools bs) rfl ?_; intro w1 o1 b1 s1)
  clear s1
  go_loopw [3, 4] (fun x i wr => ∃ k : Nat, k ≤ 64 ∧ i = .int .i64 ((k : Int) - 1) ∧ x = .int .u64 (wordOf (bs.drop k) : Nat) ∧ Own wr w.heap.size 25 (bools bs) ∧ Below w.heap.size w wr) (fun _ i _ => (intOf i + 1).toNat)
  case atStart =>
    refine ⟨64, by omega, rfl, ?_, o1, b1⟩
    rw [List.drop_eq_nil_of_le (by rw [HL.out]; omega)]; rfl
  case round =>
    obtain ⟨k, hk, rfl, rfl, q1, q2⟩ := hrel
    clear o1 b1
    rcases k with _ | k
    · go_wp2
      go_ret
      exact ⟨by simp, q2⟩
    · have e : ((k + 1 : Nat) : Int) - 1 = (k : Int) := by omega
      rw [e]
      have hlt : k < bs.length := by rw [HL.out]; omega
      have hc : wr.cell? ⟨w.heap.size, k, none⟩ = some (.bool bs[k]) := by rw [q1.cell, bools_get _ _ hlt]
      have HW := Lib.hid (wordOf_drop bs k hlt)
      have hr := wordOf_room bs k HL.out (by omega)
      have hk' : k < 64 := by omega
      clear e
      generalize wordOf (bs.drop (k + 1)) = y at *
      cases hb : bs[k]
      · rw [hb] at hc
        have HW' : Hid (wordOf (bs.drop k) = 2 * y) := by have h5 := HW.out; rw [hb] at h5; exact Lib.hid (by simpa using h5)
        clear hb HW
        go_wp2
        go_roundw
        case rel => exact ⟨k, by omega, rfl, by rw [HW'.out]; go_num, q1, q2⟩
        case measure => simp [intOf]
      · rw [hb] at hc
        have HW' : Hid (wordOf (bs.drop k) = 2 * y + 1) := by have h5 := HW.out; rw [hb] at h5; exact Lib.hid (by simpa using h5)
        clear hb HW
        go_wp2
        go_roundw
        case rel => exact ⟨k, by omega, rfl, by rw [HW'.out]; go_num, q1, q2⟩
        case measure => simp [intOf]

def putI (b : Bool) (m : Nat) (i : Int) : Nat := if b = true then setI m i else clrI m i
set_option maxRecDepth 100000 in
set_option maxHeartbeats 1000000 in
theorem ref_put (m : Nat) (i : Int) (b : Bool) (w : World) (h : m < W64) :
    Calls Try.prog 10 #[.int .u64 m, .int .i64 i, .bool b] w fun e w' => e = .returned (.int .u64 (putI b m i : Nat)) ∧ Below w.heap.size w w' := by
  by_cases hi : 0 ≤ i ∧ i ≤ 63
  · have HS : Hid (wordOf ((brow m).set i.toNat b) = putI b m i) := by
      cases b
      · show _ = clrI m i
        rw [put_false, clrI, if_pos hi]
      · show _ = setI m i
        rw [put_true m i.toNat h (by omega), setI, if_pos hi]
    have hz := info_row
    obtain ⟨h0, h1⟩ := hi
    obtain ⟨k, rfl⟩ : ∃ k : Nat, i = (k : Int) := ⟨i.toNat, by omega⟩
    have hk : k < 64 := by omega
    simp only [Int.toNat_natCast] at HS
    have RR := ref_row m
    have HL : (brow m).length = 64 := brow_len m
    generalize brow m = R at *
    have HL' := Lib.hid HL
    have HS' : Hid ((R.set k b).length = 64) := Lib.hid (by rw [List.length_set]; exact HL)
    have hkR : k < R.length := by omega
    have HR := Lib.hid RR
    clear RR HL
    have HM := Lib.hid h
    clear h
    go_enter Try.func10, Try.ntmps10
    go_wp2_with (first
      | ((with_reducible go_at_call 8); refine (HR.out _ HM.out).mono ?_; rintro e w1 ⟨rfl, b1⟩)
      | ((with_reducible go_at_call 22); refine (ref_word (R.set k b) _ HS'.out).mono ?_; rintro e w5 ⟨rfl, b5⟩)
      | (refine wpl_alloc_agg _ rfl 25 rfl (bools (List.replicate 64 false)) hz ?_; intro w2 o2 b2 s2; clear s2)
      | (refine wpl_store_own _ rfl 25 _ _ rfl 64 size_row _ rfl (bools R) rfl _ _ o2 (by rw [bools_len, HL'.out]) (by rw [bools_len]; simp) (bools_one _) ?_; intro w3 o3 g3 s3; have hc : w3.cell? ⟨w1.heap.size, k, none⟩ = some (.bool (R[k]'hkR)) := (by rw [o3.cell, bools_get _ _ hkR]); have hf := o3.frozen k; have o4 := o3.set k (.bool b); rw [bools_set] at o4)
      | (refine wpl_load_own _ rfl 25 _ rfl agg_row 64 size_row _ rfl _ _ o4 (by rw [bools_len, HS'.out]) ?_))
    have q1 : Below w.heap.size w w2 := Ext.trans b1 b2
    have q2 := below_of_grown q1 g3 b1.size q1.size
    have q3 := q2.setCell (p := ⟨w1.heap.size, k, none⟩) b1.size (.bool b)
    have q4 := Ext.trans q3 b5
    clear q1 q2 q3
    go_ret
    exact ⟨by rw [← HS.out]; rfl, q4⟩
  · have HS : Hid (putI b m i = m) := by
      cases b
      · exact if_neg hi
      · exact if_neg hi
    by_cases h0 : i < 0
    · clear hi
      go_enter Try.func10, Try.ntmps10
      go_wp2
      go_ret
      exact ⟨by rw [HS.out]; rfl, Below.refl _ _⟩
    · have h1 : 63 < i := by omega
      clear hi
      go_enter Try.func10, Try.ntmps10
      go_wp2
      go_ret
      exact ⟨by rw [HS.out]; rfl, Below.refl _ _⟩

theorem bdown_succ (m k : Nat) : bdown m (k + 1) = if m.testBit k = true then (k : Int) :: bdown m k else bdown m k := rfl
theorem bdown_le (m k : Nat) : (bdown m k).length ≤ k := by
  induction k with
  | zero => simp [bdown]
  | succ k ih => rw [bdown_succ]; split <;> (first | (rw [List.length_cons]; omega) | omega)
theorem bdown_range (m k : Nat) : ∀ z ∈ bdown m k, 0 ≤ z ∧ z < (k : Int) := by
  induction k with
  | zero => simp [bdown]
  | succ k ih =>
    intro z hz
    rw [bdown] at hz
    split at hz
    · rcases List.mem_cons.1 hz with rfl | hz
      · omega
      · have := ih z hz; omega
    · have := ih z hz; omega
theorem ints_app' (xs ys : List Int) : ints xs ++ ints ys = ints (xs ++ ys) := by simp [ints]

set_option maxRecDepth 100000 in
set_option maxHeartbeats 1000000 in
theorem ref_all (m : Nat) (w : World) (h : m < W64) :
    Calls Try.prog 7 #[.int .u64 m] w fun e w' => ∃ A c, e = .returned (.slice A (bdown m 64).length c) ∧ Row w' w.heap.size 3 1 A (bdown m 64).length c (ints (bdown m 64)) ∧ Below w.heap.size w w' := by
  obtain ⟨i0, hi, hz0, hz1, hz2⟩ := info_parts info_int
  have hz := info_row
  have HM := Lib.hid h
  have RR := ref_row m
  have HL : (brow m).length = 64 := brow_len m
  have hat : ∀ k (hk : k < (brow m).length), (brow m)[k] = m.testBit k := fun k hk => by simp [brow]
  generalize brow m = R at *
  have HL' := Lib.hid HL
  have HA := Lib.hid hat
  have HR := Lib.hid RR
  have HI := Lib.hid hi
  have HL64 := Lib.hid (bdown_le m 64)
  clear h hat RR HL hi
  go_enter Try.func7, Try.ntmps7
  go_wp2_with (first
      | ((with_reducible go_at_call 8); refine (HR.out _ HM.out).mono ?_; rintro e w1 ⟨rfl, b1⟩)
      | (refine wpl_alloc_agg _ rfl 25 rfl (bools (List.replicate 64 false)) hz ?_; intro w2 o2 b2 s2; clear s2)
      | (refine wpl_store_own _ rfl 25 _ _ rfl 64 size_row _ rfl (bools R) rfl _ _ o2 (by rw [bools_len, HL'.out]) (by rw [bools_len]; simp) (bools_one _) ?_; intro w3 o3 g3 s3; clear s3))
  have q1 : Below w.heap.size w w2 := Ext.trans b1 b2
  have q2 := below_of_grown q1 g3 b1.size q1.size
  have q0 := b1.size
  clear q1 g3 b2 b1 o2 hz
  have hB := o3.lt
  generalize w1.heap.size = B at *
  go_loopw [4, 5] (fun x i wr => ∃ (k : Nat) (ys : List Int) (A : Option Addr) (c n : Nat), k ≤ 64 ∧ i = .int .i64 ((k : Int) - 1) ∧ x = .slice A n c ∧ Hid (bdown m 64 = ys ++ bdown m k) ∧ Hid (ys.length = n) ∧ Row wr (w3.heap.size) 3 1 A n c (ints ys) ∧ Own wr B 25 (bools R) ∧ Below w3.heap.size w3 wr) (fun _ i _ => (intOf i + 1).toNat)
  case atStart => exact ⟨64, [], none, 0, 0, by omega, rfl, rfl, Lib.hid rfl, Lib.hid rfl, Row.nil _ _ _ _, o3, Below.refl _ _⟩
  case round =>
    obtain ⟨k, ys, A, c, n, hk, rfl, rfl, HY, HN, q4, q5, q6⟩ := hrel
    rcases k with _ | k
    · have e : bdown m 64 = ys := by rw [HY.out]; simp [bdown]
      clear o3
      have hbelow : Below w.heap.size w wr := Ext.trans q2 q6
      have hrow := q4.mono q2.size
      have HE := Lib.hid (show n = (bdown m 64).length by rw [e, HN.out])
      have HE2 := Lib.hid e
      clear e
      go_wp2
      go_ret
      refine ⟨A, c, by rw [← HE.out]; rfl, ?_, hbelow⟩
      rw [← HE.out, HE2.out]; exact hrow
    · have e : ((k + 1 : Nat) : Int) - 1 = (k : Int) := by omega
      rw [e]
      have hlt : k < R.length := by rw [HL'.out]; omega
      have hc : wr.cell? ⟨B, k, none⟩ = some (.bool R[k]) := by rw [q5.cell, bools_get _ _ hlt]
      have hk' : k < 64 := by omega
      have HK := Lib.hid (HA.out k hlt)
      have hlen : n ≤ 64 := by have := HL64.out; rw [HY.out] at this; simp at this; have := HN.out; omega
      clear e o3 q2
      cases hb : R[k]
      · rw [hb] at hc
        have HY' : Hid (bdown m 64 = ys ++ bdown m k) := by
          have h5 := HY.out
          rw [bdown_succ m k, ← HK.out, hb] at h5
          exact Lib.hid (by simpa using h5)
        clear hb HY
        go_wp2
        go_roundw
        case rel => exact ⟨k, ys, A, c, n, by omega, rfl, rfl, HY', HN, q4, q5, q6⟩
        case measure => simp [intOf]
      · rw [hb] at hc
        have HY' : Hid (bdown m 64 = (ys ++ [(k : Int)]) ++ bdown m k) := by
          have h5 := HY.out
          rw [bdown_succ m k, ← HK.out, hb] at h5
          exact Lib.hid (by simpa using h5)
        have HP := Lib.hid (ints_app' ys [(k : Int)])
        have hs6 := q6.size
        clear hb HY
        go_wp2_with (at_builtin; go_loud (have q7 := (q4.alloc (.cells #[.int .i64 k] 3)); refine wpl_append _ rfl (.tmp 15) (.tmp 17) 23 rfl 3 i0 _ 1 8 Try.underlying23 HI.out hz0 hz1 hz2 rfl (by omega) w3.heap.size A n c _ rfl q7 _ 1 1 (ints [(k : Int)]) rfl rfl (Own.new wr 3 (ints [(k : Int)])).rd0 (ints_one _) (n + 1) (ints (ys ++ [(k : Int)])) rfl HP.out (by omega) (by omega) (by simp; omega) ?_; intro A2 c2 w2 o2 g2 e2))
        have bC := Ext.trans q6 (Ext.alloc wr (.cells #[.int .i64 k] 3))
        have b2 := below_grown bC g2 bC.size (fun g' hg' => (q7.at_ g' hg').1)
        have oR : Own w2 B 25 (bools R) := q5.alloc (.cells #[.int .i64 k] 3) |>.grown g2 (fun h => by have := (q7.at_ B h.symm).1; omega)
        go_roundw
        case rel => exact ⟨k, ys ++ [(k : Int)], A2, c2, n + 1, by omega, rfl, rfl, HY', Lib.hid (by simp [HN.out]), o2, oR, b2⟩
        case measure => simp [intOf]

theorem btop_none : btop 0 = -1 := by unfold btop; rw [bitLen_zero]; rfl
theorem btop_some {m : Nat} (hm : m < W64) (h0 : m ≠ 0) : ∃ t : Nat, btop m = (t : Int) ∧ t = Lib.bitLen m - 1 := by
  have := Lib.bitLen_half m h0 hm
  exact ⟨Lib.bitLen m - 1, by unfold btop; omega, rfl⟩

set_option maxRecDepth 100000 in
set_option maxHeartbeats 1000000 in
theorem bits_all (m : Nat) (w : World) (h : m < W64) :
    Calls Try.prog 17 #[.int .u64 m] w fun e w' => ∃ A c, e = .returned (.slice A (bdown m 64).length c) ∧ Row w' w.heap.size 3 1 A (bdown m 64).length c (ints (bdown m 64)) ∧ Below w.heap.size w w' := by
  obtain ⟨i0, hi, hz0, hz1, hz2⟩ := info_parts info_int
  have HM := Lib.hid h
  have HI := Lib.hid hi
  have HL64 := Lib.hid (bdown_le m 64)
  clear h hi
  go_enter Try.func17, Try.ntmps17
  go_wp2_with ((with_reducible go_at_call 14); refine (bits_top m _ HM.out).mono ?_; rintro e w' ⟨rfl, rfl⟩)
  go_loopw [0, 3, 4] (fun y x i wr => ∃ (k : Nat) (ys : List Int) (A : Option Addr) (c n : Nat), y = .int .u64 k ∧ i = .int .i64 (btop k) ∧ x = .slice A n c ∧ Hid (k < W64) ∧ Hid (bdown m 64 = ys ++ bdown k 64) ∧ Hid (ys.length = n) ∧ Row wr w.heap.size 3 1 A n c (ints ys) ∧ Below w.heap.size w wr) (fun y _ _ _ => (bdown (intOf y).toNat 64).length)
  case atStart => exact ⟨m, [], none, 0, 0, rfl, rfl, rfl, HM, Lib.hid rfl, Lib.hid rfl, Row.nil _ _ _ _, Below.refl _ _⟩
  case round =>
    obtain ⟨k, ys, A, c, n, rfl, rfl, rfl, HK, HY, HN, q4, q6⟩ := hrel
    by_cases hk0 : k = 0
    · subst hk0
      rw [btop_none]
      have e : bdown m 64 = ys := by rw [HY.out, bdown_zero]; simp
      have HE := Lib.hid (show n = (bdown m 64).length by rw [e, HN.out])
      have HE2 := Lib.hid e
      clear e
      go_wp2
      go_ret
      refine ⟨A, c, by rw [← HE.out]; rfl, ?_, q6⟩
      rw [← HE.out, HE2.out]; exact q4
    · obtain ⟨t, ht, ht'⟩ := btop_some HK.out hk0
      have hd := bdown_top (m := k) HK.out hk0
      rw [← ht'] at hd
      have ht64 : t < 64 := by have := (top_bit (m := k) HK.out hk0).1; omega
      have hcl : clrI k (t : Int) = bclr k t := by unfold clrI; rw [if_pos (by omega)]; simp
      have HCL := Lib.hid (show clrI k (t : Int) < W64 by rw [hcl]; exact bclr_lt)
      have HY' : Hid (bdown m 64 = (ys ++ [(t : Int)]) ++ bdown (clrI k (t : Int)) 64) := Lib.hid (by rw [HY.out, hd, hcl]; simp)
      have HME := Lib.hid (show (bdown (clrI k (t : Int)) 64).length < (bdown k 64).length by rw [hd, hcl]; simp)
      rw [ht]
      have hlen : n ≤ 64 := by have := HL64.out; rw [HY.out] at this; simp at this; have := HN.out; omega
      have HP := Lib.hid (ints_app' ys [(t : Int)])
      have hs6 := q6.size
      clear hd hcl ht' hk0 ht HY
      go_wp2_with (first
        | (at_builtin; have q7 := (q4.alloc (.cells #[.int .i64 t] 3)); refine wpl_append _ rfl (.tmp 11) (.tmp 13) 23 rfl 3 i0 _ 1 8 Try.underlying23 HI.out hz0 hz1 hz2 rfl (by omega) w.heap.size A n c _ rfl q7 _ 1 1 (ints [(t : Int)]) rfl rfl (Own.new wr 3 (ints [(t : Int)])).rd0 (ints_one _) (n + 1) (ints (ys ++ [(t : Int)])) rfl HP.out (by omega) (by omega) (by simp; omega) ?_; intro A2 c2 w2 o2 g2 e2)
        | ((with_reducible go_at_call 11); refine (bits_clear k t _).mono ?_; rintro e w' ⟨rfl, rfl⟩)
        | ((with_reducible go_at_call 14); refine (bits_top (clrI k t) _ HCL.out).mono ?_; rintro e w' ⟨rfl, rfl⟩))
      have bC := Ext.trans q6 (Ext.alloc wr (.cells #[.int .i64 t] 3))
      have b2 := below_grown bC g2 bC.size (fun g' hg' => (q7.at_ g' hg').1)
      go_roundw
      case rel => exact ⟨clrI k t, ys ++ [(t : Int)], A2, c2, n + 1, rfl, rfl, rfl, HCL, HY', Lib.hid (by simp [HN.out]), o2, b2⟩
      case measure => simp only [intOf, Int.toNat_natCast]; exact HME.out

theorem Row.set1 {w : World} {base : Nat} {e : TypeId} {g n c : Nat} {xs : List Value} (h : Row w base e 1 (some ⟨g, 0, none⟩) n c xs) (k : Nat) (hk : k < n) (v : Value) :
    (∃ u, w.cell? ⟨g, k, none⟩ = some u) ∧ w.frozen? ⟨g, k, none⟩ = false ∧ Row (w.setCell ⟨g, k, none⟩ v) base e 1 (some ⟨g, 0, none⟩) n c (xs.set k v) := by
  have hlen := h.len
  rcases h.2 with ⟨h1, _⟩ | ⟨g', cap, cur, h1, hbg, hcur, hnc, hmax, hsz, htake⟩
  · cases h1
  · injection h1 with h1 h2 h3
    injection h1 with h1; injection h1 with h1
    subst h1; subst h3
    refine ⟨⟨cur[k]'(by omega), ?_⟩, frozen_of_row w g k cur e hcur, by simpa using hlen, .inr ⟨g, c, cur.setIfInBounds k v, rfl, hbg, ?_, hnc, hmax, by simpa using hsz, ?_⟩⟩
    · rw [cell_of_row w g k cur e (0, 0) hcur]; simp
    · simp [World.setCell, Array.getElem?_modify, hcur]
    · rw [← htake]; simp [List.take_set]

theorem Row.addr {w : World} {base : Nat} {e : TypeId} {n c size : Nat} {A : Option Addr} {xs : List Value} (h : Row w base e size A n c xs) (hn : 0 < n) : ∃ g, A = some ⟨g, 0, none⟩ := by
  rcases h.2 with ⟨_, h0⟩ | ⟨g', cap, cur, h1, _⟩
  · omega
  · injection h1 with h1; exact ⟨g', h1⟩

set_option maxRecDepth 100000 in
set_option maxHeartbeats 1000000 in
theorem over_ints (A : Option Addr) (n c B : Nat) (zs : List Int) (w : World) (hr : Row w B 3 1 A n c (ints zs)) (hB : B ≤ w.heap.size) (hn : n ≤ 65536) :
    Calls Try.prog 19 #[.slice A n c] w fun e w' => e = .returned (.tuple #[]) ∧ Below B w w' := by
  obtain ⟨i0, hi, hz0, hz1, hz2⟩ := info_parts info_int
  have HI := Lib.hid hi
  clear hi
  go_enter Try.func19, Try.ntmps19
  go_wp2
  go_loopw [2] (fun i wr => ∃ (k : Nat) (ys : List Int), k ≤ n ∧ i = .int .i64 k ∧ Row wr B 3 1 A n c (ints ys) ∧ Below B w wr) (fun i _ => n - (intOf i).toNat)
  case atStart => exact ⟨0, zs, by omega, rfl, hr, Below.refl _ _⟩
  case round =>
    obtain ⟨k, ys, hk, rfl, q1, q2⟩ := hrel
    clear hr
    by_cases hlt : k < n
    · obtain ⟨g, rfl⟩ := q1.addr (by omega)
      obtain ⟨⟨u, hc⟩, hf, q3⟩ := q1.set1 k hlt (.int .i64 (-999))
      have hg := (q1.at_ g rfl).1
      have q4 : Row (wr.setCell ⟨g, k, none⟩ (.int .i64 (-999))) B 3 1 (some ⟨g, 0, none⟩) n c (ints (ys.set k (-999))) := by
        have : (ints ys).set k (.int .i64 (-999)) = ints (ys.set k (-999)) := by simp [ints, List.map_set]
        rw [← this]; exact q3
      have q5 := q2.setCell (p := ⟨g, k, none⟩) hg (.int .i64 (-999))
      clear q3
      go_wp2
      go_roundw
      case rel => exact ⟨k + 1, _, by omega, by go_num, q4, q5⟩
      case measure => simp [intOf]; omega
    · have hs := q2.size
      go_wp2_with (at_builtin; have q7 := (q1.alloc (.cells #[.int .i64 (-999)] 3)); refine wpl_append _ rfl (.tmp 12) (.tmp 13) 23 rfl 3 i0 _ 1 8 Try.underlying23 HI.out hz0 hz1 hz2 rfl (by omega) B A n c _ rfl q7 _ 1 1 (ints [-999]) rfl rfl (Own.new wr 3 (ints [-999])).rd0 (ints_one _) (n + 1) _ rfl rfl (by omega) (by omega) (by simp; omega) ?_; intro A2 c2 w2 o2 g2 e2)
      have bC := Below.trans q2 (Below.mono (Ext.alloc wr (.cells #[.int .i64 (-999)] 3)) (Nat.le_trans hB hs))
      have b2 := below_grown bC g2 (by simp; omega) (fun g' hg' => (q7.at_ g' hg').1)
      exact bodyPost_end (results_none rfl _ _ _) rfl ⟨rfl, b2⟩

set_option maxRecDepth 100000 in
set_option maxHeartbeats 1000000 in
theorem bits_awake (w : World) :
    Calls Try.prog 15 #[] w fun e w' => e = .returned (.bool true) ∧ w = w' := by
  have h1 : setI 0 5 = 32 := by decide +kernel
  have h2 : clrI 33 5 = 1 := by decide +kernel
  have h3 : hasI 32 5 = true := by decide +kernel
  have h4 : btop 40 = 5 := by decide +kernel
  have h5 : btop 0 = -1 := by decide +kernel
  have h6 : (bdown 7 64).length = 3 := by decide +kernel
  have c1 := fun w => bits_set 0 5 w (by decide)
  have c2 := fun w => bits_clear 33 5 w
  have c3 := fun w => bits_has 32 5 w (by decide)
  have c4 := fun w => bits_top 40 w (by decide)
  have c5 := fun w => bits_top 0 w (by decide)
  have c6 := fun w => bits_count 7 w (by decide)
  rw [h1] at c1
  rw [h2] at c2
  rw [h3] at c3
  rw [h4] at c4
  rw [h5] at c5
  rw [h6] at c6
  have C1 := Lib.hid c1
  have C2 := Lib.hid c2
  have C3 := Lib.hid c3
  have C4 := Lib.hid c4
  have C5 := Lib.hid c5
  have C6 := Lib.hid c6
  clear h1 h2 h3 h4 h5 h6 c1 c2 c3 c4 c5 c6
  go_enter Try.func15, Try.ntmps15
  go_wp2_with (first
    | ((with_reducible go_at_call 9); refine (C1.out _).mono ?_; rintro e w' ⟨rfl, rfl⟩)
    | ((with_reducible go_at_call 11); refine (C2.out _).mono ?_; rintro e w' ⟨rfl, rfl⟩)
    | ((with_reducible go_at_call 12); refine (C3.out _).mono ?_; rintro e w' ⟨rfl, rfl⟩)
    | ((with_reducible go_at_call 14); refine (C4.out _).mono ?_; rintro e w' ⟨rfl, rfl⟩)
    | ((with_reducible go_at_call 14); refine (C5.out _).mono ?_; rintro e w' ⟨rfl, rfl⟩)
    | ((with_reducible go_at_call 13); refine (C6.out _).mono ?_; rintro e w' ⟨rfl, rfl⟩))
  go_ret
  exact ⟨rfl, rfl⟩

end Go.Proofs.Ytaemgmlcfkpaeaa
