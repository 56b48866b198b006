/-
  WALKS of the statements on bits, chapter 2: BitsTells, BitsAll, BitsBack, BitsWhole.
-/
import Derived.Test.YtaemgmlcfkpaeaaBitY
namespace Go.Proofs.Ytaemgmlcfkpaeaa
open Go.RowKit

theorem and63 (x : Nat) (hx : x < 64) : bits .and .i64 (x : Int) 63 = (x : Int) := by
  show IntKind.i64.wrap (((BitVec.ofInt 64 (x : Int) &&& BitVec.ofInt 64 ((63 : Nat) : Int)).toNat : Nat) : Int) = _
  rw [ofInt_nat, ofInt_nat, BitVec.toNat_and, BitVec.toNat_ofNat, BitVec.toNat_ofNat, Nat.mod_eq_of_lt (by omega), Nat.mod_eq_of_lt (by omega), show (63 : Nat) = 2 ^ 6 - 1 from rfl, Nat.and_two_pow_sub_one_eq_mod]
  rw [show x % 2 ^ 6 = x by omega]
  exact IntWalk.i64_in _ ⟨by omega, by omega⟩

theorem und_row : (Try.prog.underlying 25) = some (.array 64 4) := by kernel_rfl
theorem und_b : (Try.prog.underlying 4) = some .bool := by kernel_rfl
theorem size_b : (Try.prog.info? 4).map (·.size) = some 1 := by kernel_rfl
theorem index_row (R : List Bool) (k : Nat) (hl : R.length = 64) (hk : k < 64) (w : World) :
    (Instr.index 25 (.agg (bools R).toArray) (.int .i64 (k : Int))).run Try.prog w = .ok (.bool (R[k]'(by omega))) w := by
  have hs := size_b
  cases hq : Try.prog.info? 4 with
  | none => simp [hq] at hs
  | some i =>
    simp [hq] at hs
    have hg := bools_get R k (by omega)
    simp [Instr.index, asIntOf, run_underlying und_row, run_underlying und_b, sizeOf, typeInfo, hq, hs, part, isAgg, hk, hg, go_sem]

set_option maxRecDepth 100000 in
set_option maxHeartbeats 1000000 in
theorem law_bitsall (m : Nat) (w : World) (h : m < 18446744073709551616) :
    Calls Try.prog 5 #[.int .u64 (m : Int)] w fun e w' => e = .returned (.bool true) ∧ Below w.heap.size w w' := by
  have hlen := bdown_le m 64
  have hs : ∀ A B c d w, Rd w A (ints (bdown m 64)) → Rd w B (ints (bdown m 64)) → Calls Try.prog 18 #[.slice A (bdown m 64).length c, .slice B (bdown m 64).length d] w fun e w' => e = .returned (.bool true) ∧ Below w.heap.size w w' := fun A B c d w h1 h2 =>
    (same_ints A B _ _ c d _ _ w (by omega) (by omega) h1 h2 rfl rfl).mono fun e w' ⟨h3, q, h4⟩ => ⟨by simpa using h3, by rw [h4]; exact Ext.drewN _ _⟩
  have ha := fun w => bits_all m w h
  have hr := fun w => ref_all m w h
  generalize bdown m 64 = L at *
  have HS := Lib.hid hs
  have HA := Lib.hid ha
  have HR := Lib.hid hr
  clear hs ha hr h
  go_enter Try.func5, Try.ntmps5
  go_wp2_with fail
  refine (HA.out _).mono ?_
  rintro e w1 ⟨A1, c1, rfl, r1, b1⟩
  go_wp2_with fail
  refine (HR.out _).mono ?_
  rintro e w2 ⟨A2, c2, rfl, r2, b2⟩
  go_wp2_with fail
  refine (HS.out _ _ _ _ _ (r1.keep b2).rd r2.rd).mono ?_
  rintro e w3 ⟨rfl, b3⟩
  have r3 := (r1.keep b2).keep b3
  have k3 : Ext w w3 := Ext.trans (Ext.trans b1 b2) b3
  clear r1 r2 b1 b2 b3
  go_wp2_with fail
  refine (over_ints _ _ _ _ _ _ r3 k3.size (by omega)).mono ?_
  rintro e w4 ⟨rfl, b4⟩
  have k4 : Ext w w4 := Below.trans k3 b4
  clear r3 k3 b4
  go_wp2_with fail
  refine (HA.out _).mono ?_
  rintro e w5 ⟨A5, c5, rfl, r5, b5⟩
  go_wp2_with fail
  refine (HR.out _).mono ?_
  rintro e w6 ⟨A6, c6, rfl, r6, b6⟩
  go_wp2_with fail
  refine (HS.out _ _ _ _ _ (r5.keep b6).rd r6.rd).mono ?_
  rintro e w7 ⟨rfl, b7⟩
  have k7 : Ext w w7 := Ext.trans (Ext.trans (Ext.trans k4 b5) b6) b7
  clear r5 r6 b5 b6 b7 k4
  go_wp2_with fail
  refine (bits_awake _).mono ?_
  rintro e w8 ⟨rfl, rfl⟩
  go_wp2
  go_ret
  exact ⟨rfl, k7⟩

theorem pop_diff (a b i : Nat) (ha : a.testBit i = true) (hb : b.testBit i = false) : ∀ k, (∀ j, j < k → j ≠ i → a.testBit j = b.testBit j) →
    (bdown a k).length = (bdown b k).length + (if i < k then 1 else 0)
  | 0, _ => rfl
  | k + 1, h => by
    have ih := pop_diff a b i ha hb k fun j hj => h j (by omega)
    rw [bdown_succ, bdown_succ]
    by_cases hk : k = i
    · subst hk
      rw [if_neg (by omega)] at ih
      rw [ha, hb, if_pos rfl, if_neg (by simp), if_pos (by omega), List.length_cons, ih]
    · rw [h k (by omega) hk]
      cases b.testBit k
      · rw [if_neg (by simp), if_neg (by simp), ih]
        congr 1
        by_cases h1 : i < k
        · rw [if_pos h1, if_pos (by omega)]
        · rw [if_neg h1, if_neg (by omega)]
      · rw [if_pos rfl, if_pos rfl, List.length_cons, List.length_cons, ih]
        by_cases h1 : i < k
        · rw [if_pos h1, if_pos (by omega)]
        · rw [if_neg h1, if_neg (by omega)]

structure BackFacts (m i k s c : Nat) : Prop where
  s0 : s < W64
  c0 : c < W64
  h1 : hasI s i = true
  h2 : hasI c i = false
  h3 : k ≠ i → hasI s k = hasI m k
  h4 : k ≠ i → hasI c k = hasI m k
  h5 : (bdown s 64).length = (bdown c 64).length + 1
  h6 : setI c i = s
  h7 : clrI s i = c
  h8 : (i : Int) ≤ btop s

theorem hasI_nat (m i : Nat) (hi : i < 64) : hasI m (i : Int) = m.testBit i := by
  unfold hasI
  simp; omega
theorem setI_nat (m i : Nat) (hi : i < 64) : setI m (i : Int) = bset m i := by
  unfold setI
  rw [if_pos (by omega)]; simp
theorem clrI_nat (m i : Nat) (hi : i < 64) : clrI m (i : Int) = bclr m i := by
  unfold clrI
  rw [if_pos (by omega)]; simp

theorem back_law (m i k : Nat) (hm : m < W64) (hi : i < 64) (hk : k < 64) : BackFacts m i k (setI m i) (clrI m i) := by
  rw [setI_nat m i hi, clrI_nat m i hi]
  have hs : bset m i < W64 := bset_lt hm hi
  refine ⟨hs, bclr_lt, ?_, ?_, ?_, ?_, ?_, ?_, ?_, ?_⟩
  · rw [hasI_nat _ _ hi, bset_bit]; simp
  · rw [hasI_nat _ _ hi, bclr_bit hi]; simp
  · intro h; rw [hasI_nat _ _ hk, hasI_nat _ _ hk, bset_bit]; simp; omega
  · intro h; rw [hasI_nat _ _ hk, hasI_nat _ _ hk, bclr_bit hk]
    have : ¬ i = k := fun e => h e.symm
    simp [this]
  · have := pop_diff (bset m i) (bclr m i) i (by rw [bset_bit]; simp) (by rw [bclr_bit hi]; simp) 64 fun j hj hne => by
      rw [bset_bit, bclr_bit hj]
      have : ¬ i = j := fun e => hne e.symm
      simp [this]
    rw [if_pos hi] at this; exact this
  · rw [setI_nat _ _ hi]
    refine word_ext (bset_lt bclr_lt hi) hs fun j hj => ?_
    rw [bset_bit, bset_bit, bclr_bit hj]
    by_cases h : i = j <;> simp [h]
  · rw [clrI_nat _ _ hi]
    refine word_ext bclr_lt bclr_lt fun j hj => ?_
    rw [bclr_bit hj, bclr_bit hj, bset_bit]
    by_cases h : i = j <;> simp [h]
  · have hb : (bset m i).testBit i = true := by rw [bset_bit]; simp
    have h0 : bset m i ≠ 0 := by intro h; rw [h] at hb; simp at hb
    obtain ⟨t, ht, ht'⟩ := btop_some hs h0
    obtain ⟨_, _, h3⟩ := top_bit (m := bset m i) hs h0
    rw [← ht'] at h3
    rw [ht]
    rcases Nat.lt_or_ge t i with h | h
    · rw [h3 i h] at hb; cases hb
    · omega

set_option maxRecDepth 100000 in
set_option maxHeartbeats 2000000 in
theorem law_bitsback (m : Nat) (i k : Int) (w : World) (h : m < 18446744073709551616) (_ : I64 i) (_ : I64 k) :
    Calls Try.prog 4 #[.int .u64 (m : Int), .int .i64 i, .int .i64 k] w fun e w' => e = .returned (.bool true) ∧ Below w.heap.size w w' := by
  have l1 := low_lo i 64 (by omega)
  have l2 := low_hi i 64 (by omega)
  have l3 := low_lo k 64 (by omega)
  have l4 := low_hi k 64 (by omega)
  obtain ⟨a, ha⟩ : ∃ a : Nat, low i 64 = (a : Int) := ⟨(low i 64).toNat, by omega⟩
  obtain ⟨b, hb⟩ : ∃ b : Nat, low k 64 = (b : Int) := ⟨(low k 64).toNat, by omega⟩
  have c1 := fun w => low_any i 64 w (by omega) (by omega)
  have c2 := fun w => low_any k 64 w (by omega) (by omega)
  rw [ha] at c1 l1 l2
  rw [hb] at c2 l3 l4
  clear ha hb
  have F := back_law m a b h (by omega) (by omega)
  have q1 := fun w => bits_set m a w h
  have q2 := fun w => bits_clear m a w
  generalize setI m a = s at *
  generalize clrI m a = c at *
  obtain ⟨s0, c0, h1, h2, h3, h4, h5, h6, h7, h8⟩ := F
  have t1 := fun w => bits_has s a w s0
  have t2 := fun w => bits_has c a w c0
  have t3 := fun w => bits_has s b w s0
  have t4 := fun w => bits_has c b w c0
  have t5 := fun w => bits_has m b w h
  have t6 := fun w => bits_count s w s0
  have t7 := fun w => bits_count c w c0
  have t8 := fun w => bits_set c a w c0
  have t9 := fun w => bits_clear s a w
  have t10 := fun w => bits_top s w s0
  have u7 := bdown_le c 64
  rw [h1] at t1
  rw [h2] at t2
  rw [h5] at t6
  rw [h6] at t8
  rw [h7] at t9
  generalize btop s = ts at *
  generalize (bdown c 64).length = lc at *
  have C1 := Lib.hid c1
  have C2 := Lib.hid c2
  have Q1 := Lib.hid q1
  have Q2 := Lib.hid q2
  have T1 := Lib.hid t1
  have T2 := Lib.hid t2
  have T6 := Lib.hid t6
  have T7 := Lib.hid t7
  have T8 := Lib.hid t8
  have T9 := Lib.hid t9
  have T10 := Lib.hid t10
  by_cases hba : b = a
  · subst hba
    clear h1 h2 h3 h4 h5 h6 h7 c1 c2 q1 q2 t1 t2 t3 t4 t5 t6 t7 t8 t9 t10 s0 c0 l1 l2 l3 l4 h
    go_enter Try.func4, Try.ntmps4
    go_wp2_with (first
      | ((with_reducible go_at_call 16); (with_reducible refine (C1.out _).mono ?_); rintro e w' ⟨rfl, rfl⟩)
      | ((with_reducible go_at_call 16); (with_reducible refine (C2.out _).mono ?_); rintro e w' ⟨rfl, rfl⟩)
      | ((with_reducible go_at_call 9); (with_reducible refine (Q1.out _).mono ?_); rintro e w' ⟨rfl, rfl⟩)
      | ((with_reducible go_at_call 9); (with_reducible refine (T8.out _).mono ?_); rintro e w' ⟨rfl, rfl⟩)
      | ((with_reducible go_at_call 11); (with_reducible refine (Q2.out _).mono ?_); rintro e w' ⟨rfl, rfl⟩)
      | ((with_reducible go_at_call 11); (with_reducible refine (T9.out _).mono ?_); rintro e w' ⟨rfl, rfl⟩)
      | ((with_reducible go_at_call 12); (with_reducible refine (T1.out _).mono ?_); rintro e w' ⟨rfl, rfl⟩)
      | ((with_reducible go_at_call 12); (with_reducible refine (T2.out _).mono ?_); rintro e w' ⟨rfl, rfl⟩)
      | ((with_reducible go_at_call 13); (with_reducible refine (T6.out _).mono ?_); rintro e w' ⟨rfl, rfl⟩)
      | ((with_reducible go_at_call 13); (with_reducible refine (T7.out _).mono ?_); rintro e w' ⟨rfl, rfl⟩)
      | ((with_reducible go_at_call 14); (with_reducible refine (T10.out _).mono ?_); rintro e w' ⟨rfl, rfl⟩)
      | ((with_reducible go_at_call 15); (with_reducible refine (bits_awake _).mono ?_); rintro e w' ⟨rfl, rfl⟩))
    go_ret
    exact ⟨rfl, Below.refl _ _⟩
  · have h3' := h3 hba
    have h4' := h4 hba
    rw [h3'] at t3
    rw [h4'] at t4
    have T3 := Lib.hid t3
    have T4 := Lib.hid t4
    have T5 := Lib.hid t5
    generalize hasI m (b : Int) = hm at *
    have hne : (((b : Int) != (a : Int)) = true) := by simp; omega
    clear h1 h2 h3 h4 h3' h4' h5 h6 h7 c1 c2 q1 q2 t1 t2 t3 t4 t5 t6 t7 t8 t9 t10 s0 c0 l1 l2 l3 l4 h hba
    go_enter Try.func4, Try.ntmps4
    go_wp2_with (first
      | ((with_reducible go_at_call 16); (with_reducible refine (C1.out _).mono ?_); rintro e w' ⟨rfl, rfl⟩)
      | ((with_reducible go_at_call 16); (with_reducible refine (C2.out _).mono ?_); rintro e w' ⟨rfl, rfl⟩)
      | ((with_reducible go_at_call 9); (with_reducible refine (Q1.out _).mono ?_); rintro e w' ⟨rfl, rfl⟩)
      | ((with_reducible go_at_call 9); (with_reducible refine (T8.out _).mono ?_); rintro e w' ⟨rfl, rfl⟩)
      | ((with_reducible go_at_call 11); (with_reducible refine (Q2.out _).mono ?_); rintro e w' ⟨rfl, rfl⟩)
      | ((with_reducible go_at_call 11); (with_reducible refine (T9.out _).mono ?_); rintro e w' ⟨rfl, rfl⟩)
      | ((with_reducible go_at_call 12); (with_reducible refine (T1.out _).mono ?_); rintro e w' ⟨rfl, rfl⟩)
      | ((with_reducible go_at_call 12); (with_reducible refine (T2.out _).mono ?_); rintro e w' ⟨rfl, rfl⟩)
      | ((with_reducible go_at_call 12); (with_reducible refine (T3.out _).mono ?_); rintro e w' ⟨rfl, rfl⟩)
      | ((with_reducible go_at_call 12); (with_reducible refine (T4.out _).mono ?_); rintro e w' ⟨rfl, rfl⟩)
      | ((with_reducible go_at_call 12); (with_reducible refine (T5.out _).mono ?_); rintro e w' ⟨rfl, rfl⟩)
      | ((with_reducible go_at_call 13); (with_reducible refine (T6.out _).mono ?_); rintro e w' ⟨rfl, rfl⟩)
      | ((with_reducible go_at_call 13); (with_reducible refine (T7.out _).mono ?_); rintro e w' ⟨rfl, rfl⟩)
      | ((with_reducible go_at_call 14); (with_reducible refine (T10.out _).mono ?_); rintro e w' ⟨rfl, rfl⟩)
      | ((with_reducible go_at_call 15); (with_reducible refine (bits_awake _).mono ?_); rintro e w' ⟨rfl, rfl⟩))
    go_ret
    exact ⟨rfl, Below.refl _ _⟩

end Go.Proofs.Ytaemgmlcfkpaeaa
