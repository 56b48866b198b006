/-
  WALKS of the statements on bits, chapter 2: BitsTells, BitsWhole.
-/
import Derived.Test.YtaemgmlcfkpaeaaBitZ
import Derived.Test.YtaemgmlcfkpaeaaDep
namespace Go.Proofs.Ytaemgmlcfkpaeaa
open Go.RowKit
attribute [local go_sem] depUpon Sp.ok

theorem bdown_head {m : Nat} (hm : m < W64) : (bdown m 64 = [] ∧ btop m = -1) ∨ ∃ (t : Int) (L : List Int), bdown m 64 = t :: L ∧ btop m = t := by
  by_cases h : m = 0
  · subst h; exact .inl ⟨bdown_zero 64, btop_none⟩
  · obtain ⟨t, h1, h2⟩ := btop_some hm h
    right
    exact ⟨t, bdown (bclr m t) 64, by rw [h2]; exact bdown_top hm h, h1⟩

set_option maxRecDepth 100000 in
set_option maxHeartbeats 4000000 in
theorem law_bitstells (m : Nat) (i : Int) (w : World) (h : m < 18446744073709551616) (_ : I64 i) :
    Calls Try.prog 3 #[.int .u64 (m : Int), .int .i64 i] w fun e w' => e = .returned (.bool true) ∧ Below w.heap.size w w' := by
  have hlen := bdown_le m 64
  have hR := ref_row m
  have hRl : (brow m).length = 64 := brow_len m
  have hat : ∀ (k : Nat) (hk : k < (brow m).length), (brow m)[k] = hasI m (k : Int) := fun k hk => by rw [hasI_nat _ _ (by rw [brow_len] at hk; exact hk)]; simp [brow]
  generalize brow m = R at *
  have t1 := fun w => bits_set m i w h
  have t2 := fun w => ref_put m i true w h
  have t3 := fun w => bits_clear m i w
  have t4 := fun w => ref_put m i false w h
  have t5 := fun w => bits_has m i w h
  have t6 := fun w => bits_count m w h
  have t7 := fun w => bits_top m w h
  have t8 := fun w => ref_all m w h
  have e1 : putI true m i = setI m i := rfl
  have e2 : putI false m i = clrI m i := rfl
  rw [e1] at t2
  rw [e2] at t4
  clear e1 e2
  have hd : ((bdown m 64).length = 0 ∧ btop m = -1) ∨ (0 < (bdown m 64).length ∧ (ints (bdown m 64))[0]? = some (.int .i64 (btop m))) := by
    rcases bdown_head h with ⟨h1, h2⟩ | ⟨t, L, h1, h2⟩
    · exact .inl ⟨by rw [h1]; rfl, h2⟩
    · exact .inr ⟨by rw [h1]; simp, by rw [h1, h2]; rfl⟩
  generalize setI m i = s at *
  generalize clrI m i = c at *
  generalize bdown m 64 = L at *
  generalize btop m = tp at *
  have hL := Lib.hid (rfl : L.length = L.length)
  generalize L.length = n at t6 t8 hd hlen hL
  have T1 := Lib.hid t1
  have T2 := Lib.hid t2
  have T3 := Lib.hid t3
  have T4 := Lib.hid t4
  have T5 := Lib.hid t5
  have T6 := Lib.hid t6
  have T7 := Lib.hid t7
  have T8 := Lib.hid t8
  have HR := Lib.hid hR
  have HM := Lib.hid h
  clear t1 t2 t3 t4 t5 t6 t7 t8 hR h
  have split3 : ((i < 0 ∨ 63 < i) ∧ hasI m i = false) ∨ ∃ k : Nat, k < 64 ∧ i = (k : Int) := by
    by_cases h0 : i < 0
    · exact .inl ⟨.inl h0, by unfold hasI; simp; omega⟩
    · by_cases h1 : 63 < i
      · exact .inl ⟨.inr h1, by unfold hasI; simp; omega⟩
      · exact .inr ⟨i.toNat, by omega, by omega⟩
  rcases split3 with ⟨hi, hb⟩ | ⟨k, hk, rfl⟩
  · rw [hb] at T5
    clear hat hb
    rcases hi with hi | hi
    all_goals
      rcases hd with ⟨rfl, rfl⟩ | ⟨hn, hz⟩
      · go_enter Try.func3, Try.ntmps3
        go_wp2_with (first
          | ((with_reducible go_at_call 7); refine (T8.out _).mono ?_; rintro e w1 ⟨A1, c1, rfl, r1, b1⟩)
          | ((with_reducible go_at_call 9); (with_reducible refine (T1.out _).mono ?_); rintro e w' ⟨rfl, rfl⟩)
          | ((with_reducible go_at_call 10); (with_reducible refine (T2.out _).mono ?_); rintro e w3 ⟨rfl, b3⟩; replace b1 := Ext.trans b1 b3; clear b3)
          | ((with_reducible go_at_call 11); (with_reducible refine (T3.out _).mono ?_); rintro e w' ⟨rfl, rfl⟩)
          | ((with_reducible go_at_call 10); (with_reducible refine (T4.out _).mono ?_); rintro e w3 ⟨rfl, b3⟩; replace b1 := Ext.trans b1 b3; clear b3)
          | ((with_reducible go_at_call 12); (with_reducible refine (T5.out _).mono ?_); rintro e w' ⟨rfl, rfl⟩)
          | ((with_reducible go_at_call 13); (with_reducible refine (T6.out _).mono ?_); rintro e w' ⟨rfl, rfl⟩)
          | ((with_reducible go_at_call 14); (with_reducible refine (T7.out _).mono ?_); rintro e w' ⟨rfl, rfl⟩)
          | ((with_reducible go_at_call 15); (with_reducible refine (bits_awake _).mono ?_); rintro e w' ⟨rfl, rfl⟩))
        go_ret
        exact ⟨rfl, b1⟩
      · go_enter Try.func3, Try.ntmps3
        go_wp2_with (first
          | ((with_reducible go_at_call 7); refine (T8.out _).mono ?_; rintro e w1 ⟨A1, c1, rfl, r1, b1⟩; obtain ⟨g1, off1, rfl, hc1⟩ := r1.rd _ _ hz; rw [Nat.add_zero] at hc1)
          | ((with_reducible go_at_call 9); (with_reducible refine (T1.out _).mono ?_); rintro e w' ⟨rfl, rfl⟩)
          | ((with_reducible go_at_call 10); (with_reducible refine (T2.out _).mono ?_); rintro e w3 ⟨rfl, b3⟩; replace b1 := Ext.trans b1 b3; clear b3)
          | ((with_reducible go_at_call 11); (with_reducible refine (T3.out _).mono ?_); rintro e w' ⟨rfl, rfl⟩)
          | ((with_reducible go_at_call 10); (with_reducible refine (T4.out _).mono ?_); rintro e w3 ⟨rfl, b3⟩; replace b1 := Ext.trans b1 b3; clear b3)
          | ((with_reducible go_at_call 12); (with_reducible refine (T5.out _).mono ?_); rintro e w' ⟨rfl, rfl⟩)
          | ((with_reducible go_at_call 13); (with_reducible refine (T6.out _).mono ?_); rintro e w' ⟨rfl, rfl⟩)
          | ((with_reducible go_at_call 14); (with_reducible refine (T7.out _).mono ?_); rintro e w' ⟨rfl, rfl⟩)
          | ((with_reducible go_at_call 15); (with_reducible refine (bits_awake _).mono ?_); rintro e w' ⟨rfl, rfl⟩))
        go_ret
        exact ⟨rfl, b1⟩
  · have hx := and63 k hk
    have hidx : ∀ w, (Instr.index 25 (.agg (bools R).toArray) (.int .i64 (k : Int))).run Try.prog w = .ok (.bool (hasI m (k : Int))) w := fun w => by rw [index_row R k hRl hk w, hat k (by omega)]
    generalize hasI m (k : Int) = hb at *
    have hkk : (k : Int) < 64 := by omega
    clear hat
    rcases hd with ⟨rfl, rfl⟩ | ⟨hn, hz⟩
    · go_enter Try.func3, Try.ntmps3
      go_wp2_with (first
        | ((with_reducible go_at_call 7); refine (T8.out _).mono ?_; rintro e w1 ⟨A1, c1, rfl, r1, b1⟩)
        | ((with_reducible go_at_call 8); (with_reducible refine (HR.out _ HM.out).mono ?_); rintro e w3 ⟨rfl, b3⟩; replace b1 := Ext.trans b1 b3; clear b3)
        | ((with_reducible go_at_call 9); (with_reducible refine (T1.out _).mono ?_); rintro e w' ⟨rfl, rfl⟩)
        | ((with_reducible go_at_call 10); (with_reducible refine (T2.out _).mono ?_); rintro e w3 ⟨rfl, b3⟩; replace b1 := Ext.trans b1 b3; clear b3)
        | ((with_reducible go_at_call 11); (with_reducible refine (T3.out _).mono ?_); rintro e w' ⟨rfl, rfl⟩)
        | ((with_reducible go_at_call 10); (with_reducible refine (T4.out _).mono ?_); rintro e w3 ⟨rfl, b3⟩; replace b1 := Ext.trans b1 b3; clear b3)
        | ((with_reducible go_at_call 12); (with_reducible refine (T5.out _).mono ?_); rintro e w' ⟨rfl, rfl⟩)
        | ((with_reducible go_at_call 13); (with_reducible refine (T6.out _).mono ?_); rintro e w' ⟨rfl, rfl⟩)
        | ((with_reducible go_at_call 14); (with_reducible refine (T7.out _).mono ?_); rintro e w' ⟨rfl, rfl⟩)
        | ((with_reducible go_at_call 15); (with_reducible refine (bits_awake _).mono ?_); rintro e w' ⟨rfl, rfl⟩))
      go_ret
      exact ⟨rfl, b1⟩
    · go_enter Try.func3, Try.ntmps3
      go_wp2_with (first
        | ((with_reducible go_at_call 7); refine (T8.out _).mono ?_; rintro e w1 ⟨A1, c1, rfl, r1, b1⟩; obtain ⟨g1, off1, rfl, hc1⟩ := r1.rd _ _ hz; rw [Nat.add_zero] at hc1)
        | ((with_reducible go_at_call 8); (with_reducible refine (HR.out _ HM.out).mono ?_); rintro e w3 ⟨rfl, b3⟩; have hc2 := cell_keep b3 hc1; replace b1 := Ext.trans b1 b3; clear b3)
        | ((with_reducible go_at_call 9); (with_reducible refine (T1.out _).mono ?_); rintro e w' ⟨rfl, rfl⟩)
        | ((with_reducible go_at_call 10); (with_reducible refine (T2.out _).mono ?_); rintro e w3 ⟨rfl, b3⟩; replace b1 := Ext.trans b1 b3; clear b3)
        | ((with_reducible go_at_call 11); (with_reducible refine (T3.out _).mono ?_); rintro e w' ⟨rfl, rfl⟩)
        | ((with_reducible go_at_call 10); (with_reducible refine (T4.out _).mono ?_); rintro e w3 ⟨rfl, b3⟩; replace b1 := Ext.trans b1 b3; clear b3)
        | ((with_reducible go_at_call 12); (with_reducible refine (T5.out _).mono ?_); rintro e w' ⟨rfl, rfl⟩)
        | ((with_reducible go_at_call 13); (with_reducible refine (T6.out _).mono ?_); rintro e w' ⟨rfl, rfl⟩)
        | ((with_reducible go_at_call 14); (with_reducible refine (T7.out _).mono ?_); rintro e w' ⟨rfl, rfl⟩)
        | ((with_reducible go_at_call 15); (with_reducible refine (bits_awake _).mono ?_); rintro e w' ⟨rfl, rfl⟩))
      go_ret
      exact ⟨rfl, b1⟩

end Go.Proofs.Ytaemgmlcfkpaeaa
