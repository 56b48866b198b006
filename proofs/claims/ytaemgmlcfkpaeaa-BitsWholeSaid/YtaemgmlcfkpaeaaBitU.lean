/-
  WALK of the statement BitsWhole, chapter 2.
-/
import Derived.Test.YtaemgmlcfkpaeaaBitV
namespace Go.Proofs.Ytaemgmlcfkpaeaa
open Go.RowKit
attribute [local go_sem] depUpon Sp.ok

theorem bdown_fall (m : Nat) : ∀ k, (bdown m k).Pairwise (· > ·)
  | 0 => List.Pairwise.nil
  | k + 1 => by
    rw [bdown_succ]
    split
    · exact List.Pairwise.cons (fun z hz => (bdown_range m k z hz).2) (bdown_fall m k)
    · exact bdown_fall m k

/-- What a round of the law finds: x holds what was taken of m, y the rest. -/
structure Whole (m x y : Nat) (L : List Int) (k : Nat) : Prop where
  x0 : x < W64
  y0 : y < W64
  rest : bdown y 64 = L.drop k
  both : ∀ j, j < 64 → m.testBit j = (x.testBit j || y.testBit j)

theorem Whole.start (m : Nat) (hm : m < W64) : Whole m 0 m (bdown m 64) 0 := ⟨by decide, hm, rfl, fun j _ => by simp⟩
theorem Whole.next {m x y : Nat} {L : List Int} {k : Nat} (h : Whole m x y L k) (hk : k < L.length) :
    btop y = L[k] ∧ Whole m (setI x L[k]) (clrI y L[k]) L (k + 1) := by
  have hr := h.rest
  rw [List.drop_eq_getElem_cons hk] at hr
  have h0 : y ≠ 0 := by intro e; rw [e, bdown_zero] at hr; cases hr
  obtain ⟨t, h1, h2⟩ := btop_some h.y0 h0
  have h3 := bdown_top (m := y) h.y0 h0
  rw [← h2, hr] at h3
  injection h3 with h3 h4
  obtain ⟨t64, tb, _⟩ := top_bit (m := y) h.y0 h0
  rw [← h2] at t64 tb
  rw [h3, setI_nat _ _ t64, clrI_nat _ _ t64]
  refine ⟨h1, bset_lt h.x0 t64, bclr_lt, h4.symm, fun j hj => ?_⟩
  rw [h.both j hj, bset_bit, bclr_bit hj]
  by_cases e : t = j
  · subst e; simp [tb]
  · simp [e]
theorem Whole.end_ {m x y : Nat} {L : List Int} (hm : m < W64) (h : Whole m x y L L.length) : x = m ∧ y = 0 := by
  have hr := h.rest
  rw [List.drop_length] at hr
  have h0 : y = 0 := by
    refine Classical.byContradiction fun h0 => ?_
    have h3 := bdown_top (m := y) h.y0 h0
    rw [hr] at h3; cases h3
  subst h0
  exact ⟨word_ext h.x0 hm fun j hj => by rw [h.both j hj]; simp, rfl⟩

set_option maxRecDepth 100000 in
set_option maxHeartbeats 4000000 in
theorem law_bitswhole (m : Nat) (w : World) (h : m < 18446744073709551616) :
    Calls Try.prog 6 #[.int .u64 (m : Int)] w fun e w' => e = .returned (.bool true) ∧ Below w.heap.size w w' := by
  have hlen := bdown_le m 64
  have hfall := bdown_fall m 64
  have hst := Whole.start m h
  have hend : ∀ x y, Whole m x y (bdown m 64) (bdown m 64).length → x = m ∧ y = 0 := fun x y q => q.end_ h
  have t1 := fun w => bits_all m w h
  have t2 := fun w => bits_count m w h
  generalize bdown m 64 = L at *
  have T1 := Lib.hid t1
  have T2 := Lib.hid t2
  have HF := Lib.hid hfall
  have HE := Lib.hid hend
  clear t1 t2 hfall hend h
  go_enter Try.func6, Try.ntmps6
  go_wp2_with fail
  refine (T1.out _).mono ?_
  rintro e w1 ⟨A, c, rfl, r1, b1⟩
  have hr := r1.rd
  clear r1
  go_wp2
  go_loopw [4, 5, 6] (fun x y i wr => ∃ (k a b : Nat), k ≤ L.length ∧ x = .int .u64 a ∧ y = .int .u64 b ∧ i = .int .i64 k ∧ Hid (Whole m a b L k) ∧ Below w1.heap.size w1 wr) (fun _ _ i _ => L.length - (intOf i).toNat)
  case atStart => exact ⟨0, 0, m, by omega, rfl, rfl, rfl, Lib.hid hst, Below.refl _ _⟩
  case round =>
    obtain ⟨k, a, b, hk, rfl, rfl, rfl, HW, q2⟩ := hrel
    clear hst
    by_cases hlt : k < L.length
    · obtain ⟨n1, n2⟩ := HW.out.next hlt
      have y0 := HW.out.y0
      have x0 := HW.out.x0
      have u1 := fun w => bits_top b w y0
      have u2 := fun w => bits_set a L[k] w x0
      have u3 := fun w => bits_clear b L[k] w
      rw [n1] at u1
      obtain ⟨bb, off, rfl, hc⟩ := (hr.keep q2).int hlt
      have hprev : k = 0 ∨ ∃ j, k = j + 1 := by rcases k with _ | j; exact .inl rfl; exact .inr ⟨j, rfl⟩
      have HN := Lib.hid n2
      clear n1 n2 HW x0 y0
      have hlt1 : (k : Int) < (L.length : Int) := by omega
      rcases hprev with rfl | ⟨j, rfl⟩
      · generalize L[0] = t at *
        rw [Nat.add_zero] at hc
        have U1 := Lib.hid u1
        have U2 := Lib.hid u2
        have U3 := Lib.hid u3
        clear u1 u2 u3
        go_wp2
        refine wp_region_dep (S := Ext) (C := Ext (wr)) (by kernel_rfl) (by kernel_rfl) rfl Ext.refl (Ext.drew _) ?_
        repeat (refine dep_det (by rfl) (fun K hK => ?_); go_simp; first
          | ((with_reducible refine hK _ ?_); clear hK K)
          | (refine ⟨_, fun w1 hw1 => ⟨Ext.refl w1, hw1, rfl⟩, hK _ ?_⟩; clear hK K)
          | (apply Exists.intro; refine ⟨fun w1 hw1 => ?_, hK _ ?_⟩
             first
               | (go_at_call 14; ((with_reducible refine (U1.out _).mono ?_); rintro e w' ⟨rfl, rfl⟩; exact ⟨_, rfl, Ext.refl _, hw1, rfl⟩))
               | (have c_hc := cell_keep hw1 hc; go_simp; first | exact ⟨Ext.refl _, hw1, rfl⟩ | exact ⟨Ext.refl _, rfl⟩)
             clear hK K))
        refine dep_nil ?_
        intro a' w' hC hE
        obtain rfl := atEnd_nil hE
        clear hE
        have hc' := cell_keep hC hc
        go_wp2
        refine wp_region_dep (S := Ext) (C := Ext (w')) (by kernel_rfl) (by kernel_rfl) rfl Ext.refl (Ext.drew _) ?_
        repeat (refine dep_det (by rfl) (fun K hK => ?_); go_simp; first
          | ((with_reducible refine hK _ ?_); clear hK K)
          | (refine ⟨_, fun w1 hw1 => ⟨Ext.refl w1, hw1, rfl⟩, hK _ ?_⟩; clear hK K)
          | (apply Exists.intro; refine ⟨fun w1 hw1 => ?_, hK _ ?_⟩
             first
               | (go_at_call 9; ((with_reducible refine (U2.out _).mono ?_); rintro e w' ⟨rfl, rfl⟩; exact ⟨_, rfl, Ext.refl _, hw1, rfl⟩))
               | (go_at_call 11; ((with_reducible refine (U3.out _).mono ?_); rintro e w' ⟨rfl, rfl⟩; exact ⟨_, rfl, Ext.refl _, hw1, rfl⟩))
               | (have c_hc' := cell_keep hw1 hc'; go_simp; first | exact ⟨Ext.refl _, hw1, rfl⟩ | exact ⟨Ext.refl _, rfl⟩)
             clear hK K))
        refine dep_nil ?_
        intro a3 w3 hC3 hE
        obtain rfl := atEnd_nil hE
        clear hE
        go_wp2
        go_roundw
        case rel => exact ⟨1, _, _, by omega, rfl, rfl, by go_num, HN, Ext.trans q2 (Ext.trans hC hC3)⟩
        case measure => simp [intOf]; omega
      · obtain ⟨bb', off', e', hc0⟩ := (hr.keep q2).int (k := j) (by omega)
        injection e' with e'; injection e' with e1 e2
        subst e1; subst e2
        have hgt : L[j + 1] < L[j] := List.pairwise_iff_getElem.1 HF.out j (j + 1) (by omega) hlt (by omega)
        generalize L[j + 1] = t at *
        generalize L[j] = t0 at *
        have hw : IntKind.i64.wrap (((j + 1 : Nat) : Int) - 1) = (j : Int) := by
          rw [show (((j + 1 : Nat) : Int) - 1) = (j : Int) by omega]; exact IntWalk.i64_in _ ⟨by omega, by omega⟩
        have hw1 : IntKind.i64.wrap ((j : Int) + 1 - 1) = (j : Int) := by
          rw [show ((j : Int) + 1 - 1) = (j : Int) by omega]; exact IntWalk.i64_in _ ⟨by omega, by omega⟩
        have hw2 : IntKind.i64.wrap (j : Int) = (j : Int) := IntWalk.i64_in _ ⟨by omega, by omega⟩
        have hd : decide (t0 ≤ t) = false := by simp; omega
        have hd2 : decide ((0 : Int) < ((j + 1 : Nat) : Int)) = true := by simp
        have hj0 : j < L.length := by omega
        have hj1 : (j : Int) < (L.length : Int) := by omega
        have U1 := Lib.hid u1
        have U2 := Lib.hid u2
        have U3 := Lib.hid u3
        clear u1 u2 u3
        go_wp2
        refine wp_region_dep (S := Ext) (C := Ext (wr)) (by kernel_rfl) (by kernel_rfl) rfl Ext.refl (Ext.drew _) ?_
        repeat (refine dep_det (by rfl) (fun K hK => ?_); go_simp; first
          | ((with_reducible refine hK _ ?_); clear hK K)
          | (refine ⟨_, fun w1 hw1 => ⟨Ext.refl w1, hw1, rfl⟩, hK _ ?_⟩; clear hK K)
          | (apply Exists.intro; refine ⟨fun w1 hw1 => ?_, hK _ ?_⟩
             first
               | (go_at_call 14; ((with_reducible refine (U1.out _).mono ?_); rintro e w' ⟨rfl, rfl⟩; exact ⟨_, rfl, Ext.refl _, hw1, rfl⟩))
               | (have c_hc := cell_keep hw1 hc; have c_hc0 := cell_keep hw1 hc0; go_simp; first | exact ⟨Ext.refl _, hw1, rfl⟩ | exact ⟨Ext.refl _, rfl⟩)
             clear hK K))
        refine dep_nil ?_
        intro a' w' hC hE
        obtain rfl := atEnd_nil hE
        clear hE
        have hc' := cell_keep hC hc
        clear hd hd2 hw hw1 hw2 hc0 hgt
        go_wp2
        refine wp_region_dep (S := Ext) (C := Ext (w')) (by kernel_rfl) (by kernel_rfl) rfl Ext.refl (Ext.drew _) ?_
        repeat (refine dep_det (by rfl) (fun K hK => ?_); go_simp; first
          | ((with_reducible refine hK _ ?_); clear hK K)
          | (refine ⟨_, fun w1 hw1 => ⟨Ext.refl w1, hw1, rfl⟩, hK _ ?_⟩; clear hK K)
          | (apply Exists.intro; refine ⟨fun w1 hw1 => ?_, hK _ ?_⟩
             first
               | (go_at_call 9; ((with_reducible refine (U2.out _).mono ?_); rintro e w' ⟨rfl, rfl⟩; exact ⟨_, rfl, Ext.refl _, hw1, rfl⟩))
               | (go_at_call 11; ((with_reducible refine (U3.out _).mono ?_); rintro e w' ⟨rfl, rfl⟩; exact ⟨_, rfl, Ext.refl _, hw1, rfl⟩))
               | (have c_hc' := cell_keep hw1 hc'; go_simp; first | exact ⟨Ext.refl _, hw1, rfl⟩ | exact ⟨Ext.refl _, rfl⟩)
             clear hK K))
        refine dep_nil ?_
        intro a3 w3 hC3 hE
        obtain rfl := atEnd_nil hE
        clear hE
        go_wp2
        go_roundw
        case rel => exact ⟨j + 1 + 1, _, _, by omega, rfl, rfl, by go_num, HN, Ext.trans q2 (Ext.trans hC hC3)⟩
        case measure => simp [intOf]; omega
    · obtain rfl : k = L.length := by omega
      obtain ⟨rfl, rfl⟩ := HE.out _ _ HW.out
      go_wp2_with (first | ((with_reducible go_at_call 13); (with_reducible refine (T2.out _).mono ?_); rintro e w' ⟨rfl, rfl⟩) | ((with_reducible go_at_call 15); (with_reducible refine (bits_awake _).mono ?_); rintro e w' ⟨rfl, rfl⟩))
      go_ret
      exact ⟨rfl, Ext.trans b1 q2⟩

end Go.Proofs.Ytaemgmlcfkpaeaa
