/-
  WALKS of what the statements share: lists of structs of three integers, held against each other; kept.
-/
import Derived.Test.YtlmpmlhmndegdaaLend
import Derived.Test.YtlmpmlhmndegdaaDep
namespace Go.Proofs.Ytlmpmlhmndegdaa
open Go.RowKit
attribute [local go_sem] depUpon Sp.ok

theorem trip_ne {p1 p2 p3 q1 q2 q3 : Int} (h : (p1, p2, p3) ≠ (q1, q2, q3)) : p1 ≠ q1 ∨ (p1 = q1 ∧ p2 ≠ q2) ∨ (p1 = q1 ∧ p2 = q2 ∧ p3 ≠ q3) := by
  by_cases h1 : p1 = q1
  · by_cases h2 : p2 = q2
    · by_cases h3 : p3 = q3
      · exact absurd (by rw [h1, h2, h3]) h
      · exact .inr (.inr ⟨h1, h2, h3⟩)
    · exact .inr (.inl ⟨h1, h2⟩)
  · exact .inl h1

set_option maxRecDepth 100000 in
set_option maxHeartbeats 2000000 in
theorem same_prios (A B : Option Addr) (n m c d : Nat) (xs ys : List (Int × Int × Int)) (w : World) (hn : n ≤ 4611686018427387904) (hm : m ≤ 4611686018427387904)
    (ha : Rd w A (trips xs)) (hb : Rd w B (trips ys)) (hla : xs.length = n) (hlb : ys.length = m) :
    Calls Try.prog 12 #[.slice A n c, .slice B m d] w fun e w' => e = .returned (.bool (decide (xs = ys))) ∧ Below w.heap.size w w' := by
  subst hla; subst hlb
  by_cases hl : xs.length = ys.length
  · have hl' : (((xs.length : Nat) : Int) != ((ys.length : Nat) : Int)) = false := by simp [hl]
    have H := Lib.hid hl
    have hle : ys.length ≤ xs.length := by omega
    clear hl
    go_enter Try.func12, Try.ntmps12
    go_wp2
    go_loopw [5] (fun i wr => ∃ k : Nat, k ≤ xs.length ∧ i = .int .i64 k ∧ Hid (xs.take k = ys.take k) ∧ Below w.heap.size w wr) (fun i _ => xs.length - (intOf i).toNat)
    case atStart => exact ⟨0, Nat.zero_le _, rfl, rfl, Below.refl _ _⟩
    case round =>
      obtain ⟨k, hk, rfl, hs, bb⟩ := hrel
      by_cases hlt : k < xs.length
      · have hlt' : k < ys.length := by have := H.out; omega
        obtain ⟨b, off, rfl, h1, h2, h3⟩ := (ha.keep bb).trip hlt
        obtain ⟨b', off', rfl, k1, k2, k3⟩ := (hb.keep bb).trip hlt'
        have i0 : (0 : Int) ≤ (k : Int) := by omega
        have i1 : (k : Int) < (xs.length : Int) := by omega
        have i2 : (k : Int) < (ys.length : Int) := by omega
        by_cases he : xs[k] = ys[k]
        · have HE := Lib.hid he
          rw [← he] at k1 k2 k3
          clear he
          go_wp2
          refine wp_region_dep (S := Ext) (C := Ext (wr)) (by kernel_rfl) (by kernel_rfl) rfl Ext.refl (Ext.drew _) ?_
          repeat (refine dep_det (by rfl) (fun K hK => ?_); go_simp; first
            | ((with_reducible refine hK _ ?_); clear hK K)
            | (refine ⟨_, fun w1 hw1 => ⟨Ext.refl w1, hw1, rfl⟩, hK _ ?_⟩; clear hK K)
            | (apply Exists.intro; refine ⟨fun w1 hw1 => ?_, hK _ ?_⟩
               first
                 | (have c_h1 := cell_keep hw1 h1; have c_h2 := cell_keep hw1 h2; have c_h3 := cell_keep hw1 h3; have c_k1 := cell_keep hw1 k1; have c_k2 := cell_keep hw1 k2; have c_k3 := cell_keep hw1 k3; go_simp; first | exact ⟨Ext.refl _, hw1, rfl⟩ | exact ⟨Ext.refl _, rfl⟩)
               clear hK K))
          refine dep_nil ?_
          intro a' w' hC hE
          obtain rfl := atEnd_nil hE
          clear hE
          go_wp2
          go_roundw
          case rel => exact ⟨k + 1, by omega, by go_num, same_take H.out hs.out hlt HE.out, bb.trans (hC.mono bb.size)⟩
          case measure => simp [intOf]; omega
        · have HE := Lib.hid (same_not hlt hlt' he)
          generalize xs[k] = p at h1 h2 h3 he
          generalize ys[k] = q at k1 k2 k3 he
          obtain ⟨p1, p2, p3⟩ := p
          obtain ⟨q1, q2, q3⟩ := q
          simp only at h1 h2 h3 k1 k2 k3
          rcases trip_ne he with hne | ⟨rfl, hne⟩ | ⟨rfl, rfl, hne⟩
          · have t1 : (p1 == q1) = false := by simp [hne]
            go_wp2
            refine wp_region_dep (S := Ext) (C := Ext (wr)) (by kernel_rfl) (by kernel_rfl) rfl Ext.refl (Ext.drew _) ?_
            repeat (refine dep_det (by rfl) (fun K hK => ?_); go_simp; first
              | ((with_reducible refine hK _ ?_); clear hK K)
              | (refine ⟨_, fun w1 hw1 => ⟨Ext.refl w1, hw1, rfl⟩, hK _ ?_⟩; clear hK K)
              | (apply Exists.intro; refine ⟨fun w1 hw1 => ?_, hK _ ?_⟩
                 first
                   | (have c_h1 := cell_keep hw1 h1; have c_h2 := cell_keep hw1 h2; have c_h3 := cell_keep hw1 h3; have c_k1 := cell_keep hw1 k1; have c_k2 := cell_keep hw1 k2; have c_k3 := cell_keep hw1 k3; go_simp; first | exact ⟨Ext.refl _, hw1, rfl⟩ | exact ⟨Ext.refl _, rfl⟩)
                 clear hK K))
            refine dep_nil ?_
            intro a' w' hC hE
            obtain rfl := atEnd_nil hE
            clear hE
            go_wp2
            go_ret
            exact ⟨ret_bool (by simp [HE.out]), bb.trans (hC.mono bb.size)⟩
          · have t1 : (p2 == q2) = false := by simp [hne]
            go_wp2
            refine wp_region_dep (S := Ext) (C := Ext (wr)) (by kernel_rfl) (by kernel_rfl) rfl Ext.refl (Ext.drew _) ?_
            repeat (refine dep_det (by rfl) (fun K hK => ?_); go_simp; first
              | ((with_reducible refine hK _ ?_); clear hK K)
              | (refine ⟨_, fun w1 hw1 => ⟨Ext.refl w1, hw1, rfl⟩, hK _ ?_⟩; clear hK K)
              | (apply Exists.intro; refine ⟨fun w1 hw1 => ?_, hK _ ?_⟩
                 first
                   | (have c_h1 := cell_keep hw1 h1; have c_h2 := cell_keep hw1 h2; have c_h3 := cell_keep hw1 h3; have c_k1 := cell_keep hw1 k1; have c_k2 := cell_keep hw1 k2; have c_k3 := cell_keep hw1 k3; go_simp; first | exact ⟨Ext.refl _, hw1, rfl⟩ | exact ⟨Ext.refl _, rfl⟩)
                 clear hK K))
            refine dep_nil ?_
            intro a' w' hC hE
            obtain rfl := atEnd_nil hE
            clear hE
            go_wp2
            go_ret
            exact ⟨ret_bool (by simp [HE.out]), bb.trans (hC.mono bb.size)⟩
          · have t1 : (p3 == q3) = false := by simp [hne]
            go_wp2
            refine wp_region_dep (S := Ext) (C := Ext (wr)) (by kernel_rfl) (by kernel_rfl) rfl Ext.refl (Ext.drew _) ?_
            repeat (refine dep_det (by rfl) (fun K hK => ?_); go_simp; first
              | ((with_reducible refine hK _ ?_); clear hK K)
              | (refine ⟨_, fun w1 hw1 => ⟨Ext.refl w1, hw1, rfl⟩, hK _ ?_⟩; clear hK K)
              | (apply Exists.intro; refine ⟨fun w1 hw1 => ?_, hK _ ?_⟩
                 first
                   | (have c_h1 := cell_keep hw1 h1; have c_h2 := cell_keep hw1 h2; have c_h3 := cell_keep hw1 h3; have c_k1 := cell_keep hw1 k1; have c_k2 := cell_keep hw1 k2; have c_k3 := cell_keep hw1 k3; go_simp; first | exact ⟨Ext.refl _, hw1, rfl⟩ | exact ⟨Ext.refl _, rfl⟩)
                 clear hK K))
            refine dep_nil ?_
            intro a' w' hC hE
            obtain rfl := atEnd_nil hE
            clear hE
            go_wp2
            go_ret
            exact ⟨ret_bool (by simp [HE.out]), bb.trans (hC.mono bb.size)⟩
      · go_wp2
        go_ret
        refine ⟨ret_bool ?_, bb⟩
        have h1 := hs.out
        have h2 := H.out
        rw [List.take_of_length_le (by omega), List.take_of_length_le (by omega)] at h1
        simp [h1]
  · have hl' : (((xs.length : Nat) : Int) != ((ys.length : Nat) : Int)) = true := by simp; omega
    have HE : Hid (xs ≠ ys) := by rintro rfl; exact hl rfl
    clear hl
    go_enter Try.func12, Try.ntmps12
    go_wp2
    go_ret
    exact ⟨ret_bool (by simp [HE.out]), Below.refl _ _⟩

set_option maxRecDepth 100000 in
set_option maxHeartbeats 1000000 in
theorem kept_prios (B : Option Addr) (g n m d : Nat) (xs ys : List (Int × Int × Int)) (w : World) (hn : n ≤ 65536) (hm : m ≤ 65536)
    (ho : Own w g 33 (lentTrips xs)) (hb : Rd w B (trips ys)) (hla : xs.length = n) (hlb : ys.length = m) :
    Calls Try.prog 14 #[.slice (some ⟨g, 0, none⟩) n (n + 3), .slice B m d] w fun e w' => e = .returned (.bool (decide (xs = ys))) ∧ Below w.heap.size w w' := by
  subst hla; subst hlb
  go_enter Try.func14, Try.ntmps14
  go_wp2
  go_loopw [6] (fun i wr => ∃ k : Nat, k ≤ 3 ∧ i = .int .i64 k ∧ Below w.heap.size w wr) (fun i _ => 3 - (intOf i).toNat)
  case atStart => exact ⟨0, by omega, rfl, Below.refl _ _⟩
  case round =>
    obtain ⟨k, hk, rfl, bb⟩ := hrel
    by_cases hlt : k < 3
    · obtain ⟨x0, x1, x2⟩ := lent3_get xs k hlt [(-7, 0, 0), (-7, 0, 0), (-7, 0, 0)] rfl
      have e3 : (xs.length + k) * 3 = xs.length * 3 + k * 3 := by omega
      have e4 : [((-7 : Int), (0 : Int), (0 : Int)), (-7, 0, 0), (-7, 0, 0)][k]'hlt = (-7, 0, 0) := by
        rcases k with _ | _ | _ | k
        · rfl
        · rfl
        · rfl
        · omega
      rw [e4, e3] at x0 x1 x2
      have ho' := ho.keep bb
      have hc0 := ho'.cell (xs.length * 3 + k * 3)
      have hc1 := ho'.cell (xs.length * 3 + k * 3 + 1)
      have hc2 := ho'.cell (xs.length * 3 + k * 3 + 2)
      rw [lentTrips, x0] at hc0
      rw [lentTrips, x1] at hc1
      rw [lentTrips, x2] at hc2
      have hidx : k < xs.length + 3 - xs.length := by omega
      clear x0 x1 x2 e3 e4 ho'
      go_wp2
      go_roundw
      case rel => exact ⟨k + 1, by omega, by go_num, bb⟩
      case measure => simp [intOf]; omega
    · have hx : Rd wr (some ⟨g, 0, none⟩) (trips xs) := by
        have h1 := (ho.keep bb).rd0
        unfold lentTrips at h1
        rw [← trips_app] at h1
        exact h1.pre
      have hy := hb.keep bb
      go_wp2_with (go_at_call 12; refine (same_prios _ _ _ _ _ _ xs ys _ (by omega) (by omega) hx hy rfl rfl).mono ?_; rintro e w1 ⟨rfl, b1⟩)
      go_ret
      exact ⟨rfl, bb.trans (b1.mono bb.size)⟩

end Go.Proofs.Ytlmpmlhmndegdaa
