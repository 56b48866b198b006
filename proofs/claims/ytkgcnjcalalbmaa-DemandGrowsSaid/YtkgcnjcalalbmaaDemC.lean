/-
  WALKS of the statements on demand, chapter 17: DemandGrows, DemandAlone; the plain laws.
-/
import Derived.Test.YtkgcnjcalalbmaaDemB
import Derived.Test.YtkgcnjcalalbmaaLend
namespace Go.Proofs.Ytkgcnjcalalbmaa
open Go.RowKit
attribute [local go_sem] depUpon Sp.ok

theorem ejobs_no {s p d c : Int} (h : clip s < clip d) : ejobs s (p, d, c) = 0 := if_pos h
theorem ejobs_yes {s p d c : Int} (h : ¬ clip s < clip d) : ejobs s (p, d, c) = clip ((clip s - clip d) / max (clip p) 1 + 1) := by
  have h1 := clip_hi s
  have h2 := clip_lo d
  have e : ejobs s (p, d, c) = nsum [ndown (clip s - clip d) p, 1] := if_neg h
  have e2 : ndown (clip s - clip d) p = (clip s - clip d) / max (clip p) 1 := by unfold ndown; rw [clip_of (clip s - clip d) (by omega) (by omega)]
  have h3 := ndown_lo (clip s - clip d) p
  have h4 := ndown_hi (clip s - clip d) p
  rw [e, ← e2]
  generalize ndown (clip s - clip d) p = x at *
  simp [nsum]; unfold clip; omega
theorem ejobs_lo (s : Int) (e : Int × Int × Int) : 0 ≤ ejobs s e := by
  obtain ⟨p, d, c⟩ := e
  by_cases h : clip s < clip d
  · rw [ejobs_no h]; omega
  · rw [ejobs_yes h]; exact clip_lo _
theorem ejobs_mono {s t : Int} (h : s ≤ t) (e : Int × Int × Int) : ejobs s e ≤ ejobs t e := by
  obtain ⟨p, d, c⟩ := e
  have hst := clip_mono h
  by_cases h1 : clip s < clip d
  · rw [ejobs_no h1]; exact ejobs_lo _ _
  · rw [ejobs_yes h1, ejobs_yes (by omega)]
    refine clip_mono ?_
    have := Int.ediv_le_ediv (c := max (clip p) 1) (by omega) (show clip s - clip d ≤ clip t - clip d by omega)
    omega
theorem ework_mono {s t : Int} (h : s ≤ t) (e : Int × Int × Int) : ework s e ≤ ework t e := nmul_mono' (Int.le_refl _) (ejobs_mono h e)
theorem nsum2_mono {a b c d : Int} (h : a ≤ c) (k : b ≤ d) : nsum [a, b] ≤ nsum [c, d] := by simp [nsum]; unfold clip; omega
theorem nsum3_mono {a b c d e f : Int} (h : a ≤ d) (k : b ≤ e) (l : c ≤ f) : nsum [a, b, c] ≤ nsum [d, e, f] := by simp [nsum]; unfold clip; omega
theorem eneed_mono {s t : Int} (h : s ≤ t) : ∀ (n : Nat) (es : List (Int × Int × Int)), es.length = n → eneed s es ≤ eneed t es
  | 0, es, hl => by
    have : es = [] := List.eq_nil_of_length_eq_zero hl
    subst this; simp [eneed]
  | n + 1, es, hl => by
    rcases List.eq_nil_or_concat es with rfl | ⟨l', x, rfl⟩
    · simp at hl
    · rw [List.concat_eq_append] at hl ⊢
      rw [eneed_snoc, eneed_snoc]
      exact nsum2_mono (eneed_mono h n l' (by simpa using hl)) (ework_mono h x)
theorem eneed_one (s p d : Int) : eneed s [(p, d, 1)] = ejobs s (p, d, 1) := by
  have h0 := ejobs_lo s (p, d, 1)
  have h1 : ejobs s (p, d, 1) ≤ 1099511627776 := by
    by_cases h : clip s < clip d
    · rw [ejobs_no h]; omega
    · rw [ejobs_yes h]; exact clip_hi _
  have e : eneed s [(p, d, 1)] = nsum [0, nmul 1 (ejobs s (p, d, 1))] := rfl
  rw [e]
  generalize ejobs s (p, d, 1) = x at *
  have e1 : nmul 1 x = x := by
    unfold nmul
    rw [clip_of x h0 h1, clip_of 1 (by omega) (by omega), Int.one_mul, clip_of x h0 h1]
  rw [e1]
  simp [nsum]; unfold clip; omega
theorem eneed_one_lo (s p d : Int) : 0 ≤ eneed s [(p, d, 1)] ∧ eneed s [(p, d, 1)] ≤ 1099511627776 := ⟨eneed_lo _ _, eneed_hi _ _⟩

theorem jobs_both (x y p d : Int) (x0 : 0 ≤ x) (x1 : x < 2000) (y0 : 0 ≤ y) (y1 : y < 2000) (p0 : 1 ≤ p) (hd : p ≤ d) :
    eneed x [(p, d, 1)] + eneed y [(p, d, 1)] ≤ eneed (x + y) [(p, d, 1)] := by
  rw [eneed_one, eneed_one, eneed_one]
  have cx : clip x = x := clip_of x (by omega) (by omega)
  have cy : clip y = y := clip_of y (by omega) (by omega)
  have cxy : clip (x + y) = x + y := clip_of _ (by omega) (by omega)
  by_cases h1 : clip x < clip d
  · rw [ejobs_no h1]
    have := ejobs_mono (show y ≤ x + y by omega) (p, d, 1)
    omega
  · by_cases h2 : clip y < clip d
    · rw [ejobs_no h2]
      have := ejobs_mono (show x ≤ x + y by omega) (p, d, 1)
      omega
    · have cd : clip d = d := by unfold clip at h1 ⊢; omega
      have cp : clip p = p := clip_of p (by omega) (by rw [cd, cx] at h1; omega)
      have mp : max p 1 = p := by omega
      rw [ejobs_yes h1, ejobs_yes h2, ejobs_yes (by omega), cx, cy, cxy, cd, cp, mp]
      rw [cd, cx] at h1
      rw [cd, cy] at h2
      have k1 := Int.emod_add_mul_ediv (x - d) p
      have k2 := Int.emod_nonneg (x - d) (b := p) (by omega)
      have k3 := Int.emod_add_mul_ediv (y - d) p
      have k4 := Int.emod_nonneg (y - d) (b := p) (by omega)
      have q1 : 0 ≤ (x - d) / p := Int.ediv_nonneg (by omega) (by omega)
      have q2 : 0 ≤ (y - d) / p := Int.ediv_nonneg (by omega) (by omega)
      have q3 : (x - d) / p ≤ x - d := Int.ediv_le_self p (by omega)
      have q4 : (y - d) / p ≤ y - d := Int.ediv_le_self p (by omega)
      have q5 : (x - d) / p + (y - d) / p + 1 ≤ (x + y - d) / p := by
        rw [Int.le_ediv_iff_mul_le (by omega)]
        have e : ((x - d) / p + (y - d) / p + 1) * p = p * ((x - d) / p) + p * ((y - d) / p) + p := by rw [Int.add_mul, Int.add_mul, Int.one_mul, Int.mul_comm, Int.mul_comm ((y - d) / p)]
        rw [e]; omega
      have q6 : (x + y - d) / p ≤ x + y - d := Int.ediv_le_self p (by omega)
      rw [clip_of _ (by omega) (by omega), clip_of _ (by omega) (by omega), clip_of _ (by omega) (by omega)]
      omega

set_option maxRecDepth 100000 in
set_option maxHeartbeats 2000000 in
theorem law_demandgrows (a b : Int) (A : Option Addr) (n c : Nat) (es : List (Int × Int × Int)) (w : World) (_ : I64 a) (_ : I64 b) (ga : TripsArg w A n es) :
    Calls Try.prog 6 #[.int .i64 a, .int .i64 b, .slice A n c] w fun e w' => e = .returned (.bool true) ∧ Below w.heap.size w w' := by
  obtain ⟨hl, hn, hr, _⟩ := ga
  by_cases h8 : 8 < n
  · go_enter Try.func6, Try.ntmps6
    go_wp2_with (go_at_call 7; refine (dem_awake _).mono ?_; rintro e w1 ⟨rfl, b1⟩)
    go_ret
    exact ⟨rfl, b1⟩
  · have HL := Lib.hid hl
    clear hl hn
    have l1 := low_lo a 2000 (by omega)
    have l2 := low_hi a 2000 (by omega)
    have l3 := low_lo b 2000 (by omega)
    have l4 := low_hi b 2000 (by omega)
    have f1 := low_law a 2000 (by omega) (by omega)
    have f2 := low_law b 2000 (by omega) (by omega)
    have e1 : (a % two64) % 2000 = low a 2000 := rfl
    have e2 : (b % two64) % 2000 = low b 2000 := rfl
    rw [e1] at f1
    rw [e2] at f2
    clear e1 e2
    generalize low a 2000 = x at *
    generalize low b 2000 = y at *
    have hm := eneed_mono (show x ≤ x + y by omega) es.length es rfl
    have hm' : ¬ eneed (x + y) es < eneed x es := by omega
    clear hm
    have e0 : eneed 0 [] = 0 := rfl
    have c0 : ∀ w : World, Calls Try.prog 9 #[.int .i64 0, .slice none 0 0] w fun e w' => e = .returned (.int .i64 0) ∧ Below w.heap.size w w' := fun w => d_need 0 none 0 0 [] w (by omega) (Rd.nil _ _) rfl
    have C0 := Lib.hid c0
    clear c0 e0
    go_enter Try.func6, Try.ntmps6
    go_wp2_with (first
      | ((with_reducible go_at_call 9); (with_reducible refine (C0.out _).mono ?_); rintro e w3 ⟨rfl, b3⟩)
      | ((with_reducible go_at_call 9); refine (d_need (x + y) A n c es _ (by omega) (hr.keep b1) HL.out).mono ?_; rintro e w2 ⟨rfl, b2⟩)
      | ((with_reducible go_at_call 9); refine (d_need x A n c es _ (by omega) hr HL.out).mono ?_; rintro e w1 ⟨rfl, b1⟩))
    have kW : Ext w w3 := Ext.trans (Ext.trans b1 b2) b3
    clear b1 b2 b3 hm' f1 f2 C0
    go_loopw [9] (fun i wr => ∃ k : Nat, k ≤ n ∧ i = .int .i64 k ∧ Below w.heap.size w wr) (fun i _ => n - (intOf i).toNat)
    case atStart => exact ⟨0, by omega, rfl, kW⟩
    case round =>
      obtain ⟨k, hk, rfl, hb⟩ := hrel
      clear kW
      by_cases hlt : k < n
      · obtain ⟨bb, off, rfl, h1, h2, h3⟩ := (hr.keep hb).trip (k := k) (by rw [HL.out]; exact hlt)
        generalize es[k]'(by rw [HL.out]; exact hlt) = ek at *
        obtain ⟨p, d, cc⟩ := ek
        simp only at h1 h2 h3
        have o1 := Own.new wr 26 [.int .i64 p, .int .i64 d, .int .i64 cc]
        have hc2 := o1.cell 2
        have hf2 := o1.frozen 2
        have o2 := Own.new wr 26 [.int .i64 p, .int .i64 d, .int .i64 1]
        have hd0 := o2.cell 0
        have hd1 := o2.cell 1
        have hd2 := o2.cell 2
        simp only [List.getElem?_cons_zero, List.getElem?_cons_succ] at hc2 hd0 hd1 hd2
        have bA := Ext.trans hb (Ext.alloc wr (.cells #[.int .i64 p, .int .i64 d, .int .i64 1] 26))
        clear o1 o2
        by_cases hp : p < 1
        · go_wp2
          go_roundw
          case rel => exact ⟨k + 1, by omega, by go_num, bA⟩
          case measure => simp [intOf]; omega
        · by_cases hdp : d < p
          · go_wp2
            go_roundw
            case rel => exact ⟨k + 1, by omega, by go_num, bA⟩
            case measure => simp [intOf]; omega
          · have hj := jobs_both x y p d l1 l2 l3 l4 (by omega) (by omega)
            obtain ⟨u1, u2⟩ := eneed_one_lo x p d
            obtain ⟨u3, u4⟩ := eneed_one_lo y p d
            have rE := rd_early1' wr (.cells #[.int .i64 p, .int .i64 d, .int .i64 1] 26) p d 1
            have t1 := fun A w h => d_need x A 1 1 [(p, d, 1)] w (by omega) h rfl
            have t2 := fun A w h => d_need y A 1 1 [(p, d, 1)] w (by omega) h rfl
            have t3 := fun A w h => d_need (x + y) A 1 1 [(p, d, 1)] w (by omega) h rfl
            generalize eneed x [(p, d, 1)] = nx at *
            generalize eneed y [(p, d, 1)] = ny at *
            generalize eneed (x + y) [(p, d, 1)] = nz at *
            have hj' : ¬ nz < nx + ny := by omega
            have T1 := Lib.hid t1
            have T2 := Lib.hid t2
            have T3 := Lib.hid t3
            have RE := Lib.hid rE
            clear t1 t2 t3 rE hj
            go_wp2_with fail
            refine (T1.out _ _ RE.out).mono ?_
            rintro e w1 ⟨rfl, b1⟩
            go_wp2_with fail
            refine (T2.out _ _ (RE.out.keep b1)).mono ?_
            rintro e w2 ⟨rfl, b2⟩
            go_wp2_with fail
            refine (T3.out _ _ ((RE.out.keep b1).keep b2)).mono ?_
            rintro e w3 ⟨rfl, b3⟩
            go_wp2
            go_roundw
            case rel => exact ⟨k + 1, by omega, by go_num, Ext.trans bA (Ext.trans (Ext.alloc _ _) (Ext.trans (Ext.trans b1 b2) b3))⟩
            case measure => simp [intOf]; omega
      · go_wp2_with (go_at_call 7; refine (dem_awake _).mono ?_; rintro e w1 ⟨rfl, b1⟩)
        go_ret
        exact ⟨rfl, Ext.trans hb b1⟩

end Go.Proofs.Ytkgcnjcalalbmaa
