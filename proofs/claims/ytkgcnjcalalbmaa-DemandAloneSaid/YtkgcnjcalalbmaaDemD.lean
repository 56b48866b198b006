/-
  WALKS of the statements on demand, chapter 17: DemandAlone.
-/
import Derived.Test.YtkgcnjcalalbmaaDemC
namespace Go.Proofs.Ytkgcnjcalalbmaa
open Go.RowKit
attribute [local go_sem] depUpon Sp.ok

theorem one_need {s p d c : Int} (s0 : 1 ≤ s) (s1 : s ≤ 600) (p0 : 60 ≤ p) (p1 : p < 160) (d0 : 1 ≤ d) (d1 : d ≤ 60) (c0 : 1 ≤ c) (c1 : c ≤ 30) :
    (s < d → eneed s [(p, d, c)] = 0) ∧ (d ≤ s → eneed s [(p, d, c)] = c * ((s - d) / p + 1) ∧ c ≤ c * ((s - d) / p + 1) ∧ c * ((s - d) / p + 1) ≤ 600) := by
  have cs : clip s = s := clip_of s (by omega) (by omega)
  have cd : clip d = d := clip_of d (by omega) (by omega)
  have cp : clip p = p := clip_of p (by omega) (by omega)
  have cc : clip c = c := clip_of c (by omega) (by omega)
  have mp : max p 1 = p := by omega
  have e : eneed s [(p, d, c)] = nsum [0, nmul c (ejobs s (p, d, c))] := rfl
  refine ⟨fun h => ?_, fun h => ?_⟩
  · have z : nmul c 0 = 0 := by unfold nmul; rw [show clip 0 = 0 from by decide, Int.mul_zero]; decide
    rw [e, ejobs_no (by omega), z]; decide
  · have h' : ¬ clip s < clip d := by omega
    have q0 : 0 ≤ (s - d) / p := Int.ediv_nonneg (by omega) (by omega)
    have q1 : (s - d) / p ≤ 10 := by
      have := Int.ediv_lt_of_lt_mul (a := s - d) (b := 11) (c := p) (by omega) (by omega)
      omega
    have j : ejobs s (p, d, c) = (s - d) / p + 1 := by rw [ejobs_yes h', cs, cd, cp, mp, clip_of _ (by omega) (by omega)]
    generalize (s - d) / p = q at *
    have m1 : c * 1 ≤ c * (q + 1) := Int.mul_le_mul_of_nonneg_left (by omega) (by omega)
    have m2 : c * (q + 1) ≤ 30 * 11 := Int.mul_le_mul (by omega) (by omega) (by omega) (by omega)
    refine ⟨?_, by omega, by omega⟩
    rw [e, j]
    have m3 : nmul c (q + 1) = c * (q + 1) := by
      unfold nmul
      rw [cc, clip_of (q + 1) (by omega) (by omega), clip_of _ (by omega) (by omega)]
    rw [m3]
    generalize c * (q + 1) = y at *
    simp [nsum]; unfold clip; omega

theorem dbad_one {b s : Int} {es : List (Int × Int × Int)} (b0 : 0 ≤ b) (b1 : b < 50) (h : eneed s es ≤ 600) : dbad b [] es s = (decide (0 < eneed s es) && decide (s < b + eneed s es)) := by
  have h0 := eneed_lo s es
  have e : nsum [b, rwork s [], eneed s es] = b + eneed s es := by
    have : rwork s [] = 0 := rfl
    rw [this]
    generalize eneed s es = y at *
    simp [nsum]; unfold clip; omega
  unfold dbad
  rw [e]

structure AloneFacts (b p d c : Int) (i : Nat) : Prop where
  busy : rresp 0 b [(p, c)] 600 = some i
  small : i < 600
  fit : b + c ≤ d → dfits b [] [(p, d, c)] 600 = ((i : Int) + 1, true)
  not : d < b + c → (dfits b [] [(p, d, c)] 600 = ((i : Int) + 1, true) ∧ (i : Int) + 1 < d) ∨ dfits b [] [(p, d, c)] 600 = (d, false)

theorem alone_law (b p d c : Int) (b0 : 0 ≤ b) (b1 : b < 50) (p0 : 60 ≤ p) (p1 : p < 160) (d0 : 1 ≤ d) (d1 : d ≤ 60) (c0 : 1 ≤ c) (c1 : c ≤ 30) : ∃ i, AloneFacts b p d c i := by
  have hall : dall [] [(p, d, c)] = [(p, c)] := rfl
  have hm : (rmost 600).toNat = 600 := by decide
  have hres : ∃ i, rresp 0 b [(p, c)] 600 = some i := by
    cases h : rresp 0 b [(p, c)] 600 with
    | some i => exact ⟨i, rfl⟩
    | none =>
      exfalso
      have h1 := leastOf_nil h 599 (by rw [hm]; omega)
      have cp : clip p = p := clip_of p (by omega) (by omega)
      have mp : max p 1 = p := by omega
      have u1 : nup 600 p = (600 + p - 1) / p := by unfold nup; rw [cp, mp, clip_of 600 (by omega) (by omega)]
      have u2 : (600 + p - 1) / p ≤ 10 := by
        have := Int.ediv_lt_of_lt_mul (a := 600 + p - 1) (b := 11) (c := p) (by omega) (by omega)
        omega
      have u3 : 0 ≤ (600 + p - 1) / p := Int.ediv_nonneg (by omega) (by omega)
      have e : rwork 600 [(p, c)] = nsum [0, nmul (nup 600 p) c] := rfl
      have m2 : (600 + p - 1) / p * c ≤ 10 * 30 := Int.mul_le_mul u2 c1 (by omega) (by omega)
      have m1 : 0 ≤ (600 + p - 1) / p * c := Int.mul_nonneg u3 (by omega)
      have m3 : nmul (nup 600 p) c = (600 + p - 1) / p * c := by
        rw [u1]; unfold nmul
        rw [clip_of _ u3 (by omega), clip_of c (by omega) (by omega), clip_of _ m1 (by omega)]
      have h2 : rneed 0 b [(p, c)] 600 ≤ 600 := by
        unfold rneed
        rw [e, m3]
        generalize (600 + p - 1) / p * c = y at *
        simp [nsum]; unfold clip; omega
      have h3 : ((599 : Nat) : Int) + 1 = 600 := by omega
      rw [h3] at h1
      omega
  obtain ⟨i, hi⟩ := hres
  have hi6 : i < 600 := by have := (leastOf_spec hi).1; omega
  clear hm hall
  have ok : ∀ t : Int, 1 ≤ t → t < d → t ≤ 600 → dbad b [] [(p, d, c)] t = false := fun t h1 h2 h3 => by
    obtain ⟨k1, _⟩ := one_need h1 h3 p0 p1 d0 d1 c0 c1
    rw [dbad_one b0 b1 (by rw [k1 h2]; omega), k1 h2]
    simp
  refine ⟨i, hi, hi6, fun h => ?_, fun h => ?_⟩
  · refine dfits_ok hi fun t h1 h2 => ?_
    rcases Int.lt_or_le t d with h3 | h3
    · exact ok t h1 h3 (by omega)
    · obtain ⟨_, k2⟩ := one_need h1 (by omega) p0 p1 d0 d1 c0 c1
      obtain ⟨k3, k4, k5⟩ := k2 h3
      rw [dbad_one b0 b1 (by omega), k3]
      have g1 := Int.emod_add_mul_ediv (t - d) p
      have g2 := Int.emod_nonneg (t - d) (b := p) (by omega)
      have q0 : 0 ≤ (t - d) / p := Int.ediv_nonneg (by omega) (by omega)
      have g3 : c * ((t - d) / p) ≤ p * ((t - d) / p) := Int.mul_le_mul_of_nonneg_right (by omega) q0
      have g4 : c * ((t - d) / p + 1) = c * ((t - d) / p) + c := by rw [Int.mul_add, Int.mul_one]
      have : ¬ t < b + c * ((t - d) / p + 1) := by omega
      simp [this]
  · rcases Int.lt_or_le ((i : Int) + 1) d with h3 | h3
    · exact .inl ⟨dfits_ok hi fun t h1 h2 => ok t h1 (by omega) (by omega), h3⟩
    · right
      suffices hb : dbad b [] [(p, d, c)] d = true by
        have hi' : rresp 0 b (dall [] [(p, d, c)]) 600 = some i := hi
        exact dfits_bad (x := d) hi' d0 h3 hb (fun t h1 h2 => ok t h1 h2 (by omega))
      obtain ⟨_, k2⟩ := one_need d0 (by omega) p0 p1 d0 d1 c0 c1
      obtain ⟨k3, k4, k5⟩ := k2 (Int.le_refl _)
      rw [dbad_one b0 b1 (by omega), k3]
      simp; omega

set_option maxRecDepth 100000 in
set_option maxHeartbeats 2000000 in
theorem law_demandalone (x1 x2 x3 x4 : Int) (w : World) (_ : I64 x1) (_ : I64 x2) (_ : I64 x3) (_ : I64 x4) :
    Calls Try.prog 5 #[.int .i64 x1, .int .i64 x2, .int .i64 x3, .int .i64 x4] w fun e w' => e = .returned (.bool true) ∧ Below w.heap.size w w' := by
  have l1 := low_lo x1 50 (by omega)
  have l2 := low_hi x1 50 (by omega)
  have l3 := low_lo x2 100 (by omega)
  have l4 := low_hi x2 100 (by omega)
  have l5 := low_lo x3 60 (by omega)
  have l6 := low_hi x3 60 (by omega)
  have l7 := low_lo x4 30 (by omega)
  have l8 := low_hi x4 30 (by omega)
  obtain ⟨i, F⟩ := alone_law (low x1 50) (60 + low x2 100) (1 + low x3 60) (1 + low x4 30) l1 l2 (by omega) (by omega) (by omega) (by omega) (by omega) (by omega)
  have c1 := fun w => low_any x1 50 w (by omega) (by omega)
  have c2 := fun w => low_any x2 100 w (by omega) (by omega)
  have c3 := fun w => low_any x3 60 w (by omega) (by omega)
  have c4 := fun w => low_any x4 30 w (by omega) (by omega)
  generalize low x1 50 = b at *
  generalize low x2 100 = p' at *
  generalize low x3 60 = d' at *
  generalize low x4 30 = c' at *
  obtain ⟨hb, hi6, hfit, hnot⟩ := F
  have q1 := fun B d w (h : Rd w B (trips [(60 + p', 1 + d', 1 + c')])) => d_fits b none 0 0 [] B 1 d [(60 + p', 1 + d', 1 + c')] 600 w (by omega) (Rd.nil _ _) rfl (by omega) h rfl
  have q2 := fun B d w (h : Rd w B (pairs [(60 + p', 1 + c')])) => d_busy b B 1 d [(60 + p', 1 + c')] 600 w (by omega) h rfl
  rw [hb] at q2
  have C1 := Lib.hid c1
  have C2 := Lib.hid c2
  have C3 := Lib.hid c3
  have C4 := Lib.hid c4
  have rE := rd_early1 w (60 + p') (1 + d') (1 + c')
  have RE := Lib.hid rE
  clear c1 c2 c3 c4 rE hb
  by_cases hle : b + (1 + c') ≤ 1 + d'
  · have hf := hfit hle
    rw [hf] at q1
    have Q1 := Lib.hid q1
    clear q1 q2 hfit hnot hf
    go_enter Try.func5, Try.ntmps5
    go_wp2_with (first
      | ((with_reducible go_at_call 8); (with_reducible refine (C1.out _).mono ?_); rintro e w' ⟨rfl, rfl⟩) | ((with_reducible go_at_call 8); (with_reducible refine (C2.out _).mono ?_); rintro e w' ⟨rfl, rfl⟩) | ((with_reducible go_at_call 8); (with_reducible refine (C3.out _).mono ?_); rintro e w' ⟨rfl, rfl⟩) | ((with_reducible go_at_call 8); (with_reducible refine (C4.out _).mono ?_); rintro e w' ⟨rfl, rfl⟩)
      | ((with_reducible go_at_call 10); refine (Q1.out _ _ _ RE.out).mono ?_; rintro e w1 ⟨rfl, b1⟩)
      | (go_at_call 7; refine (dem_awake _).mono ?_; rintro e w2 ⟨rfl, b2⟩))
    go_ret
    exact ⟨rfl, Ext.trans (Ext.alloc _ _) (Ext.trans b1 b2)⟩
  · have hdis := hnot (by omega)
    have hro : respOf (some i) = (i : Int) + 1 := rfl
    rw [hro] at q2
    have Q2 := Lib.hid q2
    have hle' : ¬ b + (1 + c') ≤ 1 + d' := hle
    clear q2 hfit hnot hro
    rcases hdis with ⟨hf, hlt⟩ | hf
    all_goals
      rw [hf] at q1
      have Q1 := Lib.hid q1
      clear q1 hf hle
      go_enter Try.func5, Try.ntmps5
      go_wp2_with (first
        | ((with_reducible go_at_call 8); (with_reducible refine (C1.out _).mono ?_); rintro e w' ⟨rfl, rfl⟩) | ((with_reducible go_at_call 8); (with_reducible refine (C2.out _).mono ?_); rintro e w' ⟨rfl, rfl⟩) | ((with_reducible go_at_call 8); (with_reducible refine (C3.out _).mono ?_); rintro e w' ⟨rfl, rfl⟩) | ((with_reducible go_at_call 8); (with_reducible refine (C4.out _).mono ?_); rintro e w' ⟨rfl, rfl⟩)
        | ((with_reducible go_at_call 10); refine (Q1.out _ _ _ RE.out).mono ?_; rintro e w1 ⟨rfl, b1⟩)
        | ((with_reducible go_at_call 11); refine (Q2.out _ _ _ (rd_part1 _ _ _)).mono ?_; rintro e w2 ⟨rfl, b2⟩)
        | (go_at_call 7; refine (dem_awake _).mono ?_; rintro e w3 ⟨rfl, b3⟩))
      go_ret
      exact ⟨rfl, Ext.trans (Ext.alloc _ _) (Ext.trans b1 (Ext.trans (Ext.alloc _ _) (Ext.trans b2 b3)))⟩

end Go.Proofs.Ytkgcnjcalalbmaa
