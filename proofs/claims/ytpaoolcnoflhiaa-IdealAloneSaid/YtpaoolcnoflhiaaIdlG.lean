/-
  WALKS of the statements on package ideal: IdealFirst.
-/
import Derived.Test.YtpaoolcnoflhiaaIdlF
namespace Go.Proofs.Ytpaoolcnoflhiaa
open Go.RowKit
attribute [local go_sem] depUpon Sp.ok

theorem pc_self (p : P3) : pc p p = 0 := pcmp_self _ _ _
theorem pc_swap (p q : P3) : pc q p = -pc p q := pcmp_swap _ _ _ _ _ _
theorem pc_trans {p q r : P3} (h : 0 ≤ pc p q) (k : 0 ≤ pc q r) : 0 ≤ pc p r := (pcmp_trans _ _ _ _ _ _ _ _ _ h k).1
theorem ibest_ready (ths : List TH) (eff : List P3) : ∀ k, 0 ≤ ibest ths eff k → stOf ths (ibest ths eff k).toNat = 1
  | 0, h => by simp [ibest] at h
  | k + 1, h => by
    unfold ibest at *
    by_cases hb : ibetter ths eff k (ibest ths eff k)
    · rw [if_pos hb, Int.toNat_natCast]; exact hb.1
    · rw [if_neg hb] at h ⊢; exact ibest_ready ths eff k h
theorem ibest_top (ths : List TH) (eff : List P3) : ∀ k i, i < k → stOf ths i = 1 → 0 ≤ pc (eff.getD (ibest ths eff k).toNat (0, 0, 0)) (eff.getD i (0, 0, 0))
  | 0, _, h, _ => by omega
  | k + 1, i, h, hs => by
    unfold ibest
    by_cases hb : ibetter ths eff k (ibest ths eff k)
    · rw [if_pos hb, Int.toNat_natCast]
      by_cases hik : i = k
      · subst hik; rw [pc_self]; omega
      · have h1 := ibest_top ths eff k i (by omega) hs
        rcases hb.2 with h2 | h2
        · have := ready_first ths eff k i (by omega) hs; omega
        · exact pc_trans (by omega) h1
    · rw [if_neg hb]
      by_cases hik : i = k
      · subst hik
        have h3 : ¬ (ibest ths eff i < 0 ∨ 0 < pc (eff.getD i (0, 0, 0)) (eff.getD (ibest ths eff i).toNat (0, 0, 0))) := fun h => hb ⟨hs, h⟩
        have h4 := pc_swap (eff.getD i (0, 0, 0)) (eff.getD (ibest ths eff i).toNat (0, 0, 0))
        rw [not_or] at h3
        omega
      · exact ibest_top ths eff k i (by omega) hs
theorem right_none (ths : List TH) (os : List Int) : iright ths os (-1) false = !decide (0 ≤ ifirst ths os) := by simp [iright]
theorem right_first (ths : List TH) (os : List Int) (h : 0 ≤ ifirst ths os) : iright ths os (ifirst ths os) false = true := by
  have h1 := ibest_ready ths (ieff ths os) ths.length h
  have h2 := (ibest_rng ths (ieff ths os) ths.length).2
  have e : ibest ths (ieff ths os) ths.length = ifirst ths os := rfl
  rw [e] at h1 h2
  unfold iright
  have n3 : ¬ ((ths.length : Int) ≤ ifirst ths os ∨ stOf ths (ifirst ths os).toNat ≠ 1) := by
    intro h
    rcases h with h | h
    · omega
    · exact h h1
  rw [if_neg (by simp <;> omega), if_neg (by omega), if_neg n3, pc_self]
  rfl
theorem right_sec (ths : List TH) (os : List Int) (i : Int) : iright ths os i true = true := by simp [iright]
theorem right_low (ths : List TH) (os : List Int) : iright ths os (-2) false = true := by simp [iright]
theorem right_not (ths : List TH) (os : List Int) (i : Nat) (hs : stOf ths i ≠ 1) : iright ths os (i : Int) false = false := by
  unfold iright
  rw [if_neg (by simp <;> omega), if_neg (by omega), if_pos (.inr (by simpa using hs))]
theorem right_one (ths : List TH) (os : List Int) (i : Nat) (hi : i < ths.length) (hs : stOf ths i = 1) : iright ths os (i : Int) false = (pc ((ieff ths os).getD i (0, 0, 0)) ((ieff ths os).getD (ifirst ths os).toNat (0, 0, 0)) == 0) := by
  have h1 := ibest_top ths (ieff ths os) ths.length i hi hs
  have e : ibest ths (ieff ths os) ths.length = ifirst ths os := rfl
  rw [e] at h1
  have h2 := pc_swap ((ieff ths os).getD i (0, 0, 0)) ((ieff ths os).getD (ifirst ths os).toNat (0, 0, 0))
  unfold iright
  have n3 : ¬ ((ths.length : Int) ≤ (i : Int) ∨ stOf ths (i : Int).toNat ≠ 1) := by
    intro h
    rcases h with h | h
    · omega
    · exact h (by simpa using hs)
  rw [if_neg (by simp <;> omega), if_neg (by omega), if_neg n3, Int.toNat_natCast, Bool.eq_iff_iff]
  clear n3 e
  generalize (ieff ths os).getD i (0, 0, 0) = p at *
  generalize (ieff ths os).getD (ifirst ths os).toNat (0, 0, 0) = q at *
  simp
  omega

set_option maxRecDepth 100000 in
set_option maxHeartbeats 4000000 in
theorem law_idealfirst (tick : Int) (A : Option Addr) (n c : Nat) (ths : List TH) (B : Option Addr) (nb cb : Nat) (os : List Int) (P : Option Addr) (np cp : Nat) (F : Option Addr) (nf cf : Nat) (who : Int) (w : World) (h : ViewArg w A n ths B nb os) (_ : I64 who) :
    Calls Try.prog 3 #[.agg #[.int .i64 tick, .slice A n c, .slice B nb cb, .slice P np cp, .slice F nf cf], .int .i64 who] w fun e w' => e = .returned (.bool true) ∧ Below w.heap.size w w' := by
  have HV := Lib.hid h
  have HL := Lib.hid h.len
  have oV := Own.new w 26 [.int .i64 tick, .slice A n c, .slice B nb cb, .slice P np cp, .slice F nf cf]
  have hb0 : Ext w (w.alloc (.cells #[.int .i64 tick, .slice A n c, .slice B nb cb, .slice P np cp, .slice F nf cf] 26)) := Ext.alloc _ _
  clear h
  go_enter Try.func3, Try.ntmps3
  go_wp2_with fail
  refine (l_igreat tick A n c B nb cb P np cp F nf cf ths os _ (HV.out.keep hb0)).mono ?_
  rintro e w1 ⟨⟨b, rfl, h25⟩, bW⟩
  have oV1 := oV.keep bW
  have v0 := oV1.cell 0
  have v1 := oV1.cell 1
  have v2 := oV1.cell 2
  have v3 := oV1.cell 3
  have v4 := oV1.cell 4
  simp only [List.getElem?_cons_zero, List.getElem?_cons_succ] at v0 v1 v2 v3 v4
  replace bW := Ext.trans hb0 bW
  clear oV oV1 hb0
  cases b with
  | true =>
    go_wp2_with ((with_reducible go_at_call 6); (with_reducible refine (ideal_awake _).mono ?_); rintro e w1 ⟨rfl, b1⟩; replace v0 := cell_keep b1 v0; replace v1 := cell_keep b1 v1; replace v2 := cell_keep b1 v2; replace v3 := cell_keep b1 v3; replace v4 := cell_keep b1 v4; replace bW := Ext.trans bW b1; clear b1)
    go_ret
    exact ⟨rfl, bW⟩
  | false =>
    have hn25 := h25 rfl
    have hn : n ≤ 60000 := by omega
    have hF := fun w' h' => i_first tick A n c B nb cb P np cp F nf cf ths os w' h' hn
    have HE := Lib.hid (fun w' h' => i_effective tick A n c B nb cb P np cp F nf cf ths os w' h' hn)
    have HR := Lib.hid (fun w' h' who sec => i_right tick A n c B nb cb P np cp F nf cf ths os w' h' hn who sec)
    have HEL := Lib.hid (ieff_len ths os)
    have HRN := Lib.hid (right_none ths os)
    have HRF := Lib.hid (right_first ths os)
    have HRS := Lib.hid (right_sec ths os)
    have HRL := Lib.hid (right_low ths os)
    have HR0 := Lib.hid (right_not ths os)
    have HR1 := Lib.hid (right_one ths os)
    have hrg := ibest_rng ths (ieff ths os) ths.length
    rw [show ibest ths (ieff ths os) ths.length = ifirst ths os from rfl, HL.out] at hrg
    generalize ieff ths os = eff at *
    generalize hFK : ifirst ths os = fk at *
    clear hFK
    have HF := Lib.hid hF
    clear hF h25
    go_wp2_with fail
    refine (HF.out _ (HV.out.keep bW)).mono ?_
    rintro e w2 ⟨rfl, b1⟩
    replace bW := Ext.trans bW b1
    replace v0 := cell_keep b1 v0; replace v1 := cell_keep b1 v1; replace v2 := cell_keep b1 v2; replace v3 := cell_keep b1 v3; replace v4 := cell_keep b1 v4
    clear b1
    go_wp2_with fail
    refine (HE.out _ (HV.out.keep bW)).mono ?_
    rintro e w3 ⟨S, c', rfl, hr, b1⟩
    replace bW := Ext.trans bW b1
    replace v0 := cell_keep b1 v0; replace v1 := cell_keep b1 v1; replace v2 := cell_keep b1 v2; replace v3 := cell_keep b1 v3; replace v4 := cell_keep b1 v4
    have HRD := Lib.hid (fun w' (hb : Ext w3 w') => hr.keep hb)
    clear b1 hr
    have bX := Ext.refl w3
    have c1 := fun w' h' => HR.out w' h' (-1) false
    rw [HRN.out] at c1
    by_cases hneg : fk < 0
    · obtain rfl : fk = -1 := by omega
      have C1 := Lib.hid c1
      clear c1 hneg hrg
      go_wp2_with (first | ((with_reducible go_at_call 9); (with_reducible refine (C1.out _ (HV.out.keep bW)).mono ?_); rintro e w1 ⟨rfl, b1⟩; replace v0 := cell_keep b1 v0; replace v1 := cell_keep b1 v1; replace v2 := cell_keep b1 v2; replace v3 := cell_keep b1 v3; replace v4 := cell_keep b1 v4; replace bW := Ext.trans bW b1; clear b1) | ((with_reducible go_at_call 6); (with_reducible refine (ideal_awake _).mono ?_); rintro e w1 ⟨rfl, b1⟩; replace v0 := cell_keep b1 v0; replace v1 := cell_keep b1 v1; replace v2 := cell_keep b1 v2; replace v3 := cell_keep b1 v3; replace v4 := cell_keep b1 v4; replace bW := Ext.trans bW b1; clear b1))
      go_ret
      exact ⟨rfl, bW⟩
    · obtain ⟨m, rfl⟩ : ∃ m : Nat, fk = (m : Int) := ⟨fk.toNat, by omega⟩
      have hmn : m < n := by omega
      have j0 : (0 : Int) ≤ (m : Int) := by omega
      have j1 : (m : Int) < (n : Int) := by omega
      have hd : (!decide (0 ≤ (m : Int))) = false := by simp
      rw [hd] at c1
      have C1 := Lib.hid c1
      have c2 := fun w' h' => HR.out w' h' (m : Int) false
      rw [HRF.out (by omega)] at c2
      have C2 := Lib.hid c2
      clear c1 c2 hneg hrg hd
      go_wp2_with (first | ((with_reducible go_at_call 9); (with_reducible refine (C1.out _ (HV.out.keep bW)).mono ?_); rintro e w1 ⟨rfl, b1⟩; replace v0 := cell_keep b1 v0; replace v1 := cell_keep b1 v1; replace v2 := cell_keep b1 v2; replace v3 := cell_keep b1 v3; replace v4 := cell_keep b1 v4; replace bX := Ext.trans bX b1; replace bW := Ext.trans bW b1; clear b1) | ((with_reducible go_at_call 9); (with_reducible refine (C2.out _ (HV.out.keep bW)).mono ?_); rintro e w1 ⟨rfl, b1⟩; replace v0 := cell_keep b1 v0; replace v1 := cell_keep b1 v1; replace v2 := cell_keep b1 v2; replace v3 := cell_keep b1 v3; replace v4 := cell_keep b1 v4; replace bX := Ext.trans bX b1; replace bW := Ext.trans bW b1; clear b1))
      refine (low_any who (n : Int) _ (by omega) (by omega)).mono ?_
      rintro e w5 ⟨rfl, rfl⟩
      have l0 := low_lo who (n : Int) (by omega)
      have l1 := low_hi who (n : Int) (by omega)
      generalize low who (n : Int) = li at *
      obtain ⟨i, rfl⟩ : ∃ i : Nat, li = (i : Int) := ⟨li.toNat, by omega⟩
      have hil : i < ths.length := by rw [HL.out]; omega
      have hml : m < ths.length := by rw [HL.out]; exact hmn
      obtain ⟨b, off, rfl, he⟩ := (HV.out.keep bW).thread hil
      have d5 := he 5 _ (HV.out.ok _ (List.getElem_mem hil)).s
      have hsv : stOf ths i = ths[i].st := by simp [stOf, hil]
      rw [← hsv] at d5
      clear he hsv
      obtain ⟨eb, eo, rfl, k0, k1, k2⟩ := (HRD.out _ bX).trip (k := i) (by rw [HEL.out]; exact hil)
      obtain ⟨_, _, eS, m0, m1, m2⟩ := (HRD.out _ bX).trip (k := m) (by rw [HEL.out]; exact hml)
      injection eS with eS; injection eS with x1 x2
      subst x1; subst x2
      have hg1 : eff.getD i (0, 0, 0) = eff[i]'(by rw [HEL.out]; exact hil) := by simp [HEL.out, hil]
      have hg2 : eff.getD m (0, 0, 0) = eff[m]'(by rw [HEL.out]; exact hml) := by simp [HEL.out, hml]
      have c5 := fun w' h' => HR.out w' h' (i : Int) true
      rw [HRS.out] at c5
      have c6 := fun w' h' => HR.out w' h' (-2) false
      rw [HRL.out] at c6
      have c7 := fun w' h' => HR.out w' h' (i : Int) false
      have C5 := Lib.hid c5
      have C6 := Lib.hid c6
      clear c5 c6 C1 C2
      by_cases hst : stOf ths i = 1
      · rw [HR1.out i hil hst, Int.toNat_natCast, hg1, hg2] at c7
        rw [hst] at d5
        clear hg1 hg2
        generalize eff[i]'(by rw [HEL.out]; exact hil) = p at *
        generalize eff[m]'(by rw [HEL.out]; exact hml) = q at *
        obtain ⟨p1, p2, p3⟩ := p
        obtain ⟨q1, q2, q3⟩ := q
        simp only at k0 k1 k2 m0 m1 m2
        simp only [pc] at c7
        have hx := fun w => prio_compare p1 p2 p3 q1 q2 q3 w
        generalize pcmp p1 p2 p3 q1 q2 q3 = x at *
        have HX := Lib.hid hx
        clear hx hst
        cases hq : (x == 0)
        all_goals
          rw [hq] at c7
          have C7 := Lib.hid c7
          clear c7
          go_wp2
          refine wp_region_dep (S := Ext) (C := Ext (w1)) (by kernel_rfl) (by kernel_rfl) rfl Ext.refl (Ext.drew _) ?_
          repeat (refine dep_det (by rfl) (fun K hK => ?_); go_simp; first
            | ((with_reducible refine hK _ ?_); clear hK K)
            | (rw [if_neg (by decide)]; (with_reducible refine hK _ ?_); clear hK K)
            | (refine ⟨_, fun w1 hw1 => ⟨Ext.refl w1, hw1, rfl⟩, hK _ ?_⟩; clear hK K)
            | (apply Exists.intro; refine ⟨fun w1 hw1 => ?_, hK _ ?_⟩
               first
                 | (go_at_call 11; refine (HX.out _).mono ?_; rintro e w' ⟨rfl, hb'⟩; exact ⟨_, rfl, hb', Ext.trans hw1 hb', rfl⟩)
                 | (have c_v1 := cell_keep hw1 v1; have c_d5 := cell_keep hw1 d5; have c_k0 := cell_keep hw1 k0; have c_k1 := cell_keep hw1 k1; have c_k2 := cell_keep hw1 k2; have c_m0 := cell_keep hw1 m0; have c_m1 := cell_keep hw1 m1; have c_m2 := cell_keep hw1 m2; go_simp; first | exact ⟨Ext.refl _, hw1, rfl⟩ | exact ⟨Ext.refl _, rfl⟩)
               clear hK K))
          refine dep_nil ?_
          intro a' w' hC hE
          obtain rfl := atEnd_nil hE
          clear hE
          replace bW := Ext.trans bW hC
          replace v0 := cell_keep hC v0; replace v1 := cell_keep hC v1; replace v2 := cell_keep hC v2; replace v3 := cell_keep hC v3; replace v4 := cell_keep hC v4
          clear hC
          go_wp2_with (first | ((with_reducible go_at_call 9); (with_reducible refine (C7.out _ (HV.out.keep bW)).mono ?_); rintro e w1 ⟨rfl, b1⟩; replace v0 := cell_keep b1 v0; replace v1 := cell_keep b1 v1; replace v2 := cell_keep b1 v2; replace v3 := cell_keep b1 v3; replace v4 := cell_keep b1 v4; replace bW := Ext.trans bW b1; clear b1) | ((with_reducible go_at_call 9); (with_reducible refine (C6.out _ (HV.out.keep bW)).mono ?_); rintro e w1 ⟨rfl, b1⟩; replace v0 := cell_keep b1 v0; replace v1 := cell_keep b1 v1; replace v2 := cell_keep b1 v2; replace v3 := cell_keep b1 v3; replace v4 := cell_keep b1 v4; replace bW := Ext.trans bW b1; clear b1) | ((with_reducible go_at_call 9); (with_reducible refine (C5.out _ (HV.out.keep bW)).mono ?_); rintro e w1 ⟨rfl, b1⟩; replace v0 := cell_keep b1 v0; replace v1 := cell_keep b1 v1; replace v2 := cell_keep b1 v2; replace v3 := cell_keep b1 v3; replace v4 := cell_keep b1 v4; replace bW := Ext.trans bW b1; clear b1) | ((with_reducible go_at_call 6); (with_reducible refine (ideal_awake _).mono ?_); rintro e w1 ⟨rfl, b1⟩; replace v0 := cell_keep b1 v0; replace v1 := cell_keep b1 v1; replace v2 := cell_keep b1 v2; replace v3 := cell_keep b1 v3; replace v4 := cell_keep b1 v4; replace bW := Ext.trans bW b1; clear b1))
          go_ret
          exact ⟨rfl, bW⟩
      · rw [HR0.out i hst] at c7
        have hsb : (stOf ths i == 1) = false := by simp [hst]
        have C7 := Lib.hid c7
        clear c7 hg1 hg2 hst k0 k1 k2 m0 m1 m2
        go_wp2
        refine wp_region_dep (S := Ext) (C := Ext (w1)) (by kernel_rfl) (by kernel_rfl) rfl Ext.refl (Ext.drew _) ?_
        repeat (refine dep_det (by rfl) (fun K hK => ?_); go_simp; first
          | ((with_reducible refine hK _ ?_); clear hK K)
          | (rw [if_neg (by decide)]; (with_reducible refine hK _ ?_); clear hK K)
          | (refine ⟨_, fun w1 hw1 => ⟨Ext.refl w1, hw1, rfl⟩, hK _ ?_⟩; clear hK K)
          | (apply Exists.intro; refine ⟨fun w1 hw1 => ?_, hK _ ?_⟩
             first
               | (have c_v1 := cell_keep hw1 v1; have c_d5 := cell_keep hw1 d5; go_simp; first | exact ⟨Ext.refl _, hw1, rfl⟩ | exact ⟨Ext.refl _, rfl⟩)
             clear hK K))
        refine dep_nil ?_
        intro a' w' hC hE
        obtain rfl := atEnd_nil hE
        clear hE
        replace bW := Ext.trans bW hC
        replace v0 := cell_keep hC v0; replace v1 := cell_keep hC v1; replace v2 := cell_keep hC v2; replace v3 := cell_keep hC v3; replace v4 := cell_keep hC v4
        clear hC
        go_wp2_with (first | ((with_reducible go_at_call 9); (with_reducible refine (C7.out _ (HV.out.keep bW)).mono ?_); rintro e w1 ⟨rfl, b1⟩; replace v0 := cell_keep b1 v0; replace v1 := cell_keep b1 v1; replace v2 := cell_keep b1 v2; replace v3 := cell_keep b1 v3; replace v4 := cell_keep b1 v4; replace bW := Ext.trans bW b1; clear b1) | ((with_reducible go_at_call 9); (with_reducible refine (C6.out _ (HV.out.keep bW)).mono ?_); rintro e w1 ⟨rfl, b1⟩; replace v0 := cell_keep b1 v0; replace v1 := cell_keep b1 v1; replace v2 := cell_keep b1 v2; replace v3 := cell_keep b1 v3; replace v4 := cell_keep b1 v4; replace bW := Ext.trans bW b1; clear b1) | ((with_reducible go_at_call 9); (with_reducible refine (C5.out _ (HV.out.keep bW)).mono ?_); rintro e w1 ⟨rfl, b1⟩; replace v0 := cell_keep b1 v0; replace v1 := cell_keep b1 v1; replace v2 := cell_keep b1 v2; replace v3 := cell_keep b1 v3; replace v4 := cell_keep b1 v4; replace bW := Ext.trans bW b1; clear b1) | ((with_reducible go_at_call 6); (with_reducible refine (ideal_awake _).mono ?_); rintro e w1 ⟨rfl, b1⟩; replace v0 := cell_keep b1 v0; replace v1 := cell_keep b1 v1; replace v2 := cell_keep b1 v2; replace v3 := cell_keep b1 v3; replace v4 := cell_keep b1 v4; replace bW := Ext.trans bW b1; clear b1))
        go_ret
        exact ⟨rfl, bW⟩

end Go.Proofs.Ytpaoolcnoflhiaa
