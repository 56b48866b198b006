/-
  WALKS of package ideal: Right.
-/
import Derived.Test.YtpaoolcnoflhiaaIdlD
namespace Go.Proofs.Ytpaoolcnoflhiaa
open Go.RowKit
attribute [local go_sem] depUpon Sp.ok

def iright (ths : List TH) (os : List Int) (who : Int) (sec : Bool) : Bool :=
  if sec = true ∨ who < -1 then true
  else if who = -1 then !decide (0 ≤ ifirst ths os)
  else if (ths.length : Int) ≤ who ∨ stOf ths who.toNat ≠ 1 then false
  else decide (pc ((ieff ths os).getD (ifirst ths os).toNat (0, 0, 0)) ((ieff ths os).getD who.toNat (0, 0, 0)) ≤ 0)
theorem ready_first (ths : List TH) (eff : List P3) : ∀ (m k : Nat), k < m → stOf ths k = 1 → 0 ≤ ibest ths eff m
  | 0, _, h, _ => by omega
  | m + 1, k, hk, hs => by
    unfold ibest
    by_cases hb : ibetter ths eff m (ibest ths eff m)
    · rw [if_pos hb]; omega
    · rw [if_neg hb]
      rcases Nat.lt_succ_iff_lt_or_eq.1 hk with h | rfl
      · exact ready_first ths eff m k h hs
      · by_cases hneg : ibest ths eff k < 0
        · exact absurd ⟨hs, .inl hneg⟩ hb
        · omega

set_option maxRecDepth 100000 in
set_option maxHeartbeats 4000000 in
theorem i_right (tick : Int) (A : Option Addr) (n c : Nat) (B : Option Addr) (nb cb : Nat) (P : Option Addr) (np cp : Nat) (F : Option Addr) (nf cf : Nat) (ths : List TH) (os : List Int) (w : World) (h : ViewArg w A n ths B nb os) (hn : n ≤ 60000) (who : Int) (sec : Bool) :
    Calls Try.prog 9 #[.agg #[.int .i64 tick, .slice A n c, .slice B nb cb, .slice P np cp, .slice F nf cf], .agg #[.int .i64 who, .bool sec]] w fun e w' => e = .returned (.bool (iright ths os who sec)) ∧ Below w.heap.size w w' := by
  have HV := Lib.hid h
  have HL := Lib.hid h.len
  have oV := (Own.new w 26 [.int .i64 tick, .slice A n c, .slice B nb cb, .slice P np cp, .slice F nf cf]).alloc (.cells #[.int .i64 who, .bool sec] 35)
  have oR := Own.new (w.alloc (.cells #[.int .i64 tick, .slice A n c, .slice B nb cb, .slice P np cp, .slice F nf cf] 26)) 35 [.int .i64 who, .bool sec]
  rw [World.size_alloc] at oR
  have hb0 : Ext w ((w.alloc (.cells #[.int .i64 tick, .slice A n c, .slice B nb cb, .slice P np cp, .slice F nf cf] 26)).alloc (.cells #[.int .i64 who, .bool sec] 35)) := Ext.trans (Ext.alloc _ _) (Ext.alloc _ _)
  by_cases hs : sec = true ∨ who < -1
  · have hv : iright ths os who sec = true := by unfold iright; rw [if_pos hs]
    rw [hv]
    clear hv HV HL h oV oR
    by_cases hsec : sec = true
    · subst hsec
      clear hs
      go_enter Try.func9, Try.ntmps9
      go_wp2
      go_ret
      exact ⟨rfl, hb0⟩
    · have hsf : sec = false := by simpa using hsec
      subst hsf
      have hw : who < -1 := by simpa using hs
      clear hs hsec
      go_enter Try.func9, Try.ntmps9
      go_wp2
      go_ret
      exact ⟨rfl, hb0⟩
  have hsf : sec = false := by
    cases sec
    · rfl
    · exact absurd (.inl rfl) hs
  subst hsf
  have hw : ¬ who < -1 := fun h => hs (.inr h)
  have HF := Lib.hid (fun w' h' => i_first tick A n c B nb cb P np cp F nf cf ths os w' h' hn)
  have HE := Lib.hid (fun w' h' => i_effective tick A n c B nb cb P np cp F nf cf ths os w' h' hn)
  have HEL := Lib.hid (ieff_len ths os)
  by_cases hm1 : who = -1
  · have hv : iright ths os who false = !decide (0 ≤ ifirst ths os) := by unfold iright; rw [if_neg hs, if_pos hm1]
    rw [hv]
    subst hm1
    clear hv hs HE
    generalize ifirst ths os = fk at *
    go_enter Try.func9, Try.ntmps9
    go_wp2_with fail
    refine (HF.out _ (HV.out.keep hb0)).mono ?_
    rintro e w1 ⟨rfl, hb⟩
    have r0 := (oR.keep hb).cell 0
    simp only [List.getElem?_cons_zero] at r0
    have e1 := Ext.trans hb0 hb
    clear oV oR hb
    go_wp2
    go_ret
    exact ⟨rfl, e1⟩
  have hm1' : (who == -1) = false := by simp [hm1]
  obtain ⟨m, rfl⟩ : ∃ m : Nat, who = (m : Int) := ⟨who.toNat, by omega⟩
  by_cases hge : (n : Int) ≤ (m : Int)
  · have hv : iright ths os (m : Int) false = false := by unfold iright; rw [if_neg hs, if_neg hm1, if_pos (.inl (by rw [h.len]; exact hge))]
    rw [hv]
    clear hv hs HE hm1 h
    generalize ifirst ths os = fk at *
    go_enter Try.func9, Try.ntmps9
    go_wp2_with fail
    refine (HF.out _ (HV.out.keep hb0)).mono ?_
    rintro e w1 ⟨rfl, hb⟩
    have r0 := (oR.keep hb).cell 0
    have v1 := (oV.keep hb).cell 1
    simp only [List.getElem?_cons_zero, List.getElem?_cons_succ] at r0 v1
    have e1 := Ext.trans hb0 hb
    clear oV oR hb
    go_wp2
    go_ret
    exact ⟨rfl, e1⟩
  have i0' : (0 : Int) ≤ (m : Int) := by omega
  have i1' : (m : Int) < (n : Int) := by omega
  have hkl : m < ths.length := by rw [HL.out]; omega
  obtain ⟨b, off, rfl, he⟩ := h.thread hkl
  have hX := (h.ok _ (List.getElem_mem hkl)).s
  have c5 := he 5 _ hX
  have hsv : stOf ths m = ths[m].st := by simp [stOf, hkl]
  clear he hX
  by_cases hst : stOf ths m = 1
  · have hv : iright ths os (m : Int) false = decide (pc ((ieff ths os).getD (ifirst ths os).toNat (0, 0, 0)) ((ieff ths os).getD m (0, 0, 0)) ≤ 0) := by
      unfold iright
      rw [if_neg hs, if_neg hm1, if_neg (by rw [HL.out]; intro h; rcases h with h | h; exact hge h; exact h (by simpa using hst))]
      simp
    have h0 : 0 ≤ ifirst ths os := ready_first ths _ ths.length m hkl hst
    have h1 : ifirst ths os < ths.length := (ibest_rng ths (ieff ths os) ths.length).2
    rw [hv]
    rw [← hsv, hst] at c5
    clear hv hs hm1 h hst hsv hw
    generalize hFK : ifirst ths os = fk at *
    clear hFK
    obtain ⟨f, rfl⟩ : ∃ f : Nat, fk = (f : Int) := ⟨fk.toNat, by omega⟩
    have hfl : f < ths.length := by omega
    have f0 : (0 : Int) ≤ (f : Int) := h0
    have f1 : (f : Int) < (n : Int) := by rw [← HL.out]; exact h1
    generalize ieff ths os = eff at *
    have hg1 : eff.getD (f : Int).toNat (0, 0, 0) = eff[f]'(by rw [HEL.out]; exact hfl) := by simp [HEL.out, hfl]
    have hg2 : eff.getD m (0, 0, 0) = eff[m]'(by rw [HEL.out]; exact hkl) := by simp [HEL.out, hkl]
    rw [hg1, hg2]
    clear hg1 hg2 h0 h1
    generalize hpp : eff[f]'(by rw [HEL.out]; exact hfl) = p
    generalize hqq : eff[m]'(by rw [HEL.out]; exact hkl) = q
    obtain ⟨p1, p2, p3⟩ := p
    obtain ⟨q1, q2, q3⟩ := q
    have HPP := Lib.hid hpp
    have HQQ := Lib.hid hqq
    clear hpp hqq
    go_enter Try.func9, Try.ntmps9
    go_wp2_with fail
    refine (HF.out _ (HV.out.keep hb0)).mono ?_
    rintro e w1 ⟨rfl, hb⟩
    have e1 := Ext.trans hb0 hb
    have oV1 := oV.keep hb
    have oR1 := oR.keep hb
    have r0 := oR1.cell 0
    have v1 := oV1.cell 1
    have v0 := oV1.cell 0
    have v2 := oV1.cell 2
    have v3 := oV1.cell 3
    have v4 := oV1.cell 4
    simp only [List.getElem?_cons_zero, List.getElem?_cons_succ] at r0 v0 v1 v2 v3 v4
    have d5 := cell_keep e1 c5
    clear oV oR hb c5
    go_wp2_with fail
    refine (HE.out _ (HV.out.keep e1)).mono ?_
    rintro e w2 ⟨S, c', rfl, hr, hb⟩
    have e2 := Ext.trans e1 hb
    replace r0 := cell_keep hb r0
    obtain ⟨eb, eo, rfl, k0, k1, k2⟩ := hr.trip (k := f) (by rw [HEL.out]; exact hfl)
    obtain ⟨_, _, eS, m0, m1, m2⟩ := hr.trip (k := m) (by rw [HEL.out]; exact hkl)
    injection eS with eS; injection eS with x1 x2
    subst x1; subst x2
    clear hr oV1 oR1 v0 v1 v2 v3 v4 d5 hb
    rw [HPP.out] at k0 k1 k2
    rw [HQQ.out] at m0 m1 m2
    simp only at k0 k1 k2 m0 m1 m2
    clear HPP HQQ
    go_wp2
    refine wp_region_dep (S := Ext) (C := Ext (w2)) (by kernel_rfl) (by kernel_rfl) rfl Ext.refl (Ext.drew _) ?_
    repeat (refine dep_det (by rfl) (fun K hK => ?_); go_simp; first
      | ((with_reducible refine hK _ ?_); clear hK K)
      | (rw [if_neg (by decide)]; (with_reducible refine hK _ ?_); clear hK K)
      | (refine ⟨_, fun w1 hw1 => ⟨Ext.refl w1, hw1, rfl⟩, hK _ ?_⟩; clear hK K)
      | (apply Exists.intro; refine ⟨fun w1 hw1 => ?_, hK _ ?_⟩
         first
           | (go_at_call 11; refine (prio_compare _ _ _ _ _ _ _).mono ?_; rintro e w' ⟨rfl, hb'⟩; exact ⟨_, rfl, hb', Ext.trans hw1 hb', rfl⟩)
           | (have c_r0 := cell_keep hw1 r0; have c_k0 := cell_keep hw1 k0; have c_k1 := cell_keep hw1 k1; have c_k2 := cell_keep hw1 k2; have c_m0 := cell_keep hw1 m0; have c_m1 := cell_keep hw1 m1; have c_m2 := cell_keep hw1 m2; go_simp; first | exact ⟨Ext.refl _, hw1, rfl⟩ | exact ⟨Ext.refl _, rfl⟩)
         clear hK K))
    refine dep_nil ?_
    intro a' w' hC hE
    obtain rfl := atEnd_nil hE
    clear hE
    go_wp2
    go_ret
    exact ⟨rfl, Ext.trans e2 hC⟩
  · have hv : iright ths os (m : Int) false = false := by unfold iright; rw [if_neg hs, if_neg hm1, if_pos (.inr (by simpa using hst))]
    rw [hv]
    rw [← hsv] at c5
    have hsb : (stOf ths m != 1) = true := by simp [hst]
    generalize stOf ths m = st at *
    clear hv hs HE hm1 h hsv hst
    generalize ifirst ths os = fk at *
    go_enter Try.func9, Try.ntmps9
    go_wp2_with fail
    refine (HF.out _ (HV.out.keep hb0)).mono ?_
    rintro e w1 ⟨rfl, hb⟩
    have r0 := (oR.keep hb).cell 0
    have v1 := (oV.keep hb).cell 1
    simp only [List.getElem?_cons_zero, List.getElem?_cons_succ] at r0 v1
    have e1 := Ext.trans hb0 hb
    have d5 := cell_keep e1 c5
    clear oV oR hb c5
    go_wp2
    go_ret
    exact ⟨rfl, e1⟩

end Go.Proofs.Ytpaoolcnoflhiaa
