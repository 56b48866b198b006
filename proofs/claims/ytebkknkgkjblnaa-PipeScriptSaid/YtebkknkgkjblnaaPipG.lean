/-
  PIPES: Close.
-/
import Derived.Test.YtebkknkgkjblnaaPipF
namespace Go.Proofs.Ytebkknkgkjblnaa
open Go.RowKit Go.Maps
attribute [local go_sem] depUpon Sp.ok

def clsV (x : PP) (b : Bool) : Int := if endV x b = 0 then 4 else 0
def cls1 (x : PP) (b : Bool) : PP := setEnd x b (endV x b - 1)
def clsT (T : PT) (j : Nat) (x : PP) (b : Bool) : PT := if endV x b = 0 then T else if (cls1 x b).r = 0 ∧ (cls1 x b).w = 0 then upd T j none else upd T j (some (cls1 x b))
def clsL (p : FP) (L : List Pc) (x : PP) (b : Bool) : FP × List Pc := if endV x b = 0 then (p, L) else if (cls1 x b).r = 0 ∧ (cls1 x b).w = 0 then giveL p L x.f x.i x.z else (p, L)
theorem upd_upd (T : PT) (j : Nat) (a b : Option PP) : upd (upd T j a) j b = upd T j b := by
  funext k
  unfold upd
  split <;> rfl

set_option maxRecDepth 100000 in
set_option maxHeartbeats 8000000 in
theorem pw_close (B g gs gf : Nat) (p : FP) (L : List Pc) (T : PT) (P : Nat → Prop) (j : Nat) (x : PP) (b : Bool) (w : World) (h : PW w B g gs gf p L T P) (hj : j < 4) (hl : T j = some x) (hB : B ≤ w.heap.size) :
    Calls Try.prog 17 #[.pointer (some ⟨g, 0, none⟩), .int .i64 (j : Int), .bool b] w fun e w' => e = .returned (.int .i64 (clsV x b)) ∧ ∃ P', PW w' B g gs gf (clsL p L x b).1 (clsL p L x b).2 (clsT T j x b) P' ∧ Tr w w' P P' := by
  obtain ⟨ad, A, P1, h1, h2, rfl⟩ := h
  have HF := Lib.hid (p_find B g gs ad A T j x w h1 hj hl)
  have hok := (h1.ok j x hj hl).1
  have hr0 := hok.r0
  have hw0 := hok.w0
  have hr1 := hok.r1
  have hw1 := hok.w1
  have hf64 := hok.f64
  have hi64 := hok.i64
  have v4 := (h1.pip j x hj hl).cell 4
  have v5 := (h1.pip j x hj hl).cell 5
  simp only [pcs, List.getElem?_cons_zero, List.getElem?_cons_succ] at v4 v5
  have HEN := Lib.hid (fun w => p_end b w)
  have HV := Lib.hid (show clsV x b = if endV x b = 0 then 4 else 0 from rfl)
  have HT := Lib.hid (show clsT T j x b = if endV x b = 0 then T else if (cls1 x b).r = 0 ∧ (cls1 x b).w = 0 then upd T j none else upd T j (some (cls1 x b)) from rfl)
  have HL := Lib.hid (show clsL p L x b = if endV x b = 0 then (p, L) else if (cls1 x b).r = 0 ∧ (cls1 x b).w = 0 then giveL p L x.f x.i x.z else (p, L) from rfl)
  have HH := Lib.hid (And.intro h1 h2)
  have HLX := Lib.hid hl
  clear h1 h2 hl hok
  have j0' : (0 : Int) ≤ (j : Int) := by omega
  have j1' : (j : Int) < 4 := by omega
  cases b
  · rw [show ((endI false : Nat) : Int) = 0 from rfl] at HEN
    rw [show endV x false = x.r from rfl] at HV HT HL
    go_enter Try.func17, Try.ntmps17
    go_upto_region 4 with ((with_reducible go_at_call 39); (with_reducible refine (HF.out).mono ?_); rintro e w' ⟨rfl, rfl⟩)
    refine wp_region_dep (S := Ext) (C := Ext (w)) (by kernel_rfl) (by kernel_rfl) rfl Ext.refl (Ext.drew _) ?_
    repeat (refine dep_det (by rfl) (fun K hK => ?_); go_simp; first
      | ((with_reducible refine hK _ ?_); clear hK K)
      | (rw [if_neg (by decide)]; (with_reducible refine hK _ ?_); clear hK K)
      | (refine ⟨_, fun w1 hw1 => ⟨Ext.refl w1, hw1, rfl⟩, hK _ ?_⟩; clear hK K)
      | (apply Exists.intro; refine ⟨fun w1 hw1 => ?_, hK _ ?_⟩
         first
           | (have c_v4 := cell_keep hw1 v4; go_simp; first | exact ⟨Ext.refl _, hw1, rfl⟩ | exact ⟨Ext.refl _, rfl⟩)
           | (go_at_call 42; ((with_reducible refine (HEN.out _).mono ?_); rintro e w' ⟨rfl, rfl⟩; exact ⟨_, rfl, Ext.refl _, hw1, rfl⟩))
         clear hK K))
    refine dep_nil ?_
    intro a' w' hC hE
    obtain rfl := atEnd_nil hE
    clear hE
    replace v4 := cell_keep hC v4
    replace v5 := cell_keep hC v5
    have HC1 := Lib.hid hC
    clear hC
    by_cases h0 : x.r = 0
    · have t0 : (x.r == 0) = true := by simp [h0]
      have HV' := Lib.hid (show clsV x false = 4 by rw [HV.out, if_pos h0])
      have HT' := Lib.hid (show clsT T j x false = T by rw [HT.out, if_pos h0])
      have HL' := Lib.hid (show clsL p L x false = (p, L) by rw [HL.out, if_pos h0])
      clear h0
      go_wp2
      go_ret
      exact ⟨by rw [HV'.out]; rfl, _, by rw [HT'.out, HL'.out]; exact ⟨ad, A, P1, HH.out.1.keep HC1.out, HH.out.2.keep HC1.out, rfl⟩, Tr.ext HC1.out⟩
    have t0 : (x.r == 0) = false := by simp [h0]
    have HV' := Lib.hid (show clsV x false = 0 by rw [HV.out, if_neg h0])
    have HT' := Lib.hid (show clsT T j x false = if (cls1 x false).r = 0 ∧ (cls1 x false).w = 0 then upd T j none else upd T j (some (cls1 x false)) by rw [HT.out, if_neg h0])
    have HL' := Lib.hid (show clsL p L x false = if (cls1 x false).r = 0 ∧ (cls1 x false).w = 0 then giveL p L x.f x.i x.z else (p, L) by rw [HL.out, if_neg h0])
    have hw : IntKind.i64.wrap (x.r - 1) = x.r - 1 := IntWalk.i64_in _ ⟨by omega, by omega⟩
    have HO' := Lib.hid (fun w2 (hb' : Ext w w2) => show PM (w2.setCell ⟨ad j, 4, none⟩ (.int .i64 (x.r - 1))) B g gs ad A (upd T j (some (cls1 x false))) ∧ Tr w2 (w2.setCell ⟨ad j, 4, none⟩ (.int .i64 (x.r - 1))) (PB g ad A T) (PB g ad A (upd T j (some (cls1 x false)))) from
      (HH.out.1.keep hb').endSet hj HLX.out false (x.r - 1) (by omega) (by omega))
    have HFZ' := Lib.hid (fun w2 (hb' : Ext w w2) => show w2.frozen? ⟨ad j, 4, none⟩ = false from ((HH.out.1.pip j x hj HLX.out).keep hb').frozen 4)
    clear h0 HV HT HL
    go_upto_region 6 with fail
    refine wp_region_dep_tail 11 (S := Ext) (C := Ext (w')) (by kernel_rfl) (by kernel_rfl) rfl Ext.refl (Ext.drew _) ?_
    simp only [List.take_succ_cons, List.take_zero]
    repeat (refine dep_det (by rfl) (fun K hK => ?_); go_simp; first
      | ((with_reducible refine hK _ ?_); clear hK K)
      | (rw [if_neg (by decide)]; (with_reducible refine hK _ ?_); clear hK K)
      | (refine ⟨_, fun w1 hw1 => ⟨Ext.refl w1, hw1, rfl⟩, hK _ ?_⟩; clear hK K)
      | (apply Exists.intro; refine ⟨fun w1 hw1 => ?_, hK _ ?_⟩
         first
           | (have c_v4 := cell_keep hw1 v4; go_simp; first | exact ⟨Ext.refl _, hw1, rfl⟩ | exact ⟨Ext.refl _, rfl⟩)
           | (go_at_call 42; ((with_reducible refine (HEN.out _).mono ?_); rintro e w' ⟨rfl, rfl⟩; exact ⟨_, rfl, Ext.refl _, hw1, rfl⟩))
         clear hK K))
    refine dep_nil ?_
    intro a' wy hC hE
    obtain rfl := atEnd_nil hE
    clear hE
    simp only [List.drop_succ_cons, List.drop_zero]
    have hC2 := Ext.trans HC1.out hC
    have q4 := cell_keep hC v4
    have f4 := HFZ'.out _ hC2
    obtain ⟨m1, m2⟩ := HO'.out _ hC2
    have M2 := Lib.hid m1
    have S2 := Lib.hid ((HH.out.2.keep hC2).other m2 (fun i hi q => (HH.out.1.keep hC2).apart (HH.out.2.keep hC2) i q hi))
    have T2 := Lib.hid ((Tr.ext (P := Un (PB g ad A T) P1) hC2).trans (m2.mono (Q := Un (PB g ad A T) P1) (Q' := Un (PB g ad A (upd T j (some (cls1 x false)))) P1) (fun _ q => .inl q) (fun i q => by
      rcases q with q | q
      · exact .inl q
      · exact .inr (.inl (.inr q)))))
    clear m1 m2 v4 v5 hC hC2 HC1 HFZ' HO'
    go_upto_region 7 with fail
    generalize wy.setCell { block := ad j, off := 4 } (Value.int IntKind.i64 (x.r - 1)) = w2 at *
    have hp1 := M2.out.pip j (cls1 x false) hj (upd_at ..)
    have c4 := hp1.cell 4
    have c5 := hp1.cell 5
    have c0 := hp1.cell 0
    have c1 := hp1.cell 1
    have c2 := hp1.cell 2
    simp only [pcs, List.getElem?_cons_zero, List.getElem?_cons_succ] at c0 c1 c2 c4 c5
    have c0' : w2.cell? ⟨ad j, 0, none⟩ = some (.int .i64 x.f) := c0
    have c1' : w2.cell? ⟨ad j, 1, none⟩ = some (.int .i64 x.i) := c1
    have c2' : w2.cell? ⟨ad j, 2, none⟩ = some (.int .i64 x.z) := c2
    have HC := Lib.hid (show ∀ q v, ([.int .i64 (cls1 x false).r, .int .i64 (cls1 x false).w] : List Value)[q]? = some v → w2.cell? ⟨ad j, 4 + q, none⟩ = some v from fun q v hq => by
      match q, hq with
      | 0, hq => rw [← hq]; exact c4
      | 1, hq => rw [← hq]; exact c5)
    have HZ := Lib.hid (fun w => run_zero2 w)
    have HQ := Lib.hid (fun u v w => run_eq2 (cls1 x false).r (cls1 x false).w u v w)
    have v0 := M2.out.s_
    have hz2 := T2.out.base.size
    clear c0 c1 c2 c4 c5 hp1 q4 f4
    by_cases hzz : (cls1 x false).r = 0 ∧ (cls1 x false).w = 0
    rotate_left
    · have HT2 := Lib.hid (show clsT T j x false = upd T j (some (cls1 x false)) by rw [HT'.out, if_neg hzz])
      have HL2 := Lib.hid (show clsL p L x false = (p, L) by rw [HL'.out, if_neg hzz])
      have hb : ((cls1 x false).r == 0 && (cls1 x false).w == 0) = false := by simp only [Bool.and_eq_false_imp, beq_iff_eq, beq_eq_false_iff_ne, ne_eq]; exact fun q1 q2 => hzz ⟨q1, q2⟩
      rw [hb] at HQ
      clear hzz hb
      generalize (cls1 x false).r = xr at *
      generalize (cls1 x false).w = xw at *
      go_wp2_with (first
        | (refine wpl_load_rd _ rfl 87 _ rfl (by kernel_rfl) 2 size_2 (ad j) 4 rfl [.int .i64 xr, .int .i64 xw] rfl HC.out ?_)
        | (refine wpl_build0 _ rfl 87 rfl _ (HZ.out _) ?_)
        | (refine wpl_bin _ rfl _ _ _ _ _ rfl _ (HQ.out _ _ _) ?_))
      go_ret
      exact ⟨by rw [HV'.out]; rfl, _, by rw [HT2.out, HL2.out]; exact ⟨ad, A, P1, M2.out, S2.out, rfl⟩, T2.out⟩
    · have HT2 := Lib.hid (show clsT T j x false = upd T j none by rw [HT'.out, if_pos hzz])
      have HL2 := Lib.hid (show clsL p L x false = giveL p L x.f x.i x.z by rw [HL'.out, if_pos hzz])
      have hb : ((cls1 x false).r == 0 && (cls1 x false).w == 0) = true := by rw [hzz.1, hzz.2]; rfl
      rw [hb] at HQ
      clear hzz hb
      have HDL := Lib.hid (fun wz A' (m : PM wz B g gs ad A' (upd T j (some (cls1 x false)))) => show PM (wz.setCell ⟨g, 1 + j, none⟩ (.pointer none)) B g gs ad A' (upd T j none) ∧ Tr wz (wz.setCell ⟨g, 1 + j, none⟩ (.pointer none)) (PB g ad A' (upd T j (some (cls1 x false)))) (PB g ad A' (upd T j none)) from by
        have := m.del hj
        rwa [upd_upd] at this)
      have HPV := Lib.hid (show pv ad (upd T j (some (cls1 x false))) j = .pointer (some ⟨ad j, 0, none⟩) from pv_some (upd_at ..))
      generalize upd T j (some (cls1 x false)) = T1 at *
      generalize (cls1 x false).r = xr at *
      generalize (cls1 x false).w = xw at *
      have HG := Lib.hid (fun w3 (b3 : Ext w2 w3) => sw_give B gs gf p L P1 x.f x.i x.z w3 (S2.out.keep b3) (by have := b3.size; omega) hf64 hi64)
      go_upto_region 8 with (first
        | (refine wpl_load_rd _ rfl 87 _ rfl (by kernel_rfl) 2 size_2 (ad j) 4 rfl [.int .i64 xr, .int .i64 xw] rfl HC.out ?_)
        | (refine wpl_build0 _ rfl 87 rfl _ (HZ.out _) ?_)
        | (refine wpl_bin _ rfl _ _ _ _ _ rfl _ (HQ.out _ _ _) ?_))
      refine wp_region_dep_tail 8 (S := Ext) (C := Ext (w2)) (by kernel_rfl) (by kernel_rfl) rfl Ext.refl (Ext.drew _) ?_
      simp only [List.take_succ_cons, List.take_zero]
      repeat (refine dep_det (by rfl) (fun K hK => ?_); go_simp; first
        | ((with_reducible refine hK _ ?_); clear hK K)
        | (rw [if_neg (by decide)]; (with_reducible refine hK _ ?_); clear hK K)
        | (refine ⟨_, fun w1 hw1 => ⟨Ext.refl w1, hw1, rfl⟩, hK _ ?_⟩; clear hK K)
        | (apply Exists.intro; refine ⟨fun w1 hw1 => ?_, hK _ ?_⟩
           first
             | (have c_v0 := cell_keep hw1 v0; have c_c0' := cell_keep hw1 c0'; have c_c1' := cell_keep hw1 c1'; have c_c2' := cell_keep hw1 c2'; go_simp; first | exact ⟨Ext.refl _, hw1, rfl⟩ | exact ⟨Ext.refl _, rfl⟩)
           clear hK K))
      refine dep_nil ?_
      intro a' w' hC hE
      obtain rfl := atEnd_nil hE
      clear hE
      simp only [List.drop_succ_cons, List.drop_zero]
      have HC3 := Lib.hid hC
      clear v0 c0' c1' c2' hC
      go_upto_region 9 with ((with_reducible go_at_call 43); (with_reducible refine (HG.out _ HC3.out).mono ?_); rintro e w4 ⟨rfl, P4, s4, t4⟩)
      have M4 := Lib.hid ((M2.out.keep HC3.out).other t4 (fun i hi q => (M2.out.keep HC3.out).apart (S2.out.keep HC3.out) i hi q))
      have S4 := Lib.hid s4
      have T4 := Lib.hid ((T2.out.stepE HC3.out).trans (t4.mono (Q := Un (PB g ad A T1) P1) (Q' := Un (PB g ad A T1) P4) (fun _ q => .inr q) (fun i q => by
        rcases q with q | q
        · exact .inr (.inl (.inl q))
        · exact .inl q)))
      have d0 := M4.out.l_ hj
      rw [HPV.out] at d0
      have d1 := M4.out.own.frozen (1 + j)
      clear s4 t4
      go_wp2
      go_ret
      obtain ⟨n1, n2⟩ := HDL.out _ _ M4.out
      refine ⟨by rw [HV'.out]; rfl, _, by rw [HT2.out, HL2.out]; exact ⟨ad, A, P4, n1, S4.out.other n2 (fun i hi q => M4.out.apart S4.out i q hi), rfl⟩, ?_⟩
      refine T4.out.trans (n2.mono (Q := Un (PB g ad A T1) P4) (fun _ q => .inl q) (fun i q => ?_))
      rcases q with q | q
      · exact .inl q
      · exact .inr (.inl (.inr q))
  · rw [show ((endI true : Nat) : Int) = 1 from rfl] at HEN
    rw [show endV x true = x.w from rfl] at HV HT HL
    go_enter Try.func17, Try.ntmps17
    go_upto_region 4 with ((with_reducible go_at_call 39); (with_reducible refine (HF.out).mono ?_); rintro e w' ⟨rfl, rfl⟩)
    refine wp_region_dep (S := Ext) (C := Ext (w)) (by kernel_rfl) (by kernel_rfl) rfl Ext.refl (Ext.drew _) ?_
    repeat (refine dep_det (by rfl) (fun K hK => ?_); go_simp; first
      | ((with_reducible refine hK _ ?_); clear hK K)
      | (rw [if_neg (by decide)]; (with_reducible refine hK _ ?_); clear hK K)
      | (refine ⟨_, fun w1 hw1 => ⟨Ext.refl w1, hw1, rfl⟩, hK _ ?_⟩; clear hK K)
      | (apply Exists.intro; refine ⟨fun w1 hw1 => ?_, hK _ ?_⟩
         first
           | (have c_v5 := cell_keep hw1 v5; go_simp; first | exact ⟨Ext.refl _, hw1, rfl⟩ | exact ⟨Ext.refl _, rfl⟩)
           | (go_at_call 42; ((with_reducible refine (HEN.out _).mono ?_); rintro e w' ⟨rfl, rfl⟩; exact ⟨_, rfl, Ext.refl _, hw1, rfl⟩))
         clear hK K))
    refine dep_nil ?_
    intro a' w' hC hE
    obtain rfl := atEnd_nil hE
    clear hE
    replace v4 := cell_keep hC v4
    replace v5 := cell_keep hC v5
    have HC1 := Lib.hid hC
    clear hC
    by_cases h0 : x.w = 0
    · have t0 : (x.w == 0) = true := by simp [h0]
      have HV' := Lib.hid (show clsV x true = 4 by rw [HV.out, if_pos h0])
      have HT' := Lib.hid (show clsT T j x true = T by rw [HT.out, if_pos h0])
      have HL' := Lib.hid (show clsL p L x true = (p, L) by rw [HL.out, if_pos h0])
      clear h0
      go_wp2
      go_ret
      exact ⟨by rw [HV'.out]; rfl, _, by rw [HT'.out, HL'.out]; exact ⟨ad, A, P1, HH.out.1.keep HC1.out, HH.out.2.keep HC1.out, rfl⟩, Tr.ext HC1.out⟩
    have t0 : (x.w == 0) = false := by simp [h0]
    have HV' := Lib.hid (show clsV x true = 0 by rw [HV.out, if_neg h0])
    have HT' := Lib.hid (show clsT T j x true = if (cls1 x true).r = 0 ∧ (cls1 x true).w = 0 then upd T j none else upd T j (some (cls1 x true)) by rw [HT.out, if_neg h0])
    have HL' := Lib.hid (show clsL p L x true = if (cls1 x true).r = 0 ∧ (cls1 x true).w = 0 then giveL p L x.f x.i x.z else (p, L) by rw [HL.out, if_neg h0])
    have hw : IntKind.i64.wrap (x.w - 1) = x.w - 1 := IntWalk.i64_in _ ⟨by omega, by omega⟩
    have HO' := Lib.hid (fun w2 (hb' : Ext w w2) => show PM (w2.setCell ⟨ad j, 5, none⟩ (.int .i64 (x.w - 1))) B g gs ad A (upd T j (some (cls1 x true))) ∧ Tr w2 (w2.setCell ⟨ad j, 5, none⟩ (.int .i64 (x.w - 1))) (PB g ad A T) (PB g ad A (upd T j (some (cls1 x true)))) from
      (HH.out.1.keep hb').endSet hj HLX.out true (x.w - 1) (by omega) (by omega))
    have HFZ' := Lib.hid (fun w2 (hb' : Ext w w2) => show w2.frozen? ⟨ad j, 5, none⟩ = false from ((HH.out.1.pip j x hj HLX.out).keep hb').frozen 5)
    clear h0 HV HT HL
    go_upto_region 6 with fail
    refine wp_region_dep_tail 11 (S := Ext) (C := Ext (w')) (by kernel_rfl) (by kernel_rfl) rfl Ext.refl (Ext.drew _) ?_
    simp only [List.take_succ_cons, List.take_zero]
    repeat (refine dep_det (by rfl) (fun K hK => ?_); go_simp; first
      | ((with_reducible refine hK _ ?_); clear hK K)
      | (rw [if_neg (by decide)]; (with_reducible refine hK _ ?_); clear hK K)
      | (refine ⟨_, fun w1 hw1 => ⟨Ext.refl w1, hw1, rfl⟩, hK _ ?_⟩; clear hK K)
      | (apply Exists.intro; refine ⟨fun w1 hw1 => ?_, hK _ ?_⟩
         first
           | (have c_v5 := cell_keep hw1 v5; go_simp; first | exact ⟨Ext.refl _, hw1, rfl⟩ | exact ⟨Ext.refl _, rfl⟩)
           | (go_at_call 42; ((with_reducible refine (HEN.out _).mono ?_); rintro e w' ⟨rfl, rfl⟩; exact ⟨_, rfl, Ext.refl _, hw1, rfl⟩))
         clear hK K))
    refine dep_nil ?_
    intro a' wy hC hE
    obtain rfl := atEnd_nil hE
    clear hE
    simp only [List.drop_succ_cons, List.drop_zero]
    have hC2 := Ext.trans HC1.out hC
    have q5 := cell_keep hC v5
    have f5 := HFZ'.out _ hC2
    obtain ⟨m1, m2⟩ := HO'.out _ hC2
    have M2 := Lib.hid m1
    have S2 := Lib.hid ((HH.out.2.keep hC2).other m2 (fun i hi q => (HH.out.1.keep hC2).apart (HH.out.2.keep hC2) i q hi))
    have T2 := Lib.hid ((Tr.ext (P := Un (PB g ad A T) P1) hC2).trans (m2.mono (Q := Un (PB g ad A T) P1) (Q' := Un (PB g ad A (upd T j (some (cls1 x true)))) P1) (fun _ q => .inl q) (fun i q => by
      rcases q with q | q
      · exact .inl q
      · exact .inr (.inl (.inr q)))))
    clear m1 m2 v4 v5 hC hC2 HC1 HFZ' HO'
    go_upto_region 7 with fail
    generalize wy.setCell { block := ad j, off := 5 } (Value.int IntKind.i64 (x.w - 1)) = w2 at *
    have hp1 := M2.out.pip j (cls1 x true) hj (upd_at ..)
    have c4 := hp1.cell 4
    have c5 := hp1.cell 5
    have c0 := hp1.cell 0
    have c1 := hp1.cell 1
    have c2 := hp1.cell 2
    simp only [pcs, List.getElem?_cons_zero, List.getElem?_cons_succ] at c0 c1 c2 c4 c5
    have c0' : w2.cell? ⟨ad j, 0, none⟩ = some (.int .i64 x.f) := c0
    have c1' : w2.cell? ⟨ad j, 1, none⟩ = some (.int .i64 x.i) := c1
    have c2' : w2.cell? ⟨ad j, 2, none⟩ = some (.int .i64 x.z) := c2
    have HC := Lib.hid (show ∀ q v, ([.int .i64 (cls1 x true).r, .int .i64 (cls1 x true).w] : List Value)[q]? = some v → w2.cell? ⟨ad j, 4 + q, none⟩ = some v from fun q v hq => by
      match q, hq with
      | 0, hq => rw [← hq]; exact c4
      | 1, hq => rw [← hq]; exact c5)
    have HZ := Lib.hid (fun w => run_zero2 w)
    have HQ := Lib.hid (fun u v w => run_eq2 (cls1 x true).r (cls1 x true).w u v w)
    have v0 := M2.out.s_
    have hz2 := T2.out.base.size
    clear c0 c1 c2 c4 c5 hp1 q5 f5
    by_cases hzz : (cls1 x true).r = 0 ∧ (cls1 x true).w = 0
    rotate_left
    · have HT2 := Lib.hid (show clsT T j x true = upd T j (some (cls1 x true)) by rw [HT'.out, if_neg hzz])
      have HL2 := Lib.hid (show clsL p L x true = (p, L) by rw [HL'.out, if_neg hzz])
      have hb : ((cls1 x true).r == 0 && (cls1 x true).w == 0) = false := by simp only [Bool.and_eq_false_imp, beq_iff_eq, beq_eq_false_iff_ne, ne_eq]; exact fun q1 q2 => hzz ⟨q1, q2⟩
      rw [hb] at HQ
      clear hzz hb
      generalize (cls1 x true).r = xr at *
      generalize (cls1 x true).w = xw at *
      go_wp2_with (first
        | (refine wpl_load_rd _ rfl 87 _ rfl (by kernel_rfl) 2 size_2 (ad j) 4 rfl [.int .i64 xr, .int .i64 xw] rfl HC.out ?_)
        | (refine wpl_build0 _ rfl 87 rfl _ (HZ.out _) ?_)
        | (refine wpl_bin _ rfl _ _ _ _ _ rfl _ (HQ.out _ _ _) ?_))
      go_ret
      exact ⟨by rw [HV'.out]; rfl, _, by rw [HT2.out, HL2.out]; exact ⟨ad, A, P1, M2.out, S2.out, rfl⟩, T2.out⟩
    · have HT2 := Lib.hid (show clsT T j x true = upd T j none by rw [HT'.out, if_pos hzz])
      have HL2 := Lib.hid (show clsL p L x true = giveL p L x.f x.i x.z by rw [HL'.out, if_pos hzz])
      have hb : ((cls1 x true).r == 0 && (cls1 x true).w == 0) = true := by rw [hzz.1, hzz.2]; rfl
      rw [hb] at HQ
      clear hzz hb
      have HDL := Lib.hid (fun wz A' (m : PM wz B g gs ad A' (upd T j (some (cls1 x true)))) => show PM (wz.setCell ⟨g, 1 + j, none⟩ (.pointer none)) B g gs ad A' (upd T j none) ∧ Tr wz (wz.setCell ⟨g, 1 + j, none⟩ (.pointer none)) (PB g ad A' (upd T j (some (cls1 x true)))) (PB g ad A' (upd T j none)) from by
        have := m.del hj
        rwa [upd_upd] at this)
      have HPV := Lib.hid (show pv ad (upd T j (some (cls1 x true))) j = .pointer (some ⟨ad j, 0, none⟩) from pv_some (upd_at ..))
      generalize upd T j (some (cls1 x true)) = T1 at *
      generalize (cls1 x true).r = xr at *
      generalize (cls1 x true).w = xw at *
      have HG := Lib.hid (fun w3 (b3 : Ext w2 w3) => sw_give B gs gf p L P1 x.f x.i x.z w3 (S2.out.keep b3) (by have := b3.size; omega) hf64 hi64)
      go_upto_region 8 with (first
        | (refine wpl_load_rd _ rfl 87 _ rfl (by kernel_rfl) 2 size_2 (ad j) 4 rfl [.int .i64 xr, .int .i64 xw] rfl HC.out ?_)
        | (refine wpl_build0 _ rfl 87 rfl _ (HZ.out _) ?_)
        | (refine wpl_bin _ rfl _ _ _ _ _ rfl _ (HQ.out _ _ _) ?_))
      refine wp_region_dep_tail 8 (S := Ext) (C := Ext (w2)) (by kernel_rfl) (by kernel_rfl) rfl Ext.refl (Ext.drew _) ?_
      simp only [List.take_succ_cons, List.take_zero]
      repeat (refine dep_det (by rfl) (fun K hK => ?_); go_simp; first
        | ((with_reducible refine hK _ ?_); clear hK K)
        | (rw [if_neg (by decide)]; (with_reducible refine hK _ ?_); clear hK K)
        | (refine ⟨_, fun w1 hw1 => ⟨Ext.refl w1, hw1, rfl⟩, hK _ ?_⟩; clear hK K)
        | (apply Exists.intro; refine ⟨fun w1 hw1 => ?_, hK _ ?_⟩
           first
             | (have c_v0 := cell_keep hw1 v0; have c_c0' := cell_keep hw1 c0'; have c_c1' := cell_keep hw1 c1'; have c_c2' := cell_keep hw1 c2'; go_simp; first | exact ⟨Ext.refl _, hw1, rfl⟩ | exact ⟨Ext.refl _, rfl⟩)
           clear hK K))
      refine dep_nil ?_
      intro a' w' hC hE
      obtain rfl := atEnd_nil hE
      clear hE
      simp only [List.drop_succ_cons, List.drop_zero]
      have HC3 := Lib.hid hC
      clear v0 c0' c1' c2' hC
      go_upto_region 9 with ((with_reducible go_at_call 43); (with_reducible refine (HG.out _ HC3.out).mono ?_); rintro e w4 ⟨rfl, P4, s4, t4⟩)
      have M4 := Lib.hid ((M2.out.keep HC3.out).other t4 (fun i hi q => (M2.out.keep HC3.out).apart (S2.out.keep HC3.out) i hi q))
      have S4 := Lib.hid s4
      have T4 := Lib.hid ((T2.out.stepE HC3.out).trans (t4.mono (Q := Un (PB g ad A T1) P1) (Q' := Un (PB g ad A T1) P4) (fun _ q => .inr q) (fun i q => by
        rcases q with q | q
        · exact .inr (.inl (.inl q))
        · exact .inl q)))
      have d0 := M4.out.l_ hj
      rw [HPV.out] at d0
      have d1 := M4.out.own.frozen (1 + j)
      clear s4 t4
      go_wp2
      go_ret
      obtain ⟨n1, n2⟩ := HDL.out _ _ M4.out
      refine ⟨by rw [HV'.out]; rfl, _, by rw [HT2.out, HL2.out]; exact ⟨ad, A, P4, n1, S4.out.other n2 (fun i hi q => M4.out.apart S4.out i q hi), rfl⟩, ?_⟩
      refine T4.out.trans (n2.mono (Q := Un (PB g ad A T1) P4) (fun _ q => .inl q) (fun i q => ?_))
      rcases q with q | q
      · exact .inl q
      · exact .inr (.inl (.inr q))

end Go.Proofs.Ytebkknkgkjblnaa
