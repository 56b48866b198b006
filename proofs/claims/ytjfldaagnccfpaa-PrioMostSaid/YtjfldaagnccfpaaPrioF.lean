/-
  WALKS of the statements on prio, chapter 7: PrioMost.
-/
import Derived.Test.YtjfldaagnccfpaaPrioD
import Derived.Test.YtjfldaagnccfpaaLendB
import Derived.Test.YtjfldaagnccfpaaApp
namespace Go.Proofs.Ytjfldaagnccfpaa
open Go.RowKit
attribute [local go_sem] depUpon Sp.ok

set_option maxRecDepth 100000 in
set_option maxHeartbeats 2000000 in
theorem law_priomost_big (a1 a2 a3 : Int) (A : Option Addr) (n c : Nat) (w : World) (hn : 30 < n) (hm : n ≤ 9223372036854775807) :
    Calls Try.prog 4 #[.agg #[.int .i64 a1, .int .i64 a2, .int .i64 a3], .slice A n c] w fun e w' => e = .returned (.bool true) ∧ Below w.heap.size w w' := by
  go_enter Try.func4, Try.ntmps4
  go_wp2_with fail
  refine (prio_awake _).mono ?_
  rintro e w1 ⟨rfl, b1⟩
  go_wp2
  go_ret
  exact ⟨rfl, Ext.trans (Ext.alloc _ _) b1⟩

set_option maxRecDepth 100000 in
set_option maxHeartbeats 4000000 in
theorem law_priomost (a1 a2 a3 : Int) (A : Option Addr) (n c : Nat) (ps : List (Int × Int × Int)) (w : World) (_ : I64 a1 ∧ I64 a2 ∧ I64 a3) (hb : TripsArg w A n ps) :
    Calls Try.prog 4 #[.agg #[.int .i64 a1, .int .i64 a2, .int .i64 a3], .slice A n c] w fun e w' => e = .returned (.bool true) ∧ Below w.heap.size w w' := by
  have hcap := hb.max
  by_cases hlen : 30 < n
  · exact law_priomost_big a1 a2 a3 A n c w hlen hcap
  · have hn : n ≤ 30 := by omega
    clear hlen hcap
    obtain ⟨i0, hi, hz0, hz1, hz2⟩ := info_parts info_prio
    have HR := hb.rd
    have HL := Lib.hid hb.len
    clear hb
    have LP := Lib.hid (by rw [trips_len, HL.out]; omega : (trips ps).length = n * 3)
    have o2 := Own.new w 23 (pv (a1, a2, a3))
    have hr1 := HR.keep (Ext.alloc w (.cells #[.int .i64 a1, .int .i64 a2, .int .i64 a3] 23))
    go_enter Try.func4, Try.ntmps4
    go_wp2_with fail
    refine (lend_prios A n c ps _ (by omega) hr1 HL.out).mono ?_
    rintro e w1 ⟨g, rfl, og, hg, b1⟩
    have o3 := o2.keep b1
    have hr2 := hr1.keep b1
    have k1 : Ext w w1 := Ext.trans (Ext.alloc _ _) b1
    clear hr1 o2 b1 hg
    obtain ⟨c0, c1, c2, _, _, _⟩ := o3.pv3
    simp only at c0 c1 c2
    have hrg : Rd w1 (some ⟨g, 0, none⟩) (trips ps) := by
      have h1 := og.rd0
      unfold lentTrips at h1
      rw [← trips_app] at h1
      exact h1.pre
    go_wp2_with fail
    refine (prio_max (a1, a2, a3) _ n (n + 3) ps _ (by omega) hrg HL.out).mono ?_
    rintro e w2 ⟨rfl, b2⟩
    have o4 := o3.keep b2
    have og2 := og.keep b2
    have hr3 := hr2.keep b2
    have k2 : Ext w w2 := Ext.trans k1 b2
    clear c0 c1 c2 hr2 o3 og hrg k1 b2
    generalize hm : pmax (a1, a2, a3) ps = m
    have HM := Lib.hid hm
    clear hm
    obtain ⟨m1, m2, m3⟩ := m
    have o6 := Own.new w2 23 (pv (m1, m2, m3))
    have o4' := o4.alloc (.cells #[.int .i64 m1, .int .i64 m2, .int .i64 m3] 23)
    have og3 := og2.alloc (.cells #[.int .i64 m1, .int .i64 m2, .int .i64 m3] 23)
    have hr4 := hr3.keep (Ext.alloc w2 (.cells #[.int .i64 m1, .int .i64 m2, .int .i64 m3] 23))
    have k3 := Ext.trans k2 (Ext.alloc w2 (.cells #[.int .i64 m1, .int .i64 m2, .int .i64 m3] 23))
    obtain ⟨c0, c1, c2, _, _, _⟩ := o4'.pv3
    obtain ⟨d0, d1, d2, _, _, _⟩ := o6.pv3
    simp only at c0 c1 c2 d0 d1 d2
    clear o4 og2 hr3 o6 o4' k2
    have cK : ∀ w1 : World, Ext (w2.alloc (.cells #[.int .i64 m1, .int .i64 m2, .int .i64 m3] 23)) w1 → Calls Try.prog 14 #[.slice (some ⟨g, 0, none⟩) n (n + 3), .slice A n c] w1 fun e w' => e = .returned (.bool true) ∧ Below w1.heap.size w1 w' := fun w1 hw1 => by
      have h := kept_prios A g n n c ps ps w1 (by omega) (by omega) (og3.keep hw1) (hr4.keep hw1) HL.out HL.out
      simpa using h
    have CK := Lib.hid cK
    have cM : ∀ (B : Option Addr) (d : Nat) (w1 : World), Rd w1 B (trips ((a1, a2, a3) :: ps)) → Calls Try.prog 13 #[.slice B (1 + n) d] w1 fun e w' => e = .returned (.agg #[.int .i64 m1, .int .i64 m2, .int .i64 m3]) ∧ Below w1.heap.size w1 w' := fun B d w1 h => by
      have := ref_max (a1, a2, a3) B (1 + n) d ps w1 (by omega) h (by simp [HL.out]; omega)
      rw [HM.out] at this; exact this
    have CM := Lib.hid cM
    have HR4 := Lib.hid hr4
    have HI := Lib.hid hi
    clear cK cM hr4 og3 hi
    go_wp2
    refine wp_region_dep (S := Ext) (C := Ext (w2.alloc (.cells #[.int .i64 m1, .int .i64 m2, .int .i64 m3] 23))) (by kernel_rfl) (by kernel_rfl) rfl Ext.refl (Ext.drew _) ?_
    repeat (refine dep_det (by rfl) (fun K hK => ?_); go_simp; first
      | (refine ⟨_, fun w1 hw1 => ⟨Ext.refl w1, hw1, rfl⟩, hK _ ?_⟩; clear hK K)
      | (apply Exists.intro; refine ⟨fun w1 hw1 => ?_, hK _ ?_⟩
         first
           | (have c_c0 := cell_keep hw1 c0; have c_c1 := cell_keep hw1 c1; have c_c2 := cell_keep hw1 c2; have c_d0 := cell_keep hw1 d0; have c_d1 := cell_keep hw1 d1; have c_d2 := cell_keep hw1 d2; go_simp; first | exact ⟨Ext.refl _, hw1, rfl⟩ | exact ⟨Ext.refl _, rfl⟩)
         clear hK K))
    refine dep_var (SlAt 23 (trips [(a1, a2, a3)]) 1 1) 18 rfl (by rfl) SlAt.keep (by go_simp) (fun w1 hw1 => ?_) ?_
    · go_simp
      exact ⟨Ext.alloc _ _, Ext.trans hw1 (Ext.alloc _ _), SlAt.new w1 23 (trips [(a1, a2, a3)]) 1 1⟩
    repeat (refine dep_det (by rfl) (fun K hK => ?_); go_simp; first
      | (refine ⟨_, fun w1 hw1 => ⟨Ext.refl w1, hw1, rfl⟩, hK _ ?_⟩; clear hK K)
      | (apply Exists.intro; refine ⟨fun w1 hw1 => ?_, hK _ ?_⟩
         first
           | (have c_c0 := cell_keep hw1 c0; have c_c1 := cell_keep hw1 c1; have c_c2 := cell_keep hw1 c2; have c_d0 := cell_keep hw1 d0; have c_d1 := cell_keep hw1 d1; have c_d2 := cell_keep hw1 d2; go_simp; first | exact ⟨Ext.refl _, hw1, rfl⟩ | exact ⟨Ext.refl _, rfl⟩)
         clear hK K))
    refine dep_var1 18 _ (RdSl (trips ((a1, a2, a3) :: ps)) (1 + n)) 20 rfl (by rfl) (by intro V' h; simpa using h) (List.mem_cons_self ..) (by first | (simp; done) | simp [Act.put]) RdSl.keep (fun w1 v hw1 hV => ?_) ?_
    · obtain ⟨b, rfl, ho⟩ := hV
      refine ⟨by go_simp, ?_⟩
      obtain ⟨A', c', w', hrun, hrd, hbl⟩ := append_full (P := Try.prog) w1 28 28 23 i0 _ 3 24 Try.underlying28 HI.out hz0 hz1 hz2 rfl (by omega) b 0 1 (trips [(a1, a2, a3)]) rfl ho.rd0 A n c (trips ps) LP.out (HR4.out.keep hw1) (by omega) (by omega)
      exact dep_append rfl hrun ⟨hbl, Ext.trans hw1 hbl, A', c', rfl, hrd⟩
    refine dep_det1 20 _ (by rfl) (by intro V' h; simpa using h) (List.mem_cons_self ..) (by first | (simp; done) | simp [Act.put]) (fun K hK => ?_)
    apply Exists.intro
    refine ⟨fun w1 v hw1 hV => ?_, hK _ ?_⟩
    · obtain ⟨B, d, rfl, ho⟩ := hV
      go_simp
      refine (CM.out B d _ ho).mono ?_
      rintro e w' ⟨rfl, hb'⟩
      exact ⟨_, rfl, hb', Ext.trans hw1 hb', rfl⟩
    clear hK K
    repeat (refine dep_det (by rfl) (fun K hK => ?_); go_simp; first
      | (refine ⟨_, fun w1 hw1 => ⟨Ext.refl w1, hw1, rfl⟩, hK _ ?_⟩; clear hK K)
      | (apply Exists.intro; refine ⟨fun w1 hw1 => ?_, hK _ ?_⟩
         first
           | (go_at_call 14; refine (CK.out _ hw1).mono ?_; rintro e w' ⟨rfl, hb'⟩; exact ⟨_, rfl, hb', Ext.trans hw1 hb', rfl⟩)
           | (go_at_call 10; refine (prio_awake _).mono ?_; rintro e w' ⟨rfl, hb'⟩; exact ⟨_, rfl, hb', Ext.trans hw1 hb', rfl⟩)
           | (have c_c0 := cell_keep hw1 c0; have c_c1 := cell_keep hw1 c1; have c_c2 := cell_keep hw1 c2; have c_d0 := cell_keep hw1 d0; have c_d1 := cell_keep hw1 d1; have c_d2 := cell_keep hw1 d2; go_simp; first | exact ⟨Ext.refl _, hw1, rfl⟩ | exact ⟨Ext.refl _, rfl⟩)
         clear hK K))
    refine dep_nil ?_
    intro a' w' hC hE
    obtain ⟨v, ⟨_, _, rfl, _⟩, hE⟩ := atEnd_cons hE (by simp) (by first | (simp; done) | simp [Act.put])
    obtain ⟨v, ⟨_, rfl, _⟩, hE⟩ := atEnd_cons hE (by simp) (by first | (simp; done) | simp [Act.put])
    obtain rfl := atEnd_nil hE
    clear hE
    go_wp2
    go_ret
    exact ⟨rfl, Ext.trans k3 hC⟩

end Go.Proofs.Ytjfldaagnccfpaa
