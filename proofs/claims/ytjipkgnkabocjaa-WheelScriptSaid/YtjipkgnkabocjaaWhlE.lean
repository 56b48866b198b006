/-
  WALKS of package wheel: turn with put.
-/
import Derived.Test.YtjipkgnkabocjaaWhlD
namespace Go.Proofs.Ytjipkgnkabocjaa
open Go.RowKit
attribute [local go_sem] depUpon Sp.ok

theorem ix_eq (now a : Int) : ∃ s : Nat, dg a (rg now a) = (s : Int) ∧ s < 64 ∧ ix now a = rg now a * 64 + s := by
  have h1 := dg_lo a (rg now a)
  have h2 := dg_hi a (rg now a)
  refine ⟨(dg a (rg now a)).toNat, by omega, by omega, rfl⟩

set_option maxRecDepth 100000 in
set_option maxHeartbeats 2000000 in
theorem w_turn_put (B g : Nat) (now n : Int) (F : FW) (R : RW) (id at_ : Int) (w : World) (h : WS w B g now n F R) (n0 : 0 ≤ now) (n1 : now ≤ 16777216) (a0 : 0 ≤ at_) (a1 : at_ ≤ 16777216) (hlen : (R (ix now at_)).length ≤ 65536) (hB : B ≤ w.heap.size) :
    Calls Try.prog 28 #[.pointer (some ⟨g, 0, none⟩), .agg #[.int .i64 id, .int .i64 at_], .func (.func 29) #[] #[]] w fun e w' => e = .returned (.tuple #[]) ∧ ∃ F', WS w' B g now n F' (updR R (ix now at_) (R (ix now at_) ++ [(id, at_)])) ∧ WT w w' g F F' := by
  have oL := Own.new w 62 [.int .i64 id, .int .i64 at_]
  have bL := Ext.alloc w (.cells #[.int .i64 id, .int .i64 at_] 62)
  obtain ⟨s, hs, hs64, hix⟩ := ix_eq now at_
  have hr := rg_hi now at_
  have hP := fun w' (h' : Ext w w') => w_place g now at_ w' (h.keep h').now_ n0 (by omega) a0 (by omega)
  rw [hs] at hP
  have HPL := Lib.hid hP
  rw [hix] at hlen ⊢
  generalize hrr : rg now at_ = r at *
  have HPU := Lib.hid (fun w' (h' : Ext w w') => w_put B g now n F R (r * 64 + s) (1 + r * 64 + s) id at_ w' (h.keep h') (by omega) (by omega) hlen (Nat.le_trans hB h'.size))
  have r1' : (r : Int) < 4 := by omega
  have r0' : (0 : Int) ≤ (r : Int) := by omega
  have s1' : (s : Int) < 64 := by omega
  have s0' : (0 : Int) ≤ (s : Int) := by omega
  clear hP hs hix h hrr hlen
  go_enter Try.func28, Try.ntmps28
  go_upto_region 2 with ((with_reducible go_at_call 31); (with_reducible refine (HPL.out _ bL).mono ?_); rintro e w2 ⟨rfl, b2⟩)
  have b3 := Ext.trans bL b2
  have x0 := (oL.keep b2).cell 0
  have x1 := (oL.keep b2).cell 1
  simp only [List.getElem?_cons_zero, List.getElem?_cons_succ] at x0 x1
  refine wp_region_dep_tail 9 (S := Ext) (C := Ext (w2)) (by kernel_rfl) (by kernel_rfl) rfl Ext.refl (Ext.drew _) ?_
  simp only [List.take_succ_cons, List.take_zero]
  repeat (refine dep_det (by rfl) (fun K hK => ?_); go_simp; first
    | ((with_reducible refine hK _ ?_); clear hK K)
    | (rw [if_neg (by decide)]; (with_reducible refine hK _ ?_); clear hK K)
    | (refine ⟨_, fun w1 hw1 => ⟨Ext.refl w1, hw1, rfl⟩, hK _ ?_⟩; clear hK K)
    | (apply Exists.intro; refine ⟨fun w1 hw1 => ?_, hK _ ?_⟩
       first
         | (have c_x0 := cell_keep hw1 x0; have c_x1 := cell_keep hw1 x1; go_simp; first | exact ⟨Ext.refl _, hw1, rfl⟩ | exact ⟨Ext.refl _, rfl⟩)
       clear hK K))
  refine dep_nil ?_
  intro a' w' hC hE
  obtain rfl := atEnd_nil hE
  clear hE
  simp only [List.drop_succ_cons, List.drop_zero]
  go_wp2_with ((with_reducible go_at_call 29); (with_reducible refine (HPU.out _ (Ext.trans b3 hC)).mono ?_); rintro e w4 ⟨rfl, F', h4, t4⟩)
  exact bodyPost_end (results_none rfl _ _ _) rfl ⟨rfl, F', h4, (WT.ext (Ext.trans b3 hC)).trans t4⟩

end Go.Proofs.Ytjipkgnkabocjaa
