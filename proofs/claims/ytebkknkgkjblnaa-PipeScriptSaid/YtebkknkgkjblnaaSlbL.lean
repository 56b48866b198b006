/-
  WALKS of chapter 4's reference: Take, Give.
-/
import Derived.Test.YtebkknkgkjblnaaSlbK
namespace Go.Proofs.Ytebkknkgkjblnaa
open Go.RowKit
attribute [local go_sem] depUpon Sp.ok

set_option maxRecDepth 100000 in
set_option maxHeartbeats 1000000 in
theorem r4_take_full (B gr ga gB : Nat) (A : Option Addr) (c : Nat) (p : FP) (w : World) (h : RF w B gr ga gB A c p) (ht : p.top = none) :
    Calls Try.prog 56 #[.pointer (some ⟨gr, 0, none⟩)] w fun e w' => e = .returned (.tuple #[.int .i64 0, .int .i64 3]) ∧ Ext w w' := by
  obtain ⟨h1, h2⟩ := FP.top_none ht
  have v0 := h.taken
  have v2 := h.back
  have v3 := h.fresh
  rw [h1] at v2
  have hn := h.ok.n64
  have hs := h.ok.fsl
  clear h ht h1
  rw [show ([] : List Nat).length = 0 from rfl] at v2
  obtain hfs : p.fs = p.n := by omega
  rw [hfs] at v3
  generalize p.n = n at *
  go_enter Try.func56, Try.ntmps56
  go_upto_region 5 with fail
  refine wp_region_dep (S := Ext) (C := Ext (w)) (by kernel_rfl) (by kernel_rfl) rfl Ext.refl (Ext.drew _) ?_
  repeat (refine dep_det (by rfl) (fun K hK => ?_); go_simp; first
    | ((with_reducible refine hK _ ?_); clear hK K)
    | (rw [if_neg (by decide)]; (with_reducible refine hK _ ?_); clear hK K)
    | (refine ⟨_, fun w1 hw1 => ⟨Ext.refl w1, hw1, rfl⟩, hK _ ?_⟩; clear hK K)
    | (apply Exists.intro; refine ⟨fun w1 hw1 => ?_, hK _ ?_⟩
       first
         | (have c_v0 := cell_keep hw1 v0; have c_v3 := cell_keep hw1 v3; go_simp; first | exact ⟨Ext.refl _, hw1, rfl⟩ | exact ⟨Ext.refl _, rfl⟩)
       clear hK K))
  refine dep_nil ?_
  intro a' w' hC hE
  obtain rfl := atEnd_nil hE
  clear hE
  go_wp2
  go_ret2
  exact ⟨rfl, hC⟩

def z64 : Obj := .cells (List.replicate 64 (.int .u8 0)).toArray 5
theorem make64 (w : World) : (Instr.makeSlice 32 (.int .i64 64) (.int .i64 64)).run Try.prog w = .ok (.slice (some ⟨w.heap.size, 0, none⟩) 64 64) (w.alloc z64) := by
  obtain ⟨i1, hi1, a0, a1, a2⟩ := info_parts info_u8
  have z1 : (madeCells (Value.int .u8 0).cells (64 * 1)).toList = List.replicate 64 (.int .u8 0) := made_rep (.int .u8 0) 1 64 (by omega)
  have := run_make (P := Try.prog) w 32 5 i1 _ Try.underlying32 hi1 a0 .i64 .i64 64 64 (by omega) (by omega) (by rw [a2]; decide) (by omega)
  rw [a1] at this
  unfold z64
  rw [← z1, Array.toArray_toList]
  exact this
/-- The last step of Take. -/
theorem RF.fin {w w2 : World} {B gr ga gB : Nat} {A A2 : Option Addr} {c2 : Nat} {p : FP} {xs : List Value} (T : Tr w w2 (RFB gr ga gB A) (RFB gr ga gB A2))
    (q3 : Own w2 gr 102 [.slice (some ⟨ga, 0, none⟩) p.n p.n, .slice (some ⟨gB, 0, none⟩) p.n p.n, .slice A2 p.fr.length c2, .int .i64 (p.fs : Int)])
    (q4 : Own w2 ga 4 (bools p.tk)) (hxl : xs.length = p.n) (q2 : Own w2 gB 32 xs) (q5 : Row w2 B 3 1 A2 p.fr.length c2 (ints (p.fr.map fun j : Nat => (j : Int)))) (lo : B ≤ gr ∧ B ≤ ga ∧ B ≤ gB) (ok : p.ok) (i : Nat) (v : Value) :
    RF ((w2.setCell ⟨gB, i, none⟩ v).alloc z64).drew B gr ga gB A2 c2 p ∧ Tr w ((w2.setCell ⟨gB, i, none⟩ v).alloc z64).drew (RFB gr ga gB A) (RFB gr ga gB A2) := by
  have e : Ext (w2.setCell ⟨gB, i, none⟩ v) ((w2.setCell ⟨gB, i, none⟩ v).alloc z64).drew := Ext.trans (Ext.alloc _ _) (Ext.drew _)
  have n2 : gr ≠ gB := own_ne q3 q2 (by decide)
  have n3 : ga ≠ gB := own_ne q4 q2 (by decide)
  have n6 : blk A2 ≠ some gB := fun q => row_ne q5 q2 (by decide) _ q rfl
  exact ⟨⟨(q3.far (p := ⟨gB, i, none⟩) n2 v).keep e, (q4.far (p := ⟨gB, i, none⟩) n3 v).keep e, ⟨_, by rw [List.length_set]; exact hxl, (q2.set i v).keep e⟩, (q5.grown (setCell_grown w2 ⟨gB, i, none⟩ v) (.inr n6)).keep e, lo, ok⟩,
    T.trans ((Tr.set ⟨gB, i, none⟩ v (.inr (.inr (.inl rfl)))).trans (Tr.ext e))⟩
theorem bools_set' (bs : List Bool) (k : Nat) (b : Bool) : (bools bs).set k (.bool b) = bools (bs.set k b) := bools_set bs k b
theorem RFB.of {w : World} {gr ga gB : Nat} {A A2 : Option Addr} (hA : blk A2 = blk A ∨ ∀ j, blk A2 = some j → w.heap.size ≤ j) : ∀ i, RFB gr ga gB A2 i → RFB gr ga gB A i ∨ RFB gr ga gB A i ∨ w.heap.size ≤ i := fun i hi => by
  rcases hi with q | q | q | q
  · exact .inl (.inl q)
  · exact .inl (.inr (.inl q))
  · exact .inl (.inr (.inr (.inl q)))
  · rcases hA with e | e
    · exact .inl (.inr (.inr (.inr (e ▸ q))))
    · exact .inr (.inr (e i q))

set_option maxRecDepth 100000 in
set_option maxHeartbeats 2000000 in
theorem r4_take (B gr ga gB : Nat) (A : Option Addr) (c : Nat) (p : FP) (i : Nat) (w : World) (h : RF w B gr ga gB A c p) (ht : p.top = some i) (hB : B ≤ w.heap.size) :
    Calls Try.prog 56 #[.pointer (some ⟨gr, 0, none⟩)] w fun e w' => e = .returned (.tuple #[.int .i64 (i : Int), .int .i64 0]) ∧ ∃ A' c', RF w' B gr ga gB A' c' (p.tkd i) ∧ Tr w w' (RFB gr ga gB A) (RFB gr ga gB A') := by
  have hok := h.ok.take ht
  obtain ⟨hi, hfl⟩ := FP.top_lt h.ok ht
  have hn := h.ok.n64
  have hs := h.ok.fsl
  obtain ⟨n1, n2, n3, n4, n5, n6⟩ := h.ne
  have hmk := make64
  have i0' : (0 : Int) ≤ (i : Int) := by omega
  have i1' : (i : Int) < (p.n : Int) := by omega
  rcases FP.top_some ht with ⟨h1, h2, h3⟩ | ⟨l, h1, h2⟩
  · have e : p.tkd i = { p with tk := p.tk.set i true, fs := p.fs + 1 } := by unfold FP.tkd; rw [if_pos h1]
    rw [e] at hok ⊢
    have v0 := h.taken
    have v1 := h.bytes
    have v2 := h.back
    have v3 := h.fresh
    rw [h1, show ([] : List Nat).length = 0 from rfl] at v2
    rw [← h3] at v3
    have HH := Lib.hid h
    have t0 : ((i : Int) == (p.n : Int)) = false := by simp; omega
    have H3 := Lib.hid h3
    clear h h1 h2 h3
    go_enter Try.func56, Try.ntmps56
    go_upto_region 5 with fail
    refine wp_region_dep (S := Ext) (C := Ext (w)) (by kernel_rfl) (by kernel_rfl) rfl Ext.refl (Ext.drew _) ?_
    repeat (refine dep_det (by rfl) (fun K hK => ?_); go_simp; first
      | ((with_reducible refine hK _ ?_); clear hK K)
      | (rw [if_neg (by decide)]; (with_reducible refine hK _ ?_); clear hK K)
      | (refine ⟨_, fun w1 hw1 => ⟨Ext.refl w1, hw1, rfl⟩, hK _ ?_⟩; clear hK K)
      | (apply Exists.intro; refine ⟨fun w1 hw1 => ?_, hK _ ?_⟩
         first
           | (have c_v0 := cell_keep hw1 v0; have c_v3 := cell_keep hw1 v3; go_simp; first | exact ⟨Ext.refl _, hw1, rfl⟩ | exact ⟨Ext.refl _, rfl⟩)
         clear hK K))
    refine dep_nil ?_
    intro a' w' hC hE
    obtain rfl := atEnd_nil hE
    clear hE
    have HW := Lib.hid (HH.out.keep hC)
    replace v0 := HW.out.taken
    replace v1 := HW.out.bytes
    replace v3 := HW.out.fresh
    rw [← H3.out] at v3
    have f3 := HW.out.own.frozen 3
    have c1 := HW.out.tak.frozen i
    obtain ⟨b, hb, hcb⟩ := HW.out.at_ hi
    obtain ⟨xs, hxl, hxo⟩ := HW.out.byt
    have q1 := hxo.far (p := ⟨gr, 3, none⟩) (fun q => n2 q.symm) (.int .i64 ((i : Int) + 1))
    have q2 := q1.far (p := ⟨ga, i, none⟩) (fun q => n3 q.symm) (.bool true)
    have q3 := (HW.out.own.set 3 (.int .i64 ((i : Int) + 1))).far (p := ⟨ga, i, none⟩) n1 (.bool true)
    have q4 := (HW.out.tak.far (p := ⟨gr, 3, none⟩) (fun q => n1 q.symm) (.int .i64 ((i : Int) + 1))).set i (.bool true)
    have q5 := (HW.out.row.grown (setCell_grown w' ⟨gr, 3, none⟩ (.int .i64 ((i : Int) + 1))) (.inr n4)).grown (setCell_grown (w'.setCell ⟨gr, 3, none⟩ (.int .i64 ((i : Int) + 1))) ⟨ga, i, none⟩ (.bool true)) (.inr n5)
    have T2 := Lib.hid ((Tr.ext (P := RFB gr ga gB A) hC).trans ((Tr.set (P := RFB gr ga gB A) (w := w') ⟨gr, 3, none⟩ (.int .i64 ((i : Int) + 1)) (.inl rfl)).trans (Tr.set ⟨ga, i, none⟩ (.bool true) (.inr (.inl rfl)))))
    go_upto_region 9 with fail
    generalize (w'.setCell { block := gr, off := 3 } (Value.int IntKind.i64 ((i : Int) + 1))).setCell { block := ga, off := i } (Value.bool true) = w2 at *
    clear v0 v1 v2 v3 f3 c1 hcb hb q1 hxo hC
    simp only [List.set_cons_succ, List.set_cons_zero] at q3
    have d0 := q3.cell 1
    simp only [List.getElem?_cons_zero, List.getElem?_cons_succ] at d0
    have Q2 := Lib.hid q2
    have d1 : _ = some xs[i] := (Q2.out.cell i).trans (List.getElem?_eq_getElem (by omega))
    have d2 := Q2.out.frozen i
    have d3 := q3.lt
    have d4 := q2.lt
    rw [bools_set'] at q4
    rw [H3.out] at q3
    have Q3 := Lib.hid q3
    have Q4 := Lib.hid q4
    have Q5 := Lib.hid q5
    clear q2 q3 q4 q5
    go_region
    go_wp2
    go_ret2
    have hF := RF.fin (p := { p with tk := p.tk.set i true, fs := p.fs + 1 }) T2.out Q3.out Q4.out hxl Q2.out Q5.out HH.out.lo hok i (Value.slice (some ⟨w2.heap.size, 0, none⟩) 64 64)
    exact ⟨rfl, _, _, hF.1, hF.2⟩
  · have e : p.tkd i = { p with tk := p.tk.set i true, fr := p.fr.dropLast } := by unfold FP.tkd; rw [if_neg h2]
    rw [e] at hok ⊢
    have hlen : p.fr.length = l.length + 1 := by rw [h1]; simp
    have hfl2 := FP.frb h.ok
    have e2 : p.fr.dropLast = l := by rw [h1, List.dropLast_concat]
    obtain ⟨gk, rfl⟩ := h.row.addr (by omega)
    have hle := Row.le' h.row
    have v1 := h.fresh
    have v2 := h.back
    rw [hlen] at v2
    have v9 := h.row.rd
    have v4 : w.cell? ⟨gk, l.length, none⟩ = some (.int .i64 (i : Int)) := by
      obtain ⟨b', o', e', hc'⟩ := v9 l.length (.int .i64 (i : Int)) (by rw [h1]; simp [ints])
      injection e' with e'; injection e' with e1 e2
      subst e1; subst e2
      rwa [Nat.zero_add] at hc'
    have HH := Lib.hid h
    have HPF := Lib.hid (show (ints (p.fr.map fun j : Nat => (j : Int))).take l.length = ints (l.map fun j : Nat => (j : Int)) by rw [h1]; simp [ints])
    have LT := Lib.hid (show (ints (l.map fun j : Nat => (j : Int))).length = l.length * 1 by simp [ints])
    have kw : IntKind.i64.wrap (l.length : Int) = (l.length : Int) := IntWalk.i64_in _ ⟨by omega, by omega⟩
    have k0 : (0 : Int) ≤ (l.length : Int) := by omega
    have k1 : (l.length : Int) < (l.length : Int) + 1 := by omega
    have k2 : (l.length : Int) ≤ (c : Int) := by omega
    have k3 : (0 : Int) < (l.length : Int) + 1 := by omega
    have k4 : (l.length : Int) + 1 ≤ (c : Int) := by omega
    have k5 : l.length ≤ 64 := by omega
    obtain ⟨i0, hi0, hz0, hz1, hz2⟩ := info_parts info_int
    have HI := Lib.hid hi0
    have E2 := Lib.hid e2
    clear h h1 h2 v9 hlen e hi0 e2
    go_enter Try.func56, Try.ntmps56
    go_upto_region 3 with fail
    refine wp_region_dep (S := Ext) (C := Ext (w)) (by kernel_rfl) (by kernel_rfl) rfl Ext.refl (Ext.drew _) ?_
    repeat (refine dep_det (by rfl) (fun K hK => ?_); go_simp; first
      | ((with_reducible refine hK _ ?_); clear hK K)
      | (rw [if_neg (by decide)]; (with_reducible refine hK _ ?_); clear hK K)
      | (refine ⟨_, fun w1 hw1 => ⟨Ext.refl w1, hw1, rfl⟩, hK _ ?_⟩; clear hK K)
      | (apply Exists.intro; refine ⟨fun w1 hw1 => ?_, hK _ ?_⟩
         first
           | (have c_v2 := cell_keep hw1 v2; have c_v4 := cell_keep hw1 v4; go_simp; first | exact ⟨Ext.refl _, hw1, rfl⟩ | exact ⟨Ext.refl _, rfl⟩)
         clear hK K))
    refine dep_nil ?_
    intro a' w' hC hE
    obtain rfl := atEnd_nil hE
    clear hE
    have HW := Lib.hid (HH.out.keep hC)
    replace v2 := cell_keep hC v2
    have HT := Lib.hid (fun w1 (h1 : Ext w' w1) => by
      have := (HW.out.keep h1).row.rd.take l.length
      rwa [HPF.out] at this)
    have HC1 := Lib.hid hC
    clear v4 v1 hC
    go_upto_region 4 with fail
    refine wp_region_dep_tail 15 (S := Rx w'.heap.size 3 1 l.length 0 (ints (l.map fun j : Nat => (j : Int))) (ints (l.map fun j : Nat => (j : Int)))) (C := Ext w') (by kernel_rfl) (by kernel_rfl) rfl Rx.refl (Ext.drew _) ?_
    simp only [List.take_succ_cons, List.take_zero]
    repeat (refine dep_det (by rfl) (fun K hK => ?_); go_simp; first
      | ((with_reducible refine hK _ ?_); clear hK K)
      | (rw [if_neg (by decide)]; (with_reducible refine hK _ ?_); clear hK K)
      | (refine ⟨_, fun w1 hw1 => ⟨Rx.refl w1, hw1, rfl⟩, hK _ ?_⟩; clear hK K)
      | (apply Exists.intro; refine ⟨fun w1 hw1 => ?_, hK _ ?_⟩
         first
           | (have c_v2 := cell_keep hw1 v2; go_simp; first | exact ⟨Rx.refl w1, hw1, rfl⟩ | exact ⟨Rx.refl w1, rfl⟩)
         clear hK K))
    refine dep_var (RwV w'.heap.size 3 1 l.length (ints (l.map fun j : Nat => (j : Int)))) 39 rfl (by rfl) RwV.one (by go_simp) (fun w1 hw1 => ?_) ?_
    · obtain ⟨A', c', w'', hrun, hh⟩ := rx_first (P := Try.prog) w' w1 96 96 3 i0 _ 1 8 Try.underlying96 HI.out hz0 hz1 hz2 rfl (by omega) hw1 (some ⟨gk, 0, none⟩) l.length c (ints (l.map fun j : Nat => (j : Int))) (ints (l.map fun j : Nat => (j : Int))) 0 LT.out (HT.out w1 hw1) (ints_one _) (by omega) (by omega)
      exact dep_append rfl hrun hh
    repeat (refine dep_det (by rfl) (fun K hK => ?_); go_simp; first
      | ((with_reducible refine hK _ ?_); clear hK K)
      | (rw [if_neg (by decide)]; (with_reducible refine hK _ ?_); clear hK K)
      | (refine ⟨_, fun w1 hw1 => ⟨Rx.refl w1, hw1, rfl⟩, hK _ ?_⟩; clear hK K)
      | (apply Exists.intro; refine ⟨fun w1 hw1 => ?_, hK _ ?_⟩
         first
           | (have c_v2 := cell_keep hw1 v2; go_simp; first | exact ⟨Rx.refl w1, hw1, rfl⟩ | exact ⟨Rx.refl w1, rfl⟩)
         clear hK K))
    refine dep_nil ?_
    intro a' w3 hC hE
    obtain ⟨v, ⟨A2, d2, rfl, r2⟩, hE⟩ := atEnd_cons hE (by simp) (by first | (simp; done) | simp [Act.put])
    obtain rfl := atEnd_nil hE
    clear hE
    simp only [List.drop_succ_cons, List.drop_zero]
    have hA2 : ∀ j, blk A2 = some j → w.heap.size ≤ j := fun j hj => Nat.le_trans HC1.out.size (r2.at_ j hj).1
    have HR2 := Lib.hid r2
    have HW3 := Lib.hid (HW.out.keep hC)
    have v0 := HW3.out.taken
    have v1 := HW3.out.bytes
    replace v2 := HW3.out.back
    have f2 := HW3.out.own.frozen 2
    have c1 := HW3.out.tak.frozen i
    obtain ⟨b, hb, hcb⟩ := HW3.out.at_ hi
    obtain ⟨xs, hxl, hxo⟩ := HW3.out.byt
    have g1 := HW3.out.own.lt
    have m4 : blk A2 ≠ some gr := fun q => row_ne r2 HW3.out.own (by decide) _ q rfl
    have m5 : blk A2 ≠ some ga := fun q => row_ne r2 HW3.out.tak (by decide) _ q rfl
    have q1 := hxo.far (p := ⟨gr, 2, none⟩) (fun q => n2 q.symm) (.slice A2 l.length d2)
    have q2 := q1.far (p := ⟨ga, i, none⟩) (fun q => n3 q.symm) (.bool true)
    have q3 := (HW3.out.own.set 2 (.slice A2 l.length d2)).far (p := ⟨ga, i, none⟩) n1 (.bool true)
    have q4 := (HW3.out.tak.far (p := ⟨gr, 2, none⟩) (fun q => n1 q.symm) (.slice A2 l.length d2)).set i (.bool true)
    have q5 := ((r2.mono (Nat.le_trans hB HC1.out.size)).grown (setCell_grown w3 ⟨gr, 2, none⟩ (.slice A2 l.length d2)) (.inr m4)).grown (setCell_grown (w3.setCell ⟨gr, 2, none⟩ (.slice A2 l.length d2)) ⟨ga, i, none⟩ (.bool true)) (.inr m5)
    have T1 := (Tr.ext (P := RFB gr ga gB (some ⟨gk, 0, none⟩)) (Ext.trans HC1.out hC)).trans ((Tr.set (P := RFB gr ga gB (some ⟨gk, 0, none⟩)) (w := w3) ⟨gr, 2, none⟩ (.slice A2 l.length d2) (.inl rfl)).trans (Tr.set ⟨ga, i, none⟩ (.bool true) (.inr (.inl rfl))))
    have T2 := Lib.hid (T1.mono (Q' := RFB gr ga gB A2) (fun _ q => q) (RFB.of (.inr hA2)))
    clear r2 hC T1
    go_upto_region 9 with fail
    generalize (w3.setCell { block := gr, off := 2 } (Value.slice A2 l.length d2)).setCell { block := ga, off := i } (Value.bool true) = w2 at *
    clear v0 v1 v2 f2 c1 hcb hb q1 hxo
    simp only [List.set_cons_succ, List.set_cons_zero] at q3
    have d0 := q3.cell 1
    simp only [List.getElem?_cons_zero, List.getElem?_cons_succ] at d0
    have Q2 := Lib.hid q2
    have d1 : _ = some xs[i] := (Q2.out.cell i).trans (List.getElem?_eq_getElem (by omega))
    have d9 := Q2.out.frozen i
    have d3 := q3.lt
    have d4 := q2.lt
    rw [bools_set'] at q4
    have Q3 := Lib.hid q3
    have Q4 := Lib.hid q4
    have Q5 := Lib.hid q5
    clear q2 q3 q4 q5
    go_region
    go_wp2
    go_ret2
    have hF := RF.fin (p := { p with tk := p.tk.set i true, fr := p.fr.dropLast }) T2.out (by simp only [E2.out]; exact Q3.out) Q4.out hxl Q2.out (by simp only [E2.out]; exact Q5.out) HH.out.lo hok i (Value.slice (some ⟨w2.heap.size, 0, none⟩) 64 64)
    exact ⟨rfl, _, _, hF.1, hF.2⟩

set_option maxRecDepth 100000 in
set_option maxHeartbeats 2000000 in
theorem r4_give (B gr ga gB : Nat) (A : Option Addr) (c : Nat) (p : FP) (i : Nat) (w : World) (h : RF w B gr ga gB A c p) (ht : p.tk[i]? = some true) (hB : B ≤ w.heap.size) :
    Calls Try.prog 58 #[.pointer (some ⟨gr, 0, none⟩), .int .i64 (i : Int)] w fun e w' => e = .returned (.int .i64 0) ∧ ∃ A' c', RF w' B gr ga gB A' c' (p.gvn i) ∧ Tr w w' (RFB gr ga gB A) (RFB gr ga gB A') := by
  have hok := h.ok.give ht
  have hil : i < p.tk.length := (List.getElem?_eq_some_iff.1 ht).1
  have hi : i < p.n := by rw [← h.ok.len]; exact hil
  have hn := h.ok.n64
  have hfl := FP.frb h.ok
  obtain ⟨n1, n2, n3, n4, n5, n6⟩ := h.ne
  have hK := r4_is B gr ga gB A c p (i : Int) w h
  rw [show p.known (i : Int) = 0 by unfold FP.known; rw [if_neg (by omega), Int.toNat_natCast, if_pos ht]] at hK
  have HK := Lib.hid hK
  have v1 := h.taken
  have c1 := h.tak.frozen i
  obtain ⟨b, hb, hcb⟩ := h.at_ hi
  obtain ⟨xs, hxl, hxo⟩ := h.byt
  have q1 := h.own.far (p := ⟨ga, i, none⟩) n1 (.bool false)
  have q2 := hxo.far (p := ⟨ga, i, none⟩) (fun q => n3 q.symm) (.bool false)
  have q3 := h.tak.set i (.bool false)
  have q4 := h.row.grown (setCell_grown w ⟨ga, i, none⟩ (.bool false)) (.inr n5)
  rw [bools_set'] at q3
  have HQ := Lib.hid (And.intro q1 (And.intro q2 (And.intro q3 q4)))
  have HT := Lib.hid (show Tr w (w.setCell ⟨ga, i, none⟩ (.bool false)) (RFB gr ga gB A) (RFB gr ga gB A) from Tr.set ⟨ga, i, none⟩ _ (.inr (.inl rfl)))
  have HH := Lib.hid h
  have i0' : (0 : Int) ≤ (i : Int) := by omega
  have i1' : (i : Int) < (p.n : Int) := by omega
  obtain ⟨i0, hi0, hz0, hz1, hz2⟩ := info_parts info_int
  have HI := Lib.hid hi0
  have HAP := Lib.hid (show ints (p.fr.map fun j : Nat => (j : Int)) ++ ints [(i : Int)] = ints ((p.fr ++ [i]).map fun j : Nat => (j : Int)) by simp [ints])
  have HAQ := Lib.hid (show ([] : List Value) ++ ints (p.fr.map fun j : Nat => (j : Int)) = ints (p.fr.map fun j : Nat => (j : Int)) from List.nil_append _)
  have LT := Lib.hid (show (ints (p.fr.map fun j : Nat => (j : Int))).length = p.fr.length * 1 by simp [ints])
  have hsz : (w.setCell ⟨ga, i, none⟩ (.bool false)).heap.size = w.heap.size := by simp
  have HSZ := Lib.hid hsz
  clear h hK hb q1 q2 q3 q4 hi0 ht hxo hsz
  go_enter Try.func58, Try.ntmps58
  go_upto_region 4 with ((with_reducible go_at_call 63); (with_reducible refine (HK.out).mono ?_); rintro e w' ⟨rfl, rfl⟩)
  generalize hw1 : w.setCell ⟨ga, i, none⟩ (.bool false) = w1 at *
  clear hw1
  have r4 := HQ.out.2.2.2
  have r1 := HQ.out.1
  have o2 := Own.lt r1
  have v2 := r1.cell 2
  simp only [List.getElem?_cons_zero, List.getElem?_cons_succ] at v2
  go_wp2_with (first
    | (at_builtin; refine wpl_append _ rfl _ (.tmp 21) 96 rfl 3 i0 _ 1 8 Try.underlying96 HI.out hz0 hz1 hz2 rfl (by omega) w1.heap.size none 0 0 [] rfl (Row.nil _ _ _ _) A p.fr.length c _ rfl LT.out r4.rd (ints_one _) p.fr.length _ (Nat.zero_add _) HAQ.out (by omega) (by omega) (by omega) ?_; intro A2 c2 w5 o5 g5 k5; have b5 : Ext w1 w5 := (Below.refl _ _).grown g5 (Nat.le_refl _) (fun k hk => by cases hk); have z5 := b5.size; clear k5 r4)
    | (at_builtin; have r7 := (o5.alloc (.cells #[.int .i64 (i : Int)] 3)); refine wpl_append _ rfl (.tmp 22) (.tmp 24) 96 rfl 3 i0 _ 1 8 Try.underlying96 HI.out hz0 hz1 hz2 rfl (by omega) w1.heap.size A2 p.fr.length c2 _ rfl r7 _ 1 1 (ints [(i : Int)]) rfl rfl (rd1i _ _) (ints_one _) (p.fr.length + 1) _ rfl HAP.out (by omega) (by omega) (by simp; omega) ?_; intro A3 c3 w6 o6 g6 k6; have b6 : Ext w1 w6 := below_grown (Ext.trans b5 (Ext.alloc _ (.cells #[.int .i64 (i : Int)] 3))) g6 (by simp; omega) (fun gg hg => (r7.at_ gg hg).1); have v6 := (r1.keep b6).cell 2; have f6 := (r1.keep b6).frozen 2; simp only [List.getElem?_cons_zero, List.getElem?_cons_succ] at v6; have R6 := Lib.hid o6; clear r7 o6 g6 k6))
  go_ret
  have hA3 : ∀ j, blk A3 = some j → w.heap.size ≤ j := fun j hj => by
    have := (R6.out.at_ j hj).1
    have := HSZ.out
    omega
  have hA1 := r1.keep b6
  have m4 : blk A3 ≠ some gr := fun q => row_ne R6.out hA1 (by decide) _ q rfl
  have s6 := setCell_grown w6 ⟨gr, 2, none⟩ (.slice A3 (p.fr.length + 1) c3)
  refine ⟨rfl, A3, c3, ⟨?_, ?_, ⟨xs, hxl, ?_⟩, ?_, HH.out.lo, hok⟩, ?_⟩
  · have := hA1.set 2 (.slice A3 (p.fr.length + 1) c3)
    show Own _ _ _ [_, _, .slice A3 (p.fr ++ [i]).length c3, _]
    rw [List.length_append, List.length_singleton]
    exact this
  · exact (HQ.out.2.2.1.keep b6).far (p := ⟨gr, 2, none⟩) (fun q => n1 q.symm) _
  · exact (HQ.out.2.1.keep b6).far (p := ⟨gr, 2, none⟩) (fun q => n2 q.symm) _
  · show Row _ _ _ _ _ (p.fr ++ [i]).length _ _
    rw [List.length_append, List.length_singleton]
    exact (R6.out.mono (by have := HSZ.out; omega)).grown s6 (.inr m4)
  · have t1 : Tr w (w6.setCell ⟨gr, 2, none⟩ (.slice A3 (p.fr.length + 1) c3)) (RFB gr ga gB A) (RFB gr ga gB A) := (HT.out.trans (Tr.ext b6)).trans (Tr.set ⟨gr, 2, none⟩ _ (.inl rfl))
    exact t1.mono (fun _ q => q) (RFB.of (.inr hA3))

end Go.Proofs.Ytebkknkgkjblnaa
