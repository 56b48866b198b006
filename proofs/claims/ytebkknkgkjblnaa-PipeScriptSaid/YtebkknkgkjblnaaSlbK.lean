/-
  WALKS of chapter 4's reference: New, is, Free, Take, Give.
-/
import Derived.Test.YtebkknkgkjblnaaSlbI
import Derived.Test.YtebkknkgkjblnaaDel
namespace Go.Proofs.Ytebkknkgkjblnaa
open Go.RowKit
attribute [local go_sem] depUpon Sp.ok

/-- Memory that bears the reference's frames. -/
structure RF (w : World) (B gr ga gB : Nat) (A : Option Addr) (c : Nat) (p : FP) : Prop where
  own : Own w gr 102 [.slice (some ⟨ga, 0, none⟩) p.n p.n, .slice (some ⟨gB, 0, none⟩) p.n p.n, .slice A p.fr.length c, .int .i64 (p.fs : Int)]
  tak : Own w ga 4 (bools p.tk)
  byt : ∃ xs, xs.length = p.n ∧ Own w gB 32 xs
  row : Row w B 3 1 A p.fr.length c (ints (p.fr.map fun j : Nat => (j : Int)))
  lo : B ≤ gr ∧ B ≤ ga ∧ B ≤ gB
  ok : p.ok
/-- Its blocks. -/
def RFB (gr ga gB : Nat) (A : Option Addr) (i : Nat) : Prop := i = gr ∨ i = ga ∨ i = gB ∨ blk A = some i
section
variable {w w' : World} {B gr ga gB : Nat} {A : Option Addr} {c : Nat} {p : FP}
theorem RF.keep (h : RF w B gr ga gB A c p) (hb : Ext w w') : RF w' B gr ga gB A c p := by
  obtain ⟨xs, h1, h2⟩ := h.byt
  exact ⟨h.own.keep hb, h.tak.keep hb, ⟨xs, h1, h2.keep hb⟩, h.row.keep hb, h.lo, h.ok⟩
theorem RF.other (h : RF w B gr ga gB A c p) {P P' : Nat → Prop} (a : Tr w w' P P') (hP : ∀ i, RFB gr ga gB A i → ¬ P i) : RF w' B gr ga gB A c p := by
  obtain ⟨xs, h1, h2⟩ := h.byt
  exact ⟨a.own h.own (hP _ (.inl rfl)), a.own h.tak (hP _ (.inr (.inl rfl))), ⟨xs, h1, a.own h2 (hP _ (.inr (.inr (.inl rfl))))⟩, a.row h.row (fun i hi => hP i (.inr (.inr (.inr hi)))), h.lo, h.ok⟩
theorem RF.lt (h : RF w B gr ga gB A c p) : ∀ i, RFB gr ga gB A i → i < w.heap.size := fun i hi => by
  obtain ⟨xs, h1, h2⟩ := h.byt
  rcases hi with rfl | rfl | rfl | hi
  · exact h.own.lt
  · exact h.tak.lt
  · exact h2.lt
  · exact (h.row.at_ i hi).2
theorem RF.ge (h : RF w B gr ga gB A c p) : ∀ i, RFB gr ga gB A i → B ≤ i := fun i hi => by
  rcases hi with rfl | rfl | rfl | hi
  · exact h.lo.1
  · exact h.lo.2.1
  · exact h.lo.2.2
  · exact (h.row.at_ i hi).1
theorem RF.taken (h : RF w B gr ga gB A c p) : w.cell? ⟨gr, 0, none⟩ = some (.slice (some ⟨ga, 0, none⟩) p.n p.n) := h.own.cell 0
theorem RF.bytes (h : RF w B gr ga gB A c p) : w.cell? ⟨gr, 1, none⟩ = some (.slice (some ⟨gB, 0, none⟩) p.n p.n) := h.own.cell 1
theorem RF.back (h : RF w B gr ga gB A c p) : w.cell? ⟨gr, 2, none⟩ = some (.slice A p.fr.length c) := h.own.cell 2
theorem RF.fresh (h : RF w B gr ga gB A c p) : w.cell? ⟨gr, 3, none⟩ = some (.int .i64 (p.fs : Int)) := h.own.cell 3
theorem RF.at_ (h : RF w B gr ga gB A c p) {i : Nat} (hi : i < p.n) : ∃ b, p.tk[i]? = some b ∧ w.cell? ⟨ga, i, none⟩ = some (.bool b) := by
  have hl : i < p.tk.length := by rw [h.ok.len]; exact hi
  refine ⟨p.tk[i], List.getElem?_eq_getElem hl, ?_⟩
  rw [h.tak.cell, bools_get _ _ hl]
theorem RF.ne (h : RF w B gr ga gB A c p) : gr ≠ ga ∧ gr ≠ gB ∧ ga ≠ gB ∧ blk A ≠ some gr ∧ blk A ≠ some ga ∧ blk A ≠ some gB := by
  obtain ⟨xs, _, h2⟩ := h.byt
  exact ⟨own_ne h.own h.tak (by decide), own_ne h.own h2 (by decide), own_ne h.tak h2 (by decide), fun q => row_ne h.row h.own (by decide) _ q rfl, fun q => row_ne h.row h.tak (by decide) _ q rfl, fun q => row_ne h.row h2 (by decide) _ q rfl⟩
end

set_option maxRecDepth 100000 in
theorem info_bool : (Try.prog.info? 4).map (fun i => (i.zero, i.size, i.bytes)) = some (some (.bool false), 1, 1) := by kernel_rfl
set_option maxRecDepth 100000 in
theorem info_bytes : (Try.prog.info? 32).map (fun i => (i.zero, i.size, i.bytes)) = some (some (.slice none 0 0), 1, 24) := by kernel_rfl
set_option maxRecDepth 100000 in
theorem info_u8 : (Try.prog.info? 5).map (fun i => (i.zero, i.size, i.bytes)) = some (some (.int .u8 0), 1, 1) := by kernel_rfl

set_option maxRecDepth 100000 in
set_option maxHeartbeats 4000000 in
theorem r4_new (n : Nat) (w : World) (h0 : 1 ≤ n) (h1 : n ≤ 64) :
    Calls Try.prog 21 #[.int .i64 (n : Int)] w fun e w' => ∃ gr ga gB, e = .returned (.tuple #[.pointer (some ⟨gr, 0, none⟩), .int .i64 0]) ∧ RF w' w.heap.size gr ga gB none 0 (p0 n) ∧ Below w.heap.size w w' := by
  obtain ⟨i1, hi1, a0, a1, a2⟩ := info_parts info_bool
  obtain ⟨i2, hi2, b0, b1, b2⟩ := info_parts info_bytes
  have z1 : (madeCells (Value.bool false).cells (n * 1)).toList = List.replicate n (.bool false) := by
    rw [Nat.mul_one]; exact made_rep (.bool false) 1 n (by omega)
  have z2 : (madeCells (Value.slice none 0 0).cells (n * 1)).toList = List.replicate n (.slice none 0 0) := by
    rw [Nat.mul_one]; exact made_rep (.slice none 0 0) 1 n (by omega)
  have m1 : ∀ w, (Instr.makeSlice 99 (.int .i64 (n : Int)) (.int .i64 (n : Int))).run Try.prog w = .ok (.slice (some ⟨w.heap.size, 0, none⟩) n n) (w.alloc (.cells (List.replicate n (.bool false)).toArray 4)) := fun w => by
    have := run_make (P := Try.prog) w 99 4 i1 _ Try.underlying99 hi1 a0 .i64 .i64 (n : Int) (n : Int) (by omega) (by omega) (by rw [a2]; omega) (by omega)
    simp only [Int.toNat_natCast, a1] at this
    rw [this, ← z1, Array.toArray_toList]
  have m2 : ∀ w, (Instr.makeSlice 100 (.int .i64 (n : Int)) (.int .i64 (n : Int))).run Try.prog w = .ok (.slice (some ⟨w.heap.size, 0, none⟩) n n) (w.alloc (.cells (List.replicate n (.slice none 0 0)).toArray 32)) := fun w => by
    have := run_make (P := Try.prog) w 100 32 i2 _ Try.underlying100 hi2 b0 .i64 .i64 (n : Int) (n : Int) (by omega) (by omega) (by rw [b2]; omega) (by omega)
    simp only [Int.toNat_natCast, b1] at this
    rw [this, ← z2, Array.toArray_toList]
  have t0 : (1 : Int) ≤ (n : Int) := by omega
  have t1 : (n : Int) ≤ 64 := by omega
  have HOK := Lib.hid (p0_ok h1)
  have HTK := Lib.hid (show (List.replicate n (Value.bool false)) = bools (List.replicate n false) by simp [bools])
  clear z1 z2 hi1 a0 a1 a2 hi2 b0 b1 b2 h0 h1
  have fin : ∀ (w' : World) (gr ga gB : Nat), Own w' gr 102 [.slice (some ⟨ga, 0, none⟩) n n, .slice (some ⟨gB, 0, none⟩) n n, .slice none 0 0, .int .i64 0] → Own w' ga 4 (List.replicate n (.bool false)) → Own w' gB 32 (List.replicate n (.slice none 0 0)) → w.heap.size ≤ gr → w.heap.size ≤ ga → w.heap.size ≤ gB →
      RF w' w.heap.size gr ga gB none 0 (p0 n) := fun w' gr ga gB o1 o2 o3 l1 l2 l3 => ⟨o1, by rw [HTK.out] at o2; exact o2, ⟨_, List.length_replicate, o3⟩, Row.nil _ _ _ _, ⟨l1, l2, l3⟩, HOK.out⟩
  have HF := Lib.hid fin
  clear fin
  go_enter Try.func21, Try.ntmps21
  go_wp2
  go_region
  all_goals go_wp2
  all_goals go_ret2
  · have e1 := Own.new w 4 (List.replicate n (.bool false))
    have e2 := Own.new (w.alloc (.cells (List.replicate n (Value.bool false)).toArray 4)) 32 (List.replicate n (.slice none 0 0))
    have e3 := Own.new ((w.alloc (.cells (List.replicate n (Value.bool false)).toArray 4)).alloc (.cells (List.replicate n (Value.slice none 0 0)).toArray 32)) 102 [.slice (some ⟨w.heap.size, 0, none⟩) n n, .slice (some ⟨w.heap.size + 1, 0, none⟩) n n, .slice none 0 0, .int .i64 0]
    have e1' := (e1.alloc (.cells (List.replicate n (Value.slice none 0 0)).toArray 32)).alloc (.cells #[.slice (some ⟨w.heap.size, 0, none⟩) n n, .slice (some ⟨w.heap.size + 1, 0, none⟩) n n, .slice none 0 0, .int .i64 0] 102)
    have e2' := e2.alloc (.cells #[.slice (some ⟨w.heap.size, 0, none⟩) n n, .slice (some ⟨w.heap.size + 1, 0, none⟩) n n, .slice none 0 0, .int .i64 0] 102)
    simp only [List.toArray_replicate, World.size_alloc] at e1' e2' e3
    exact ⟨_, _, _, rfl, HF.out _ _ _ _ e3 e1' e2' (by omega) (by omega) (by omega), Ext.trans (Ext.trans (Ext.trans (Ext.alloc _ _) (Ext.alloc _ _)) (Ext.alloc _ _)) (Ext.drew _)⟩
  · have e1 := Own.new w 32 (List.replicate n (.slice none 0 0))
    have e2 := Own.new (w.alloc (.cells (List.replicate n (Value.slice none 0 0)).toArray 32)) 4 (List.replicate n (.bool false))
    have e3 := Own.new ((w.alloc (.cells (List.replicate n (Value.slice none 0 0)).toArray 32)).alloc (.cells (List.replicate n (Value.bool false)).toArray 4)) 102 [.slice (some ⟨w.heap.size + 1, 0, none⟩) n n, .slice (some ⟨w.heap.size, 0, none⟩) n n, .slice none 0 0, .int .i64 0]
    have e1' := (e1.alloc (.cells (List.replicate n (Value.bool false)).toArray 4)).alloc (.cells #[.slice (some ⟨w.heap.size + 1, 0, none⟩) n n, .slice (some ⟨w.heap.size, 0, none⟩) n n, .slice none 0 0, .int .i64 0] 102)
    have e2' := e2.alloc (.cells #[.slice (some ⟨w.heap.size + 1, 0, none⟩) n n, .slice (some ⟨w.heap.size, 0, none⟩) n n, .slice none 0 0, .int .i64 0] 102)
    simp only [List.toArray_replicate, World.size_alloc] at e1' e2' e3
    exact ⟨_, _, _, rfl, HF.out _ _ _ _ e3 e2' e1' (by omega) (by omega) (by omega), Ext.trans (Ext.trans (Ext.trans (Ext.alloc _ _) (Ext.alloc _ _)) (Ext.alloc _ _)) (Ext.drew _)⟩

theorem r4_is (B gr ga gB : Nat) (A : Option Addr) (c : Nat) (p : FP) (i : Int) (w : World) (h : RF w B gr ga gB A c p) :
    Calls Try.prog 63 #[.pointer (some ⟨gr, 0, none⟩), .int .i64 i] w fun e w' => e = .returned (.int .i64 (p.known i)) ∧ w = w' := by
  have v0 := h.taken
  have hn := h.ok.n64
  by_cases h0 : i < 0
  · rw [show p.known i = 2 by unfold FP.known; rw [if_pos (.inl h0)]]
    have t0 : decide (i < 0) = true := by simp [h0]
    clear h
    go_enter Try.func63, Try.ntmps63
    go_wp2
    go_ret
    exact ⟨rfl, rfl⟩
  have t0 : decide (i < 0) = false := by simp [h0]
  have t00 : 0 ≤ i := by omega
  by_cases h1 : (p.n : Int) ≤ i
  · rw [show p.known i = 2 by unfold FP.known; rw [if_pos (.inr h1)]]
    have t1 : decide ((p.n : Int) ≤ i) = true := by simp [h1]
    clear h h0
    go_enter Try.func63, Try.ntmps63
    go_wp2
    go_ret
    exact ⟨rfl, rfl⟩
  obtain ⟨j, rfl⟩ : ∃ j : Nat, i = (j : Int) := ⟨i.toNat, by omega⟩
  have t1 : decide ((p.n : Int) ≤ (j : Int)) = false := decide_eq_false h1
  have t10 : (j : Int) < (p.n : Int) := by omega
  have hjn : j < p.n := by omega
  have t11 : ¬ p.n ≤ j := by omega
  obtain ⟨b, hb, hc⟩ := h.at_ hjn
  cases b
  · rw [show p.known (j : Int) = 4 by unfold FP.known; rw [if_neg (by omega), if_neg (by rw [Int.toNat_natCast, hb]; simp)]]
    clear h h0 h1 hb
    go_enter Try.func63, Try.ntmps63
    go_wp2
    go_ret
    exact ⟨rfl, rfl⟩
  · rw [show p.known (j : Int) = 0 by unfold FP.known; rw [if_neg (by omega), if_pos (by rw [Int.toNat_natCast, hb])]]
    clear h h0 h1 hb
    go_enter Try.func63, Try.ntmps63
    go_wp2
    go_ret
    exact ⟨rfl, rfl⟩
theorem r4_free (B gr ga gB : Nat) (A : Option Addr) (c : Nat) (p : FP) (w : World) (h : RF w B gr ga gB A c p) :
    Calls Try.prog 33 #[.pointer (some ⟨gr, 0, none⟩)] w fun e w' => e = .returned (.int .i64 ((p.fr.length : Int) + (p.n : Int) - (p.fs : Int))) ∧ Ext w w' := by
  have v0 := h.taken
  have v2 := h.back
  have v3 := h.fresh
  have hn := h.ok.n64
  have hl := FP.frb h.ok
  have hs := h.ok.fsl
  clear h
  generalize p.fr.length = l at *
  generalize p.fs = s at *
  generalize p.n = n at *
  have k1 : IntKind.i64.wrap ((l : Int) + (n : Int)) = (l : Int) + (n : Int) := IntWalk.i64_in _ ⟨by omega, by omega⟩
  have k2 : IntKind.i64.wrap ((l : Int) + (n : Int) - (s : Int)) = (l : Int) + (n : Int) - (s : Int) := IntWalk.i64_in _ ⟨by omega, by omega⟩
  go_enter Try.func33, Try.ntmps33
  go_upto_region 1 with fail
  refine wp_region_dep (S := Ext) (C := Ext (w)) (by kernel_rfl) (by kernel_rfl) rfl Ext.refl (Ext.drew _) ?_
  repeat (refine dep_det (by rfl) (fun K hK => ?_); go_simp; first
    | ((with_reducible refine hK _ ?_); clear hK K)
    | (rw [if_neg (by decide)]; (with_reducible refine hK _ ?_); clear hK K)
    | (refine ⟨_, fun w1 hw1 => ⟨Ext.refl w1, hw1, rfl⟩, hK _ ?_⟩; clear hK K)
    | (apply Exists.intro; refine ⟨fun w1 hw1 => ?_, hK _ ?_⟩
       first
         | (have c_v0 := cell_keep hw1 v0; have c_v2 := cell_keep hw1 v2; have c_v3 := cell_keep hw1 v3; go_simp; first | exact ⟨Ext.refl _, hw1, rfl⟩ | exact ⟨Ext.refl _, rfl⟩)
       clear hK K))
  refine dep_nil ?_
  intro a' w' hC hE
  obtain rfl := atEnd_nil hE
  clear hE
  go_wp2
  go_ret
  exact ⟨rfl, hC⟩

end Go.Proofs.Ytebkknkgkjblnaa
