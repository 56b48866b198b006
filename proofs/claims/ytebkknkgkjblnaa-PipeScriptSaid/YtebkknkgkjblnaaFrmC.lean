/-
  WALKS of package frames: New, Take, Give (the walks).
-/
import Derived.Test.YtebkknkgkjblnaaFrmB
namespace Go.Proofs.Ytebkknkgkjblnaa
open Go.RowKit
attribute [local go_sem] depUpon Sp.ok

theorem Row.pre1 {w : World} {base : Nat} {e : TypeId} {g n c : Nat} {xs : List Value} (h : Row w base e 1 (some ⟨g, 0, none⟩) n c xs) {m : Nat} (hm : m ≤ n) : Row w base e 1 (some ⟨g, 0, none⟩) m c (xs.take m) := by
  have hl := h.len
  rcases h.2 with ⟨hv, _⟩ | ⟨g', cap, cur, hv, hb, hc, hn, hmx, hsz, ht⟩
  · cases hv
  · exact ⟨by rw [List.length_take]; omega, .inr ⟨g', cap, cur, by injection hv with e1 e2 e3; rw [e1, e3], hb, hc, by omega, hmx, hsz, by rw [← ht, List.take_take]; congr 1; omega⟩⟩
theorem Row.le' {w : World} {base n c size : Nat} {T : TypeId} {A : Option Addr} {xs : List Value} (h : Row w base T size A n c xs) : n ≤ c := by
  rcases h.2 with ⟨hv, h0⟩ | ⟨g, cap, cur, hv, _, _, hnc, _⟩
  · injection hv with e1 e2 e3; omega
  · injection hv with e1 e2 e3; omega
section
variable {w w' : World} {B gf gb gt : Nat} {A : Option Addr} {c : Nat} {p : FP}
theorem FS.ne (h : FS w B gf gb gt A c p) : gf ≠ gb ∧ gf ≠ gt ∧ gb ≠ gt ∧ blk A ≠ some gf ∧ blk A ≠ some gb :=
  ⟨own_ne h.own h.byt (by decide), own_ne h.own h.tak (by decide), own_ne h.byt h.tak (by decide), fun q => row_ne h.row h.own (by decide) _ q rfl, fun q => row_ne h.row h.byt (by decide) _ q rfl⟩
theorem take_set_tk (l : List Bool) (i : Nat) (b : Bool) : (ints (l.map tki)).set i (.int .i64 (tki b)) = ints ((l.set i b).map tki) := by
  rw [ints_set', ← List.map_set]
/-- A fresh one is taken. -/
theorem FS.fresh2 (h : FS w B gf gb gt A c p) (hp : ({ p with tk := p.tk.set p.fs true, fs := p.fs + 1 } : FP).ok) :
    FS ((w.setCell ⟨gf, 3, none⟩ (.int .i64 ((p.fs : Int) + 1))).setCell ⟨gt, p.fs, none⟩ (.int .i64 1)) B gf gb gt A c { p with tk := p.tk.set p.fs true, fs := p.fs + 1 } ∧
    Tr w ((w.setCell ⟨gf, 3, none⟩ (.int .i64 ((p.fs : Int) + 1))).setCell ⟨gt, p.fs, none⟩ (.int .i64 1)) (FB gf gb gt A) (FB gf gb gt A) := by
  obtain ⟨n1, n2, n3, n4, n5⟩ := h.ne
  have hg1 := setCell_grown w ⟨gf, 3, none⟩ (.int .i64 ((p.fs : Int) + 1))
  have hg2 := setCell_grown (w.setCell ⟨gf, 3, none⟩ (.int .i64 ((p.fs : Int) + 1))) ⟨gt, p.fs, none⟩ (.int .i64 1)
  refine ⟨⟨(h.own.set 3 (.int .i64 ((p.fs : Int) + 1))).far n2 _, (h.byt.far (p := ⟨gf, 3, none⟩) (fun q => n1 q.symm) _).far n3 _, ?_, (h.row.grown hg1 (.inr n4)).grown hg2 (.inr h.sep), h.sep, h.lo, hp⟩, (Tr.set ⟨gf, 3, none⟩ _ (.inl rfl)).trans (Tr.set ⟨gt, p.fs, none⟩ _ (.inr (.inr (.inl rfl))))⟩
  have := (h.tak.far (p := ⟨gf, 3, none⟩) (fun q => n2 q.symm) (.int .i64 ((p.fs : Int) + 1))).set p.fs (.int .i64 (tki true))
  rwa [take_set_tk] at this
/-- One that was given back is taken. -/
theorem FS.pop (h : FS w B gf gb gt A c p) {l : List Nat} {i : Nat} (hl : p.fr = l ++ [i]) (hp : ({ p with tk := p.tk.set i true, fr := p.fr.dropLast } : FP).ok) :
    FS ((w.setCell ⟨gf, 2, none⟩ (.slice A l.length c)).setCell ⟨gt, i, none⟩ (.int .i64 1)) B gf gb gt A c { p with tk := p.tk.set i true, fr := p.fr.dropLast } ∧
    Tr w ((w.setCell ⟨gf, 2, none⟩ (.slice A l.length c)).setCell ⟨gt, i, none⟩ (.int .i64 1)) (FB gf gb gt A) (FB gf gb gt A) := by
  obtain ⟨n1, n2, n3, n4, n5⟩ := h.ne
  have hg1 := setCell_grown w ⟨gf, 2, none⟩ (.slice A l.length c)
  have hg2 := setCell_grown (w.setCell ⟨gf, 2, none⟩ (.slice A l.length c)) ⟨gt, i, none⟩ (.int .i64 1)
  have e2 : p.fr.dropLast = l := by rw [hl, List.dropLast_concat]
  obtain ⟨ga, ha⟩ := h.row.addr (by rw [hl]; simp)
  have hr : Row w B 3 1 A l.length c (ints (l.map fun j : Nat => (j : Int))) := by
    have h1 := h.row
    have n4' := n4
    rw [ha] at h1 ⊢
    have := h1.pre1 (m := l.length) (by rw [hl]; simp)
    rwa [show (ints (p.fr.map fun j : Nat => (j : Int))).take l.length = ints (l.map fun j : Nat => (j : Int)) by rw [hl]; simp [ints]] at this
  refine ⟨⟨?_, (h.byt.far (p := ⟨gf, 2, none⟩) (fun q => n1 q.symm) _).far n3 _, ?_, ?_, h.sep, h.lo, hp⟩, (Tr.set ⟨gf, 2, none⟩ _ (.inl rfl)).trans (Tr.set ⟨gt, i, none⟩ _ (.inr (.inr (.inl rfl))))⟩
  · have := (h.own.set 2 (.slice A l.length c)).far (p := ⟨gt, i, none⟩) n2 (.int .i64 1)
    simp only [e2]
    exact this
  · have := (h.tak.far (p := ⟨gf, 2, none⟩) (fun q => n2 q.symm) (.slice A l.length c)).set i (.int .i64 (tki true))
    rwa [take_set_tk] at this
  · simp only [e2]
    exact (hr.grown hg1 (.inr n4)).grown hg2 (.inr h.sep)
/-- One is given back: the mark, then the list that is longer. -/
theorem FS.unmark (h : FS w B gf gb gt A c p) (i : Nat) :
    Own (w.setCell ⟨gt, i, none⟩ (.int .i64 0)) gf 98 [.slice (some ⟨gb, 0, none⟩) p.n p.n, .slice (some ⟨gt, 0, none⟩) p.n p.n, .slice A p.fr.length c, .int .i64 (p.fs : Int)] ∧
    Own (w.setCell ⟨gt, i, none⟩ (.int .i64 0)) gb 125 (List.replicate (p.n * 64) (.int .u8 0)) ∧
    Own (w.setCell ⟨gt, i, none⟩ (.int .i64 0)) gt 3 (ints ((p.tk.set i false).map tki)) ∧
    Row (w.setCell ⟨gt, i, none⟩ (.int .i64 0)) B 3 1 A p.fr.length c (ints (p.fr.map fun j : Nat => (j : Int))) := by
  obtain ⟨n1, n2, n3, n4, n5⟩ := h.ne
  refine ⟨h.own.far n2 _, h.byt.far n3 _, ?_, h.row.grown (setCell_grown w ⟨gt, i, none⟩ _) (.inr h.sep)⟩
  have := h.tak.set i (.int .i64 (tki false))
  rwa [take_set_tk] at this
end

set_option maxRecDepth 100000 in
set_option maxHeartbeats 1000000 in
theorem f_take_full (B gf gb gt : Nat) (A : Option Addr) (c : Nat) (p : FP) (w : World) (h : FS w B gf gb gt A c p) (ht : p.top = none) :
    Calls Try.prog 47 #[.pointer (some ⟨gf, 0, none⟩)] w fun e w' => e = .returned (.tuple #[.int .i64 0, .int .i64 3]) ∧ Ext w w' := by
  obtain ⟨h1, h2⟩ := FP.top_none ht
  have v0 := h.bytes
  have v2 := h.free
  have v3 := h.fresh
  rw [h1] at v2
  have hn := h.ok.n64
  have hs := h.ok.fsl
  clear h ht h1
  rw [show ([] : List Nat).length = 0 from rfl] at v2
  generalize hfs : p.fs = s at *
  generalize p.n = n at *
  have t0 : decide ((s : Int) < (n : Int)) = false := decide_eq_false (by omega)
  have t1 : ¬ s < n := h2
  go_enter Try.func47, Try.ntmps47
  go_upto_region 8 with fail
  refine wp_region_dep (S := Ext) (C := Ext (w)) (by kernel_rfl) (by kernel_rfl) rfl Ext.refl (Ext.drew _) ?_
  repeat (refine dep_det (by rfl) (fun K hK => ?_); go_simp; first
    | ((with_reducible refine hK _ ?_); clear hK K)
    | (rw [if_neg (by decide)]; (with_reducible refine hK _ ?_); clear hK K)
    | (refine ⟨_, fun w1 hw1 => ⟨Ext.refl w1, hw1, rfl⟩, hK _ ?_⟩; clear hK K)
    | (apply Exists.intro; refine ⟨fun w1 hw1 => ?_, hK _ ?_⟩
       first
         | (have c_v0 := cell_keep hw1 v0; have c_v3 := cell_keep hw1 v3; go_simp; first | exact ⟨Ext.refl _, hw1, rfl⟩ | exact ⟨Ext.refl _, rfl⟩)
       clear hK K))
  refine dep_nil ?_
  intro a' w' hC hE
  obtain rfl := atEnd_nil hE
  clear hE
  go_wp2
  go_ret2
  exact ⟨rfl, hC⟩

set_option maxRecDepth 100000 in
set_option maxHeartbeats 2000000 in
theorem f_take (B gf gb gt : Nat) (A : Option Addr) (c : Nat) (p : FP) (i : Nat) (w : World) (h : FS w B gf gb gt A c p) (ht : p.top = some i) :
    Calls Try.prog 47 #[.pointer (some ⟨gf, 0, none⟩)] w fun e w' => e = .returned (.tuple #[.int .i64 (i : Int), .int .i64 0]) ∧ FS w' B gf gb gt A c (p.tkd i) ∧ Tr w w' (FB gf gb gt A) (FB gf gb gt A) := by
  have hok := h.ok.take ht
  obtain ⟨hi, hfl⟩ := FP.top_lt h.ok ht
  have hn := h.ok.n64
  have hs := h.ok.fsl
  obtain ⟨n1, n2, n3, n4, n5⟩ := h.ne
  have HZ := Lib.hid (fun w => run_zero64 w)
  have i0' : (0 : Int) ≤ (i : Int) := by omega
  have i1' : (i : Int) < (p.n : Int) := by omega
  have HSM := Lib.hid (show ∀ j v, (List.replicate 64 (Value.int .u8 0))[j]? = some v → (List.replicate (p.n * 64) (Value.int .u8 0))[i * 64 + j]? = some v from fun j v hv => by
    obtain ⟨hj, e⟩ := List.getElem?_eq_some_iff.1 hv
    rw [List.length_replicate] at hj
    rw [List.getElem_replicate] at e
    rw [List.getElem?_replicate, if_pos (by omega), e])
  rcases FP.top_some ht with ⟨h1, h2, h3⟩ | ⟨l, h1, h2⟩
  · have e : p.tkd i = { p with tk := p.tk.set i true, fs := p.fs + 1 } := by unfold FP.tkd; rw [if_pos h1]
    rw [e] at hok ⊢
    have v0 := h.bytes
    have v1 := h.taken
    have v2 := h.free
    have v3 := h.fresh
    rw [h1, show ([] : List Nat).length = 0 from rfl] at v2
    rw [← h3] at v3
    have hrow := h.row
    have HH := Lib.hid h
    have t0 : i < p.n := hi
    have H3 := Lib.hid h3
    clear h h1 h2 h3
    go_enter Try.func47, Try.ntmps47
    go_upto_region 8 with fail
    refine wp_region_dep (S := Ext) (C := Ext (w)) (by kernel_rfl) (by kernel_rfl) rfl Ext.refl (Ext.drew _) ?_
    repeat (refine dep_det (by rfl) (fun K hK => ?_); go_simp; first
      | ((with_reducible refine hK _ ?_); clear hK K)
      | (rw [if_neg (by decide)]; (with_reducible refine hK _ ?_); clear hK K)
      | (refine ⟨_, fun w1 hw1 => ⟨Ext.refl w1, hw1, rfl⟩, hK _ ?_⟩; clear hK K)
      | (apply Exists.intro; refine ⟨fun w1 hw1 => ?_, hK _ ?_⟩
         first
           | (have c_v0 := cell_keep hw1 v0; have c_v3 := cell_keep hw1 v3; go_simp; first | exact ⟨Ext.refl _, hw1, rfl⟩ | exact ⟨Ext.refl _, rfl⟩)
         clear hK K))
    refine dep_nil ?_
    intro a' w' hC hE
    obtain rfl := atEnd_nil hE
    clear hE
    have hW := HH.out.keep hC
    have HW := Lib.hid hW
    replace v0 := hW.bytes
    replace v1 := hW.taken
    replace v3 := hW.fresh
    rw [← H3.out] at v3
    have f3 := hW.own.frozen 3
    have c1 := hW.tak.frozen i
    obtain ⟨b, hb, hcb⟩ := hW.at_ hi
    have o1 := hW.own.set 3 (.int .i64 ((i : Int) + 1))
    have hb1 := hW.byt.far (p := ⟨gf, 3, none⟩) (fun q => n1 q.symm) (.int .i64 ((i : Int) + 1))
    have hb2 := hb1.far (p := ⟨gt, i, none⟩) n3 (.int .i64 1)
    have g1 := setCell_grown w' ⟨gf, 3, none⟩ (.int .i64 ((i : Int) + 1))
    have HB2 := Lib.hid hb2
    clear hW hrow hfl hb o1 hb1 hb2
    go_wp2_with (first
      | (refine wpl_build0 _ rfl 125 rfl _ (HZ.out _) ?_)
      | (refine wpl_store_same _ rfl 125 _ _ rfl 64 size_64 gb (i * 64) _ rfl (by omega) (List.replicate 64 (.int .u8 0)) rfl 125 _ HB2.out rfl HSM.out (fun u hu => by rw [List.eq_of_mem_replicate hu]; rfl) ?_))
    go_ret2
    have h3 := H3.out
    subst h3
    have hS := HW.out.fresh2 hok
    exact ⟨rfl, hS.1, (Tr.ext hC).trans hS.2⟩
  · have e : p.tkd i = { p with tk := p.tk.set i true, fr := p.fr.dropLast } := by unfold FP.tkd; rw [if_neg h2]
    rw [e] at hok ⊢
    have hlen : p.fr.length = l.length + 1 := by rw [h1]; simp
    have hfl2 := FP.frb h.ok
    obtain ⟨ga, rfl⟩ := h.row.addr (by omega)
    have hle := Row.le' h.row
    have v0 := h.bytes
    have v1 := h.taken
    have v2 := h.free
    rw [hlen] at v2
    have v9 := h.row.rd
    have v4 : w.cell? ⟨ga, l.length, none⟩ = some (.int .i64 (i : Int)) := by
      obtain ⟨b', o', e', hc'⟩ := v9 l.length (.int .i64 (i : Int)) (by rw [h1]; simp [ints])
      injection e' with e'; injection e' with e1 e2
      subst e1; subst e2
      rwa [Nat.zero_add] at hc'
    have HH := Lib.hid h
    have HL := Lib.hid h1
    have kw : IntKind.i64.wrap (l.length : Int) = (l.length : Int) := IntWalk.i64_in _ ⟨by omega, by omega⟩
    have k0 : (0 : Int) ≤ (l.length : Int) := by omega
    have k1 : (l.length : Int) < (l.length : Int) + 1 := by omega
    have k2 : (l.length : Int) ≤ (c : Int) := by omega
    have k3 : (0 : Int) < (l.length : Int) + 1 := by omega
    have k4 : (l.length : Int) + 1 ≤ (c : Int) := by omega
    clear h h1 h2 v9 hlen e
    go_enter Try.func47, Try.ntmps47
    go_upto_region 6 with fail
    refine wp_region_dep (S := Ext) (C := Ext (w)) (by kernel_rfl) (by kernel_rfl) rfl Ext.refl (Ext.drew _) ?_
    repeat (refine dep_det (by rfl) (fun K hK => ?_); go_simp; first
      | ((with_reducible refine hK _ ?_); clear hK K)
      | (rw [if_neg (by decide)]; (with_reducible refine hK _ ?_); clear hK K)
      | (refine ⟨_, fun w1 hw1 => ⟨Ext.refl w1, hw1, rfl⟩, hK _ ?_⟩; clear hK K)
      | (apply Exists.intro; refine ⟨fun w1 hw1 => ?_, hK _ ?_⟩
         first
           | (have c_v0 := cell_keep hw1 v0; have c_v2 := cell_keep hw1 v2; have c_v4 := cell_keep hw1 v4; go_simp; first | exact ⟨Ext.refl _, hw1, rfl⟩ | exact ⟨Ext.refl _, rfl⟩)
         clear hK K))
    refine dep_nil ?_
    intro a' w' hC hE
    obtain rfl := atEnd_nil hE
    clear hE
    have q2 := cell_keep hC v2
    have HC1 := Lib.hid hC
    clear v0 v1 v2 v4 hC
    go_upto_region 7 with fail
    refine wp_region_dep_tail 14 (S := Ext) (C := Ext (w')) (by kernel_rfl) (by kernel_rfl) rfl Ext.refl (Ext.drew _) ?_
    simp only [List.take_succ_cons, List.take_zero]
    repeat (refine dep_det (by rfl) (fun K hK => ?_); go_simp; first
      | ((with_reducible refine hK _ ?_); clear hK K)
      | (rw [if_neg (by decide)]; (with_reducible refine hK _ ?_); clear hK K)
      | (refine ⟨_, fun w1 hw1 => ⟨Ext.refl w1, hw1, rfl⟩, hK _ ?_⟩; clear hK K)
      | (apply Exists.intro; refine ⟨fun w1 hw1 => ?_, hK _ ?_⟩
         first
           | (have c_q2 := cell_keep hw1 q2; go_simp; first | exact ⟨Ext.refl _, hw1, rfl⟩ | exact ⟨Ext.refl _, rfl⟩)
         clear hK K))
    refine dep_nil ?_
    intro a' w' hC hE
    obtain rfl := atEnd_nil hE
    clear hE
    simp only [List.drop_succ_cons, List.drop_zero]
    have hC2 := Ext.trans HC1.out hC
    have hW := HH.out.keep hC2
    have HW := Lib.hid hW
    have v0 := hW.bytes
    have v1 := hW.taken
    have v2 := hW.free
    have f2 := hW.own.frozen 2
    have c1 := hW.tak.frozen i
    obtain ⟨b, hb, hcb⟩ := hW.at_ hi
    have hb1 := hW.byt.far (p := ⟨gf, 2, none⟩) (fun q => n1 q.symm) (.slice (some ⟨ga, 0, none⟩) l.length c)
    have hb2 := hb1.far (p := ⟨gt, i, none⟩) n3 (.int .i64 1)
    have HB2 := Lib.hid hb2
    clear hW hfl hb hb1 hb2 q2
    go_wp2_with (first
      | (refine wpl_build0 _ rfl 125 rfl _ (HZ.out _) ?_)
      | (refine wpl_store_same _ rfl 125 _ _ rfl 64 size_64 gb (i * 64) _ rfl (by omega) (List.replicate 64 (.int .u8 0)) rfl 125 _ HB2.out rfl HSM.out (fun u hu => by rw [List.eq_of_mem_replicate hu]; rfl) ?_))
    go_ret2
    have hS := HW.out.pop HL.out hok
    exact ⟨rfl, hS.1, (Tr.ext hC2).trans hS.2⟩

set_option maxRecDepth 100000 in
set_option maxHeartbeats 2000000 in
theorem f_give (B gf gb gt : Nat) (A : Option Addr) (c : Nat) (p : FP) (i : Nat) (w : World) (h : FS w B gf gb gt A c p) (ht : p.tk[i]? = some true) (hB : B ≤ w.heap.size) :
    Calls Try.prog 48 #[.pointer (some ⟨gf, 0, none⟩), .int .i64 (i : Int)] w fun e w' => e = .returned (.int .i64 0) ∧ ∃ A' c', FS w' B gf gb gt A' c' (p.gvn i) ∧ Tr w w' (FB gf gb gt A) (FB gf gb gt A') := by
  have hok := h.ok.give ht
  have hil : i < p.tk.length := (List.getElem?_eq_some_iff.1 ht).1
  have hi : i < p.n := by rw [← h.ok.len]; exact hil
  have hn := h.ok.n64
  have hfl := FP.frb h.ok
  obtain ⟨n1, n2, n3, n4, n5⟩ := h.ne
  have hK := f_known B gf gb gt A c p (i : Int) w h
  rw [show p.known (i : Int) = 0 by unfold FP.known; rw [if_neg (by omega), Int.toNat_natCast, if_pos ht]] at hK
  have HK := Lib.hid hK
  have v1 := h.taken
  have c1 := h.tak.frozen i
  obtain ⟨b, hb, hcb⟩ := h.at_ hi
  obtain ⟨q1, q2, q3, q4⟩ := h.unmark i
  have v2 := q1.cell 2
  have f2 := q1.frozen 2
  simp only [List.getElem?_cons_zero, List.getElem?_cons_succ] at v2
  have HQ := Lib.hid (And.intro q1 (And.intro q2 (And.intro q3 q4)))
  have HT := Lib.hid (show Tr w (w.setCell ⟨gt, i, none⟩ (.int .i64 0)) (FB gf gb gt A) (FB gf gb gt A) from Tr.set ⟨gt, i, none⟩ _ (.inr (.inr (.inl rfl))))
  have HH := Lib.hid h
  have i0' : (0 : Int) ≤ (i : Int) := by omega
  have i1' : (i : Int) < (p.n : Int) := by omega
  obtain ⟨i0, hi0, hz0, hz1, hz2⟩ := info_parts info_int
  have HI := Lib.hid hi0
  have HAP := Lib.hid (show ints (p.fr.map fun j : Nat => (j : Int)) ++ ints [(i : Int)] = ints ((p.fr ++ [i]).map fun j : Nat => (j : Int)) by simp [ints])
  have HSZ := Lib.hid (show (w.setCell ⟨gt, i, none⟩ (.int .i64 0)).heap.size = w.heap.size by simp)
  clear h hK hb q1 q2 q3 q4 hi0 ht
  go_enter Try.func48, Try.ntmps48
  go_upto_region 5 with ((with_reducible go_at_call 59); (with_reducible refine (HK.out).mono ?_); rintro e w' ⟨rfl, rfl⟩)
  generalize hw1 : w.setCell ⟨gt, i, none⟩ (.int .i64 0) = w1 at *
  have r4 := HQ.out.2.2.2
  have r1 := HQ.out.1
  have o2 := Own.lt r1
  go_wp2_with (at_builtin; have r7 := (r4.alloc (.cells #[.int .i64 (i : Int)] 3)); have r8 := (r1.alloc (.cells #[.int .i64 (i : Int)] 3)); refine wpl_append _ rfl (.tmp 22) (.tmp 24) 96 rfl 3 i0 _ 1 8 Try.underlying96 HI.out hz0 hz1 hz2 rfl (by omega) B A p.fr.length c _ rfl r7 _ 1 1 (ints [(i : Int)]) rfl rfl (rd1i _ _) (ints_one _) (p.fr.length + 1) _ rfl HAP.out (by omega) (by omega) (by simp; have := HSZ.out; omega) ?_; intro A2 c2 w6 o6 g6 k6; have v6 := (r8.grown g6 (fun q => n4 q.symm)).cell 2; have f6 := (r8.grown g6 (fun q => n4 q.symm)).frozen 2; simp only [List.getElem?_cons_zero, List.getElem?_cons_succ] at v6; have R6 := Lib.hid (And.intro o6 (And.intro g6 k6)); clear r7 r8 o6 g6 k6)
  go_ret
  obtain ⟨o6, g6, k6⟩ := R6.out
  have bA := Ext.alloc w1 (.cells #[.int .i64 (i : Int)] 3)
  have s6 := setCell_grown w6 ⟨gf, 2, none⟩ (.slice A2 (p.fr.length + 1) c2)
  have gA : w1.grownBy w6 (blk A) := World.grownBy.trans ⟨bA.os, bA.tape, bA.output, bA.size, fun i hi _ => bA.block i hi⟩ g6
  have hA2 : ∀ j, blk A2 = some j → blk A = some j ∨ w.heap.size ≤ j := fun j hj => by
    rcases k6 with q | q
    · left; rw [← q]; exact hj
    · right
      rw [hj] at q
      injection q with q
      rw [q, World.size_alloc, HSZ.out]; omega
  have ne2 : ∀ j, FB gf gb gt none j → blk A2 ≠ some j := fun j hj q => by
    have hj' : j = gf ∨ j = gb ∨ j = gt := by
      rcases hj with q | q | q | q
      · exact .inl q
      · exact .inr (.inl q)
      · exact .inr (.inr q)
      · cases q
    rcases hA2 j q with q' | q'
    · rcases hj' with rfl | rfl | rfl
      · exact n4 q'
      · exact n5 q'
      · exact HH.out.sep q'
    · have := HH.out.lt j (by
        rcases hj' with rfl | rfl | rfl
        · exact .inl rfl
        · exact .inr (.inl rfl)
        · exact .inr (.inr (.inl rfl)))
      omega
  refine ⟨rfl, A2, c2, ⟨?_, ?_, ?_, ?_, ne2 gt (.inr (.inr (.inl rfl))), HH.out.lo, hok⟩, ?_⟩
  · have := (HQ.out.1.grown gA (fun q => n4 q.symm)).set 2 (.slice A2 (p.fr.length + 1) c2)
    show Own _ _ _ [_, _, .slice A2 (p.fr ++ [i]).length c2, _]
    rw [List.length_append, List.length_singleton]
    exact this
  · exact (HQ.out.2.1.grown gA (fun q => n5 q.symm)).far (p := ⟨gf, 2, none⟩) (fun q => n1 q.symm) _
  · exact (HQ.out.2.2.1.grown gA (fun q => HH.out.sep q.symm)).far (p := ⟨gf, 2, none⟩) (fun q => n2 q.symm) _
  · show Row _ _ _ _ _ (p.fr ++ [i]).length _ _
    rw [List.length_append, List.length_singleton]
    exact o6.grown s6 (.inr (ne2 gf (.inl rfl)))
  · have t1 : Tr w w6 (FB gf gb gt A) (FB gf gb gt A) := HT.out.trans (Tr.grown gA fun g q => .inl (.inr (.inr (.inr q))))
    have t2 : Tr w (w6.setCell ⟨gf, 2, none⟩ (.slice A2 (p.fr.length + 1) c2)) (FB gf gb gt A) (FB gf gb gt A) := t1.trans (Tr.set ⟨gf, 2, none⟩ _ (.inl rfl))
    refine t2.mono (fun _ q => q) fun j hj => ?_
    rcases hj with q | q | q | q
    · exact .inl (.inl q)
    · exact .inl (.inr (.inl q))
    · exact .inl (.inr (.inr (.inl q)))
    · rcases hA2 j q with q' | q'
      · exact .inl (.inr (.inr (.inr q')))
      · exact .inr (.inr q')

end Go.Proofs.Ytebkknkgkjblnaa
