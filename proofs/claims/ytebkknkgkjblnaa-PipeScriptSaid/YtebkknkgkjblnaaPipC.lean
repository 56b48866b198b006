/-
  PIPES: get, Read.
-/
import Derived.Test.YtebkknkgkjblnaaPipB
namespace Go.Proofs.Ytebkknkgkjblnaa
open Go.RowKit Go.Maps
attribute [local go_sem] depUpon Sp.ok

/-- What a call leaves of the pipes, where block gb is another's. -/
def PMn (w w' : World) (B g gs : Nat) (ad : Nat → Nat) (A : Nat → Option Addr × Nat) (T T' : PT) (N : Nat → Prop) : Prop := ∃ A', PM w' B g gs ad A' T' ∧ Tr w w' (PB g ad A T) (PB g ad A' T') ∧ ∀ i, PB g ad A' T' i → ¬ N i
theorem splice_all {α : Type} (L cs : List α) (h : L.length = cs.length) : splice L 0 cs = cs := by
  unfold splice
  rw [List.take_zero, List.nil_append, Nat.zero_add, List.drop_eq_nil_of_le (by omega), List.append_nil]
theorem Rd.dropAt {w : World} {b off : Nat} {xs : List Value} (h : Rd w (some ⟨b, off, none⟩) xs) (m : Nat) : Rd w (some ⟨b, off + m, none⟩) (xs.drop m) := fun k v hk => by
  rw [List.getElem?_drop] at hk
  obtain ⟨b', o', e, hc⟩ := h (m + k) v hk
  injection e with e; injection e with e1 e2
  subst e1; subst e2
  exact ⟨b, off + m, rfl, by rw [Nat.add_assoc]; exact hc⟩
theorem add0 (g o j : Nat) : (⟨g, o, none⟩ : Addr).add j = ⟨g, o + j, none⟩ := by unfold Addr.add; split <;> simp_all

set_option maxRecDepth 100000 in
set_option maxHeartbeats 4000000 in
theorem p_get (B g gs : Nat) (ad : Nat → Nat) (A : Nat → Option Addr × Nat) (T : PT) (j : Nat) (x : PP) (gb k : Nat) (zs : List Value) (w0 w : World) (h0 : Ext w0 w) (hg0 : w0.heap.size = gb) (h : PM w B g gs ad A T) (hj : j < 4) (hl : T j = some x) (hO : Own w gb 5 zs) (hz : zs.length = k) (hk : k ≤ x.d.length) (hgb : w.heap.size = gb + 1) (hB : B ≤ gb) (hpb : ∀ i, PB g ad A T i → i < gb) :
    Calls Try.prog 41 #[.pointer (some ⟨ad j, 0, none⟩), .slice (some ⟨gb, 0, none⟩) k k] w fun e w' => e = .returned (.slice (some ⟨gb, 0, none⟩) k k) ∧ PMn w0 w' B g gs ad A T (upd T j (some { x with d := x.d.drop k })) (fun i => i = gb) ∧ Own w' gb 5 (u8s (x.d.take k)) := by
  have ho := h.pip j x hj hl
  have hrw := h.row j x hj hl
  have v3 := ho.cell 3
  simp only [pcs, List.getElem?_cons_zero, List.getElem?_cons_succ] at v3
  have hdl := (h.ok j x hj hl).1.dl
  have hle := Row.le' hrw
  have hadg : ad j < gb := hpb _ (.inr ⟨j, x, hj, hl, .inl rfl⟩)
  have LK := Lib.hid (show (u8s (x.d.take k)).length = k by rw [u8s_len, List.length_take]; omega)
  obtain ⟨cs, hcs⟩ : ∃ cs, cs = u8s (x.d.take k) := ⟨_, rfl⟩
  have HCS := Lib.hid hcs
  have hcl : cs.length = k := by rw [hcs]; exact LK.out
  have hc1 : ∀ v ∈ cs, v.oneCell' = true := by rw [hcs]; exact u8s_one _
  have hpos : 0 < cs.length → ∃ a, (A j).1 = some a ∧ ∀ q v, cs[q]? = some v → w.cell? (a.add q) = some v := fun hp => by
    obtain ⟨ga, he⟩ := hrw.addr (by omega)
    refine ⟨⟨ga, 0, none⟩, he, fun q v hq => ?_⟩
    rw [hcs, u8s_take, List.getElem?_take] at hq
    split at hq
    · obtain ⟨b', o', e, hc⟩ := hrw.rd q v hq
      rw [he] at e
      injection e with e; injection e with e1 e2
      subst e1; subst e2
      rw [add0]; exact hc
    · cases hq
  have hmin : Nat.min x.d.length k = k := Nat.min_eq_right hk
  have HO := Lib.hid ho
  have HR := Lib.hid hrw
  have HH := Lib.hid h
  have HOB := Lib.hid hO
  have HL := Lib.hid hl
  have HPB := Lib.hid hpb
  have HPOS := Lib.hid hpos
  have HCL := Lib.hid (fun (Z : Option Addr) (c' : Nat) (w : World) (hr : Rd w Z (u8s (x.d.drop k))) => clone_bytes Z (x.d.length - k) c' (x.d.drop k) w (by omega) hr (by rw [List.length_drop]))
  have HUD := Lib.hid (show (x.d.drop k).length = x.d.length - k from List.length_drop ..)
  have kk1 : (k : Int) ≤ (x.d.length : Int) := by omega
  have kk2 : (x.d.length : Int) ≤ ((A j).2 : Int) := by omega
  have kk3 : (k : Int) ≤ ((A j).2 : Int) := by omega
  have kk0 : (0 : Int) ≤ (k : Int) := by omega
  clear h ho hO hl hpb hpos hcs
  go_enter Try.func41, Try.ntmps41
  go_upto_region 2 with (refine wpList_copy_splice rfl (.tmp 6) (.tmp 10) 32 32 rfl 5 Try.underlying32 (by kernel_rfl) _ _ k k x.d.length (A j).2 rfl rfl gb 0 zs 5 HOB.out cs (by rw [hcl, hmin]) (fun hp => ⟨rfl, HPOS.out hp⟩) (by omega) hc1 gb w (Below.refl _ _) (Nat.le_refl _) ?_; intro w2 hg2 hb2)
  have hz2 : w.heap.size ≤ w2.heap.size := hb2.size
  have T2 := Lib.hid (show Tr w w2 (fun i => i = gb) (fun i => i = gb) from ⟨hb2.mono (Nat.zero_le _), fun i hi hq => hb2.block i (by omega), fun _ q => .inl q⟩)
  have HO2 := Lib.hid (show Own w2 gb 5 cs from by have := hg2.out; rwa [splice_all _ _ (by omega)] at this)
  have OP2 := Lib.hid (T2.out.own HO.out (fun q => by omega))
  have RP2 := Lib.hid (T2.out.row HR.out (fun i hi q => by have := HPB.out i (.inr ⟨j, x, hj, HL.out, .inr hi⟩); omega))
  have PM2 := Lib.hid (HH.out.other T2.out (fun i hi q => by have := HPB.out i hi; omega))
  have v3' := OP2.out.cell 3
  simp only [pcs, List.getElem?_cons_zero, List.getElem?_cons_succ] at v3'
  clear hg2 v3
  have HGO := Lib.hid (show ∀ A' c' w5, Row w5 w2.heap.size 5 1 A' (x.d.length - k) c' (u8s (x.d.drop k)) → Ext w2 w5 → PMn w0 (w5.setCell ⟨ad j, 3, none⟩ (.slice A' (x.d.length - k) c')) B g gs ad A T (upd T j (some { x with d := x.d.drop k })) (fun i => i = gb) ∧ Own (w5.setCell ⟨ad j, 3, none⟩ (.slice A' (x.d.length - k) c')) gb 5 (u8s (x.d.take k)) from fun A' c' w5 r5 b5 => by
    have t5 : Tr w2 w5 (fun i => i = ad j ∨ blk (A j).1 = some i) (fun i => i = ad j ∨ blk A' = some i) := (Tr.ext (P := fun i => i = ad j ∨ blk (A j).1 = some i) b5).mono (fun _ q => q) fun i q => by
      rcases q with q | q
      · exact .inl (.inl q)
      · exact .inr (.inr ((r5.at_ i q).1))
    have m := (PM2.out).data hj HL.out (d := x.d.drop k) (c' := c') t5 (OP2.out.keep b5) (by rw [HUD.out]; exact r5.mono (by omega)) (by rw [HUD.out]; omega)
    rw [HUD.out] at m
    obtain ⟨A9, m1, m2⟩ := m
    refine ⟨⟨A9, m1, ?_, fun i hi q => ?_⟩, ?_⟩
    · refine ⟨Below.trans (h0.mono (Nat.zero_le _)) (Below.trans T2.out.base m2.base), fun i hi hq => ?_, fun i hi => ?_⟩
      · rw [m2.block i (by omega) hq, hb2.block i (by omega), h0.block i hi]
      · rcases m2.fr i hi with q | q
        · exact .inl q
        · exact .inr (by omega)
    · rcases m2.fr i hi with r | r
      · have := HPB.out i r; omega
      · omega
    · rw [← HCS.out]
      exact (HO2.out.keep b5).far (p := ⟨ad j, 3, none⟩) (by simp only; omega) _)
  have HFZ := Lib.hid (fun w5 (b5 : Ext w2 w5) => show w5.cell? ⟨ad j, 3, none⟩ = some (.slice (A j).1 x.d.length (A j).2) ∧ w5.frozen? ⟨ad j, 3, none⟩ = false from ⟨cell_keep b5 v3', (OP2.out.keep b5).frozen 3⟩)
  by_cases hcc : (A j).2 = k
  · have hd0 : x.d.drop k = [] := List.drop_eq_nil_of_le (by omega)
    have hlk : x.d.length = k := by omega
    have e0 : x.d.length - k = 0 := by omega
    have HC2 := Lib.hid (HCL.out (A j).1 0 w2 (by rw [hd0]; exact Rd.nil _ _))
    rw [e0] at HC2 HGO
    rw [hlk, hcc] at v3' HFZ
    go_wp2_with (first
      | ((with_reducible go_at_call 53); (with_reducible refine HC2.out.mono ?_); rintro e w5 ⟨A5, c5, rfl, r5, b5⟩; obtain ⟨u5, f5⟩ := HFZ.out _ b5; have HG := Lib.hid (HGO.out _ _ _ r5 b5)))
    go_ret
    exact ⟨rfl, HG.out.1, HG.out.2⟩
  · cases hA : (A j).1 with
    | none =>
      have hl0 : x.d.length = 0 := by
        rcases RP2.out.2 with ⟨hv, h0'⟩ | ⟨g', cap, cur, hv, _⟩
        · exact h0'
        · rw [hA] at hv; injection hv with e1; cases e1
      have hc0 : (A j).2 = 0 := by
        rcases RP2.out.2 with ⟨hv, h0'⟩ | ⟨g', cap, cur, hv, _⟩
        · injection hv with e1 e2 e3
        · rw [hA] at hv; injection hv with e1; cases e1
      exact absurd hc0 (by omega)
    | some a =>
      obtain ⟨ga, hga⟩ : ∃ ga, a = ⟨ga, 0, none⟩ := by
        rcases RP2.out.2 with ⟨hv, h0'⟩ | ⟨g', cap, cur, hv, _⟩
        · rw [hA] at hv; injection hv with e1; cases e1
        · rw [hA] at hv; injection hv with e1; injection e1 with e1; exact ⟨g', e1⟩
      subst hga
      have hrd := RP2.out.rd
      rw [hA] at hrd
      have hrd2 := hrd.dropAt k
      rw [← u8s_drop, Nat.zero_add] at hrd2
      have HC2 := Lib.hid (HCL.out (some ⟨ga, k, none⟩) ((A j).2 - k) w2 hrd2)
      have kk4 : (k : Int) < ((A j).2 : Int) := by omega
      have hne : ¬ (A j).2 - k = 0 := by omega
      rw [hA] at v3' HFZ
      clear hrd hrd2 hA
      go_wp2_with (first
        | ((with_reducible go_at_call 53); (with_reducible refine HC2.out.mono ?_); rintro e w5 ⟨A5, c5, rfl, r5, b5⟩; obtain ⟨u5, f5⟩ := HFZ.out _ b5; have HG := Lib.hid (HGO.out _ _ _ r5 b5)))
      go_ret
      exact ⟨rfl, HG.out.1, HG.out.2⟩

end Go.Proofs.Ytebkknkgkjblnaa
