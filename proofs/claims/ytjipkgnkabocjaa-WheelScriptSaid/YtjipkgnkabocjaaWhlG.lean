/-
  WALKS of package wheel: find, At, Place, Arm, over the list.
-/
import Derived.Test.YtjipkgnkabocjaaWhlF
namespace Go.Proofs.Ytjipkgnkabocjaa
open Go.RowKit
attribute [local go_sem] depUpon Sp.ok

theorem l_new (now : Int) (w : World) (h0 : 0 ≤ now) (h1 : now < 16777216) :
    Calls Try.prog 11 #[.int .i64 now] w fun e w' => e = .returned (.tuple #[.pointer (some ⟨w.heap.size, 0, none⟩), .int .i64 0]) ∧ WL w' w.heap.size w.heap.size now F0 [] ∧ Below w.heap.size w w' :=
  (w_new now w h0 h1).mono fun _ _ ⟨a, b, c⟩ => ⟨a, ⟨R0, b, Fits.zero now h0 h1, c.size⟩, c⟩
theorem l_find (B g : Nat) (now : Int) (F : FW) (L : TL) (id : Int) (w : World) (h : WL w B g now F L) :
    Calls Try.prog 27 #[.pointer (some ⟨g, 0, none⟩), .int .i64 id] w fun e w' => e = findE L id ∧ Below w.heap.size w w' := by
  obtain ⟨R, h1, h2, _⟩ := h
  exact (w_find B g now _ F R id w h1 (fun k hk => Nat.le_trans (h2.rlen k hk) (by omega))).mono fun e w' ⟨a, b⟩ => ⟨find_fits h2 a, b⟩
theorem l_len (B g : Nat) (now : Int) (F : FW) (L : TL) (w : World) (h : WL w B g now F L) :
    Calls Try.prog 14 #[.pointer (some ⟨g, 0, none⟩)] w fun e w' => e = .returned (.int .i64 (L.length : Int)) ∧ w = w' := by
  obtain ⟨R, h1, _⟩ := h
  exact w_len B g now _ F R w h1
theorem l_now (B g : Nat) (now : Int) (F : FW) (L : TL) (w : World) (h : WL w B g now F L) :
    Calls Try.prog 16 #[.pointer (some ⟨g, 0, none⟩)] w fun e w' => e = .returned (.int .i64 now) ∧ w = w' := by
  obtain ⟨R, h1, _⟩ := h
  exact w_now B g now _ F R w h1

set_option maxRecDepth 100000 in
set_option maxHeartbeats 1000000 in
theorem l_at (B g : Nat) (now : Int) (F : FW) (L : TL) (id : Int) (w : World) (h : WL w B g now F L) :
    Calls Try.prog 26 #[.pointer (some ⟨g, 0, none⟩), .int .i64 id] w fun e w' => e = .returned (.tuple #[.int .i64 (oA (tget L id)), .bool (tget L id).isSome]) ∧ Below w.heap.size w w' := by
  have hf := l_find B g now F L id w h
  unfold findE at hf
  have HF := Lib.hid hf
  clear hf h
  generalize oI (tget L id) = xi at *
  generalize oA (tget L id) = xa at *
  generalize (tget L id).isSome = xb at *
  go_enter Try.func26, Try.ntmps26
  go_wp2_with ((with_reducible go_at_call 27); (with_reducible refine (HF.out).mono ?_); rintro e w1 ⟨rfl, b1⟩)
  go_ret2
  exact ⟨rfl, Ext.trans b1 (Ext.alloc _ _)⟩
def placeV (L : TL) (now id : Int) : Int × Int × Bool := match tget L id with
  | some x => (((rg now x.2 : Nat) : Int), dg x.2 (rg now x.2), true)
  | none => (0, 0, false)

set_option maxRecDepth 100000 in
set_option maxHeartbeats 1000000 in
theorem l_place (B g : Nat) (now : Int) (F : FW) (L : TL) (id : Int) (w : World) (h : WL w B g now F L) :
    Calls Try.prog 15 #[.pointer (some ⟨g, 0, none⟩), .int .i64 id] w fun e w' => e = .returned (.tuple #[.int .i64 (placeV L now id).1, .int .i64 (placeV L now id).2.1, .bool (placeV L now id).2.2]) ∧ Below w.heap.size w w' := by
  have hf := l_find B g now F L id w h
  unfold findE at hf
  cases ht : tget L id with
  | none =>
    have HV := Lib.hid (show placeV L now id = (0, 0, false) by unfold placeV; rw [ht])
    rw [ht] at hf
    have HF := Lib.hid hf
    clear hf h ht
    go_enter Try.func15, Try.ntmps15
    go_wp2_with ((with_reducible go_at_call 27); (with_reducible refine (HF.out).mono ?_); rintro e w1 ⟨rfl, b1⟩)
    go_ret3
    exact ⟨by rw [HV.out]; rfl, Ext.trans b1 (Ext.alloc _ _)⟩
  | some x =>
    have HV := Lib.hid (show placeV L now id = (((rg now x.2 : Nat) : Int), dg x.2 (rg now x.2), true) by unfold placeV; rw [ht])
    rw [ht] at hf
    have HF := Lib.hid hf
    obtain ⟨R, h1, h2, _⟩ := h
    have hfu := h2.fut x (tget_some ht).1
    have HP := Lib.hid (fun w' (h' : Ext w w') => w_place g now x.2 w' (h1.keep h').now_ h2.lo (by have := h2.hi; omega) (by have := h2.lo; omega) (by omega))
    obtain ⟨xi, xa⟩ := x
    simp only [oI, oA, Option.isSome_some] at HF HP HV hfu
    clear hf h1 h2 ht
    go_enter Try.func15, Try.ntmps15
    go_wp2_with (first | ((with_reducible go_at_call 27); (with_reducible refine (HF.out).mono ?_); rintro e w1 ⟨rfl, b1⟩) | ((with_reducible go_at_call 31); (with_reducible refine (HP.out _ (Ext.trans b1 (Ext.alloc _ _))).mono ?_); rintro e w2 ⟨rfl, b2⟩))
    go_ret3
    exact ⟨by rw [HV.out]; rfl, Ext.trans (Ext.trans b1 (Ext.alloc _ _)) b2⟩

set_option maxRecDepth 100000 in
set_option maxHeartbeats 2000000 in
theorem l_arm (B g : Nat) (now : Int) (F : FW) (L : TL) (id at_ : Int) (w : World) (h : WL w B g now F L) :
    Calls Try.prog 12 #[.pointer (some ⟨g, 0, none⟩), .int .i64 id, .int .i64 at_] w fun e w' => e = .returned (.int .i64 (armE L now id at_)) ∧ ∃ F', WL w' B g now F' (armL L now id at_) ∧ WT w w' g F F' := by
  have hf := l_find B g now F L id w h
  unfold findE at hf
  have HW := Lib.hid h
  have HAE := Lib.hid (show armE L now id at_ = if id < 0 ∨ at_ ≤ now ∨ 16777216 ≤ at_ then 2 else if (tget L id).isSome = true then 5 else if L.length = 64 then 3 else 0 from rfl)
  have HAL := Lib.hid (show armL L now id at_ = if armE L now id at_ = 0 then tins (id, at_) L else L from rfl)
  have HNO := Lib.hid (fun (w' : World) (b : Ext w w') (he : armE L now id at_ ≠ 0) => show ∃ F', WL w' B g now F' (armL L now id at_) ∧ WT w w' g F F' from ⟨F, by rw [HAL.out, if_neg he]; exact h.keep b, WT.ext b⟩)
  obtain ⟨R, h1, h2, h3⟩ := h
  have HC0 := Lib.hid (fun w' (b : Ext w w') => (h1.keep b).now_)
  have HC1 := Lib.hid (fun w' (b : Ext w w') => (h1.keep b).n_)
  by_cases hb : id < 0 ∨ at_ ≤ now ∨ 16777216 ≤ at_
  · have HE := Lib.hid (show armE L now id at_ = 2 by rw [HAE.out, if_pos hb])
    have HF := Lib.hid hf
    clear hf h1 h2 h3
    generalize oI (tget L id) = xi at *
    generalize oA (tget L id) = xa at *
    generalize (tget L id).isSome = xb at *
    by_cases hi0 : id < 0
    · have t0 : decide (id < 0) = true := by simp [hi0]
      clear hb
      go_enter Try.func12, Try.ntmps12
      go_wp2_with ((with_reducible go_at_call 27); (with_reducible refine (HF.out).mono ?_); rintro e w1 ⟨rfl, b1⟩)
      go_ret
      exact ⟨by rw [HE.out]; rfl, HNO.out _ (Ext.trans b1 (Ext.alloc _ _)) (by rw [HE.out]; omega)⟩
    · have t0 : decide (id < 0) = false := by simp [hi0]
      have t00 : 0 ≤ id := by omega
      by_cases ha : at_ ≤ now
      · have t1 : decide (at_ ≤ now) = true := by simp [ha]
        clear hb hi0
        go_enter Try.func12, Try.ntmps12
        go_wp2_with (((with_reducible go_at_call 27); (with_reducible refine HF.out.mono ?_); rintro e w1 ⟨rfl, b1⟩; have v0 := HC0.out _ (Ext.trans b1 (Ext.alloc w1 (.cells #[.int .i64 xi, .int .i64 xa] 62)))))
        go_ret
        exact ⟨by rw [HE.out]; rfl, HNO.out _ (Ext.trans b1 (Ext.alloc _ _)) (by rw [HE.out]; omega)⟩
      · have t1 : decide (at_ ≤ now) = false := by simp [ha]
        have t10 : now < at_ := by omega
        have t2 : 16777216 ≤ at_ := by omega
        clear hb hi0 ha
        go_enter Try.func12, Try.ntmps12
        go_wp2_with (((with_reducible go_at_call 27); (with_reducible refine HF.out.mono ?_); rintro e w1 ⟨rfl, b1⟩; have v0 := HC0.out _ (Ext.trans b1 (Ext.alloc w1 (.cells #[.int .i64 xi, .int .i64 xa] 62)))))
        go_ret
        exact ⟨by rw [HE.out]; rfl, HNO.out _ (Ext.trans b1 (Ext.alloc _ _)) (by rw [HE.out]; omega)⟩
  have t0 : decide (id < 0) = false := by simp; omega
  have t00 : 0 ≤ id := by omega
  have t1 : decide (at_ ≤ now) = false := by simp; omega
  have t10 : now < at_ := by omega
  have t2 : at_ < 16777216 := by omega
  cases ht : tget L id with
  | some x =>
    have HE := Lib.hid (show armE L now id at_ = 5 by rw [HAE.out, if_neg hb, ht]; rfl)
    rw [ht] at hf
    have HF := Lib.hid hf
    clear hf hb ht h1 h2 h3
    obtain ⟨xi, xa⟩ := x
    simp only [oI, oA, Option.isSome_some] at HF
    go_enter Try.func12, Try.ntmps12
    go_wp2_with (((with_reducible go_at_call 27); (with_reducible refine HF.out.mono ?_); rintro e w1 ⟨rfl, b1⟩; have v0 := HC0.out _ (Ext.trans b1 (Ext.alloc w1 (.cells #[.int .i64 xi, .int .i64 xa] 62)))))
    go_ret
    exact ⟨by rw [HE.out]; rfl, HNO.out _ (Ext.trans b1 (Ext.alloc _ _)) (by rw [HE.out]; omega)⟩
  | none =>
    have hlen := h2.len
    have hE2 : armE L now id at_ = if L.length = 64 then 3 else 0 := by rw [HAE.out, if_neg hb, ht]; rfl
    rw [ht] at hf
    have HF := Lib.hid hf
    simp only [oI, oA, Option.isSome_none] at HF
    by_cases h64 : L.length = 64
    · have HE := Lib.hid (show armE L now id at_ = 3 by rw [hE2, if_pos h64])
      have tn : ((L.length : Int) == 64) = true := by simp; omega
      clear hf hb ht h1 h2 h3 hE2 hlen
      generalize (L.length : Int) = nl at *
      go_enter Try.func12, Try.ntmps12
      go_wp2_with (((with_reducible go_at_call 27); (with_reducible refine HF.out.mono ?_); rintro e w1 ⟨rfl, b1⟩; have bb := Ext.trans b1 (Ext.alloc w1 (.cells #[.int .i64 0, .int .i64 0] 62)); have v0 := HC0.out _ bb; have v1 := HC1.out _ bb))
      go_ret
      exact ⟨by rw [HE.out]; rfl, HNO.out _ (Ext.trans b1 (Ext.alloc _ _)) (by rw [HE.out]; omega)⟩
    · have hE : armE L now id at_ = 0 := by rw [hE2, if_neg h64]
      have HE := Lib.hid hE
      have HL := Lib.hid (show armL L now id at_ = tins (id, at_) L by rw [HAL.out, if_pos hE])
      have HFI := Lib.hid (h2.arm t10 t2 ht (by omega))
      have tn : ((L.length : Int) == 64) = false := by simp; omega
      have hn0 : (0 : Int) ≤ (L.length : Int) := by omega
      have hn1 : (L.length : Int) < 64 := by omega
      have HTL := Lib.hid (show ((tins (id, at_) L).length : Int) = (L.length : Int) + 1 by rw [(tins_perm _ _).length_eq]; rfl)
      have HW1 := Lib.hid h1
      have n0 := h2.lo
      have n1 := h2.hi
      have HRL := Lib.hid (h2.rlen (ix now at_) (ix_hi _ _))
      have H3 := Lib.hid h3
      clear hf hb ht h1 h2 h3 hE2 hlen hE h64 HNO HAL HAE
      generalize (L.length : Int) = nl at *
      go_enter Try.func12, Try.ntmps12
      go_upto_region 11 with (((with_reducible go_at_call 27); (with_reducible refine HF.out.mono ?_); rintro e w1 ⟨rfl, b1⟩; have bb := Ext.trans b1 (Ext.alloc w1 (.cells #[.int .i64 0, .int .i64 0] 62)); have v0 := HC0.out _ bb; have v1 := HC1.out _ bb; have f1 := (HW1.out.keep bb).own.frozen 257))
      have hS := (HW1.out.keep bb).nTo (nl + 1)
      generalize hw3 : (w1.alloc (.cells #[.int .i64 0, .int .i64 0] 62)).setCell ⟨g, 257, none⟩ (.int .i64 (nl + 1)) = w3 at *
      have HS := Lib.hid hS.1
      have HT := Lib.hid ((WT.ext bb).trans hS.2)
      have hB3 := Nat.le_trans H3.out HT.out.base.size
      clear hS hw3 v0 v1 f1 bb
      go_wp2_with ((with_reducible go_at_call 28); (with_reducible refine (w_turn_put B g now (nl + 1) F R id at_ _ HS.out n0 (by omega) (by omega) (by omega) (by have := HRL.out; omega) hB3).mono ?_); rintro e w4 ⟨rfl, F', h4, t4⟩)
      go_ret
      exact ⟨by rw [HE.out]; rfl, F', by rw [HL.out]; exact ⟨_, by rw [HTL.out]; exact h4, HFI.out, Nat.le_trans hB3 t4.base.size⟩, HT.out.trans t4⟩

end Go.Proofs.Ytjipkgnkabocjaa
