/-
  WALKS of chapter 25's reference: Exit.
-/
import Derived.Test.YtdgggdhligfnpaaPrcK
namespace Go.Proofs.Ytdgggdhligfnpaa
open Go.RowKit Go.Maps
attribute [local go_sem] depUpon Sp.ok

theorem zero_rproc : (Try.prog.info? 67).map (·.zero) = some (some (.agg #[.int .i64 0, .int .i64 0, .int .i64 0, .bool false])) := by kernel_rfl
theorem fm_take {L : List PR} (k c : Int) {i : Nat} (hi : i < L.length) : (L.take (i + 1)).filterMap (exO k c) = (L.take i).filterMap (exO k c) ++ (exO k c L[i]).toList := by
  rw [take_succ' L i hi, List.filterMap_append]
  congr 1

set_option maxRecDepth 100000 in
set_option maxHeartbeats 4000000 in
theorem r_exit (B gr : Nat) (A : Option Addr) (n c : Nat) (L : List PR) (k code : Int) (w : World) (h : RS w B gr A n c L) (hn : n ≤ 65536) (hB : B ≤ w.heap.size) (hs : Srt L) (hself : NoSelf L) :
    Calls Try.prog 16 #[.pointer (some ⟨gr, 0, none⟩), .int .i64 k, .int .i64 code] w fun e w' => e = .returned (.int .i64 (exitE L k code)) ∧ RTo w B gr (exitL L k code) w' := by
  have HV := Lib.hid (r_alive B gr A n c L k w h hn)
  have HR := Lib.hid h
  have HSE := Lib.hid (show exitE L k code = if aliveB L k = false then 4 else if code < 0 ∨ 255 < code then 19 else 0 from rfl)
  have HSN := Lib.hid (@exit_none L k code)
  have HSF := Lib.hid (@exit_fin L hs hself k code)
  clear hs
  cases hal : aliveB L k
  · rw [hal] at HV
    have HE := Lib.hid (show exitE L k code = 4 by rw [HSE.out, if_pos hal])
    clear h hal hself
    go_enter Try.func16, Try.ntmps16
    go_wp2_with ((with_reducible go_at_call 21); (with_reducible refine (HV.out).mono ?_); rintro e w' ⟨rfl, rfl⟩)
    go_ret
    exact ⟨by rw [HE.out]; rfl, by rw [HSN.out (by rw [HE.out]; omega)]; exact RTo.of HR.out (Ext.refl _)⟩
  rw [hal] at HV
  by_cases hbad : code < 0 ∨ 255 < code
  · have HE := Lib.hid (show exitE L k code = 19 by rw [HSE.out, if_neg (by rw [hal]; simp), if_pos hbad])
    clear h hal hself
    by_cases c0 : code < 0
    · have tc : decide (code < 0) = true := by simp [c0]
      clear hbad
      go_enter Try.func16, Try.ntmps16
      go_wp2_with ((with_reducible go_at_call 21); (with_reducible refine (HV.out).mono ?_); rintro e w' ⟨rfl, rfl⟩)
      go_ret
      exact ⟨by rw [HE.out]; rfl, by rw [HSN.out (by rw [HE.out]; omega)]; exact RTo.of HR.out (Ext.refl _)⟩
    · have tc : decide (code < 0) = false := by simp [c0]
      have td : decide (255 < code) = true := by simp; omega
      have tc0 : 0 ≤ code := by omega
      have td0 : 255 < code := by omega
      clear hbad
      go_enter Try.func16, Try.ntmps16
      go_wp2_with ((with_reducible go_at_call 21); (with_reducible refine (HV.out).mono ?_); rintro e w' ⟨rfl, rfl⟩)
      go_ret
      exact ⟨by rw [HE.out]; rfl, by rw [HSN.out (by rw [HE.out]; omega)]; exact RTo.of HR.out (Ext.refl _)⟩
  have h00 : exitE L k code = 0 := by rw [HSE.out, if_neg (by rw [hal]; simp), if_neg hbad]
  have HE := Lib.hid h00
  have HF := Lib.hid (HSF.out h00)
  have tc : decide (code < 0) = false := by simp; omega
  have td : decide (255 < code) = false := by simp; omega
  have tc0 : 0 ≤ code := by omega
  have td0 : code ≤ 255 := by omega
  have HLN := h.len
  have HFT := Lib.hid (fun i hi => @fm_take L k code i hi)
  have HFL := Lib.hid (fun i => List.length_filterMap_le (exO k code) (L.take i))
  have HSL := Lib.hid hself
  obtain ⟨i0, hi, hz0, hz1, hz2⟩ := info_parts info_rproc
  have HI := Lib.hid hi
  have v0 := h.cell
  clear hi hbad h00 h HSF HSN HSE hal hself
  go_enter Try.func16, Try.ntmps16
  go_wp2_with ((with_reducible go_at_call 21); (with_reducible refine (HV.out).mono ?_); rintro e w' ⟨rfl, rfl⟩)
  go_loopw [7, 8] (fun v q wr => ∃ (i : Nat) (S : Option Addr) (c1 : Nat), v = .slice S ((L.take i).filterMap (exO k code)).length c1 ∧ q = .int .i64 i ∧ i ≤ n ∧ Row wr w.heap.size 67 4 S ((L.take i).filterMap (exO k code)).length c1 (rcells ((L.take i).filterMap (exO k code))) ∧ Ext w wr) (fun _ q _ => n - (intOf q).toNat)
  case atStart => exact ⟨0, none, 0, rfl, rfl, by omega, Row.nil _ _ _ _, Ext.refl _⟩
  case round =>
    clear v0
    obtain ⟨i, S, c1, rfl, rfl, hi, q1, q2⟩ := hrel
    have v0 := (HR.out.keep q2).cell
    have hlen := HFL.out i
    rw [List.length_take] at hlen
    by_cases hlt : i < n
    · have hil : i < L.length := by omega
      obtain ⟨b, off, rfl, he⟩ := HR.out.at_ hil
      have HEL := Lib.hid (fun wz (hz : Ext w wz) j v hv => cell_keep hz (he j v hv))
      have hsn := HFT.out i hil
      have hsf := HSL.out _ (List.getElem_mem hil)
      have i0' : (0 : Int) ≤ (i : Int) := by omega
      have i1' : (i : Int) < (n : Int) := by omega
      have hq2 := q2.size
      have hne : blk S = none ∨ blk S ≠ some wr.heap.size := .inr fun h => by have := (q1.at_ _ h).2; omega
      generalize hN : (L.take (i + 1)).filterMap (exO k code) = N1 at *
      have HN := Lib.hid hN
      generalize (L.take i).filterMap (exO k code) = xs at *
      generalize L[i] = y at *
      obtain ⟨yp, ya, yc, yd⟩ := y
      simp only at hsf
      clear hN he hil
      by_cases hpa : ya = k
      · subst hpa
        have tpa : (ya == ya) = true := by simp
        have tpp : (yp == ya) = false := by simp; omega
        cases yd
        · have HX := Lib.hid (show N1 = xs ++ [⟨yp, -1, yc, false⟩] by rw [hsn]; unfold exO; rw [if_pos rfl]; rfl)
          clear hsn hsf
          go_upto_region 17 with (first | (refine wpl_load_rd _ rfl 67 _ rfl (by kernel_rfl) 4 size_rproc b (off + i * 4) rfl [.int .i64 yp, .int .i64 ya, .int .i64 yc, .bool false] rfl (HEL.out _ q2) ?_) | (refine wpl_alloc_own _ rfl 67 rfl (.agg #[.int .i64 0, .int .i64 0, .int .i64 0, .bool false]) zero_rproc ?_; intro w2 o2 b2 s2; clear s2) | (refine wpl_store_own _ rfl 67 _ _ rfl 4 size_rproc _ rfl [.int .i64 yp, .int .i64 ya, .int .i64 yc, .bool false] rfl _ _ o2 rfl rfl (lit_one _ _ _ _) ?_; intro w3 o3 g3 s3; clear s3; have r3 := (q1.keep b2).grown g3 hne; have e3 := below_of_grown (Ext.trans q2 b2) g3 q2.size (Ext.trans q2 b2).size; have x0 := o3.cell 0; have x1 := o3.cell 1; have x2 := o3.cell 2; have x3 := o3.cell 3; simp only [List.getElem?_cons_zero, List.getElem?_cons_succ] at x0 x1 x2 x3; have f1 := o3.frozen 1; have oS : Own (w3.setCell ⟨wr.heap.size, 1, none⟩ (.int .i64 (-1))) wr.heap.size 67 [.int .i64 yp, .int .i64 (-1), .int .i64 yc, .bool false] := o3.set 1 _; have rS := r3.grown (setCell_grown w3 ⟨wr.heap.size, 1, none⟩ (.int .i64 (-1))) hne; have eS := e3.setCell (p := ⟨wr.heap.size, 1, none⟩) q2.size (.int .i64 (-1))))
          generalize w3.setCell ⟨wr.heap.size, 1, none⟩ (.int .i64 (-1)) = w4 at *
          go_wp2_with (first | (refine wpl_load_own _ rfl 67 _ rfl (by kernel_rfl) 4 size_rproc _ rfl _ _ oS rfl ?_) | (at_builtin; have r7 := ((rS).alloc (.cells #[.int .i64 yp, .int .i64 (-1), .int .i64 yc, .bool false] 67)); refine wpl_append _ rfl (.tmp 53) (.tmp 55) 36 rfl 67 i0 _ 4 32 Try.underlying36 HI.out hz0 hz1 hz2 rfl (by omega) (w.heap.size) S xs.length c1 _ rfl r7 _ 1 1 [.int .i64 yp, .int .i64 (-1), .int .i64 yc, .bool false] rfl rfl (Own.new _ _ _).rd0 (lit_one _ _ _ _) (xs.length + 1) (rcells (xs ++ [⟨yp, -1, yc, false⟩])) rfl (rcells_snoc xs ⟨yp, -1, yc, false⟩) (by omega) (by omega) (Nat.le_trans eS.size (Ext.alloc _ _).size) ?_; intro A5 c5 w5 o5 g5 k5; have e5 := below_grown (Ext.trans eS (Ext.alloc _ (.cells #[.int .i64 yp, .int .i64 (-1), .int .i64 yc, .bool false] 67))) g5 (Nat.le_trans eS.size (Ext.alloc _ (.cells #[.int .i64 yp, .int .i64 (-1), .int .i64 yc, .bool false] 67)).size) (fun g' hg' => (rS.at_ g' hg').1); clear g5 k5))
          go_roundw
          case rel => exact ⟨i + 1, A5, c5, by rw [HN.out, HX.out]; simp, by go_num, by omega, by rw [HN.out, HX.out]; simpa using o5, e5⟩
          case measure => simp [intOf]; omega
        · have HX := Lib.hid (show N1 = xs by rw [hsn]; unfold exO; rw [if_pos rfl]; simp)
          clear hsn hsf
          go_wp2_with (first | (refine wpl_load_rd _ rfl 67 _ rfl (by kernel_rfl) 4 size_rproc b (off + i * 4) rfl [.int .i64 yp, .int .i64 ya, .int .i64 yc, .bool true] rfl (HEL.out _ q2) ?_) | (refine wpl_alloc_own _ rfl 67 rfl (.agg #[.int .i64 0, .int .i64 0, .int .i64 0, .bool false]) zero_rproc ?_; intro w2 o2 b2 s2; clear s2) | (refine wpl_store_own _ rfl 67 _ _ rfl 4 size_rproc _ rfl [.int .i64 yp, .int .i64 ya, .int .i64 yc, .bool true] rfl _ _ o2 rfl rfl (lit_one _ _ _ _) ?_; intro w3 o3 g3 s3; clear s3; have r3 := (q1.keep b2).grown g3 hne; have e3 := below_of_grown (Ext.trans q2 b2) g3 q2.size (Ext.trans q2 b2).size; have x0 := o3.cell 0; have x1 := o3.cell 1; have x2 := o3.cell 2; have x3 := o3.cell 3; simp only [List.getElem?_cons_zero, List.getElem?_cons_succ] at x0 x1 x2 x3))
          go_roundw
          case rel => exact ⟨i + 1, S, c1, by rw [HN.out, HX.out], by go_num, by omega, by rw [HN.out, HX.out]; exact r3, e3⟩
          case measure => simp [intOf]; omega
      · have tpa : (ya == k) = false := by simp [hpa]
        by_cases hpp : yp = k
        · subst hpp
          have tpp : (yp == yp) = true := by simp
          by_cases hm : ya = -1
          · subst hm
            have tm : ((-1 : Int) == -1) = true := by simp
            have HX := Lib.hid (show N1 = xs by rw [hsn]; unfold exO; rw [if_neg hpa, if_pos rfl, if_pos rfl]; simp)
            clear hsn hsf hpa
            go_wp2_with (first | (refine wpl_load_rd _ rfl 67 _ rfl (by kernel_rfl) 4 size_rproc b (off + i * 4) rfl [.int .i64 yp, .int .i64 (-1), .int .i64 yc, .bool yd] rfl (HEL.out _ q2) ?_) | (refine wpl_alloc_own _ rfl 67 rfl (.agg #[.int .i64 0, .int .i64 0, .int .i64 0, .bool false]) zero_rproc ?_; intro w2 o2 b2 s2; clear s2) | (refine wpl_store_own _ rfl 67 _ _ rfl 4 size_rproc _ rfl [.int .i64 yp, .int .i64 (-1), .int .i64 yc, .bool yd] rfl _ _ o2 rfl rfl (lit_one _ _ _ _) ?_; intro w3 o3 g3 s3; clear s3; have r3 := (q1.keep b2).grown g3 hne; have e3 := below_of_grown (Ext.trans q2 b2) g3 q2.size (Ext.trans q2 b2).size; have x0 := o3.cell 0; have x1 := o3.cell 1; have x2 := o3.cell 2; have x3 := o3.cell 3; simp only [List.getElem?_cons_zero, List.getElem?_cons_succ] at x0 x1 x2 x3))
            go_roundw
            case rel => exact ⟨i + 1, S, c1, by rw [HN.out, HX.out], by go_num, by omega, by rw [HN.out, HX.out]; exact r3, e3⟩
            case measure => simp [intOf]; omega
          · have tm : (ya == -1) = false := by simp [hm]
            have HX := Lib.hid (show N1 = xs ++ [⟨yp, ya, code, true⟩] by rw [hsn]; unfold exO; rw [if_neg hpa, if_pos rfl, if_neg hm]; rfl)
            clear hsn hsf hpa hm
            go_upto_region 17 with (first | (refine wpl_load_rd _ rfl 67 _ rfl (by kernel_rfl) 4 size_rproc b (off + i * 4) rfl [.int .i64 yp, .int .i64 ya, .int .i64 yc, .bool yd] rfl (HEL.out _ q2) ?_) | (refine wpl_alloc_own _ rfl 67 rfl (.agg #[.int .i64 0, .int .i64 0, .int .i64 0, .bool false]) zero_rproc ?_; intro w2 o2 b2 s2; clear s2) | (refine wpl_store_own _ rfl 67 _ _ rfl 4 size_rproc _ rfl [.int .i64 yp, .int .i64 ya, .int .i64 yc, .bool yd] rfl _ _ o2 rfl rfl (lit_one _ _ _ _) ?_; intro w3 o3 g3 s3; clear s3; have r3 := (q1.keep b2).grown g3 hne; have e3 := below_of_grown (Ext.trans q2 b2) g3 q2.size (Ext.trans q2 b2).size; have x0 := o3.cell 0; have x1 := o3.cell 1; have x2 := o3.cell 2; have x3 := o3.cell 3; simp only [List.getElem?_cons_zero, List.getElem?_cons_succ] at x0 x1 x2 x3; have f2 := o3.frozen 2; have f3 := o3.frozen 3; have oS : Own ((w3.setCell ⟨wr.heap.size, 3, none⟩ (.bool true)).setCell ⟨wr.heap.size, 2, none⟩ (.int .i64 code)) wr.heap.size 67 [.int .i64 yp, .int .i64 ya, .int .i64 code, .bool true] := (o3.set 3 _).set 2 _; have rS := (r3.grown (setCell_grown w3 ⟨wr.heap.size, 3, none⟩ (.bool true)) hne).grown (setCell_grown _ ⟨wr.heap.size, 2, none⟩ (.int .i64 code)) hne; have eS := (e3.setCell (p := ⟨wr.heap.size, 3, none⟩) q2.size (.bool true)).setCell (p := ⟨wr.heap.size, 2, none⟩) q2.size (.int .i64 code)))
            generalize (w3.setCell ⟨wr.heap.size, 3, none⟩ (.bool true)).setCell ⟨wr.heap.size, 2, none⟩ (.int .i64 code) = w4 at *
            go_wp2_with (first | (refine wpl_load_own _ rfl 67 _ rfl (by kernel_rfl) 4 size_rproc _ rfl _ _ oS rfl ?_) | (at_builtin; have r7 := ((rS).alloc (.cells #[.int .i64 yp, .int .i64 ya, .int .i64 code, .bool true] 67)); refine wpl_append _ rfl (.tmp 53) (.tmp 55) 36 rfl 67 i0 _ 4 32 Try.underlying36 HI.out hz0 hz1 hz2 rfl (by omega) (w.heap.size) S xs.length c1 _ rfl r7 _ 1 1 [.int .i64 yp, .int .i64 ya, .int .i64 code, .bool true] rfl rfl (Own.new _ _ _).rd0 (lit_one _ _ _ _) (xs.length + 1) (rcells (xs ++ [⟨yp, ya, code, true⟩])) rfl (rcells_snoc xs ⟨yp, ya, code, true⟩) (by omega) (by omega) (Nat.le_trans eS.size (Ext.alloc _ _).size) ?_; intro A5 c5 w5 o5 g5 k5; have e5 := below_grown (Ext.trans eS (Ext.alloc _ (.cells #[.int .i64 yp, .int .i64 ya, .int .i64 code, .bool true] 67))) g5 (Nat.le_trans eS.size (Ext.alloc _ (.cells #[.int .i64 yp, .int .i64 ya, .int .i64 code, .bool true] 67)).size) (fun g' hg' => (rS.at_ g' hg').1); clear g5 k5))
            go_roundw
            case rel => exact ⟨i + 1, A5, c5, by rw [HN.out, HX.out]; simp, by go_num, by omega, by rw [HN.out, HX.out]; simpa using o5, e5⟩
            case measure => simp [intOf]; omega
        · have tpp : (yp == k) = false := by simp [hpp]
          have HX := Lib.hid (show N1 = xs ++ [⟨yp, ya, yc, yd⟩] by rw [hsn]; unfold exO; rw [if_neg hpa, if_neg hpp]; rfl)
          clear hsn hsf hpa hpp
          go_wp2_with (first | (refine wpl_load_rd _ rfl 67 _ rfl (by kernel_rfl) 4 size_rproc b (off + i * 4) rfl [.int .i64 yp, .int .i64 ya, .int .i64 yc, .bool yd] rfl (HEL.out _ q2) ?_) | (refine wpl_alloc_own _ rfl 67 rfl (.agg #[.int .i64 0, .int .i64 0, .int .i64 0, .bool false]) zero_rproc ?_; intro w2 o2 b2 s2; clear s2) | (refine wpl_store_own _ rfl 67 _ _ rfl 4 size_rproc _ rfl [.int .i64 yp, .int .i64 ya, .int .i64 yc, .bool yd] rfl _ _ o2 rfl rfl (lit_one _ _ _ _) ?_; intro w3 o3 g3 s3; clear s3; have r3 := (q1.keep b2).grown g3 hne; have e3 := below_of_grown (Ext.trans q2 b2) g3 q2.size (Ext.trans q2 b2).size; have x0 := o3.cell 0; have x1 := o3.cell 1; have x2 := o3.cell 2; have x3 := o3.cell 3; simp only [List.getElem?_cons_zero, List.getElem?_cons_succ] at x0 x1 x2 x3) | (refine wpl_load_own _ rfl 67 _ rfl (by kernel_rfl) 4 size_rproc _ rfl _ _ o3 rfl ?_) | (at_builtin; have r7 := ((r3).alloc (.cells #[.int .i64 yp, .int .i64 ya, .int .i64 yc, .bool yd] 67)); refine wpl_append _ rfl (.tmp 53) (.tmp 55) 36 rfl 67 i0 _ 4 32 Try.underlying36 HI.out hz0 hz1 hz2 rfl (by omega) (w.heap.size) S xs.length c1 _ rfl r7 _ 1 1 [.int .i64 yp, .int .i64 ya, .int .i64 yc, .bool yd] rfl rfl (Own.new _ _ _).rd0 (lit_one _ _ _ _) (xs.length + 1) (rcells (xs ++ [⟨yp, ya, yc, yd⟩])) rfl (rcells_snoc xs ⟨yp, ya, yc, yd⟩) (by omega) (by omega) (Nat.le_trans e3.size (Ext.alloc _ _).size) ?_; intro A5 c5 w5 o5 g5 k5; have e5 := below_grown (Ext.trans e3 (Ext.alloc _ (.cells #[.int .i64 yp, .int .i64 ya, .int .i64 yc, .bool yd] 67))) g5 (Nat.le_trans e3.size (Ext.alloc _ (.cells #[.int .i64 yp, .int .i64 ya, .int .i64 yc, .bool yd] 67)).size) (fun g' hg' => (r3.at_ g' hg').1); clear g5 k5))
          go_roundw
          case rel => exact ⟨i + 1, A5, c5, by rw [HN.out, HX.out]; simp, by go_num, by omega, by rw [HN.out, HX.out]; simpa using o5, e5⟩
          case measure => simp [intOf]; omega
    · obtain rfl : i = n := by omega
      rw [List.take_of_length_le (by omega)] at q1 ⊢
      have f0 := (HR.out.own.keep q2).frozen 0
      go_wp2
      go_ret
      exact ⟨by rw [HE.out]; rfl, by rw [HF.out]; exact RTo.store HR.out q2 hB q1⟩

end Go.Proofs.Ytdgggdhligfnpaa
