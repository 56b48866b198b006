/-
  WALKS of chapter 6's reference: Tick; OverInts in one word.
-/
import Derived.Test.YtjipkgnkabocjaaWhlS
namespace Go.Proofs.Ytjipkgnkabocjaa
open Go.RowKit
attribute [local go_sem] depUpon Sp.ok

theorem stay_off (now : Int) (l : TL) (x : Int × Int) (h : x.2 = now + 1) : stayF now (l ++ [x]) = stayF now l := by
  unfold stayF
  rw [List.filter_append, List.filter_cons_of_neg (by simp [h])]; simp
theorem stay_put (now : Int) (l : TL) (x : Int × Int) (h : x.2 ≠ now + 1) : stayF now (l ++ [x]) = stayF now l ++ [x] := by
  unfold stayF
  rw [List.filter_append, List.filter_cons_of_pos (by simp [h])]; rfl
theorem movA_off (now : Int) (l : TL) (x : Int × Int) (h : x.2 = now + 1) : movA now (l ++ [x]) = movA now l := by
  unfold movA
  rw [List.filter_append, List.filter_cons_of_neg (by simp [h])]; simp
theorem movA_put (now : Int) (l : TL) (x : Int × Int) (h : x.2 ≠ now + 1) : movA now (l ++ [x]) = movA now l + (if rg (now + 1) x.2 ≠ rg now x.2 then 1 else 0) := by
  unfold movA
  rw [List.filter_append, List.length_append]
  by_cases e : rg (now + 1) x.2 = rg now x.2
  · rw [List.filter_cons_of_neg (by simp [e]), if_neg (by simp [e])]; rfl
  · rw [List.filter_cons_of_pos (by simp [h, e]), if_pos e]; rfl
theorem stayF_le (now : Int) (l : TL) : (stayF now l).length ≤ l.length := List.length_filter_le _ _
theorem movA_le (now : Int) (l : TL) : movA now l ≤ l.length := List.length_filter_le _ _
theorem rd_x2 (w : World) (a b : Int) : Rd (w.alloc (.cells #[.int .i64 a, .int .i64 b] 76)) (some ⟨w.heap.size, 0, none⟩) (pairs [(a, b)]) := (Own.new w 76 (pairs [(a, b)])).rd0
/-- What the reference's Tick answers and leaves. -/
structure VTicked (w w' : World) (B gr : Nat) (now : Int) (L : TL) (e : Ending) : Prop where
  out : ∃ G cG S c', e = .returned (.tuple #[.slice G (goneF now L).length cG, .int .i64 (movA now L : Nat)]) ∧ Row w' w.heap.size 3 1 G (goneF now L).length cG (ints (goneF now L)) ∧ VS w' B gr (now + 1) S (stayF now L).length c' (stayF now L) ∧ w.grownBy w' (some gr)

set_option maxRecDepth 100000 in
set_option maxHeartbeats 4000000 in
theorem r_tick (B gr : Nat) (now : Int) (A : Option Addr) (n c : Nat) (L : TL) (w : World) (h : VS w B gr now A n c L) (hn : n ≤ 64) (hB : B ≤ w.heap.size) (n0 : 0 ≤ now) (n1 : now < 16777215) (hfu : ∀ x ∈ L, now < x.2 ∧ x.2 < 16777216) :
    Calls Try.prog 23 #[.pointer (some ⟨gr, 0, none⟩)] w fun e w' => VTicked w w' B gr now L e := by
  have hl := h.len
  have v0 := h.now_
  have v1 := h.l_
  have f0 := h.own.frozen 0
  have hgr := Own.lt h.own
  have tm : (now == 16777215) = false := by simp; omega
  have hg1 := setCell_grown w ⟨gr, 0, none⟩ (.int .i64 (now + 1))
  have HR := Lib.hid (show VS (w.setCell ⟨gr, 0, none⟩ (.int .i64 (now + 1))) B gr (now + 1) A n c L from ⟨h.own.set 0 _, h.row.grown hg1 (.inr fun q => row_ne h.row h.own (by decide) _ q rfl)⟩)
  have HFU := Lib.hid hfu
  obtain ⟨i1, hi1, gz0, gz1, gz2⟩ := info_parts info_int
  have HI1 := Lib.hid hi1
  obtain ⟨i0, hi0, hz0, hz1, hz2⟩ := info_parts info_one
  have HI := Lib.hid hi0
  have HG1 := Lib.hid hg1
  have hsz : (w.setCell ⟨gr, 0, none⟩ (.int .i64 (now + 1))).heap.size = w.heap.size := by simp
  clear h hfu hi1 hi0 hg1
  go_enter Try.func23, Try.ntmps23
  go_wp2
  generalize w.setCell ⟨gr, 0, none⟩ (.int .i64 (now + 1)) = w1 at *
  clear v0 v1 f0
  go_loopw [5, 6, 7, 8] (fun u v m q wr => ∃ (i : Nat) (G S : Option Addr) (cG cS : Nat), u = .slice G (goneF now (L.take i)).length cG ∧ v = .slice S (stayF now (L.take i)).length cS ∧ m = .int .i64 (movA now (L.take i) : Nat) ∧ q = .int .i64 (i : Int) ∧ i ≤ n ∧ Row wr w1.heap.size 3 1 G (goneF now (L.take i)).length cG (ints (goneF now (L.take i))) ∧ Row wr w1.heap.size 76 2 S (stayF now (L.take i)).length cS (pairs (stayF now (L.take i))) ∧ Ext w1 wr) (fun _ _ _ q _ => n - (intOf q).toNat)
  case atStart => exact ⟨0, none, none, 0, 0, rfl, rfl, rfl, rfl, by omega, Row.nil _ _ _ _, Row.nil _ _ _ _, Ext.refl _⟩
  case round =>
    obtain ⟨i, G, S, cG, cS, rfl, rfl, rfl, rfl, hi, r1, r2, q2⟩ := hrel
    have v0 := (HR.out.keep q2).now_
    have v1 := (HR.out.keep q2).l_
    have hws := q2.size
    have gl := goneF_le now (L.take i)
    have sl2 := stayF_le now (L.take i)
    have ml := movA_le now (L.take i)
    rw [List.length_take] at gl sl2 ml
    by_cases hlt : i < n
    · have hil : i < L.length := by omega
      have HTK := Lib.hid (take_succ' L i hil)
      obtain ⟨b, off, rfl, d0, d1⟩ := (HR.out.keep q2).row.rd.pair hil
      obtain ⟨y0, y1⟩ := HFU.out _ (List.getElem_mem hil)
      generalize L[i] = y at *
      obtain ⟨yi, ya⟩ := y
      simp only at d0 d1 y0 y1
      have i0' : (0 : Int) ≤ (i : Int) := by omega
      have i1' : (i : Int) < (n : Int) := by omega
      have bX := Ext.alloc wr (.cells #[.int .i64 yi, .int .i64 ya] 76)
      have oX := Own.new wr 76 [.int .i64 yi, .int .i64 ya]
      have R1 := Lib.hid (r1.keep bX)
      have R2 := Lib.hid (r2.keep bX)
      have HV := Lib.hid (HR.out.keep (Ext.trans q2 bX))
      have q4 := Ext.trans q2 bX
      have hwz := bX.size
      clear r1 r2
      go_upto_region 12 with fail
      generalize wr.alloc (.cells #[.int .i64 yi, .int .i64 ya] 76) = w4 at *
      have x0 := oX.cell 0
      have x1 := oX.cell 1
      simp only [List.getElem?_cons_zero, List.getElem?_cons_succ] at x0 x1
      replace v0 := HV.out.now_
      replace v1 := HV.out.l_
      clear oX d0 d1 bX
      by_cases ha : ya = now + 1
      · subst ha
        have HG2 := Lib.hid (gone_off now (L.take i) (yi, now + 1) rfl)
        have HM2 := Lib.hid (movA_off now (L.take i) (yi, now + 1) rfl)
        have HS2 := Lib.hid (stay_off now (L.take i) (yi, now + 1) rfl)
        have HAP := Lib.hid (ints_app' (goneF now (L.take i)) [yi])
        generalize goneF now (L.take i) = gs at *
        refine wp_region_dep (S := Ext) (C := Ext (w4)) (by kernel_rfl) (by kernel_rfl) rfl Ext.refl (Ext.drew _) ?_
        repeat (refine dep_det (by rfl) (fun K hK => ?_); go_simp; first
          | ((with_reducible refine hK _ ?_); clear hK K)
          | (rw [if_neg (by decide)]; (with_reducible refine hK _ ?_); clear hK K)
          | (refine ⟨_, fun w1 hw1 => ⟨Ext.refl w1, hw1, rfl⟩, hK _ ?_⟩; clear hK K)
          | (apply Exists.intro; refine ⟨fun w1 hw1 => ?_, hK _ ?_⟩
             first
               | (have c_x1 := cell_keep hw1 x1; have c_v0 := cell_keep hw1 v0; go_simp; first | exact ⟨Ext.refl _, hw1, rfl⟩ | exact ⟨Ext.refl _, rfl⟩)
             clear hK K))
        refine dep_nil ?_
        intro a' w' hC hE
        obtain rfl := atEnd_nil hE
        clear hE
        replace x0 := cell_keep hC x0
        have hw5 := hC.size
        have r5 := R1.out.keep hC
        go_wp2_with (at_builtin; have r7 := (r5.alloc (.cells #[.int .i64 yi] 3)); refine wpl_append _ rfl (.tmp 53) (.tmp 56) 22 rfl 3 i1 _ 1 8 Try.underlying22 HI1.out gz0 gz1 gz2 rfl (by omega) w1.heap.size G gs.length cG _ rfl r7 _ 1 1 (ints [yi]) rfl rfl (rd1i _ _) (ints_one _) (gs.length + 1) _ rfl HAP.out (by omega) (by omega) (by simp; omega) ?_; intro A2 c2 w6 o6 g6 k6; have e6 : Ext w1 w6 := below_grown (Ext.trans (Ext.trans q4 hC) (Ext.alloc _ (.cells #[.int .i64 yi] 3))) g6 (by simp; omega) (fun gg hg => (r7.at_ gg hg).1); have R6 := Lib.hid ((((R2.out.keep hC).alloc (.cells #[.int .i64 yi] 3))).grown g6 (by cases hb : blk S with
          | none => exact .inl rfl
          | some bb => exact .inr fun q => row_row ((R2.out.keep hC).alloc (.cells #[.int .i64 yi] 3)) r7 (by decide) bb hb q.symm)); clear r5 r7)
        go_roundw
        case rel => exact ⟨i + 1, A2, S, c2, cS, by rw [HTK.out, HG2.out]; simp, by rw [HTK.out, HS2.out], by rw [HTK.out, HM2.out], by go_num, by omega, by rw [HTK.out, HG2.out]; simpa using o6, by rw [HTK.out, HS2.out]; exact R6.out, e6⟩
        case measure => simp [intOf]; omega
      · have ta : (ya == now + 1) = false := by simp [ha]
        have HG2 := Lib.hid (gone_put now (L.take i) (yi, ya) ha)
        have HM1 := Lib.hid (movA_put now (L.take i) (yi, ya) ha)
        have HS2 := Lib.hid (stay_put now (L.take i) (yi, ya) ha)
        have HAP := Lib.hid (pairs_app (stayF now (L.take i)) [(yi, ya)])
        have HW1 := Lib.hid (fun w => r_where now ya w n0 (by omega) (by omega) (by omega))
        have HW2 := Lib.hid (fun w => r_where (now + 1) ya w (by omega) (by omega) (by omega) (by omega))
        have HM2 := Lib.hid (show movA now (L.take i ++ [(yi, ya)]) = movA now (L.take i) + if rg (now + 1) ya ≠ rg now ya then 1 else 0 from HM1.out)
        clear HM1
        generalize stayF now (L.take i) = ss at *
        generalize hr1 : rg now ya = ρ at *
        generalize hr2 : rg (now + 1) ya = ρ' at *
        generalize dg ya ρ = dv at *
        generalize dg ya ρ' = dv' at *
        generalize movA now (L.take i) = M at *
        clear hr1 hr2
        refine wp_region_dep (S := Ext) (C := Ext (w4)) (by kernel_rfl) (by kernel_rfl) rfl Ext.refl (Ext.drew _) ?_
        repeat (refine dep_det (by rfl) (fun K hK => ?_); go_simp; first
          | ((with_reducible refine hK _ ?_); clear hK K)
          | (rw [if_neg (by decide)]; (with_reducible refine hK _ ?_); clear hK K)
          | (refine ⟨_, fun w1 hw1 => ⟨Ext.refl w1, hw1, rfl⟩, hK _ ?_⟩; clear hK K)
          | (apply Exists.intro; refine ⟨fun w1 hw1 => ?_, hK _ ?_⟩
             first
               | (have c_x1 := cell_keep hw1 x1; have c_v0 := cell_keep hw1 v0; go_simp; first | exact ⟨Ext.refl _, hw1, rfl⟩ | exact ⟨Ext.refl _, rfl⟩)
             clear hK K))
        refine dep_nil ?_
        intro a' w' hC hE
        obtain rfl := atEnd_nil hE
        clear hE
        replace x0 := cell_keep hC x0
        replace x1 := cell_keep hC x1
        replace v0 := cell_keep hC v0
        have q5 := Ext.trans q4 hC
        have R1' := Lib.hid (R1.out.keep hC)
        have R2' := Lib.hid (R2.out.keep hC)
        have hw5 := hC.size
        clear hC R1 R2 v1
        go_upto_region 15 with ((with_reducible go_at_call 35); (with_reducible refine (HW1.out _).mono ?_); rintro e w' ⟨rfl, rfl⟩)
        refine wp_region_dep (S := Ext) (C := Ext (w')) (by kernel_rfl) (by kernel_rfl) rfl Ext.refl (Ext.drew _) ?_
        repeat (refine dep_det (by rfl) (fun K hK => ?_); go_simp; first
          | ((with_reducible refine hK _ ?_); clear hK K)
          | (rw [if_neg (by decide)]; (with_reducible refine hK _ ?_); clear hK K)
          | (refine ⟨_, fun w1 hw1 => ⟨Ext.refl w1, hw1, rfl⟩, hK _ ?_⟩; clear hK K)
          | (apply Exists.intro; refine ⟨fun w1 hw1 => ?_, hK _ ?_⟩
             first
               | (have c_x1 := cell_keep hw1 x1; have c_v0 := cell_keep hw1 v0; go_simp; first | exact ⟨Ext.refl _, hw1, rfl⟩ | exact ⟨Ext.refl _, rfl⟩)
               | (go_at_call 35; ((with_reducible refine (HW2.out _).mono ?_); rintro e w' ⟨rfl, rfl⟩; exact ⟨_, rfl, Ext.refl _, hw1, rfl⟩))
             clear hK K))
        refine dep_nil ?_
        intro a' w' hC hE
        obtain rfl := atEnd_nil hE
        clear hE
        replace x0 := cell_keep hC x0
        replace x1 := cell_keep hC x1
        have hw6 := hC.size
        have r6 := R2'.out.keep hC
        by_cases hmv : ρ' = ρ
        · subst hmv
          have tmv : ((ρ' : Int) != (ρ' : Int)) = false := by simp
          have HM3 := Lib.hid (show movA now (L.take i ++ [(yi, ya)]) = M by rw [HM2.out, if_neg (by simp)]; rfl)
          go_wp2_with (at_builtin; have r7 := (r6.alloc (.cells #[.int .i64 yi, .int .i64 ya] 76)); refine wpl_append _ rfl (.tmp 80) (.tmp 82) 71 rfl 76 i0 _ 2 16 Try.underlying71 HI.out hz0 hz1 hz2 rfl (by omega) w1.heap.size S ss.length cS _ rfl r7 _ 1 1 (pairs [(yi, ya)]) rfl rfl (rd_x2 _ _ _) (pairs_one _) (ss.length + 1) _ rfl HAP.out (by omega) (by omega) (by simp; omega) ?_; intro A2 c2 w7 o6 g6 k6; have e6 : Ext w1 w7 := below_grown (Ext.trans (Ext.trans q5 hC) (Ext.alloc _ (.cells #[.int .i64 yi, .int .i64 ya] 76))) g6 (by simp; omega) (fun gg hg => (r7.at_ gg hg).1); have R7 := Lib.hid ((((R1'.out.keep hC).alloc (.cells #[.int .i64 yi, .int .i64 ya] 76))).grown g6 (by cases hb : blk G with
            | none => exact .inl rfl
            | some bb => exact .inr fun q => row_row ((R1'.out.keep hC).alloc (.cells #[.int .i64 yi, .int .i64 ya] 76)) r7 (by decide) bb hb q.symm)); clear r7)
          go_roundw
          case rel => exact ⟨i + 1, G, A2, cG, c2, by rw [HTK.out, HG2.out], by rw [HTK.out, HS2.out]; simp, by rw [HTK.out, HM3.out], by go_num, by omega, by rw [HTK.out, HG2.out]; exact R7.out, by rw [HTK.out, HS2.out]; simpa using o6, e6⟩
          case measure => simp [intOf]; omega
        · have tmv : ((ρ : Int) != (ρ' : Int)) = true := by simp; omega
          have HM3 := Lib.hid (show movA now (L.take i ++ [(yi, ya)]) = M + 1 by rw [HM2.out, if_pos hmv])
          clear hmv
          go_wp2_with (at_builtin; have r7 := (r6.alloc (.cells #[.int .i64 yi, .int .i64 ya] 76)); refine wpl_append _ rfl (.tmp 80) (.tmp 82) 71 rfl 76 i0 _ 2 16 Try.underlying71 HI.out hz0 hz1 hz2 rfl (by omega) w1.heap.size S ss.length cS _ rfl r7 _ 1 1 (pairs [(yi, ya)]) rfl rfl (rd_x2 _ _ _) (pairs_one _) (ss.length + 1) _ rfl HAP.out (by omega) (by omega) (by simp; omega) ?_; intro A2 c2 w7 o6 g6 k6; have e6 : Ext w1 w7 := below_grown (Ext.trans (Ext.trans q5 hC) (Ext.alloc _ (.cells #[.int .i64 yi, .int .i64 ya] 76))) g6 (by simp; omega) (fun gg hg => (r7.at_ gg hg).1); have R7 := Lib.hid ((((R1'.out.keep hC).alloc (.cells #[.int .i64 yi, .int .i64 ya] 76))).grown g6 (by cases hb : blk G with
            | none => exact .inl rfl
            | some bb => exact .inr fun q => row_row ((R1'.out.keep hC).alloc (.cells #[.int .i64 yi, .int .i64 ya] 76)) r7 (by decide) bb hb q.symm)); clear r7)
          go_roundw
          case rel => exact ⟨i + 1, G, A2, cG, c2, by rw [HTK.out, HG2.out], by rw [HTK.out, HS2.out]; simp, by rw [HTK.out, HM3.out]; go_num, by go_num, by omega, by rw [HTK.out, HG2.out]; exact R7.out, by rw [HTK.out, HS2.out]; simpa using o6, e6⟩
          case measure => simp [intOf]; omega
    · obtain rfl : i = n := by omega
      rw [List.take_of_length_le (by omega)] at r1 r2 ⊢
      have f1 := (HR.out.keep q2).own.frozen 1
      have R1 := Lib.hid r1
      have R2 := Lib.hid r2
      clear r1 r2
      go_wp2
      go_ret2
      have hs1 := setCell_grown wr ⟨gr, 1, none⟩ (.slice S (stayF now L).length cS)
      have hV := HR.out.keep q2
      refine ⟨G, cG, S, cS, rfl, ?_, ⟨?_, ?_⟩, ?_⟩
      · have := R1.out.grown hs1 (.inr fun q => by have h1 := (R1.out.at_ _ q).1; simp only at h1; omega)
        rwa [hsz] at this
      · exact hV.own.set 1 _
      · exact (R2.out.grown hs1 (.inr fun q => by have h1 := (R2.out.at_ _ q).1; simp only at h1; omega)).mono (by omega)
      · exact (HG1.out.trans ⟨q2.os, q2.tape, q2.output, q2.size, fun i hi _ => q2.block i hi⟩).trans hs1
theorem r_tick_end (B gr : Nat) (A : Option Addr) (n c : Nat) (L : TL) (w : World) (h : VS w B gr 16777215 A n c L) :
    Calls Try.prog 23 #[.pointer (some ⟨gr, 0, none⟩)] w fun e w' => e = .returned (.tuple #[.slice none 0 0, .int .i64 0]) ∧ w = w' := by
  have v0 := h.now_
  clear h
  go_enter Try.func23, Try.ntmps23
  go_wp2
  go_ret2
  exact ⟨rfl, rfl⟩

set_option maxRecDepth 100000 in
set_option maxHeartbeats 1000000 in
theorem over_ints3 (A : Option Addr) (n c B : Nat) (zs : List Int) (w : World) (hr : Row w B 3 1 A n c (ints zs)) (hB : B ≤ w.heap.size) (hn : n ≤ 65536) :
    Calls Try.prog 24 #[.slice A n c] w fun e w' => e = .returned (.tuple #[]) ∧ w.grownBy w' (blk A) := by
  obtain ⟨i0, hi, hz0, hz1, hz2⟩ := info_parts info_int
  have HI := Lib.hid hi
  clear hi
  go_enter Try.func24, Try.ntmps24
  go_wp2
  go_loopw [2] (fun i wr => ∃ (k : Nat) (ys : List Int), k ≤ n ∧ i = .int .i64 k ∧ Row wr B 3 1 A n c (ints ys) ∧ w.grownBy wr (blk A)) (fun i _ => n - (intOf i).toNat)
  case atStart => exact ⟨0, zs, by omega, rfl, hr, World.grownBy.refl _ _⟩
  case round =>
    obtain ⟨k, ys, hk, rfl, q1, q2⟩ := hrel
    clear hr
    by_cases hlt : k < n
    · obtain ⟨g, rfl⟩ := q1.addr (by omega)
      obtain ⟨⟨u, hc⟩, hf, q3⟩ := q1.set1 k hlt (.int .i64 (-999))
      have q4 : Row (wr.setCell ⟨g, k, none⟩ (.int .i64 (-999))) B 3 1 (some ⟨g, 0, none⟩) n c (ints (ys.set k (-999))) := by
        have : (ints ys).set k (.int .i64 (-999)) = ints (ys.set k (-999)) := by simp [ints, List.map_set]
        rw [← this]; exact q3
      have q5 : w.grownBy (wr.setCell ⟨g, k, none⟩ (.int .i64 (-999))) (blk (some ⟨g, 0, none⟩)) := q2.trans (setCell_grown wr ⟨g, k, none⟩ (.int .i64 (-999)))
      clear q3
      go_wp2
      go_roundw
      case rel => exact ⟨k + 1, _, by omega, by go_num, q4, q5⟩
      case measure => simp [intOf]; omega
    · have hs := q2.size
      go_wp2_with (at_builtin; have q7 := (q1.alloc (.cells #[.int .i64 (-999)] 3)); refine wpl_append _ rfl (.tmp 12) (.tmp 13) 22 rfl 3 i0 _ 1 8 Try.underlying22 HI.out hz0 hz1 hz2 rfl (by omega) B A n c _ rfl q7 _ 1 1 (ints [-999]) rfl rfl (Own.new wr 3 (ints [-999])).rd0 (ints_one _) (n + 1) _ rfl rfl (by omega) (by omega) (by simp; omega) ?_; intro A2 c2 w2 o2 g2 e2)
      have bA := Ext.alloc wr (.cells #[.int .i64 (-999)] 3)
      exact bodyPost_end (results_none rfl _ _ _) rfl ⟨rfl, (q2.trans ⟨bA.os, bA.tape, bA.output, bA.size, fun i hi _ => bA.block i hi⟩).trans g2⟩

end Go.Proofs.Ytjipkgnkabocjaa
