/-
  WALKS of chapter 25's reference: Child.
-/
import Derived.Test.YtdgggdhligfnpaaPrcL
import Derived.Test.YtdgggdhligfnpaaDel
namespace Go.Proofs.Ytdgggdhligfnpaa
open Go.RowKit Go.Maps
attribute [local go_sem] depUpon Sp.ok

theorem Rd.dropAt {w : World} {b off : Nat} {xs : List Value} (h : Rd w (some ⟨b, off, none⟩) xs) (m : Nat) : Rd w (some ⟨b, off + m, none⟩) (xs.drop m) := fun k v hk => by
  rw [List.getElem?_drop] at hk
  obtain ⟨b', o', e, hc⟩ := h (m + k) v hk
  injection e with e; injection e with e1 e2
  subst e1; subst e2
  exact ⟨b, off + m, rfl, by rw [Nat.add_assoc]; exact hc⟩
theorem RTo.drewN {w0 : World} {B gr : Nat} {L : List PR} {w' : World} (h : RTo w0 B gr L w') (k : Nat) : RTo w0 B gr L (w'.drewN k) := by
  obtain ⟨A, n, c, h1, h2⟩ := h
  have hb := Ext.drewN w' k
  exact ⟨A, n, c, h1.keep hb, h2.trans ⟨hb.os, hb.tape, hb.output, hb.size, fun i hi _ => hb.block i hi⟩⟩
theorem any_snoc (L : List PR) (k : Int) {i : Nat} (hi : i < L.length) : (L.take (i + 1)).any (fun r => decide (r.par = k)) = ((L.take i).any (fun r => decide (r.par = k)) || decide (L[i].par = k)) := by
  rw [take_succ' L i hi, List.any_append]; simp
theorem kd_snoc (L : List PR) (k : Int) {i : Nat} (hi : i < L.length) (h : ∀ r ∈ L.take i, kdB k r = false) (hx : kdB k L[i] = false) : ∀ r ∈ L.take (i + 1), kdB k r = false := fun r hr => by
  rw [take_succ' L i hi, List.mem_append, List.mem_singleton] at hr
  rcases hr with hr | rfl
  · exact h r hr
  · exact hx
theorem rcells_take (L : List PR) (i : Nat) : rcells (L.take i) = (rcells L).take (i * 4) := by
  have e : rcells L = rcells (L.take i) ++ rcells (L.drop i) := by rw [← rcells_app, List.take_append_drop]
  rcases Nat.le_total i L.length with h | h
  · have hl : (rcells (L.take i)).length = i * 4 := by rw [rcells_len, List.length_take]; omega
    rw [e, ← hl, List.take_left]
  · rw [List.take_of_length_le h, List.take_of_length_le (by rw [rcells_len]; omega)]
theorem rcells_drop (L : List PR) (i : Nat) : rcells (L.drop i) = (rcells L).drop (i * 4) := by
  have e : rcells L = rcells (L.take i) ++ rcells (L.drop i) := by rw [← rcells_app, List.take_append_drop]
  rcases Nat.le_total i L.length with h | h
  · have hl : (rcells (L.take i)).length = i * 4 := by rw [rcells_len, List.length_take]; omega
    rw [e, ← hl, List.drop_left]
  · rw [List.drop_eq_nil_of_le h, List.drop_eq_nil_of_le (by rw [rcells_len]; omega)]; rfl

set_option maxRecDepth 100000 in
set_option maxHeartbeats 4000000 in
theorem r_child (B gr : Nat) (A : Option Addr) (n c : Nat) (L : List PR) (k : Int) (w : World) (h : RS w B gr A n c L) (hn : n ≤ 65536) (hB : B ≤ w.heap.size) (hs : Srt L) :
    Calls Try.prog 17 #[.pointer (some ⟨gr, 0, none⟩), .int .i64 k] w fun e w' => e = .returned (.tuple #[.int .i64 (childR L k).1, .int .i64 (childR L k).2.1, .int .i64 (childR L k).2.2]) ∧ RTo w B gr (childL L k) w' := by
  have HV := Lib.hid (r_alive B gr A n c L k w h hn)
  have HR := Lib.hid h
  cases hal : aliveB L k
  · rw [hal] at HV
    have HE := Lib.hid (child_gone hal)
    clear h hal hs
    go_enter Try.func17, Try.ntmps17
    go_wp2_with ((with_reducible go_at_call 21); (with_reducible refine (HV.out).mono ?_); rintro e w' ⟨rfl, rfl⟩)
    go_ret3
    exact ⟨by rw [HE.out.1]; rfl, by rw [HE.out.2]; exact RTo.of HR.out (Ext.refl _)⟩
  rw [hal] at HV
  have HLN := h.len
  have HCY := Lib.hid (fun i hi => @child_yes L hs k hal i hi)
  have HCN := Lib.hid (child_no hs hal)
  have HAS := Lib.hid (fun i hi => @any_snoc L k i hi)
  have HKS := Lib.hid (fun i hi => @kd_snoc L k i hi)
  have v0 := h.cell
  have hgr := Own.lt h.own
  have hcap := h.row.le
  obtain ⟨i0, hi, hz0, hz1, hz2⟩ := info_parts info_rproc
  have HI := Lib.hid hi
  clear hi h hs hal
  go_enter Try.func17, Try.ntmps17
  go_wp2_with ((with_reducible go_at_call 21); (with_reducible refine (HV.out).mono ?_); rintro e w' ⟨rfl, rfl⟩)
  go_loopw [7, 8] (fun v q wr => ∃ i : Nat, v = .bool ((L.take i).any (fun r => decide (r.par = k))) ∧ q = .int .i64 i ∧ i ≤ n ∧ (∀ r ∈ L.take i, kdB k r = false) ∧ Ext w wr) (fun _ q _ => n - (intOf q).toNat)
  case atStart => exact ⟨0, rfl, rfl, by omega, by simp, Ext.refl _⟩
  case round =>
    clear v0
    obtain ⟨i, rfl, rfl, hi, hno, q2⟩ := hrel
    have v0 := (HR.out.keep q2).cell
    by_cases hlt : i < n
    · have hil : i < L.length := by omega
      obtain ⟨b, off, rfl, he⟩ := HR.out.at_ hil
      have HEL := Lib.hid (fun wz (hz : Ext w wz) j v hv => cell_keep hz (he j v hv))
      have hsn := HAS.out i hil
      have hks := HKS.out i hil hno
      have hcy := HCY.out i hil hno
      have i0' : (0 : Int) ≤ (i : Int) := by omega
      have i1' : (i : Int) < (n : Int) := by omega
      have hq2 := q2.size
      generalize hN : (L.take (i + 1)).any (fun r => decide (r.par = k)) = N1 at *
      have HN := Lib.hid hN
      generalize (L.take i).any (fun r => decide (r.par = k)) = N0 at *
      generalize hy : L[i] = y at *
      obtain ⟨yp, ya, yc, yd⟩ := y
      simp only at hsn hcy
      clear hN he hy
      by_cases hpa : ya = k
      · subst hpa
        have tpa : (ya != ya) = false := by simp
        have tpb : (ya == ya) = true := by simp
        have HX := Lib.hid (show N1 = true by rw [hsn]; simp)
        cases yd
        · have HK := Lib.hid (hks (by simp [kdB]))
          clear hsn hks hcy hil hno
          go_wp2_with (first | (refine wpl_load_rd _ rfl 67 _ rfl (by kernel_rfl) 4 size_rproc b (off + i * 4) rfl [.int .i64 yp, .int .i64 ya, .int .i64 yc, .bool false] rfl (HEL.out _ q2) ?_) | (refine wpl_alloc_own _ rfl 67 rfl (.agg #[.int .i64 0, .int .i64 0, .int .i64 0, .bool false]) zero_rproc ?_; intro w2 o2 b2 s2; clear s2) | (refine wpl_store_own _ rfl 67 _ _ rfl 4 size_rproc _ rfl [.int .i64 yp, .int .i64 ya, .int .i64 yc, .bool false] rfl _ _ o2 rfl rfl (lit_one _ _ _ _) ?_; intro w3 o3 g3 s3; clear s3; have e3 := below_of_grown (Ext.trans q2 b2) g3 q2.size (Ext.trans q2 b2).size; have x0 := o3.cell 0; have x1 := o3.cell 1; have x2 := o3.cell 2; have x3 := o3.cell 3; simp only [List.getElem?_cons_zero, List.getElem?_cons_succ] at x0 x1 x2 x3))
          go_roundw
          case rel => exact ⟨i + 1, by rw [HN.out, HX.out], by go_num, by omega, HK.out, e3⟩
          case measure => simp [intOf]; omega
        · have hcy' := hcy (by simp [kdB])
          have HYY := Lib.hid hcy'
          have HIL := Lib.hid hil
          clear hsn hks hcy hno hcy' hil
          go_upto_region 11 with (first | (refine wpl_load_rd _ rfl 67 _ rfl (by kernel_rfl) 4 size_rproc b (off + i * 4) rfl [.int .i64 yp, .int .i64 ya, .int .i64 yc, .bool true] rfl (HEL.out _ q2) ?_) | (refine wpl_alloc_own _ rfl 67 rfl (.agg #[.int .i64 0, .int .i64 0, .int .i64 0, .bool false]) zero_rproc ?_; intro w2 o2 b2 s2; clear s2) | (refine wpl_store_own _ rfl 67 _ _ rfl 4 size_rproc _ rfl [.int .i64 yp, .int .i64 ya, .int .i64 yc, .bool true] rfl _ _ o2 rfl rfl (lit_one _ _ _ _) ?_; intro w3 o3 g3 s3; clear s3; have e3 := below_of_grown (Ext.trans q2 b2) g3 q2.size (Ext.trans q2 b2).size; have x0 := o3.cell 0; have x1 := o3.cell 1; have x2 := o3.cell 2; have x3 := o3.cell 3; simp only [List.getElem?_cons_zero, List.getElem?_cons_succ] at x0 x1 x2 x3))
          have v3 := (HR.out.keep e3).cell
          have hk1 : IntKind.i64.wrap ((i : Int) + 1) = (i : Int) + 1 := IntWalk.i64_in _ ⟨by omega, by omega⟩
          have k1' : (i : Int) ≤ (c : Int) := by omega
          have k2' : (i : Int) + 1 ≤ (n : Int) := by omega
          have k3' : (n : Int) ≤ (c : Int) := by omega
          have LT := Lib.hid (by rw [rcells_len, List.length_take]; have := HIL.out; omega : (rcells (L.take i)).length = i * 4)
          have HT := Lib.hid (fun w1 (h1 : Ext w3 w1) => by
            have := (HR.out.keep (Ext.trans e3 h1)).row.rd.take (i * 4)
            rwa [← rcells_take] at this)
          have hw3 := e3.size
          by_cases hc : c = i + 1
          · subst hc
            have hq1 : (i : Int) ≤ (i : Int) + 1 := by omega
            have hq2 : (n : Int) ≤ (i : Int) + 1 := by omega
            obtain rfl : n = i + 1 := by omega
            have hd0 : L.drop (i + 1) = [] := List.drop_eq_nil_of_le (by omega)
            have HD := Lib.hid (fun w1 (_ : Ext w3 w1) => show Rd w1 (some ⟨b, off, none⟩) (rcells (L.drop (i + 1))) by
              rw [hd0]; exact Rd.nil _ _)
            have LD := Lib.hid (by rw [hd0]; rfl : (rcells (L.drop (i + 1))).length = 0 * 4)
            clear hd0
            refine wp_region_dep_tail 18 (S := Rx w3.heap.size 67 4 i 0 (rcells (L.take i)) (rcells (L.take i) ++ rcells (L.drop (i + 1)))) (C := Ext w3) (by kernel_rfl) (by kernel_rfl) rfl Rx.refl (Ext.drew _) ?_
            simp only [List.take_succ_cons, List.take_zero]
            repeat (refine dep_det (by rfl) (fun K hK => ?_); go_simp; first
              | ((with_reducible refine hK _ ?_); clear hK K)
              | (rw [if_neg (by decide)]; (with_reducible refine hK _ ?_); clear hK K)
              | (refine ⟨_, fun w1 hw1 => ⟨Rx.refl w1, hw1, rfl⟩, hK _ ?_⟩; clear hK K)
              | (apply Exists.intro; refine ⟨fun w1 hw1 => ?_, hK _ ?_⟩
                 first
                   | (have c_v3 := cell_keep hw1 v3; go_simp; first | exact ⟨Rx.refl w1, hw1, rfl⟩ | exact ⟨Rx.refl w1, rfl⟩)
                 clear hK K))
            refine dep_var (RwV w3.heap.size 67 4 i (rcells (L.take i))) 43 rfl (by rfl) RwV.one (by go_simp) (fun w1 hw1 => ?_) ?_
            · obtain ⟨A', c', w', hrun, hh⟩ := rx_first (P := Try.prog) w3 w1 36 36 67 i0 _ 4 32 Try.underlying36 HI.out hz0 hz1 hz2 rfl (by omega) hw1 (some ⟨b, off, none⟩) i (i + 1) (rcells (L.take i)) (rcells (L.take i) ++ rcells (L.drop (i + 1))) 0 LT.out (HT.out w1 hw1) (rcells_flat _) (by omega) (by omega)
              exact dep_append rfl hrun hh
            repeat (refine dep_det (by rfl) (fun K hK => ?_); go_simp; first
              | ((with_reducible refine hK _ ?_); clear hK K)
              | (rw [if_neg (by decide)]; (with_reducible refine hK _ ?_); clear hK K)
              | (refine ⟨_, fun w1 hw1 => ⟨Rx.refl w1, hw1, rfl⟩, hK _ ?_⟩; clear hK K)
              | (apply Exists.intro; refine ⟨fun w1 hw1 => ?_, hK _ ?_⟩
                 first
                   | (have c_v3 := cell_keep hw1 v3; go_simp; first | exact ⟨Rx.refl w1, hw1, rfl⟩ | exact ⟨Rx.refl w1, rfl⟩)
                 clear hK K))
            refine dep_var1 43 _ (RwV w3.heap.size 67 4 (i + 0) (rcells (L.take i) ++ rcells (L.drop (i + 1)))) 51 rfl (by rfl) (by intro V' h; simpa using h) (List.mem_cons_self ..) (by first | (simp; done) | simp [Act.put]) RwV.two (fun w1 v hw1 hV => ⟨by go_simp, ?_⟩) ?_
            · obtain ⟨A', c', w', hrun, hh⟩ := rx_second (P := Try.prog) w3 w1 36 36 67 i0 _ 4 32 Try.underlying36 HI.out hz0 hz1 hz2 rfl (by omega) hw1 _ i 0 _ (rcells (L.take i)) (rcells (L.drop (i + 1))) v hV LD.out (HD.out w1 hw1) (rcells_flat _) (by omega) (by omega)
              exact dep_append rfl hrun hh
            repeat (refine dep_det (by rfl) (fun K hK => ?_); go_simp; first
              | ((with_reducible refine hK _ ?_); clear hK K)
              | (rw [if_neg (by decide)]; (with_reducible refine hK _ ?_); clear hK K)
              | (refine ⟨_, fun w1 hw1 => ⟨Rx.refl w1, hw1, rfl⟩, hK _ ?_⟩; clear hK K)
              | (apply Exists.intro; refine ⟨fun w1 hw1 => ?_, hK _ ?_⟩
                 first
                   | (have c_v3 := cell_keep hw1 v3; go_simp; first | exact ⟨Rx.refl w1, hw1, rfl⟩ | exact ⟨Rx.refl w1, rfl⟩)
                 clear hK K))
            refine dep_nil ?_
            intro a' w' hC hE
            obtain ⟨v, ⟨A2, d2, rfl, r2⟩, hE⟩ := atEnd_cons hE (by simp) (by first | (simp; done) | simp [Act.put])
            obtain ⟨v, ⟨A1, d1, rfl, r1⟩, hE⟩ := atEnd_cons hE (by simp) (by first | (simp; done) | simp [Act.put])
            obtain rfl := atEnd_nil hE
            clear hE
            simp only [List.drop_succ_cons, List.drop_zero]
            have v9 := (HR.out.keep (Ext.trans e3 hC)).cell
            have f9 := (HR.out.own.keep (Ext.trans e3 hC)).frozen 0
            have oF := (o3.keep hC).far (p := ⟨gr, 0, none⟩) (by simp only; omega) (.slice A2 (i + 0) d2)
            have hT := RTo.store (L := L.take i ++ L.drop (i + 1)) HR.out (Ext.trans e3 hC) hB (by rw [rcells_app]; exact r2.mono hw3)
            clear r1 r2 x0 x1 x2 x3
            go_upto_region 12 with fail
            generalize w'.setCell ⟨gr, 0, none⟩ (.slice A2 (i + 0) d2) = w9 at *
            have y0 := oF.cell 0
            have y2 := oF.cell 2
            simp only [List.getElem?_cons_zero, List.getElem?_cons_succ] at y0 y2
            clear v9 f9 oF
            go_wp2
            go_quiet (fail)
            go_wp2
            go_ret3
            exact ⟨by rw [HYY.out.1]; rfl, by rw [HYY.out.2]; exact RTo.drewN hT _⟩
          · have hq3 : (i : Int) + 1 < (c : Int) := by omega
            have hc1 : ¬ c - (i + 1) = 0 := by omega
            have HD := Lib.hid (fun w1 (h1 : Ext w3 w1) => show Rd w1 (some ⟨b, off + (i + 1) * 4, none⟩) (rcells (L.drop (i + 1))) by
              rw [rcells_drop]; exact (HR.out.keep (Ext.trans e3 h1)).row.rd.dropAt _)
            have LD := Lib.hid (by rw [rcells_len, List.length_drop]; have := HIL.out; omega : (rcells (L.drop (i + 1))).length = (n - (i + 1)) * 4)
            refine wp_region_dep_tail 18 (S := Rx w3.heap.size 67 4 i (n - (i + 1)) (rcells (L.take i)) (rcells (L.take i) ++ rcells (L.drop (i + 1)))) (C := Ext w3) (by kernel_rfl) (by kernel_rfl) rfl Rx.refl (Ext.drew _) ?_
            simp only [List.take_succ_cons, List.take_zero]
            repeat (refine dep_det (by rfl) (fun K hK => ?_); go_simp; first
              | ((with_reducible refine hK _ ?_); clear hK K)
              | (rw [if_neg (by decide)]; (with_reducible refine hK _ ?_); clear hK K)
              | (refine ⟨_, fun w1 hw1 => ⟨Rx.refl w1, hw1, rfl⟩, hK _ ?_⟩; clear hK K)
              | (apply Exists.intro; refine ⟨fun w1 hw1 => ?_, hK _ ?_⟩
                 first
                   | (have c_v3 := cell_keep hw1 v3; go_simp; first | exact ⟨Rx.refl w1, hw1, rfl⟩ | exact ⟨Rx.refl w1, rfl⟩)
                 clear hK K))
            refine dep_var (RwV w3.heap.size 67 4 i (rcells (L.take i))) 43 rfl (by rfl) RwV.one (by go_simp) (fun w1 hw1 => ?_) ?_
            · obtain ⟨A', c', w', hrun, hh⟩ := rx_first (P := Try.prog) w3 w1 36 36 67 i0 _ 4 32 Try.underlying36 HI.out hz0 hz1 hz2 rfl (by omega) hw1 (some ⟨b, off, none⟩) i c (rcells (L.take i)) (rcells (L.take i) ++ rcells (L.drop (i + 1))) (n - (i + 1)) LT.out (HT.out w1 hw1) (rcells_flat _) (by omega) (by omega)
              exact dep_append rfl hrun hh
            repeat (refine dep_det (by rfl) (fun K hK => ?_); go_simp; first
              | ((with_reducible refine hK _ ?_); clear hK K)
              | (rw [if_neg (by decide)]; (with_reducible refine hK _ ?_); clear hK K)
              | (refine ⟨_, fun w1 hw1 => ⟨Rx.refl w1, hw1, rfl⟩, hK _ ?_⟩; clear hK K)
              | (apply Exists.intro; refine ⟨fun w1 hw1 => ?_, hK _ ?_⟩
                 first
                   | (have c_v3 := cell_keep hw1 v3; go_simp; first | exact ⟨Rx.refl w1, hw1, rfl⟩ | exact ⟨Rx.refl w1, rfl⟩)
                 clear hK K))
            refine dep_var1 43 _ (RwV w3.heap.size 67 4 (i + (n - (i + 1))) (rcells (L.take i) ++ rcells (L.drop (i + 1)))) 51 rfl (by rfl) (by intro V' h; simpa using h) (List.mem_cons_self ..) (by first | (simp; done) | simp [Act.put]) RwV.two (fun w1 v hw1 hV => ⟨by go_simp, ?_⟩) ?_
            · obtain ⟨A', c', w', hrun, hh⟩ := rx_second (P := Try.prog) w3 w1 36 36 67 i0 _ 4 32 Try.underlying36 HI.out hz0 hz1 hz2 rfl (by omega) hw1 _ i (n - (i + 1)) _ (rcells (L.take i)) (rcells (L.drop (i + 1))) v hV LD.out (HD.out w1 hw1) (rcells_flat _) (by omega) (by omega)
              exact dep_append rfl hrun hh
            repeat (refine dep_det (by rfl) (fun K hK => ?_); go_simp; first
              | ((with_reducible refine hK _ ?_); clear hK K)
              | (rw [if_neg (by decide)]; (with_reducible refine hK _ ?_); clear hK K)
              | (refine ⟨_, fun w1 hw1 => ⟨Rx.refl w1, hw1, rfl⟩, hK _ ?_⟩; clear hK K)
              | (apply Exists.intro; refine ⟨fun w1 hw1 => ?_, hK _ ?_⟩
                 first
                   | (have c_v3 := cell_keep hw1 v3; go_simp; first | exact ⟨Rx.refl w1, hw1, rfl⟩ | exact ⟨Rx.refl w1, rfl⟩)
                 clear hK K))
            refine dep_nil ?_
            intro a' w' hC hE
            obtain ⟨v, ⟨A2, d2, rfl, r2⟩, hE⟩ := atEnd_cons hE (by simp) (by first | (simp; done) | simp [Act.put])
            obtain ⟨v, ⟨A1, d1, rfl, r1⟩, hE⟩ := atEnd_cons hE (by simp) (by first | (simp; done) | simp [Act.put])
            obtain rfl := atEnd_nil hE
            clear hE
            simp only [List.drop_succ_cons, List.drop_zero]
            have v9 := (HR.out.keep (Ext.trans e3 hC)).cell
            have f9 := (HR.out.own.keep (Ext.trans e3 hC)).frozen 0
            have oF := (o3.keep hC).far (p := ⟨gr, 0, none⟩) (by simp only; omega) (.slice A2 (i + (n - (i + 1))) d2)
            have hT := RTo.store (L := L.take i ++ L.drop (i + 1)) HR.out (Ext.trans e3 hC) hB (by rw [rcells_app]; exact r2.mono hw3)
            clear r1 r2 x0 x1 x2 x3
            go_upto_region 12 with fail
            generalize w'.setCell ⟨gr, 0, none⟩ (.slice A2 (i + (n - (i + 1))) d2) = w9 at *
            have y0 := oF.cell 0
            have y2 := oF.cell 2
            simp only [List.getElem?_cons_zero, List.getElem?_cons_succ] at y0 y2
            clear v9 f9 oF
            go_wp2
            go_quiet (fail)
            go_wp2
            go_ret3
            exact ⟨by rw [HYY.out.1]; rfl, by rw [HYY.out.2]; exact RTo.drewN hT _⟩
      · have tpa : (ya != k) = true := by simp [hpa]
        have tpb : (ya == k) = false := by simp [hpa]
        have HX := Lib.hid (show N1 = N0 by rw [hsn]; simp [hpa])
        have HK := Lib.hid (hks (by simp [kdB, hpa]))
        clear hsn hks hcy hil hno hpa
        go_wp2_with (first | (refine wpl_load_rd _ rfl 67 _ rfl (by kernel_rfl) 4 size_rproc b (off + i * 4) rfl [.int .i64 yp, .int .i64 ya, .int .i64 yc, .bool yd] rfl (HEL.out _ q2) ?_) | (refine wpl_alloc_own _ rfl 67 rfl (.agg #[.int .i64 0, .int .i64 0, .int .i64 0, .bool false]) zero_rproc ?_; intro w2 o2 b2 s2; clear s2) | (refine wpl_store_own _ rfl 67 _ _ rfl 4 size_rproc _ rfl [.int .i64 yp, .int .i64 ya, .int .i64 yc, .bool yd] rfl _ _ o2 rfl rfl (lit_one _ _ _ _) ?_; intro w3 o3 g3 s3; clear s3; have e3 := below_of_grown (Ext.trans q2 b2) g3 q2.size (Ext.trans q2 b2).size; have x0 := o3.cell 0; have x1 := o3.cell 1; have x2 := o3.cell 2; have x3 := o3.cell 3; simp only [List.getElem?_cons_zero, List.getElem?_cons_succ] at x0 x1 x2 x3))
        go_roundw
        case rel => exact ⟨i + 1, by rw [HN.out, HX.out], by go_num, by omega, HK.out, e3⟩
        case measure => simp [intOf]; omega
    · obtain rfl : i = n := by omega
      rw [List.take_of_length_le (by omega)] at hno ⊢
      have HE := Lib.hid (HCN.out hno)
      clear hno
      cases hq : L.any (fun r => decide (r.par = k))
      all_goals
        rw [hq] at HE
        clear hq
        go_wp2
        go_ret3
        exact ⟨by rw [HE.out.1]; rfl, by rw [HE.out.2]; exact RTo.of HR.out q2⟩

end Go.Proofs.Ytdgggdhligfnpaa
