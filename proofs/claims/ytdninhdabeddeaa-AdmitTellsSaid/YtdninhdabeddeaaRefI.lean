/-
  WALKS of chapter 18's reference: Response.
-/
import Derived.Test.YtdninhdabeddeaaRefH
namespace Go.Proofs.Ytdninhdabeddeaa
open Go.RowKit
attribute [local go_sem] depUpon Sp.ok

set_option maxRecDepth 100000 in
theorem info_rerly : (Try.prog.info? 90).map (fun i => (i.zero, i.size, i.bytes)) = some (some (.agg #[.int .i64 0, .int .i64 0, .int .i64 0]), 3, 24) := by kernel_rfl

set_option maxRecDepth 100000 in
set_option maxHeartbeats 1000000 in
theorem r_resp_no (A : Option Addr) (nt ct : Nat) (ts : List TK) (B : Option Addr) (nb cb : Nat) (bs : List EF) (M : Option Addr) (nm cm : Nat) (ms : List (Int × Int)) (G : Option Addr) (ng cg : Nat) (gs : List Int) (fr dog : Int) (i : Int) (w : World) (h : ConfArg w A nt ts B nb bs M nm ms G ng gs fr dog) (hno : ¬ (0 ≤ i ∧ i < (nt : Int) ∧ mayC nt nb nm ng ts bs ms gs fr dog = true)) (h12 : nm ≤ 65536) :
    Calls Try.prog 17 #[.agg #[.slice A nt ct, .slice B nb cb, .slice M nm cm, .slice G ng cg, .int .i64 fr, .int .i64 dog], .int .i64 i] w fun e w' => e = .returned (.tuple #[.int .i64 0, .bool false]) ∧ Below w.heap.size w w' := by
  have HT := Lib.hid (fun w' (h' : Ext w w') => r_is_no A nt ct ts B nb cb bs M nm cm ms G ng cg gs fr dog i w' (h.keep h') hno h12)
  have oV := Own.new w 27 [.slice A nt ct, .slice B nb cb, .slice M nm cm, .slice G ng cg, .int .i64 fr, .int .i64 dog]
  have bV : Ext w (w.alloc (.cells #[.slice A nt ct, .slice B nb cb, .slice M nm cm, .slice G ng cg, .int .i64 fr, .int .i64 dog] 27)) := Ext.alloc _ _
  clear h hno h12
  go_enter Try.func17, Try.ntmps17
  go_wp2_with (refine wpl_load_w _ ?_ 27 _ rfl (by kernel_rfl) 6 size_conf _ rfl _ _ oV rfl ?_; focus (go_simp; done))
  refine (HT.out _ bV).mono ?_
  rintro e w3 ⟨rfl, b3⟩
  go_wp2
  go_ret2
  exact ⟨rfl, Ext.trans bV b3⟩

set_option maxRecDepth 100000 in
set_option maxHeartbeats 8000000 in
theorem r_resp_yes (A : Option Addr) (nt ct : Nat) (ts : List TK) (B : Option Addr) (nb cb : Nat) (bs : List EF) (M : Option Addr) (nm cm : Nat) (ms : List (Int × Int)) (G : Option Addr) (ng cg : Nat) (gs : List Int) (fr dog : Int) (k : Nat) (x : TK) (w : World) (h : ConfArg w A nt ts B nb bs M nm ms G ng gs fr dog) (hk : k < ts.length) (hx : ts[k] = x) (hm : mayC nt nb nm ng ts bs ms gs fr dog = true) (h12 : nm ≤ 65536) :
    Calls Try.prog 17 #[.agg #[.slice A nt ct, .slice B nb cb, .slice M nm cm, .slice G ng cg, .int .i64 fr, .int .i64 dog], .int .i64 (k : Int)] w fun e w' => e = .returned (.tuple #[.int .i64 (respV ts ms gs k x).1, .bool (respV ts ms gs k x).2]) ∧ Below w.heap.size w w' := by
  obtain ⟨n8, _, n4, _, hmt, _, _⟩ := may_conf hm
  have HT := Lib.hid (fun w' (h' : Ext w w') => r_is_yes A nt ct ts B nb cb bs M nm cm ms G ng cg gs fr dog k w' (h.keep h') hk hm h12)
  have HBK := Lib.hid (fun w' (h' : Ext w w') => r_block_yes A nt ct ts B nb cb bs M nm cm ms G ng cg gs fr dog k x w' (h.keep h') hk hx hm h12)
  have HPT := Lib.hid (fun w' (h' : Ext w w') => r_parts_yes A nt ct ts B nb cb bs M nm cm ms G ng cg gs fr dog k x w' (h.keep h') hk hx hm h12)
  have HC := Lib.hid h.tasks
  have hTL := h.tasks.len
  have hGL := h.gaps.len
  have hPL := partsV_len (ts := ts) (gs := gs) (i := (k : Int)) (x := x) (by omega) (by omega)
  have hV : respV ts ms gs k x = if x.cls = 2 then (respOf (rresp x.bud (blkV ts ms x) (partsV ts gs (k : Int) x) x.ddl), (rresp x.bud (blkV ts ms x) (partsV ts gs (k : Int) x) x.ddl).isSome)
    else if (dfits (blkV ts ms x) (partsV ts gs (k : Int) x) (earlL ts) 4096).2 = true then (x.ddl, true) else (0, false) := rfl
  obtain ⟨b0, off, rfl, he⟩ := flat_at (k := 8) h.tasks.rd (fun _ _ => rfl) (by omega) hk
  rw [hx] at he
  have HE0 := Lib.hid (fun w' (h' : Ext w w') => show ∀ j v, ([.int .i64 x.cls, .int .i64 x.lvl, .int .i64 x.per, .int .i64 x.ddl, .int .i64 x.bud, .int .i64 x.line, .slice x.U x.un x.uc, .slice x.O x.on x.oc] : List Value)[j]? = some v → w'.cell? ⟨b0, off + k * 8 + j, none⟩ = some v from fun j v hv => cell_keep h' (he j v hv))
  have oV := Own.new w 27 [.slice (some ⟨b0, off, none⟩) nt ct, .slice B nb cb, .slice M nm cm, .slice G ng cg, .int .i64 fr, .int .i64 dog]
  have bV : Ext w (w.alloc (.cells #[.slice (some ⟨b0, off, none⟩) nt ct, .slice B nb cb, .slice M nm cm, .slice G ng cg, .int .i64 fr, .int .i64 dog] 27)) := Ext.alloc _ _
  have hkn : k < nt := by omega
  have k0' : (0 : Int) ≤ (k : Int) := by omega
  have k1' : (k : Int) < (nt : Int) := by omega
  generalize hbv : blkV ts ms x = bv at *
  generalize partsV ts gs (k : Int) x = P at *
  have HV := Lib.hid hV
  obtain ⟨i0, hi, hz0, hz1, hz2⟩ := info_parts info_rerly
  have HI := Lib.hid hi
  clear hV h hm h12 hx hk hmt hi hbv he
  by_cases hcl : x.cls = 2
  · have t2 : (x.cls == 2) = true := by simp [hcl]
    have HV2 := Lib.hid (by rw [HV.out, if_pos hcl] : respV ts ms gs k x = (respOf (rresp x.bud bv P x.ddl), (rresp x.bud bv P x.ddl).isSome))
    have hrr := fun S c' w1 (hr : Rd w1 S (pairs P)) => ref_response x.bud bv S P.length c' P x.ddl w1 (by omega) hr rfl
    generalize rresp x.bud bv P x.ddl = o at *
    have HRR := Lib.hid hrr
    clear hcl hrr
    go_enter Try.func17, Try.ntmps17
    go_wp2_with (refine wpl_load_w _ ?_ 27 _ rfl (by kernel_rfl) 6 size_conf _ rfl _ _ oV rfl ?_; focus (go_simp; done))
    refine (HT.out _ bV).mono ?_
    rintro e w3 ⟨rfl, b3⟩
    replace bV := Ext.trans bV b3
    replace oV := oV.keep b3
    have v0 : w3.cell? ⟨w.heap.size, 0, none⟩ = some (.slice (some ⟨b0, off, none⟩) nt ct) := oV.cell 0
    have HE := Lib.hid (HE0.out _ bV)
    go_wp2_with (first
      | (refine wpl_load_rd _ rfl 47 _ rfl (by kernel_rfl) 8 size_task b0 (off + k * 8) rfl [.int .i64 x.cls, .int .i64 x.lvl, .int .i64 x.per, .int .i64 x.ddl, .int .i64 x.bud, .int .i64 x.line, .slice x.U x.un x.uc, .slice x.O x.on x.oc] rfl HE.out ?_)
      | (refine wpl_alloc_own _ rfl 47 rfl ztk zero_task ?_; intro w2 o2 b2 s2; clear s2)
      | (refine wpl_store_own _ rfl 47 _ _ rfl 8 size_task _ rfl [.int .i64 x.cls, .int .i64 x.lvl, .int .i64 x.per, .int .i64 x.ddl, .int .i64 x.bud, .int .i64 x.line, .slice x.U x.un x.uc, .slice x.O x.on x.oc] rfl _ _ o2 rfl rfl (TK.one x) ?_; intro w4 o4 g4 s4; clear s4; have e4 := below_of_grown b2 g4 (Nat.le_refl _) b2.size; have OV4 := Lib.hid (oV.keep e4); have v0' : w4.cell? ⟨w.heap.size, 0, none⟩ = some (.slice (some ⟨b0, off, none⟩) nt ct) := OV4.out.cell 0; have d0 : w4.cell? ⟨w3.heap.size, 0, none⟩ = some (.int .i64 x.cls) := o4.cell 0))
    have bw4 := Ext.trans bV e4
    have d3 : w4.cell? ⟨w3.heap.size, 3, none⟩ = some (.int .i64 x.ddl) := o4.cell 3
    have d4 : w4.cell? ⟨w3.heap.size, 4, none⟩ = some (.int .i64 x.bud) := o4.cell 4
    clear e4 bV b3 b2 g4 oV o2 o4 v0
    go_wp2
    refine wp_region_dep (S := Ext) (C := Ext (w4)) (by kernel_rfl) (by kernel_rfl) rfl Ext.refl (Ext.drew _) ?_
    repeat (refine dep_det (by rfl) (fun K hK => ?_); go_simp; first
      | ((with_reducible refine hK _ ?_); clear hK K)
      | (rw [if_neg (by decide)]; (with_reducible refine hK _ ?_); clear hK K)
      | (refine ⟨_, fun w1 hw1 => ⟨Ext.refl w1, hw1, rfl⟩, hK _ ?_⟩; clear hK K)
      | (apply Exists.intro; refine ⟨fun w1 hw1 => ?_, hK _ ?_⟩
         first
           | (have c_d4 := cell_keep hw1 d4; go_simp; first | exact ⟨Ext.refl _, hw1, rfl⟩ | exact ⟨Ext.refl _, rfl⟩)
         clear hK K))
    refine dep_load_rd (by rfl) 27 _ rfl (by kernel_rfl) 6 size_conf w.heap.size 0 (by rfl) [.slice (some ⟨b0, off, none⟩) nt ct, .slice B nb cb, .slice M nm cm, .slice G ng cg, .int .i64 fr, .int .i64 dog] rfl (by go_simp) Ext.refl (fun w1 hw1 j v hv => by rw [Nat.zero_add, (OV4.out.keep hw1).cell j]; exact hv) ?_
    repeat (refine dep_det (by rfl) (fun K hK => ?_); go_simp; first
      | ((with_reducible refine hK _ ?_); clear hK K)
      | (rw [if_neg (by decide)]; (with_reducible refine hK _ ?_); clear hK K)
      | (refine ⟨_, fun w1 hw1 => ⟨Ext.refl w1, hw1, rfl⟩, hK _ ?_⟩; clear hK K)
      | (apply Exists.intro; refine ⟨fun w1 hw1 => ?_, hK _ ?_⟩
         first
           | (go_at_call 13; ((with_reducible refine (HBK.out _ (Ext.trans bw4 hw1)).mono ?_); rintro e w' ⟨rfl, hb'⟩; exact ⟨_, rfl, hb', Ext.trans hw1 hb', rfl⟩))
         clear hK K))
    refine dep_load_rd (by rfl) 27 _ rfl (by kernel_rfl) 6 size_conf w.heap.size 0 (by rfl) [.slice (some ⟨b0, off, none⟩) nt ct, .slice B nb cb, .slice M nm cm, .slice G ng cg, .int .i64 fr, .int .i64 dog] rfl (by go_simp) Ext.refl (fun w1 hw1 j v hv => by rw [Nat.zero_add, (OV4.out.keep hw1).cell j]; exact hv) ?_
    repeat (refine dep_det (by rfl) (fun K hK => ?_); go_simp; first
      | ((with_reducible refine hK _ ?_); clear hK K)
      | (rw [if_neg (by decide)]; (with_reducible refine hK _ ?_); clear hK K)
      | (refine ⟨_, fun w1 hw1 => ⟨Ext.refl w1, hw1, rfl⟩, hK _ ?_⟩; clear hK K))
    refine dep_var (RdSl (pairs P) P.length) 30 rfl (by rfl) RdSl.keep (by go_simp) (fun w1 hw1 => ?_) ?_
    · go_simp
      refine (HPT.out w1 (Ext.trans bw4 hw1)).mono ?_
      rintro e w' ⟨S, c', rfl, hr, hb'⟩
      exact ⟨_, rfl, hb', Ext.trans hw1 hb', S, c', rfl, hr⟩
    repeat (refine dep_det (by rfl) (fun K hK => ?_); go_simp; first
      | ((with_reducible refine hK _ ?_); clear hK K)
      | (rw [if_neg (by decide)]; (with_reducible refine hK _ ?_); clear hK K)
      | (refine ⟨_, fun w1 hw1 => ⟨Ext.refl w1, hw1, rfl⟩, hK _ ?_⟩; clear hK K)
      | (apply Exists.intro; refine ⟨fun w1 hw1 => ?_, hK _ ?_⟩
         first
           | (have c_d3 := cell_keep hw1 d3; go_simp; first | exact ⟨Ext.refl _, hw1, rfl⟩ | exact ⟨Ext.refl _, rfl⟩)
         clear hK K))
    refine dep_det1 30 _ (by rfl) (by intro V' h; simpa using h) (List.mem_cons_self ..) (by first | (simp; done) | simp [Act.put]) (fun K hK => ?_)
    apply Exists.intro
    refine ⟨fun w1 v hw1 hV => ?_, hK _ ?_⟩
    · obtain ⟨S, c', rfl, hr⟩ := hV
      go_simp
      refine (HRR.out S c' w1 hr).mono ?_
      rintro e w' ⟨rfl, hb'⟩
      exact ⟨_, rfl, hb', Ext.trans hw1 hb', rfl⟩
    clear hK K
    repeat (refine dep_det (by rfl) (fun K hK => ?_); go_simp; first
      | ((with_reducible refine hK _ ?_); clear hK K)
      | (rw [if_neg (by decide)]; (with_reducible refine hK _ ?_); clear hK K)
      | (refine ⟨_, fun w1 hw1 => ⟨Ext.refl w1, hw1, rfl⟩, hK _ ?_⟩; clear hK K))
    refine dep_nil ?_
    intro a' w' hC hE
    obtain ⟨v, ⟨S1, d1, rfl, p1⟩, hE⟩ := atEnd_cons hE (by simp) (by first | (simp; done) | simp [Act.put])
    obtain rfl := atEnd_nil hE
    clear hE
    go_wp2
    go_ret2
    exact ⟨by rw [HV2.out]; rfl, Ext.trans bw4 hC⟩
  · have t2 : (x.cls == 2) = false := by simp [hcl]
    have HV2 := Lib.hid (by rw [HV.out, if_neg hcl] : respV ts ms gs k x = if (dfits bv P (earlL ts) 4096).2 = true then (x.ddl, true) else (0, false))
    clear hcl HV
    go_enter Try.func17, Try.ntmps17
    go_wp2_with (refine wpl_load_w _ ?_ 27 _ rfl (by kernel_rfl) 6 size_conf _ rfl _ _ oV rfl ?_; focus (go_simp; done))
    refine (HT.out _ bV).mono ?_
    rintro e w3 ⟨rfl, b3⟩
    replace bV := Ext.trans bV b3
    replace oV := oV.keep b3
    have v0 : w3.cell? ⟨w.heap.size, 0, none⟩ = some (.slice (some ⟨b0, off, none⟩) nt ct) := oV.cell 0
    have HE := Lib.hid (HE0.out _ bV)
    go_wp2_with (first
      | (refine wpl_load_rd _ rfl 47 _ rfl (by kernel_rfl) 8 size_task b0 (off + k * 8) rfl [.int .i64 x.cls, .int .i64 x.lvl, .int .i64 x.per, .int .i64 x.ddl, .int .i64 x.bud, .int .i64 x.line, .slice x.U x.un x.uc, .slice x.O x.on x.oc] rfl HE.out ?_)
      | (refine wpl_alloc_own _ rfl 47 rfl ztk zero_task ?_; intro w2 o2 b2 s2; clear s2)
      | (refine wpl_store_own _ rfl 47 _ _ rfl 8 size_task _ rfl [.int .i64 x.cls, .int .i64 x.lvl, .int .i64 x.per, .int .i64 x.ddl, .int .i64 x.bud, .int .i64 x.line, .slice x.U x.un x.uc, .slice x.O x.on x.oc] rfl _ _ o2 rfl rfl (TK.one x) ?_; intro w4 o4 g4 s4; clear s4; have e4 := below_of_grown b2 g4 (Nat.le_refl _) b2.size; have OV4 := Lib.hid (oV.keep e4); have v0' : w4.cell? ⟨w.heap.size, 0, none⟩ = some (.slice (some ⟨b0, off, none⟩) nt ct) := OV4.out.cell 0; have d0 : w4.cell? ⟨w3.heap.size, 0, none⟩ = some (.int .i64 x.cls) := o4.cell 0))
    have bw4 := Ext.trans bV e4
    have d3 : w4.cell? ⟨w3.heap.size, 3, none⟩ = some (.int .i64 x.ddl) := o4.cell 3
    have d4 : w4.cell? ⟨w3.heap.size, 4, none⟩ = some (.int .i64 x.bud) := o4.cell 4
    clear e4 bV b3 b2 g4 oV o2 o4 v0
    go_loopw [7, 8] (fun v q wr => ∃ (j : Nat) (R : Option Addr) (c1 : Nat), v = .slice R (earlL (ts.take j)).length c1 ∧ q = .int .i64 j ∧ j ≤ nt ∧ Row wr w4.heap.size 90 3 R (earlL (ts.take j)).length c1 (trips (earlL (ts.take j))) ∧ Ext w4 wr) (fun _ q _ => nt - (intOf q).toNat)
    case atStart => exact ⟨0, none, 0, rfl, rfl, by omega, Row.nil _ _ _ _, Ext.refl _⟩
    case round =>
      obtain ⟨j, R, c1, rfl, rfl, hj, q1, q2⟩ := hrel
      clear v0'
      have v0 : wr.cell? ⟨w.heap.size, 0, none⟩ = some (.slice (some ⟨b0, off, none⟩) nt ct) := (OV4.out.keep q2).cell 0
      by_cases hlt : j < nt
      · have hjl : j < ts.length := by omega
        have hY := earlL_yes (ts.take j) ts[j]
        have hN := earlL_no (ts.take j) ts[j]
        rw [← take_succ' ts j hjl] at hY hN
        have hel := earlL_len (ts.take (j + 1))
        rw [List.length_take] at hel
        obtain ⟨b1, off1, eA, he⟩ := flat_at (k := 8) (HC.out.keep (Ext.trans bw4 q2)).rd (fun _ _ => rfl) (by omega) hjl
        injection eA with eA
        injection eA with eA1 eA2
        subst eA1
        subst eA2
        have f0 := he 0 _ rfl
        have f2 := he 2 _ rfl
        have f3 := he 3 _ rfl
        have f4 := he 4 _ rfl
        rw [Nat.add_zero] at f0
        generalize hYY : ts[j]'hjl = y at *
        clear hYY
        generalize hE1 : earlL (ts.take (j + 1)) = E1 at *
        have HE1 := Lib.hid hE1
        generalize earlL (ts.take j) = E0 at *
        have j0' : (0 : Int) ≤ (j : Int) := by omega
        have j1' : (j : Int) < (nt : Int) := by omega
        have HY := Lib.hid hY
        have HN := Lib.hid hN
        clear hE1 hY hN hjl he
        by_cases hc1 : y.cls = 1
        · obtain rfl := HY.out hc1
          have t1 : (y.cls == 1) = true := by simp [hc1]
          have HAP := Lib.hid (show trips E0 ++ trips [(y.per, y.ddl, y.bud)] = trips (E0 ++ [(y.per, y.ddl, y.bud)]) from trips_app _ _)
          have HPL := Lib.hid (show E0.length + 1 = (E0 ++ [(y.per, y.ddl, y.bud)]).length by simp)
          have hel2 : E0.length ≤ 8 := by simp at hel; omega
          clear hc1 hel
          go_wp2
          refine wp_region_dep_tail 21 (S := Ext) (C := Ext (wr)) (by kernel_rfl) (by kernel_rfl) rfl Ext.refl (Ext.drew _) ?_
          simp only [List.take_succ_cons, List.take_zero]
          repeat (refine dep_det (by rfl) (fun K hK => ?_); go_simp; first
            | ((with_reducible refine hK _ ?_); clear hK K)
            | (rw [if_neg (by decide)]; (with_reducible refine hK _ ?_); clear hK K)
            | (refine ⟨_, fun w1 hw1 => ⟨Ext.refl w1, hw1, rfl⟩, hK _ ?_⟩; clear hK K)
            | (apply Exists.intro; refine ⟨fun w1 hw1 => ?_, hK _ ?_⟩
               first
                 | (have c_v0 := cell_keep hw1 v0; have c_f2 := cell_keep hw1 f2; have c_f3 := cell_keep hw1 f3; have c_f4 := cell_keep hw1 f4; go_simp; first | exact ⟨Ext.refl _, hw1, rfl⟩ | exact ⟨Ext.refl _, rfl⟩)
               clear hK K))
          refine dep_var (SlAt 90 ([.int .i64 y.per, .int .i64 y.ddl, .int .i64 y.bud]) 1 1) 70 rfl (by rfl) SlAt.keep (by go_simp) (fun w1 hw1 => ?_) ?_
          · go_simp
            exact ⟨Ext.alloc _ _, Ext.trans hw1 (Ext.alloc _ _), SlAt.new w1 90 ([.int .i64 y.per, .int .i64 y.ddl, .int .i64 y.bud]) 1 1⟩
          refine dep_nil ?_
          intro a' w' hC hE
          obtain ⟨v, ⟨g, rfl, ho⟩, hE⟩ := atEnd_cons hE (by simp) (by first | (simp; done) | simp [Act.put])
          obtain rfl := atEnd_nil hE
          clear hE
          simp only [List.drop_succ_cons, List.drop_zero]
          have row := q1.keep hC
          have bC := Ext.trans q2 hC
          go_wp2_with (at_builtin; refine wpl_append _ rfl (.tmp 50) (.tmp 70) 89 rfl 90 i0 _ 3 24 Try.underlying89 HI.out hz0 hz1 hz2 rfl (by omega) w4.heap.size R E0.length c1 _ rfl row (some ⟨g, 0, none⟩) 1 1 (trips [(y.per, y.ddl, y.bud)]) rfl rfl ho.rd0 (trips_one _) (E0.length + 1) _ rfl HAP.out (by omega) (by omega) bC.size ?_; intro A2 c2 w5 o5 g5 k5)
          have e5 := below_grown bC g5 bC.size (fun g' hg' => (row.at_ g' hg').1)
          have o6 := o5
          rw [HPL.out] at o6
          go_roundw
          case rel => exact ⟨j + 1, A2, c2, by rw [HE1.out, HPL.out], by go_num, by omega, by rw [HE1.out]; exact o6, e5⟩
          case measure => simp [intOf]; omega
        · obtain rfl := HN.out hc1
          have t1 : (y.cls == 1) = false := by simp [hc1]
          clear hc1
          go_wp2
          go_roundw
          case rel => exact ⟨j + 1, R, c1, by rw [HE1.out], by go_num, by omega, by rw [HE1.out]; exact q1, q2⟩
          case measure => simp [intOf]; omega
      · obtain rfl : nt = j := by omega
        rw [List.take_of_length_le (by omega)] at q1 ⊢
        have hel := earlL_len ts
        have hfr := fun S c' w1 (hr : Rd w1 S (pairs P)) (he : Rd w1 R (trips (earlL ts))) => r_fits bv S P.length c' P R (earlL ts).length c1 (earlL ts) 4096 w1 (by omega) hr rfl (by omega) he rfl
        generalize earlL ts = E at *
        have d3' := cell_keep q2 d3
        have OVR := Lib.hid (OV4.out.keep q2)
        have bwr := Ext.trans bw4 q2
        have HRE := Lib.hid q1.rd
        obtain ⟨wo, rfl⟩ : ∃ wo : World, wo = wr := ⟨_, rfl⟩
        generalize dfits bv P E 4096 = df at *
        obtain ⟨fi, fb⟩ := df
        have HFR := Lib.hid hfr
        clear hfr d0 d3 d4 q1 q2
        go_wp2
        refine wp_region_dep (S := Ext) (C := Ext (wo)) (by kernel_rfl) (by kernel_rfl) rfl Ext.refl (Ext.drew _) ?_
        refine dep_load_rd (by rfl) 27 _ rfl (by kernel_rfl) 6 size_conf w.heap.size 0 (by rfl) [.slice (some ⟨b0, off, none⟩) nt ct, .slice B nb cb, .slice M nm cm, .slice G ng cg, .int .i64 fr, .int .i64 dog] rfl (by go_simp) Ext.refl (fun w1 hw1 j v hv => by rw [Nat.zero_add, (OVR.out.keep hw1).cell j]; exact hv) ?_
        repeat (refine dep_det (by rfl) (fun K hK => ?_); go_simp; first
          | ((with_reducible refine hK _ ?_); clear hK K)
          | (rw [if_neg (by decide)]; (with_reducible refine hK _ ?_); clear hK K)
          | (refine ⟨_, fun w1 hw1 => ⟨Ext.refl w1, hw1, rfl⟩, hK _ ?_⟩; clear hK K)
          | (apply Exists.intro; refine ⟨fun w1 hw1 => ?_, hK _ ?_⟩
             first
               | (go_at_call 13; ((with_reducible refine (HBK.out _ (Ext.trans bwr hw1)).mono ?_); rintro e w' ⟨rfl, hb'⟩; exact ⟨_, rfl, hb', Ext.trans hw1 hb', rfl⟩))
             clear hK K))
        refine dep_load_rd (by rfl) 27 _ rfl (by kernel_rfl) 6 size_conf w.heap.size 0 (by rfl) [.slice (some ⟨b0, off, none⟩) nt ct, .slice B nb cb, .slice M nm cm, .slice G ng cg, .int .i64 fr, .int .i64 dog] rfl (by go_simp) Ext.refl (fun w1 hw1 j v hv => by rw [Nat.zero_add, (OVR.out.keep hw1).cell j]; exact hv) ?_
        repeat (refine dep_det (by rfl) (fun K hK => ?_); go_simp; first
          | ((with_reducible refine hK _ ?_); clear hK K)
          | (rw [if_neg (by decide)]; (with_reducible refine hK _ ?_); clear hK K)
          | (refine ⟨_, fun w1 hw1 => ⟨Ext.refl w1, hw1, rfl⟩, hK _ ?_⟩; clear hK K))
        refine dep_var (RdSl (pairs P) P.length) 78 rfl (by rfl) RdSl.keep (by go_simp) (fun w1 hw1 => ?_) ?_
        · go_simp
          refine (HPT.out w1 (Ext.trans bwr hw1)).mono ?_
          rintro e w' ⟨S, c', rfl, hr, hb'⟩
          exact ⟨_, rfl, hb', Ext.trans hw1 hb', S, c', rfl, hr⟩
        repeat (refine dep_det (by rfl) (fun K hK => ?_); go_simp; first
          | ((with_reducible refine hK _ ?_); clear hK K)
          | (rw [if_neg (by decide)]; (with_reducible refine hK _ ?_); clear hK K)
          | (refine ⟨_, fun w1 hw1 => ⟨Ext.refl w1, hw1, rfl⟩, hK _ ?_⟩; clear hK K))
        refine dep_det1 78 _ (by rfl) (by intro V' h; simpa using h) (List.mem_cons_self ..) (by first | (simp; done) | simp [Act.put]) (fun K hK => ?_)
        apply Exists.intro
        refine ⟨fun w1 v hw1 hV => ?_, hK _ ?_⟩
        · obtain ⟨S, c', rfl, hr⟩ := hV
          go_simp
          refine (HFR.out S c' w1 hr (HRE.out.keep hw1)).mono ?_
          rintro e w' ⟨rfl, hb'⟩
          exact ⟨_, rfl, hb', Ext.trans hw1 hb', rfl⟩
        clear hK K
        repeat (refine dep_det (by rfl) (fun K hK => ?_); go_simp; first
          | ((with_reducible refine hK _ ?_); clear hK K)
          | (rw [if_neg (by decide)]; (with_reducible refine hK _ ?_); clear hK K)
          | (refine ⟨_, fun w1 hw1 => ⟨Ext.refl w1, hw1, rfl⟩, hK _ ?_⟩; clear hK K))
        refine dep_nil ?_
        intro a' w' hC hE
        obtain ⟨v, ⟨S1, d1, rfl, p1⟩, hE⟩ := atEnd_cons hE (by simp) (by first | (simp; done) | simp [Act.put])
        obtain rfl := atEnd_nil hE
        clear hE
        have d3w := cell_keep hC d3'
        cases fb
        all_goals
          go_wp2
          go_ret2
          exact ⟨by rw [HV2.out]; rfl, Ext.trans bwr hC⟩

end Go.Proofs.Ytdninhdabeddeaa
