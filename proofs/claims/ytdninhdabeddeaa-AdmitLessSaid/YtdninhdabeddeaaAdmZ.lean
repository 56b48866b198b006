/-
  THE STATEMENT AdmitLess: the walk.
-/
import Derived.Test.YtdninhdabeddeaaAdmX
import Derived.Test.YtdninhdabeddeaaAdmY
namespace Go.Proofs.Ytdninhdabeddeaa
open Go.RowKit
attribute [local go_sem] depUpon Sp.ok readsTo

/-- A slice of the call's own of which its block is not known. -/
def RwV (base : Nat) (e : TypeId) (size n : Nat) (xs : List Value) (v : Value) (w : World) : Prop := ∃ A c, v = .slice A n c ∧ Row w base e size A n c xs
theorem RwV.keep {base : Nat} {e : TypeId} {size n : Nat} {xs : List Value} : ∀ (v : Value) (w w' : World), Ext w w' → RwV base e size n xs v w → RwV base e size n xs v w' := fun _ _ _ hS ⟨A, c, e, hr⟩ => ⟨A, c, e, hr.keep hS⟩
theorem Rd.dropAt {w : World} {b off : Nat} {xs : List Value} (h : Rd w (some ⟨b, off, none⟩) xs) (m : Nat) : Rd w (some ⟨b, off + m, none⟩) (xs.drop m) := fun k v hk => by
  rw [List.getElem?_drop] at hk
  obtain ⟨b', o', e, hc⟩ := h (m + k) v hk
  injection e with e; injection e with e1 e2
  subst e1; subst e2
  exact ⟨b, off + m, rfl, by rw [Nat.add_assoc]; exact hc⟩
theorem flat_take (k : Nat) : ∀ (ts : List TK), flat ((ts.take k).map TK.cs) = (flat (ts.map TK.cs)).take (k * 8) := by
  induction k with
  | zero => intro ts; simp [flat]
  | succ k ih =>
    intro ts
    cases ts with
    | nil => simp [flat]
    | cons x l =>
      have e : flat ((x :: l).map TK.cs) = x.cs ++ flat (l.map TK.cs) := rfl
      have e2 : flat (((x :: l).take (k + 1)).map TK.cs) = x.cs ++ flat ((l.take k).map TK.cs) := rfl
      have hx : x.cs.length = 8 := rfl
      rw [e, e2, ih, show (k + 1) * 8 = x.cs.length + k * 8 by omega, List.take_length_add_append]
theorem flat_drop (k : Nat) : ∀ (ts : List TK), flat ((ts.drop k).map TK.cs) = (flat (ts.map TK.cs)).drop (k * 8) := by
  induction k with
  | zero => intro ts; simp
  | succ k ih =>
    intro ts
    cases ts with
    | nil => simp [flat]
    | cons x l =>
      have e : flat ((x :: l).map TK.cs) = x.cs ++ flat (l.map TK.cs) := rfl
      have e2 : flat (((x :: l).drop (k + 1)).map TK.cs) = flat ((l.drop k).map TK.cs) := rfl
      have hx : x.cs.length = 8 := rfl
      rw [e, e2, ih, show (k + 1) * 8 = x.cs.length + k * 8 by omega, List.drop_length_add_append]
theorem flat_app (l m : List TK) : flat (l.map TK.cs) ++ flat (m.map TK.cs) = flat ((l ++ m).map TK.cs) := by simp [flat]
theorem cells_len (l : List TK) : (flat (l.map TK.cs)).length = l.length * 8 := by
  rw [flat_len (k := 8) (l.map TK.cs) (by intro x hx; obtain ⟨y, _, rfl⟩ := List.mem_map.1 hx; rfl), List.length_map]
theorem cs_one1 (us : List TK) {k : Nat} (hk : k < us.length) : (flat (us.map TK.cs)).set (k * 8 + 4) (.int .i64 1) = flat ((us.set k (one1 us[k])).map TK.cs) := by
  rw [flat_set 8 4 (by omega) _ (us.map TK.cs) (by intro x hx; obtain ⟨y, _, rfl⟩ := List.mem_map.1 hx; rfl) k (by simpa using hk), List.map_set]
  congr 2
  simp [TK.cs, one1]

/-- What comes out of an admitted configuration. -/
structure LessLaw (nt nb nm ng : Nat) (ts : List TK) (bs : List EF) (ms : List (Int × Int)) (gs : List Int) (fr dog : Int) (k : Nat) (hk : k < ts.length) : Prop where
  a1 : admB (nt - 1) nb nm ng (ts.take k ++ ts.drop (k + 1)) bs ms gs fr dog = true
  a2 : admB nt nb nm ng (ts.set k (one1 ts[k])) bs ms gs fr dog = true
  r2 : admR nt nb nm ng (ts.set k (one1 ts[k])) bs ms gs fr dog = respTo (ts.set k (one1 ts[k])) ms gs nt
  le : ∀ i (h1 : i < (respTo ts ms gs nt).length) (h2 : i < (respTo (ts.set k (one1 ts[k])) ms gs nt).length), (respTo (ts.set k (one1 ts[k])) ms gs nt)[i] ≤ (respTo ts ms gs nt)[i]
theorem less_law {nt nb nm ng : Nat} {ts : List TK} {bs : List EF} {ms : List (Int × Int)} {gs : List Int} {fr dog : Int} (ht : ts.length = nt) (ha : admB nt nb nm ng ts bs ms gs fr dog = true) (k : Nat) (hk : k < ts.length) : LessLaw nt nb nm ng ts bs ms gs fr dog k hk := by
  have hm : mayC nt nb nm ng ts bs ms gs fr dog = true := by unfold admB at ha; simp only [Bool.and_eq_true] at ha; exact ha.1
  have ho : okTo ts ms gs dog nt = true := by unfold admB at ha; simp only [Bool.and_eq_true] at ha; exact ha.2
  obtain ⟨_, _, _, hok, hmt, _, _⟩ := may_conf hm
  have hb : ∀ x ∈ ts, 1 ≤ x.bud := fun x hx => by
    obtain ⟨i, hi, rfl⟩ := List.getElem_of_mem hx
    have hmx := may_task hmt hi (by omega)
    unfold mayT at hmx
    simp only [Bool.and_eq_true] at hmx
    have := hmx.1.1.1.2
    unfold spanB inB at this
    simp only [Bool.and_eq_true, decide_eq_true_eq] at this
    omega
  have h1 : LeT (ts.take k ++ ts.drop (k + 1)) ts := LeT.erase k hb
  have h2 : LeT (ts.set k (one1 ts[k])) ts := LeT.set1 k hk hb
  have a2 := adm_less (nu := nt) h2 ht (by rw [List.length_set]; exact ht) ha
  refine ⟨adm_less h1 ht (by rw [List.length_append, List.length_take, List.length_drop]; omega) ha, a2, adm_resp a2, fun i i1 i2 => ?_⟩
  rw [respTo_len] at i1
  have e1 := respTo_at (ms := ms) (gs := gs) (ts := ts) (n := nt) (i := i) (by omega) i1
  have e2 := respTo_at (ms := ms) (gs := gs) (ts := ts.set k (one1 ts[k])) (n := nt) (i := i) (by rw [List.length_set]; omega) i1
  rw [List.getElem?_eq_getElem (by rw [respTo_len]; exact i1)] at e1 e2
  injection e1 with e1
  injection e2 with e2
  rw [e1, e2]
  have hi : i < (ts.set k (one1 ts[k])).length := by rw [List.length_set]; omega
  obtain ⟨g1, g2, g3⟩ := h2.same (by rw [List.length_set]) i hi
  exact (resp_less h2 hok hi (by omega) g1 g2 g3 (okOf_resp (okTo_at ho (by omega) i1))).2

set_option maxRecDepth 100000 in
set_option maxHeartbeats 8000000 in
theorem law_admitless (A : Option Addr) (nt ct : Nat) (ts : List TK) (B : Option Addr) (nb cb : Nat) (bs : List EF) (M : Option Addr) (nm cm : Nat) (ms : List (Int × Int)) (G : Option Addr) (ng cg : Nat) (gs : List Int) (fr dog : Int) (tk : Int) (w : World) (h : ConfArg w A nt ts B nb bs M nm ms G ng gs fr dog) (hcap : nt ≤ ct ∧ nb ≤ cb ∧ nm ≤ cm ∧ ng ≤ cg) (_ : I64 tk) :
    Calls Try.prog 4 #[.agg #[.slice A nt ct, .slice B nb cb, .slice M nm cm, .slice G ng cg, .int .i64 fr, .int .i64 dog], .int .i64 tk] w fun e w' => e = .returned (.bool true) ∧ Below w.heap.size w w' := by
  have HG := Lib.hid (fun w' (h' : Ext w w') => l_conf A nt ct ts B nb cb bs M nm cm ms G ng cg gs fr dog w' (h.keep h'))
  have HAW := Lib.hid (fun w => adm_awake w)
  have oV := Own.new w 27 [.slice A nt ct, .slice B nb cb, .slice M nm cm, .slice G ng cg, .int .i64 fr, .int .i64 dog]
  have bV : Ext w (w.alloc (.cells #[.slice A nt ct, .slice B nb cb, .slice M nm cm, .slice G ng cg, .int .i64 fr, .int .i64 dog] 27)) := Ext.alloc _ _
  have HH := Lib.hid h
  have hct : nt ≤ ct := hcap.1
  clear h hcap
  go_enter Try.func4, Try.ntmps4
  go_wp2_with (refine wpl_load_w _ ?_ 27 _ rfl (by kernel_rfl) 6 size_conf _ rfl _ _ oV rfl ?_; focus (go_simp; done))
  refine (HG.out _ bV).mono ?_
  rintro e w1 ⟨⟨b, rfl, hs⟩, b1⟩
  replace oV := oV.keep b1
  replace bV := Ext.trans bV b1
  cases b
  case true =>
    clear hs oV
    go_wp2_with ((with_reducible go_at_call 9); (with_reducible refine (HAW.out _).mono ?_); rintro e w2 ⟨rfl, b2⟩)
    go_ret
    exact ⟨rfl, Ext.trans bV b2⟩
  obtain ⟨n12, nb12, nm12, ng12⟩ := hs rfl
  clear hs HG
  have v0 : w1.cell? ⟨w.heap.size, 0, none⟩ = some (.slice A nt ct) := oV.cell 0
  by_cases h0 : nt = 0
  · have t0 : ((nt : Int) == 0) = true := by simp [h0]
    clear h0
    go_wp2_with (first | (refine wpl_load_w _ ?_ 27 _ rfl (by kernel_rfl) 6 size_conf _ rfl _ _ oV rfl ?_; focus (go_simp; done)) | ((with_reducible go_at_call 9); (with_reducible refine (HAW.out _).mono ?_); rintro e w2 ⟨rfl, b2⟩))
    go_ret
    exact ⟨rfl, Ext.trans bV b2⟩
  have t0 : ((nt : Int) == 0) = false := by simp; omega
  have hAD := fun w' (h' : Ext w w') => a_admit A nt ct ts B nb cb bs M nm cm ms G ng cg gs fr dog w' (HH.out.keep h') (by omega)
  cases ha : admB nt nb nm ng ts bs ms gs fr dog
  · have hr : admR nt nb nm ng ts bs ms gs fr dog = [] := by unfold admR; rw [ha]; rfl
    rw [ha, hr] at hAD
    have HA := Lib.hid hAD
    clear hAD ha hr
    go_wp2_with (refine wpl_load_w _ ?_ 27 _ rfl (by kernel_rfl) 6 size_conf _ rfl _ _ oV rfl ?_; focus (go_simp; done))
    refine (HA.out _ bV).mono ?_
    rintro e w2 ⟨S1, c1, rfl, _, b2⟩
    go_wp2_with ((with_reducible go_at_call 9); (with_reducible refine (HAW.out _).mono ?_); rintro e w3 ⟨rfl, b3⟩)
    go_ret
    exact ⟨rfl, Ext.trans bV (Ext.trans b2 b3)⟩
  have hr := adm_resp ha
  rw [ha, hr] at hAD
  have HTL := Lib.hid HH.out.tasks.len
  have HLW := Lib.hid (fun k hk => less_law HTL.out ha k hk)
  have HIN := Lib.hid (fun i hi => resp_in HTL.out ha i hi)
  have HRA := Lib.hid (fun i (hi : i < ts.length) => respTo_at (ms := ms) (gs := gs) (n := nt) hi (by have := HTL.out; omega))
  have hln := respTo_len ts ms gs nt
  have HA := Lib.hid hAD
  have hdn : decide ((nt : Int) = (nt : Int)) = true := by simp
  have HAD2 := Lib.hid (fun nu us S d w' (h : ConfArg w' S nu us B nb bs M nm ms G ng gs fr dog) => a_admit S nu d us B nb cb bs M nm cm ms G ng cg gs fr dog w' h (by omega))
  have HLN := Lib.hid hln
  clear hAD ha hr hln
  go_wp2_with (refine wpl_load_w _ ?_ 27 _ rfl (by kernel_rfl) 6 size_conf _ rfl _ _ oV rfl ?_; focus (go_simp; done))
  refine (HA.out _ bV).mono ?_
  rintro e w2 ⟨S1, c1, rfl, rd1, b2⟩
  rw [HLN.out]
  replace oV := oV.keep b2
  replace bV := Ext.trans bV b2
  replace v0 := oV.cell 0
  clear HA
  go_wp2
  go_loopw [7] (fun i wr => ∃ k : Nat, k ≤ nt ∧ i = .int .i64 k ∧ Ext w2 wr) (fun i _ => nt - (intOf i).toNat)
  case atStart => exact ⟨0, by omega, rfl, Ext.refl _⟩
  case round =>
    obtain ⟨k, hk, rfl, q1⟩ := hrel
    clear v0
    have v0 : wr.cell? ⟨w.heap.size, 0, none⟩ = some (.slice A nt ct) := (oV.keep q1).cell 0
    by_cases hlt : k < nt
    · have hkl : k < ts.length := by rw [HTL.out]; exact hlt
      obtain ⟨i1, i2⟩ := HIN.out k hkl
      have hra := HRA.out k hkl
      obtain ⟨b0, off, rfl, he⟩ := flat_at (k := 8) (HH.out.tasks.keep (Ext.trans bV q1)).rd (fun _ _ => rfl) (by omega) hkl
      have c3 := he 3 _ rfl
      have c4 := he 4 _ rfl
      generalize ts[k] = x at *
      generalize (respV ts ms gs k x).1 = r at *
      obtain ⟨b9, o9, rfl, c9⟩ := (rd1.keep q1) k (.int .i64 r) (by unfold ints; rw [List.getElem?_map, hra]; rfl)
      have d1 : decide (x.ddl < r) = false := by simp; omega
      have d2 : decide (r < x.bud) = false := by simp; omega
      have k0' : (0 : Int) ≤ (k : Int) := by omega
      have k1' : (k : Int) < (nt : Int) := by omega
      clear he hra i1 i2
      go_wp2
      go_quiet (fail)
      go_wp2
      go_roundw
      case rel => exact ⟨k + 1, by omega, by go_num, Ext.trans q1 (Ext.drewN _ _)⟩
      case measure => simp [intOf]; omega
    · obtain rfl : nt = k := by omega
      replace oV := oV.keep q1
      replace bV := Ext.trans bV q1
      replace rd1 := rd1.keep q1
      clear q1 b2 b1
      have HL := Lib.hid (fun w => low_any tk (nt : Int) w (by omega) (by omega))
      have i0 := low_lo tk (nt : Int) (by omega)
      have i1 := low_hi tk (nt : Int) (by omega)
      generalize low tk (nt : Int) = kk at *
      obtain ⟨k, rfl⟩ : ∃ k : Nat, kk = (k : Int) := ⟨kk.toNat, by omega⟩
      have hkn : k < nt := by omega
      have hkl : k < ts.length := by rw [HTL.out]; exact hkn
      have HLL := Lib.hid (HLW.out k hkl)
      obtain ⟨b0, off, rfl, _⟩ := flat_at (k := 8) (HH.out.tasks.keep bV).rd (fun _ _ => rfl) (by omega) hkl
      have hgd := (Own.lt oV)
      obtain ⟨i9, hi, hz0, hz1, hz2⟩ := info_parts info_task
      have HI := Lib.hid hi
      clear hi
      obtain ⟨wq, rfl⟩ : ∃ wq : World, wq = wr := ⟨_, rfl⟩
      go_wp2_with (first
        | ((with_reducible go_at_call 22); (with_reducible refine (HL.out _).mono ?_); rintro e w' ⟨rfl, rfl⟩)
        | (refine wpl_load_w _ ?_ 27 _ rfl (by kernel_rfl) 6 size_conf _ rfl _ _ oV rfl ?_; focus (go_simp; done))
        | (refine wpl_alloc_own _ rfl 27 rfl zcf zero_conf ?_; intro w4 o4 b4 s4; clear s4)
        | (refine wpl_store_own _ rfl 27 _ _ rfl 6 size_conf _ rfl [.slice (some ⟨b0, off, none⟩) nt ct, .slice B nb cb, .slice M nm cm, .slice G ng cg, .int .i64 fr, .int .i64 dog] rfl _ _ o4 rfl rfl (by simp [Value.oneCell']) ?_; intro w5 oD g5 s5; clear s5; have e5 := below_of_grown b4 g5 (Nat.le_refl _) b4.size; replace oV := oV.keep e5; replace bV := Ext.trans bV e5; clear o4 b4 g5))
      clear v0
      have v0 : w5.cell? ⟨w.heap.size, 0, none⟩ = some (.slice (some ⟨b0, off, none⟩) nt ct) := oV.cell 0
      have hk1 : IntKind.i64.wrap ((k : Int) + 1) = (k : Int) + 1 := IntWalk.i64_in _ ⟨by omega, by omega⟩
      have k0' : (0 : Int) ≤ (k : Int) := by omega
      have k1' : (k : Int) ≤ (ct : Int) := by omega
      have k2' : (k : Int) + 1 ≤ (nt : Int) := by omega
      have k3' : (nt : Int) ≤ (ct : Int) := by omega
      by_cases hc : ct = k + 1
      · have hRD := Lib.hid (fun w' (_ : Ext w w') => show Rd w' (some ⟨b0, off, none⟩) (flat ((ts.drop (k + 1)).map TK.cs)) by
          rw [List.drop_eq_nil_of_le (by rw [HTL.out]; omega)]; exact Rd.nil _ _)
        subst hc
        have hq1 : (k : Int) ≤ (k : Int) + 1 := by omega
        have hq2 : (nt : Int) ≤ (k : Int) + 1 := by omega
        refine wp_region_dep_tail 10 (S := Ext) (C := Ext (w5)) (by kernel_rfl) (by kernel_rfl) rfl Ext.refl (Ext.drew _) ?_
        simp only [List.take_succ_cons, List.take_zero]
        repeat (refine dep_det (by rfl) (fun K hK => ?_); go_simp; first
          | ((with_reducible refine hK _ ?_); clear hK K)
          | (rw [if_neg (by decide)]; (with_reducible refine hK _ ?_); clear hK K)
          | (refine ⟨_, fun w1 hw1 => ⟨Ext.refl w1, hw1, rfl⟩, hK _ ?_⟩; clear hK K)
          | (apply Exists.intro; refine ⟨fun w1 hw1 => ?_, hK _ ?_⟩
             first
               | (have c_v0 := cell_keep hw1 v0; go_simp; first | exact ⟨Ext.refl _, hw1, rfl⟩ | exact ⟨Ext.refl _, rfl⟩)
             clear hK K))
        refine dep_var (RwV w5.heap.size 47 8 k (flat ((ts.take k).map TK.cs))) 84 rfl (by rfl) RwV.keep (by go_simp) (fun w1 hw1 => ?_) ?_
        · have hrd := (HH.out.tasks.keep (Ext.trans bV hw1)).rd.take (k * 8)
          rw [← flat_take] at hrd
          obtain ⟨A', c', w', hrun, r1, r2, _⟩ := run_append (P := Try.prog) w1 22 22 47 i9 ztk 8 96 Try.underlying22 HI.out hz0 hz1 hz2 rfl (by omega) w5.heap.size none 0 0 [] (Row.nil _ _ _ _) (some ⟨b0, off, none⟩) k (k + 1) (flat ((ts.take k).map TK.cs)) (by rw [cells_len, List.length_take]; omega) hrd flat_one (by omega) (by omega) hw1.size
          have hb' := below_grown (Ext.refl w1) r2 (Nat.le_refl _) (by simp [blk])
          rw [Nat.zero_add] at hrun r1
          exact dep_append rfl hrun ⟨hb', Ext.trans hw1 hb', A', c', rfl, r1⟩
        repeat (refine dep_det (by rfl) (fun K hK => ?_); go_simp; first
          | ((with_reducible refine hK _ ?_); clear hK K)
          | (rw [if_neg (by decide)]; (with_reducible refine hK _ ?_); clear hK K)
          | (refine ⟨_, fun w1 hw1 => ⟨Ext.refl w1, hw1, rfl⟩, hK _ ?_⟩; clear hK K)
          | (apply Exists.intro; refine ⟨fun w1 hw1 => ?_, hK _ ?_⟩
             first
               | (have c_v0 := cell_keep hw1 v0; go_simp; first | exact ⟨Ext.refl _, hw1, rfl⟩ | exact ⟨Ext.refl _, rfl⟩)
             clear hK K))
        refine dep_nil ?_
        intro a' w' hC hE
        obtain ⟨v, ⟨A1, d1, rfl, r1⟩, hE⟩ := atEnd_cons hE (by simp) (by first | (simp; done) | simp [Act.put])
        obtain rfl := atEnd_nil hE
        clear hE
        simp only [List.drop_succ_cons, List.drop_zero]
        clear v0
        go_wp2_with (first
          | (at_builtin; refine wpl_append _ rfl (.tmp 84) (.tmp 89) 22 rfl 47 i9 _ 8 96 Try.underlying22 HI.out hz0 hz1 hz2 rfl (by omega) w5.heap.size A1 k d1 _ rfl r1 (some ⟨b0, off, none⟩) 0 _ (flat ((ts.drop (k + 1)).map TK.cs)) rfl (by have := HTL.out; rw [cells_len, List.length_drop]; omega) (hRD.out _ (Ext.trans bV hC)) flat_one (nt - 1) (flat ((ts.take k ++ ts.drop (k + 1)).map TK.cs)) (by omega) (flat_app _ _) (by omega) (by omega) hC.size ?_; intro A2 d2 w7 o7 g7 x7; clear x7; have e7 := below_grown hC g7 hC.size (fun g' hg' => (r1.at_ g' hg').1); have v1 : w7.cell? ⟨wq.heap.size, 0, none⟩ = some (.slice (some ⟨b0, off, none⟩) nt (k + 1)) := (oD.keep e7).cell 0; have f1 := (oD.keep e7).frozen 0; have oD8 : Own (w7.setCell ⟨wq.heap.size, 0, none⟩ (.slice A2 (nt - 1) d2)) wq.heap.size 27 [.slice A2 (nt - 1) d2, .slice B nb cb, .slice M nm cm, .slice G ng cg, .int .i64 fr, .int .i64 dog] := (oD.keep e7).set 0 _)
          | (refine wpl_load_w _ ?_ 27 _ rfl (by kernel_rfl) 6 size_conf _ rfl _ _ oD8 rfl ?_; focus (go_simp; done)))
        have hlD := (Own.lt oD)
        have oV8 := (oV.keep e7).far (p := ⟨wq.heap.size, 0, none⟩) (Nat.ne_of_lt hgd) (.slice A2 (nt - 1) d2)
        have bV8 := (Ext.trans bV e7).setCell (p := ⟨wq.heap.size, 0, none⟩) (Nat.le_of_lt hgd) (.slice A2 (nt - 1) d2)
        have e8 := (Ext.trans e5 e7).setCell (p := ⟨wq.heap.size, 0, none⟩) (Nat.le_refl _) (.slice A2 (nt - 1) d2)
        have r8 := (o7.grown (setCell_grown w7 ⟨wq.heap.size, 0, none⟩ (.slice A2 (nt - 1) d2)) (.inr (fun q => by have h1 := (o7.at_ _ q).1; simp only at h1; omega))).rd
        have hD := HAD2.out (nt - 1) (ts.take k ++ ts.drop (k + 1)) A2 d2 _ ⟨⟨by rw [List.length_append, List.length_take, List.length_drop, HTL.out]; omega, by omega, fun x hx => (HH.out.tasks.ok x (by
          rcases List.mem_append.1 hx with h | h
          · exact List.mem_of_mem_take h
          · exact List.mem_of_mem_drop h)).keep bV8, r8⟩, HH.out.best.keep bV8, HH.out.mtx.keep bV8, HH.out.gaps.keep bV8, HH.out.fr, HH.out.dog⟩
        rw [HLL.out.a1] at hD
        generalize w7.setCell ⟨wq.heap.size, 0, none⟩ (.slice A2 (nt - 1) d2) = w8 at *
        clear v1 f1 oD8 o7 g7 e7 r8 r1 hC oD oV bV e5
        generalize admR (nt - 1) nb nm ng (ts.take k ++ ts.drop (k + 1)) bs ms gs fr dog = LD at *
        refine hD.mono ?_
        rintro e w9 ⟨S2, c2, rfl, _, b9⟩
        replace oV8 := oV8.keep b9
        replace bV8 := Ext.trans bV8 b9
        replace e8 := Ext.trans e8 b9
        clear hD b9
        have v9 : w9.cell? ⟨w.heap.size, 0, none⟩ = some (.slice (some ⟨b0, off, none⟩) nt (k + 1)) := oV8.cell 0
        have hg9 : w.heap.size < w9.heap.size := (Own.lt oV8)
        have h9q := e8.size
        have HCL := Lib.hid (cells_len ts)
        go_upto_region 19 with (first
          | (refine wpl_load_w _ ?_ 27 _ rfl (by kernel_rfl) 6 size_conf _ rfl _ _ oV8 rfl ?_; focus (go_simp; done))
          | (refine wpl_alloc_own _ rfl 27 rfl zcf zero_conf ?_; intro w10 o10 b10 s10; clear s10)
          | (refine wpl_store_own _ rfl 27 _ _ rfl 6 size_conf _ rfl [.slice (some ⟨b0, off, none⟩) nt (k + 1), .slice B nb cb, .slice M nm cm, .slice G ng cg, .int .i64 fr, .int .i64 dog] rfl _ _ o10 rfl rfl (by simp [Value.oneCell']) ?_; intro w11 oE g11 s11; clear s11; have e11 := below_of_grown b10 g11 (Nat.le_refl _) b10.size; have v11 : w11.cell? ⟨w.heap.size, 0, none⟩ = some (.slice (some ⟨b0, off, none⟩) nt (k + 1)) := (oV8.keep e11).cell 0; clear o10 b10 g11)
          | (at_builtin; refine wpl_append _ rfl (.const (.slice none 0 0)) (.tmp 99) 22 rfl 47 i9 _ 8 96 Try.underlying22 HI.out hz0 hz1 hz2 rfl (by omega) w11.heap.size none 0 0 [] rfl (Row.nil _ _ _ _) (some ⟨b0, off, none⟩) nt (k + 1) (flat (ts.map TK.cs)) rfl (by rw [HCL.out, HTL.out]) (HH.out.tasks.keep (Ext.trans bV8 e11)).rd flat_one nt (flat (ts.map TK.cs)) (by omega) rfl (by omega) (by omega) (Nat.le_refl _) ?_; intro A3 d3 w12 o12 g12 x12; clear x12; have e12 := below_grown (Ext.refl w11) g12 (Nat.le_refl _) (by simp [blk]); have v1 : w12.cell? ⟨w9.heap.size, 0, none⟩ = some (.slice (some ⟨b0, off, none⟩) nt (k + 1)) := (oE.keep e12).cell 0; have f1 := (oE.keep e12).frozen 0; have oE13 : Own (w12.setCell ⟨w9.heap.size, 0, none⟩ (.slice A3 nt d3)) w9.heap.size 27 [.slice A3 nt d3, .slice B nb cb, .slice M nm cm, .slice G ng cg, .int .i64 fr, .int .i64 dog] := (oE.keep e12).set 0 _))
        have hlE := (Own.lt oE)
        have b13 := (Ext.trans bV8 (Ext.trans e11 e12)).setCell (p := ⟨w9.heap.size, 0, none⟩) (Nat.le_of_lt hg9) (.slice A3 nt d3)
        have e13 := (Ext.trans e8 (Ext.trans e11 e12)).setCell (p := ⟨w9.heap.size, 0, none⟩) h9q (.slice A3 nt d3)
        have r13 := o12.grown (setCell_grown w12 ⟨w9.heap.size, 0, none⟩ (.slice A3 nt d3)) (.inr (fun q => by have h1 := (o12.at_ _ q).1; simp only at h1; omega))
        have hsz13 : (w12.setCell ⟨w9.heap.size, 0, none⟩ (.slice A3 nt d3)).heap.size = w12.heap.size := by simp
        have hle12 := e12.size
        generalize w12.setCell ⟨w9.heap.size, 0, none⟩ (.slice A3 nt d3) = w13 at *
        obtain ⟨g3, rfl⟩ := r13.addr (by omega)
        have hg3 := (r13.at_ g3 rfl)
        have v13 : w13.cell? ⟨w9.heap.size, 0, none⟩ = some (.slice (some ⟨g3, 0, none⟩) nt d3) := oE13.cell 0
        obtain ⟨hcc, hff, hrr⟩ := r13.setAt (k * 8 + 4) (by omega) (.int .i64 1)
        rw [cs_one1 ts hkl] at hrr
        rw [flat_get (ts.map TK.cs) (by intro x hx; obtain ⟨y, _, rfl⟩ := List.mem_map.1 hx; rfl) k 4 (by simpa using hkl) (by omega)] at hcc
        simp only [List.getElem_map, TK.cs, List.getElem?_cons_succ, List.getElem?_cons_zero] at hcc
        have kc0 : (0 : Int) ≤ (k : Int) := by omega
        have kc1 : (k : Int) < (nt : Int) := by omega
        have oE14 := oE13.far (p := ⟨g3, k * 8 + 4, none⟩) (show w9.heap.size ≠ g3 by omega) (.int .i64 1)
        clear v1 f1 o12 g12 e11 e12 oE oE13 v9 v11
        go_wp2_with (refine wpl_load_w _ ?_ 27 _ rfl (by kernel_rfl) 6 size_conf _ rfl _ _ oE14 rfl ?_; focus (go_simp; done))
        have b14 := b13.setCell (p := ⟨g3, k * 8 + 4, none⟩) (show w.heap.size ≤ g3 by omega) (.int .i64 1)
        have e14 := e13.setCell (p := ⟨g3, k * 8 + 4, none⟩) (show wq.heap.size ≤ g3 by omega) (.int .i64 1)
        generalize w13.setCell ⟨g3, k * 8 + 4, none⟩ (.int .i64 1) = w14 at *
        have hE := HAD2.out nt (ts.set k (one1 ts[k])) (some ⟨g3, 0, none⟩) d3 _ ⟨⟨by rw [List.length_set, HTL.out], by omega, fun x hx => (by
          rcases List.mem_or_eq_of_mem_set hx with h | rfl
          · exact (HH.out.tasks.ok x h).keep b14
          · have h := (HH.out.tasks.ok ts[k] (List.getElem_mem hkl)).keep b14
            obtain ⟨⟨a1, a2, a3, a4, a5, a6⟩, h2, h3, h4⟩ := h
            exact ⟨⟨a1, a2, a3, a4, (show (-9223372036854775808 : Int) ≤ 1 ∧ (1 : Int) ≤ 9223372036854775807 by omega), a6⟩, h2, h3, h4⟩), hrr.rd⟩, HH.out.best.keep b14, HH.out.mtx.keep b14, HH.out.gaps.keep b14, HH.out.fr, HH.out.dog⟩
        rw [HLL.out.a2, HLL.out.r2] at hE
        have hle := HLL.out.le
        have hl2 := respTo_len (ts.set k (one1 ts[k])) ms gs nt
        generalize respTo (ts.set k (one1 ts[k])) ms gs nt = LE at *
        have hl1 := HLN.out
        generalize respTo ts ms gs nt = L1 at *
        have HLE := Lib.hid hle
        have HL1 := Lib.hid hl1
        have HL2 := Lib.hid hl2
        clear hle hl1 hl2
        refine hE.mono ?_
        rintro e w15 ⟨S3, c3, rfl, rd3, b15⟩
        rw [HL2.out]
        replace rd1 := rd1.keep (Ext.trans e14 b15)
        have b16 := Ext.trans b14 b15
        clear hE b15 e14 b14 b13 e13 hrr hcc hff oE14 v13 r13 HLL HL HRA HIN HAD2 HH hRD
        go_wp2
        go_loopw [15] (fun i wr => ∃ j : Nat, j ≤ nt ∧ i = .int .i64 j ∧ Ext w15 wr) (fun i _ => nt - (intOf i).toNat)
        case atStart => exact ⟨0, by omega, rfl, Ext.refl _⟩
        case round =>
          obtain ⟨j, hj, rfl, q3⟩ := hrel
          by_cases hjl : j < nt
          · have j1 : j < L1.length := by rw [HL1.out]; exact hjl
            have j2 : j < LE.length := by rw [HL2.out]; exact hjl
            have hle := HLE.out j j1 j2
            obtain ⟨b9, o9, rfl, c9⟩ := (rd1.keep q3).int j1
            obtain ⟨b8, o8, rfl, c8⟩ := (rd3.keep q3).int j2
            generalize L1[j] = x1 at *
            generalize LE[j] = x2 at *
            have d1 : decide (x1 < x2) = false := by simp; omega
            have j0' : (0 : Int) ≤ (j : Int) := by omega
            have j1' : (j : Int) < (nt : Int) := by omega
            go_wp2
            go_quiet (fail)
            go_wp2
            go_roundw
            case rel => exact ⟨j + 1, by omega, by go_num, Ext.trans q3 (Ext.drewN _ _)⟩
            case measure => simp [intOf]; omega
          · obtain rfl : nt = j := by omega
            go_wp2_with ((with_reducible go_at_call 9); (with_reducible refine (HAW.out _).mono ?_); rintro e w17 ⟨rfl, b17⟩)
            go_ret
            exact ⟨rfl, Ext.trans b16 (Ext.trans q3 b17)⟩
      · have hRD := Lib.hid (fun w' (h : Ext w w') => show Rd w' (some ⟨b0, off + (k + 1) * 8, none⟩) (flat ((ts.drop (k + 1)).map TK.cs)) by
          rw [flat_drop]; exact ((HH.out.tasks.keep h).rd).dropAt _)
        have hc1 : ¬ ct - (k + 1) = 0 := by omega
        refine wp_region_dep_tail 10 (S := Ext) (C := Ext (w5)) (by kernel_rfl) (by kernel_rfl) rfl Ext.refl (Ext.drew _) ?_
        simp only [List.take_succ_cons, List.take_zero]
        repeat (refine dep_det (by rfl) (fun K hK => ?_); go_simp; first
          | ((with_reducible refine hK _ ?_); clear hK K)
          | (rw [if_neg (by decide)]; (with_reducible refine hK _ ?_); clear hK K)
          | (refine ⟨_, fun w1 hw1 => ⟨Ext.refl w1, hw1, rfl⟩, hK _ ?_⟩; clear hK K)
          | (apply Exists.intro; refine ⟨fun w1 hw1 => ?_, hK _ ?_⟩
             first
               | (have c_v0 := cell_keep hw1 v0; go_simp; first | exact ⟨Ext.refl _, hw1, rfl⟩ | exact ⟨Ext.refl _, rfl⟩)
             clear hK K))
        refine dep_var (RwV w5.heap.size 47 8 k (flat ((ts.take k).map TK.cs))) 84 rfl (by rfl) RwV.keep (by go_simp) (fun w1 hw1 => ?_) ?_
        · have hrd := (HH.out.tasks.keep (Ext.trans bV hw1)).rd.take (k * 8)
          rw [← flat_take] at hrd
          obtain ⟨A', c', w', hrun, r1, r2, _⟩ := run_append (P := Try.prog) w1 22 22 47 i9 ztk 8 96 Try.underlying22 HI.out hz0 hz1 hz2 rfl (by omega) w5.heap.size none 0 0 [] (Row.nil _ _ _ _) (some ⟨b0, off, none⟩) k ct (flat ((ts.take k).map TK.cs)) (by rw [cells_len, List.length_take]; omega) hrd flat_one (by omega) (by omega) hw1.size
          have hb' := below_grown (Ext.refl w1) r2 (Nat.le_refl _) (by simp [blk])
          rw [Nat.zero_add] at hrun r1
          exact dep_append rfl hrun ⟨hb', Ext.trans hw1 hb', A', c', rfl, r1⟩
        repeat (refine dep_det (by rfl) (fun K hK => ?_); go_simp; first
          | ((with_reducible refine hK _ ?_); clear hK K)
          | (rw [if_neg (by decide)]; (with_reducible refine hK _ ?_); clear hK K)
          | (refine ⟨_, fun w1 hw1 => ⟨Ext.refl w1, hw1, rfl⟩, hK _ ?_⟩; clear hK K)
          | (apply Exists.intro; refine ⟨fun w1 hw1 => ?_, hK _ ?_⟩
             first
               | (have c_v0 := cell_keep hw1 v0; go_simp; first | exact ⟨Ext.refl _, hw1, rfl⟩ | exact ⟨Ext.refl _, rfl⟩)
             clear hK K))
        refine dep_nil ?_
        intro a' w' hC hE
        obtain ⟨v, ⟨A1, d1, rfl, r1⟩, hE⟩ := atEnd_cons hE (by simp) (by first | (simp; done) | simp [Act.put])
        obtain rfl := atEnd_nil hE
        clear hE
        simp only [List.drop_succ_cons, List.drop_zero]
        clear v0
        go_wp2_with (first
          | (at_builtin; refine wpl_append _ rfl (.tmp 84) (.tmp 89) 22 rfl 47 i9 _ 8 96 Try.underlying22 HI.out hz0 hz1 hz2 rfl (by omega) w5.heap.size A1 k d1 _ rfl r1 (some ⟨b0, off + (k + 1) * 8, none⟩) (nt - (k + 1)) _ (flat ((ts.drop (k + 1)).map TK.cs)) rfl (by have := HTL.out; rw [cells_len, List.length_drop]; omega) (hRD.out _ (Ext.trans bV hC)) flat_one (nt - 1) (flat ((ts.take k ++ ts.drop (k + 1)).map TK.cs)) (by omega) (flat_app _ _) (by omega) (by omega) hC.size ?_; intro A2 d2 w7 o7 g7 x7; clear x7; have e7 := below_grown hC g7 hC.size (fun g' hg' => (r1.at_ g' hg').1); have v1 : w7.cell? ⟨wq.heap.size, 0, none⟩ = some (.slice (some ⟨b0, off, none⟩) nt ct) := (oD.keep e7).cell 0; have f1 := (oD.keep e7).frozen 0; have oD8 : Own (w7.setCell ⟨wq.heap.size, 0, none⟩ (.slice A2 (nt - 1) d2)) wq.heap.size 27 [.slice A2 (nt - 1) d2, .slice B nb cb, .slice M nm cm, .slice G ng cg, .int .i64 fr, .int .i64 dog] := (oD.keep e7).set 0 _)
          | (refine wpl_load_w _ ?_ 27 _ rfl (by kernel_rfl) 6 size_conf _ rfl _ _ oD8 rfl ?_; focus (go_simp; done)))
        have hlD := (Own.lt oD)
        have oV8 := (oV.keep e7).far (p := ⟨wq.heap.size, 0, none⟩) (Nat.ne_of_lt hgd) (.slice A2 (nt - 1) d2)
        have bV8 := (Ext.trans bV e7).setCell (p := ⟨wq.heap.size, 0, none⟩) (Nat.le_of_lt hgd) (.slice A2 (nt - 1) d2)
        have e8 := (Ext.trans e5 e7).setCell (p := ⟨wq.heap.size, 0, none⟩) (Nat.le_refl _) (.slice A2 (nt - 1) d2)
        have r8 := (o7.grown (setCell_grown w7 ⟨wq.heap.size, 0, none⟩ (.slice A2 (nt - 1) d2)) (.inr (fun q => by have h1 := (o7.at_ _ q).1; simp only at h1; omega))).rd
        have hD := HAD2.out (nt - 1) (ts.take k ++ ts.drop (k + 1)) A2 d2 _ ⟨⟨by rw [List.length_append, List.length_take, List.length_drop, HTL.out]; omega, by omega, fun x hx => (HH.out.tasks.ok x (by
          rcases List.mem_append.1 hx with h | h
          · exact List.mem_of_mem_take h
          · exact List.mem_of_mem_drop h)).keep bV8, r8⟩, HH.out.best.keep bV8, HH.out.mtx.keep bV8, HH.out.gaps.keep bV8, HH.out.fr, HH.out.dog⟩
        rw [HLL.out.a1] at hD
        generalize w7.setCell ⟨wq.heap.size, 0, none⟩ (.slice A2 (nt - 1) d2) = w8 at *
        clear v1 f1 oD8 o7 g7 e7 r8 r1 hC oD oV bV e5
        generalize admR (nt - 1) nb nm ng (ts.take k ++ ts.drop (k + 1)) bs ms gs fr dog = LD at *
        refine hD.mono ?_
        rintro e w9 ⟨S2, c2, rfl, _, b9⟩
        replace oV8 := oV8.keep b9
        replace bV8 := Ext.trans bV8 b9
        replace e8 := Ext.trans e8 b9
        clear hD b9
        have v9 : w9.cell? ⟨w.heap.size, 0, none⟩ = some (.slice (some ⟨b0, off, none⟩) nt ct) := oV8.cell 0
        have hg9 : w.heap.size < w9.heap.size := (Own.lt oV8)
        have h9q := e8.size
        have HCL := Lib.hid (cells_len ts)
        go_upto_region 19 with (first
          | (refine wpl_load_w _ ?_ 27 _ rfl (by kernel_rfl) 6 size_conf _ rfl _ _ oV8 rfl ?_; focus (go_simp; done))
          | (refine wpl_alloc_own _ rfl 27 rfl zcf zero_conf ?_; intro w10 o10 b10 s10; clear s10)
          | (refine wpl_store_own _ rfl 27 _ _ rfl 6 size_conf _ rfl [.slice (some ⟨b0, off, none⟩) nt ct, .slice B nb cb, .slice M nm cm, .slice G ng cg, .int .i64 fr, .int .i64 dog] rfl _ _ o10 rfl rfl (by simp [Value.oneCell']) ?_; intro w11 oE g11 s11; clear s11; have e11 := below_of_grown b10 g11 (Nat.le_refl _) b10.size; have v11 : w11.cell? ⟨w.heap.size, 0, none⟩ = some (.slice (some ⟨b0, off, none⟩) nt ct) := (oV8.keep e11).cell 0; clear o10 b10 g11)
          | (at_builtin; refine wpl_append _ rfl (.const (.slice none 0 0)) (.tmp 99) 22 rfl 47 i9 _ 8 96 Try.underlying22 HI.out hz0 hz1 hz2 rfl (by omega) w11.heap.size none 0 0 [] rfl (Row.nil _ _ _ _) (some ⟨b0, off, none⟩) nt ct (flat (ts.map TK.cs)) rfl (by rw [HCL.out, HTL.out]) (HH.out.tasks.keep (Ext.trans bV8 e11)).rd flat_one nt (flat (ts.map TK.cs)) (by omega) rfl (by omega) (by omega) (Nat.le_refl _) ?_; intro A3 d3 w12 o12 g12 x12; clear x12; have e12 := below_grown (Ext.refl w11) g12 (Nat.le_refl _) (by simp [blk]); have v1 : w12.cell? ⟨w9.heap.size, 0, none⟩ = some (.slice (some ⟨b0, off, none⟩) nt ct) := (oE.keep e12).cell 0; have f1 := (oE.keep e12).frozen 0; have oE13 : Own (w12.setCell ⟨w9.heap.size, 0, none⟩ (.slice A3 nt d3)) w9.heap.size 27 [.slice A3 nt d3, .slice B nb cb, .slice M nm cm, .slice G ng cg, .int .i64 fr, .int .i64 dog] := (oE.keep e12).set 0 _))
        have hlE := (Own.lt oE)
        have b13 := (Ext.trans bV8 (Ext.trans e11 e12)).setCell (p := ⟨w9.heap.size, 0, none⟩) (Nat.le_of_lt hg9) (.slice A3 nt d3)
        have e13 := (Ext.trans e8 (Ext.trans e11 e12)).setCell (p := ⟨w9.heap.size, 0, none⟩) h9q (.slice A3 nt d3)
        have r13 := o12.grown (setCell_grown w12 ⟨w9.heap.size, 0, none⟩ (.slice A3 nt d3)) (.inr (fun q => by have h1 := (o12.at_ _ q).1; simp only at h1; omega))
        have hsz13 : (w12.setCell ⟨w9.heap.size, 0, none⟩ (.slice A3 nt d3)).heap.size = w12.heap.size := by simp
        have hle12 := e12.size
        generalize w12.setCell ⟨w9.heap.size, 0, none⟩ (.slice A3 nt d3) = w13 at *
        obtain ⟨g3, rfl⟩ := r13.addr (by omega)
        have hg3 := (r13.at_ g3 rfl)
        have v13 : w13.cell? ⟨w9.heap.size, 0, none⟩ = some (.slice (some ⟨g3, 0, none⟩) nt d3) := oE13.cell 0
        obtain ⟨hcc, hff, hrr⟩ := r13.setAt (k * 8 + 4) (by omega) (.int .i64 1)
        rw [cs_one1 ts hkl] at hrr
        rw [flat_get (ts.map TK.cs) (by intro x hx; obtain ⟨y, _, rfl⟩ := List.mem_map.1 hx; rfl) k 4 (by simpa using hkl) (by omega)] at hcc
        simp only [List.getElem_map, TK.cs, List.getElem?_cons_succ, List.getElem?_cons_zero] at hcc
        have kc0 : (0 : Int) ≤ (k : Int) := by omega
        have kc1 : (k : Int) < (nt : Int) := by omega
        have oE14 := oE13.far (p := ⟨g3, k * 8 + 4, none⟩) (show w9.heap.size ≠ g3 by omega) (.int .i64 1)
        clear v1 f1 o12 g12 e11 e12 oE oE13 v9 v11
        go_wp2_with (refine wpl_load_w _ ?_ 27 _ rfl (by kernel_rfl) 6 size_conf _ rfl _ _ oE14 rfl ?_; focus (go_simp; done))
        have b14 := b13.setCell (p := ⟨g3, k * 8 + 4, none⟩) (show w.heap.size ≤ g3 by omega) (.int .i64 1)
        have e14 := e13.setCell (p := ⟨g3, k * 8 + 4, none⟩) (show wq.heap.size ≤ g3 by omega) (.int .i64 1)
        generalize w13.setCell ⟨g3, k * 8 + 4, none⟩ (.int .i64 1) = w14 at *
        have hE := HAD2.out nt (ts.set k (one1 ts[k])) (some ⟨g3, 0, none⟩) d3 _ ⟨⟨by rw [List.length_set, HTL.out], by omega, fun x hx => (by
          rcases List.mem_or_eq_of_mem_set hx with h | rfl
          · exact (HH.out.tasks.ok x h).keep b14
          · have h := (HH.out.tasks.ok ts[k] (List.getElem_mem hkl)).keep b14
            obtain ⟨⟨a1, a2, a3, a4, a5, a6⟩, h2, h3, h4⟩ := h
            exact ⟨⟨a1, a2, a3, a4, (show (-9223372036854775808 : Int) ≤ 1 ∧ (1 : Int) ≤ 9223372036854775807 by omega), a6⟩, h2, h3, h4⟩), hrr.rd⟩, HH.out.best.keep b14, HH.out.mtx.keep b14, HH.out.gaps.keep b14, HH.out.fr, HH.out.dog⟩
        rw [HLL.out.a2, HLL.out.r2] at hE
        have hle := HLL.out.le
        have hl2 := respTo_len (ts.set k (one1 ts[k])) ms gs nt
        generalize respTo (ts.set k (one1 ts[k])) ms gs nt = LE at *
        have hl1 := HLN.out
        generalize respTo ts ms gs nt = L1 at *
        have HLE := Lib.hid hle
        have HL1 := Lib.hid hl1
        have HL2 := Lib.hid hl2
        clear hle hl1 hl2
        refine hE.mono ?_
        rintro e w15 ⟨S3, c3, rfl, rd3, b15⟩
        rw [HL2.out]
        replace rd1 := rd1.keep (Ext.trans e14 b15)
        have b16 := Ext.trans b14 b15
        clear hE b15 e14 b14 b13 e13 hrr hcc hff oE14 v13 r13 HLL HL HRA HIN HAD2 HH hRD
        go_wp2
        go_loopw [15] (fun i wr => ∃ j : Nat, j ≤ nt ∧ i = .int .i64 j ∧ Ext w15 wr) (fun i _ => nt - (intOf i).toNat)
        case atStart => exact ⟨0, by omega, rfl, Ext.refl _⟩
        case round =>
          obtain ⟨j, hj, rfl, q3⟩ := hrel
          by_cases hjl : j < nt
          · have j1 : j < L1.length := by rw [HL1.out]; exact hjl
            have j2 : j < LE.length := by rw [HL2.out]; exact hjl
            have hle := HLE.out j j1 j2
            obtain ⟨b9, o9, rfl, c9⟩ := (rd1.keep q3).int j1
            obtain ⟨b8, o8, rfl, c8⟩ := (rd3.keep q3).int j2
            generalize L1[j] = x1 at *
            generalize LE[j] = x2 at *
            have d1 : decide (x1 < x2) = false := by simp; omega
            have j0' : (0 : Int) ≤ (j : Int) := by omega
            have j1' : (j : Int) < (nt : Int) := by omega
            go_wp2
            go_quiet (fail)
            go_wp2
            go_roundw
            case rel => exact ⟨j + 1, by omega, by go_num, Ext.trans q3 (Ext.drewN _ _)⟩
            case measure => simp [intOf]; omega
          · obtain rfl : nt = j := by omega
            go_wp2_with ((with_reducible go_at_call 9); (with_reducible refine (HAW.out _).mono ?_); rintro e w17 ⟨rfl, b17⟩)
            go_ret
            exact ⟨rfl, Ext.trans b16 (Ext.trans q3 b17)⟩

end Go.Proofs.Ytdninhdabeddeaa
