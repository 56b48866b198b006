/-
  WALKS of package proc: Children, leave.
-/
import Derived.Test.YtdgggdhligfnpaaPrcB
namespace Go.Proofs.Ytdgggdhligfnpaa
open Go.RowKit Go.Maps
attribute [local go_sem] depUpon Sp.ok

theorem run_load_rd' {P : Program} (w : World) (ty : TypeId) (hd : aggB (P.underlying ty) = true) (n : Nat) (hi : (P.info? ty).map (·.size) = some n) (b off : Nat) (cs : List Value) (hn : cs.length = n) (hc : ∀ j v, cs[j]? = some v → w.cell? ⟨b, off + j, none⟩ = some v) :
    (Instr.loadAt ty (.pointer (some ⟨b, off, none⟩))).run P w = .ok (.agg cs.toArray) w := by
  obtain ⟨d, h1, h2⟩ := aggB_spec hd
  have hl := run_loadCells_list (P := P) w ⟨b, off, none⟩ cs (fun j v hv => by
    have hadd : (⟨b, off, none⟩ : Addr).add j = ⟨b, off + j, none⟩ := by unfold Addr.add; split <;> simp_all
    rw [hadd]; exact hc j v hv)
  cases hq : P.info? ty with
  | none => simp [hq] at hi
  | some i =>
    have hsz : i.size = n := by simpa [hq] using hi
    have hagg : (isAgg ty).run P w = .ok true w := by
      unfold isAgg
      cases d <;> first | (simp at h2; done) | simp [run_underlying h1, go_sem]
    have hs : (sizeOf ty).run P w = .ok cs.length w := by simp [sizeOf, typeInfo, hq, hsz, hn, go_sem]
    have hl' : (loadCellsFrom ⟨b, off, none⟩ 0 cs.length #[]).run P w = .ok cs.toArray w := by simpa [loadCells] using hl
    simp [Instr.loadAt, Instr.sureAddr, loadVar, hagg, hs, hl', go_sem]
section
variable {P : Program} {ops : Array Oper} {S : World → World → Prop} {C : World → Prop} {Q : Kn → Act → Prop} {o : Oper} {rest : List Oper} {F : Kn} {s : Act}
/-- In a region that draws its order: a whole struct out of cells that read so. -/
theorem dep_load_rd' (hk : plainB ops o (F.map (·.1)) = true) (ty : TypeId) (x : Operand) (hop : o.op = .load ty x) (hd : aggB (P.underlying ty) = true) (n : Nat) (hi : (P.info? ty).map (·.size) = some n)
    (b off : Nat) (hx : s.eval x = .pointer (some ⟨b, off, none⟩)) (cs : List Value) (hn : cs.length = n) (hw : Region.wanted o (yielded ops s.tmps) = true) (hS : ∀ w, S w w)
    (hc : ∀ w, C w → ∀ j v, cs[j]? = some v → w.cell? ⟨b, off + j, none⟩ = some v)
    (h : depWalk P ops S C Q rest F (s.put o.dst (.agg cs.toArray))) : depWalk P ops S C Q (o :: rest) F s := by
  refine dep_det hk fun K hK => ?_
  rw [if_pos hw]
  refine ⟨_, fun w hC => ?_, hK _ h⟩
  have hr := run_load_rd' (P := P) w ty hd n hi b off cs hn (hc w hC)
  simp only [execOp, hop, hx]
  simp [hr, Result.andThen]
  exact ⟨hS w, hC, rfl⟩
end

theorem field_p0 (a c : Int) (d : Bool) (w : World) : (Instr.field 56 (.agg #[.int .i64 a, .int .i64 c, .bool d]) 0).run Try.prog w = .ok (.int .i64 a) w := by kernel_rfl
theorem field_p1 (a c : Int) (d : Bool) (w : World) : (Instr.field 56 (.agg #[.int .i64 a, .int .i64 c, .bool d]) 1).run Try.prog w = .ok (.int .i64 c) w := by kernel_rfl
theorem field_p2 (a c : Int) (d : Bool) (w : World) : (Instr.field 56 (.agg #[.int .i64 a, .int .i64 c, .bool d]) 2).run Try.prog w = .ok (.bool d) w := by kernel_rfl
theorem row_form {w : World} {base size n : Nat} {e : TypeId} {v : Value} {xs : List Value} (h : w.ownsRow base e size v n xs) : ∃ A c, v = .slice A n c ∧ Row w base e size A n c xs := by
  rcases h.2 with ⟨rfl, h0⟩ | ⟨g, cap, cur, rfl, rest⟩
  · subst h0
    exact ⟨none, 0, rfl, h⟩
  · exact ⟨_, _, rfl, h⟩

/-- The numbers of a process' children. -/
def kids (L : List PR) (k : Int) : List Int := (L.filter fun r => decide (r.par = k)).map PR.pid
def kidsA (L : List PR) (k : Int) : List Int := if aliveB L k = true then kids L k else []
theorem kids_snoc (l : List PR) (r : PR) (k : Int) : kids (l ++ [r]) k = if r.par = k then kids l k ++ [r.pid] else kids l k := by
  unfold kids
  rw [List.filter_append, List.map_append]
  by_cases h : r.par = k
  · rw [if_pos h]; simp [h]
  · rw [if_neg h]; simp [h]
theorem kids_len (l : List PR) (k : Int) : (kids l k).length ≤ l.length := by
  unfold kids
  rw [List.length_map]
  exact List.length_filter_le _ _

set_option maxRecDepth 100000 in
set_option maxHeartbeats 4000000 in
theorem p_children (g gm : Nat) (L : List PR) (k : Int) (w : World) (h : PS w g gm L) (hk : I64 k) (hn : L.length ≤ 65536) :
    Calls Try.prog 12 #[.pointer (some ⟨g, 0, none⟩), .int .i64 k] w fun e w' => ∃ S c', e = .returned (.slice S (kidsA L k).length c') ∧ Row w' w.heap.size 3 1 S (kidsA L k).length c' (ints (kidsA L k)) ∧ Below w.heap.size w w' := by
  have HAL := Lib.hid (p_alive g gm L k w h hk)
  have HQ := Lib.hid (show kidsA L k = if aliveB L k = true then kids L k else [] from rfl)
  have HH := Lib.hid h
  obtain ⟨i0, hi, hz0, hz1, hz2⟩ := info_parts info_int
  have HI := Lib.hid hi
  cases hal : aliveB L k
  · rw [hal] at HAL
    have HE := Lib.hid (show kidsA L k = [] by rw [HQ.out, hal]; rfl)
    clear h hal hi
    go_enter Try.func12, Try.ntmps12
    go_wp2_with ((with_reducible go_at_call 20); (with_reducible refine (HAL.out).mono ?_); rintro e w1 ⟨rfl, b1⟩)
    go_ret
    exact ⟨none, 0, by rw [HE.out]; rfl, by rw [HE.out]; exact Row.nil _ _ _ _, b1⟩
  rw [hal] at HAL
  have HE := Lib.hid (show kidsA L k = kids L k by rw [HQ.out, if_pos hal])
  have hkl := kids_len L k
  clear h hal hi HQ
  go_enter Try.func12, Try.ntmps12
  go_wp2_with ((with_reducible go_at_call 20); (with_reducible refine HAL.out.mono ?_); rintro e w1 ⟨rfl, b1⟩; have hc1 := (HH.out.keep b1).cell)
  refine (keys_callA _ _).mono ?_
  rintro e w2 ⟨rfl, rfl⟩
  go_wp2_with fail
  refine (sorted_callA gm L.length (dmap L) prd w1 (HH.out.keep b1).map (by rw [dmap_size]; unfold maxLen; omega) (by rw [dmap_size]; omega)).mono ?_
  rintro e w3 ⟨v, ss, rfl, hS, hrow, _, b3⟩
  rw [dmap_keys] at hS
  have hlen : ss.length = L.length := by have := hS.length_eq; simpa using this
  rw [sorted_pids HH.out.srt hS, hlen] at hrow
  obtain ⟨S0, c0, rfl, r0⟩ := row_form hrow
  have e3 : Ext w w3 := Ext.trans b1 (Ext.trans (Ext.alloc _ _) b3)
  have rd0 : Rd w3 S0 (ints (L.map PR.pid)) := r0.rd
  clear hrow r0 b3 hS hc1 b1 HAL
  go_wp2
  go_loopw [5, 19] (fun v q wr => ∃ (j : Nat) (R : Option Addr) (c1 : Nat), v = .slice R (kids (L.take j) k).length c1 ∧ q = .int .i64 j ∧ j ≤ L.length ∧ Row wr w3.heap.size 3 1 R (kids (L.take j) k).length c1 (ints (kids (L.take j) k)) ∧ Ext w3 wr) (fun _ q _ => L.length - (intOf q).toNat)
  case atStart => exact ⟨0, none, 0, rfl, rfl, by omega, Row.nil _ _ _ _, Ext.refl _⟩
  case round =>
    obtain ⟨j, R, c1, rfl, rfl, hj, q1, q2⟩ := hrel
    by_cases hlt : j < L.length
    · obtain ⟨bs, os, rfl, hcS⟩ := (rd0.keep q2).int (k := j) (by simpa using hlt)
      rw [List.getElem_map] at hcS
      have hps := HH.out.keep (Ext.trans e3 q2)
      have hc := hps.cell
      have hlk := hps.look (HH.out.wf _ (List.getElem_mem hlt))
      rw [pget_of HH.out.srt (List.getElem_mem hlt)] at hlk
      simp only [oPar, oCode, oDead] at hlk
      have hsn := kids_snoc (L.take j) L[j] k
      rw [← take_succ' L j hlt] at hsn
      have hl0 := kids_len (L.take j) k
      rw [List.length_take] at hl0
      generalize L[j] = y at *
      obtain ⟨yp, ya, yc, yd⟩ := y
      simp only at hcS hlk hsn
      have hf := field_p0 ya yc yd
      have j0' : (0 : Int) ≤ (j : Int) := by omega
      have j1' : (j : Int) < (L.length : Int) := by omega
      generalize hK1 : kids (L.take (j + 1)) k = K1 at *
      have HK1 := Lib.hid hK1
      generalize kids (L.take j) k = K0 at *
      clear hK1 hps
      by_cases hy : ya = k
      · rw [if_pos hy] at hsn
        subst hsn
        have ty : (ya == k) = true := by simp [hy]
        have HAP := Lib.hid (show ints K0 ++ ints [yp] = ints (K0 ++ [yp]) from ints_app' _ _)
        clear hy
        go_wp2_with (at_builtin; have r7 := (q1.alloc (.cells #[.int .i64 yp] 3)); refine wpl_append _ rfl (.tmp 32) (.tmp 34) 30 rfl 3 i0 _ 1 8 Try.underlying30 HI.out hz0 hz1 hz2 rfl (by omega) w3.heap.size R K0.length c1 _ rfl r7 _ 1 1 (ints [yp]) rfl rfl (rd1i _ _) (ints_one _) (K0.length + 1) _ rfl HAP.out (by omega) (by omega) (by simp; have := q2.size; omega) ?_; intro A2 c2 w6 o6 g6 k6)
        have e6 := below_grown (Ext.trans q2 (Ext.alloc _ (.cells #[.int .i64 yp] 3))) g6 (by simp; have := q2.size; omega) (fun g' hg' => (q1.at_ g' hg').1)
        go_roundw
        case rel => exact ⟨j + 1, A2, c2, by rw [HK1.out]; simp, by go_num, by omega, by rw [HK1.out]; simpa using o6, e6⟩
        case measure => simp [intOf]; omega
      · rw [if_neg hy] at hsn
        subst hsn
        have ty : (ya == k) = false := by simp [hy]
        clear hy
        go_wp2
        go_roundw
        case rel => exact ⟨j + 1, R, c1, by rw [HK1.out], by go_num, by omega, by rw [HK1.out]; exact q1, q2⟩
        case measure => simp [intOf]; omega
    · obtain rfl : L.length = j := by omega
      rw [List.take_length] at q1 ⊢
      have HR := Lib.hid (q1.mono e3.size)
      go_wp2
      go_ret
      exact ⟨R, c1, by rw [HE.out]; rfl, by rw [HE.out]; exact HR.out, Ext.trans e3 q2⟩
theorem p_children_nil (k : Int) (w : World) : Calls Try.prog 12 #[.pointer none, .int .i64 k] w fun e w' => e = .returned (.slice none 0 0) ∧ w = w' := by
  go_enter Try.func12, Try.ntmps12
  go_wp2_with ((with_reducible go_at_call 20); (with_reducible refine (p_alive_nil _ _).mono ?_); rintro e w' ⟨rfl, rfl⟩)
  go_ret
  exact ⟨rfl, rfl⟩

/-- What leave leaves. -/
def leaveL (L : List PR) (k : Int) : List PR := if oDead (pget L k) = true then pdel (pput L ⟨k, -1, oCode (pget L k), oDead (pget L k)⟩) k else pput L ⟨k, -1, oCode (pget L k), oDead (pget L k)⟩
theorem PS.del {w w' : World} {g gm : Nat} {L : List PR} {n : Nat} (h : PS w g gm L) (k : Int) (hm : w'.ownsMap Try.prog 3 prd gm n ((dmap L).del (.int .i64 k))) (hg : w.grownBy w' (some gm)) : PS w' g gm (pdel L k) :=
  ⟨h.own.grown hg (fun q => h.ne (by injection q)), by rw [dmap_del] at hm; exact tight hm, h.srt.del k, fun r hr => h.wf r (pdel_mem.1 hr).1, h.ne⟩

set_option maxRecDepth 100000 in
set_option maxHeartbeats 4000000 in
theorem p_leave (g gm : Nat) (L : List PR) (k : Int) (w : World) (h : PS w g gm L) (hk : I64 k) (hn : L.length ≤ 65536) :
    Calls Try.prog 25 #[.pointer (some ⟨g, 0, none⟩), .int .i64 k] w fun e w' => e = .returned (.tuple #[]) ∧ PT w w' g gm (leaveL L k) := by
  have hrun := h.look hk
  have hc := h.cell
  have HH := Lib.hid h
  have hl : leaveL L k = if oDead (pget L k) = true then pdel (pput L ⟨k, -1, oCode (pget L k), oDead (pget L k)⟩) k else pput L ⟨k, -1, oCode (pget L k), oDead (pget L k)⟩ := rfl
  generalize oPar (pget L k) = a at *
  generalize oCode (pget L k) = c at *
  generalize oDead (pget L k) = d at *
  have HL := Lib.hid hl
  have HK := Lib.hid hk
  have hlt := (Own.lt h.own)
  have hmlt := h.map.lt
  clear h hk hl
  go_enter Try.func25, Try.ntmps25
  go_wp2_with (first | (refine wpl_alloc_own _ rfl 56 rfl (pval 0 0 false) zero_proc ?_; intro w2 o2 b2 s2; clear s2) | (refine wpl_store_own _ rfl 56 _ _ rfl 3 size_proc _ rfl [.int .i64 a, .int .i64 c, .bool d] rfl _ _ o2 rfl rfl (by simp [Value.oneCell']) ?_; intro w3 o3 g3 s3; clear s3; have b3 := below_of_grown b2 g3 (Nat.le_refl _) b2.size; have x0 := o3.cell 0; have x1 := o3.cell 1; have x2 := o3.cell 2; simp only [List.getElem?_cons_zero, List.getElem?_cons_succ] at x0 x1 x2; have f0 := o3.frozen 0))
  have oN : Own (w3.setCell ⟨w.heap.size, 0, none⟩ (.int .i64 (-1))) w.heap.size 56 [.int .i64 (-1), .int .i64 c, .bool d] := o3.set 0 (.int .i64 (-1))
  have bN : Ext w (w3.setCell ⟨w.heap.size, 0, none⟩ (.int .i64 (-1))) := b3.setCell (p := ⟨w.heap.size, 0, none⟩) (Nat.le_refl _) _
  clear x0 x1 x2 f0 o3 o2 g3 b2 b3
  generalize w3.setCell ⟨w.heap.size, 0, none⟩ (.int .i64 (-1)) = w4 at *
  have hP := HH.out.keep bN
  have hc4 := hP.cell
  have HN := Lib.hid oN
  refine wp_region_dep_tail 6 (S := Ext) (C := Ext (w4)) (by kernel_rfl) (by kernel_rfl) rfl Ext.refl (Ext.drew _) ?_
  simp only [List.take_succ_cons, List.take_zero]
  repeat (refine dep_det (by rfl) (fun K hK => ?_); go_simp; first
    | ((with_reducible refine hK _ ?_); clear hK K)
    | (rw [if_neg (by decide)]; (with_reducible refine hK _ ?_); clear hK K)
    | (refine ⟨_, fun w1 hw1 => ⟨Ext.refl w1, hw1, rfl⟩, hK _ ?_⟩; clear hK K)
    | (apply Exists.intro; refine ⟨fun w1 hw1 => ?_, hK _ ?_⟩
       first
         | (have c_hc4 := cell_keep hw1 hc4; go_simp; first | exact ⟨Ext.refl _, hw1, rfl⟩ | exact ⟨Ext.refl _, rfl⟩)
       clear hK K))
  refine dep_load_rd' (by rfl) 56 _ rfl (by kernel_rfl) 3 size_proc w.heap.size 0 (by rfl) [.int .i64 (-1), .int .i64 c, .bool d] rfl (by go_simp) Ext.refl (fun w1 hw1 j v hv => by rw [Nat.zero_add, (HN.out.keep hw1).cell j]; exact hv) ?_
  refine dep_nil ?_
  intro a' w' hC hE
  obtain rfl := atEnd_nil hE
  clear hE
  simp only [List.drop_succ_cons, List.drop_zero]
  have hP5 := hP.keep hC
  have oX := oN.keep hC
  have b5 := Ext.trans bN hC
  clear hc4 hP oN HN
  cases d
  · have HL2 := Lib.hid (show leaveL L k = pput L ⟨k, -1, c, false⟩ by rw [HL.out]; rfl)
    go_wp2_with (at_mapUpdate; refine wpList_mapUpdate_own _ rfl _ _ _ 52 rfl 3 56 keyed_int' Try.underlying52 prd gm L.length (dmap L) rfl hP5.map (by unfold maxLen; omega) (.int .i64 k) (pval (-1) c false) (.int .i64 k) rfl rfl (keyOf_int_mk Try.underlying3 (wf_i64' HK.out)) (penc (-1) c false) [] rfl ?_; intro w4' m4 g4; have oY := oX.grown g4 (fun q => by injection q with q; omega); have y2 : w4'.cell? ⟨w.heap.size, 2, none⟩ = some (.bool false) := oY.cell 2)
    have hPT : PT w w4' g gm (pput L ⟨k, -1, c, false⟩) := ⟨hP5.put ⟨k, -1, c, false⟩ HK.out m4 g4, World.grownBy.trans ⟨b5.os, b5.tape, b5.output, b5.size, fun i hi _ => b5.block i hi⟩ g4⟩
    exact bodyPost_end (results_none rfl _ _ _) rfl ⟨rfl, by rw [HL2.out]; exact hPT⟩
  · have HL2 := Lib.hid (show leaveL L k = pdel (pput L ⟨k, -1, c, true⟩) k by rw [HL.out]; rfl)
    go_wp2_with (first | (at_mapUpdate; refine wpList_mapUpdate_own _ rfl _ _ _ 52 rfl 3 56 keyed_int' Try.underlying52 prd gm L.length (dmap L) rfl hP5.map (by unfold maxLen; omega) (.int .i64 k) (pval (-1) c true) (.int .i64 k) rfl rfl (keyOf_int_mk Try.underlying3 (wf_i64' HK.out)) (penc (-1) c true) [] rfl ?_; intro w4' m4 g4; have oY := oX.grown g4 (fun q => by injection q with q; omega); have y2 : w4'.cell? ⟨w.heap.size, 2, none⟩ = some (.bool true) := oY.cell 2; have hPS := hP5.put ⟨k, -1, c, true⟩ HK.out m4 g4; have hc6 := hPS.cell) | (at_delete; refine wpList_delete_own _ rfl _ _ 52 3 rfl 56 keyed_int' Try.underlying52 prd gm (pput L ⟨k, -1, c, true⟩).length (dmap (pput L ⟨k, -1, c, true⟩)) rfl (hPS).map (.int .i64 k) (.int .i64 k) rfl (keyOf_int_mk Try.underlying3 (wf_i64' HK.out)) ?_; intro w6 m6 t6))
    exact bodyPost_end (results_none rfl _ _ _) rfl ⟨rfl, by rw [HL2.out]; exact ⟨hPS.del k m6 t6.grown, World.grownBy.trans (World.grownBy.trans ⟨b5.os, b5.tape, b5.output, b5.size, fun i hi _ => b5.block i hi⟩ g4) t6.grown⟩⟩

end Go.Proofs.Ytdgggdhligfnpaa
