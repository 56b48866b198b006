/-
  WALKS of package admit: base, and what its askers ask.
-/
import Derived.Test.YtdninhdabeddeaaAdmD
import Derived.Test.YtdninhdabeddeaaPrioA
namespace Go.Proofs.Ytdninhdabeddeaa
open Go.RowKit
attribute [local go_sem] depUpon Sp.ok

set_option maxRecDepth 100000 in
theorem size_task' : (Try.prog.info? 47).map (·.size) = some 8 := by kernel_rfl
set_option maxRecDepth 100000 in
theorem size_asker : (Try.prog.info? 77).map (·.size) = some 8 := by kernel_rfl
/-- Does y count for what may block x? Does its work come ahead? -/
def cntB (x y : TK) : Bool := decide (x.cls = 1) || (decide (y.cls = 2) && decide (0 ≤ pcmp y.cls y.lvl 0 x.cls x.lvl 0))
def ahdB (x y : TK) : Bool := decide (y.cls = 2) && cntB x y

theorem run_load_rd {P : Program} (w : World) (ty : TypeId) (hd : aggB (P.underlying ty) = true) (n : Nat) (hi : (P.info? ty).map (·.size) = some n) (b off : Nat) (cs : List Value) (hn : cs.length = n) (hc : ∀ j v, cs[j]? = some v → w.cell? ⟨b, off + j, none⟩ = some v) :
    (Instr.loadAt ty (.pointer (some ⟨b, off, none⟩))).run P w = .ok (.agg cs.toArray) w := by
  obtain ⟨d, h1, h2⟩ := aggB_spec hd
  have hl := run_loadCells_list (P := P) w ⟨b, off, none⟩ cs (fun j v hv => by
    have hadd : (⟨b, off, none⟩ : Addr).add j = ⟨b, off + j, none⟩ := by unfold Addr.add; split <;> simp_all
    rw [hadd]; exact hc j v hv)
  cases hq : P.info? ty with
  | none => simp [hq] at hi
  | some i =>
    have hsz : i.size = n := by simpa [hq] using hi
    have hagg : (isAgg ty).run P w = .ok true w := by
      unfold isAgg
      cases d <;> first | (simp at h2; done) | simp [run_underlying h1, go_sem]
    have hs : (sizeOf ty).run P w = .ok cs.length w := by simp [sizeOf, typeInfo, hq, hsz, hn, go_sem]
    have hl' : (loadCellsFrom ⟨b, off, none⟩ 0 cs.length #[]).run P w = .ok cs.toArray w := by simpa [loadCells] using hl
    simp [Instr.loadAt, Instr.sureAddr, loadVar, hagg, hs, hl', go_sem]
section
variable {P : Program} {ops : Array Oper} {S : World → World → Prop} {C : World → Prop} {Q : Kn → Act → Prop} {o : Oper} {rest : List Oper} {F : Kn} {s : Act}
/-- In a region that draws its order: a whole struct out of cells that read so. -/
theorem dep_load_rd (hk : plainB ops o (F.map (·.1)) = true) (ty : TypeId) (x : Operand) (hop : o.op = .load ty x) (hd : aggB (P.underlying ty) = true) (n : Nat) (hi : (P.info? ty).map (·.size) = some n)
    (b off : Nat) (hx : s.eval x = .pointer (some ⟨b, off, none⟩)) (cs : List Value) (hn : cs.length = n) (hw : Region.wanted o (yielded ops s.tmps) = true) (hS : ∀ w, S w w)
    (hc : ∀ w, C w → ∀ j v, cs[j]? = some v → w.cell? ⟨b, off + j, none⟩ = some v)
    (h : depWalk P ops S C Q rest F (s.put o.dst (.agg cs.toArray))) : depWalk P ops S C Q (o :: rest) F s := by
  refine dep_det hk fun K hK => ?_
  rw [if_pos hw]
  refine ⟨_, fun w hC => ?_, hK _ h⟩
  have hr := run_load_rd (P := P) w ty hd n hi b off cs hn (hc w hC)
  simp only [execOp, hop, hx]
  simp [hr, Result.andThen]
  exact ⟨hS w, hC, rfl⟩
end

set_option maxRecDepth 100000 in
set_option maxHeartbeats 1000000 in
theorem a_base (x : TK) (w : World) :
    Calls Try.prog 55 #[.agg #[.int .i64 x.cls, .int .i64 x.lvl, .int .i64 x.per, .int .i64 x.ddl, .int .i64 x.bud, .int .i64 x.line, .slice x.U x.un x.uc, .slice x.O x.on x.oc]] w fun e w' => e = .returned (.agg #[.int .i64 x.cls, .int .i64 x.lvl, .int .i64 0]) ∧ Below w.heap.size w w' := by
  go_enter Try.func55, Try.ntmps55
  go_wp2
  exact bodyPost_ret (v := .agg #[.int .i64 x.cls, .int .i64 x.lvl, .int .i64 0]) (by simp [results, Try.results55, go_sem]) rfl ⟨rfl, Ext.trans (Ext.alloc _ _) (Ext.alloc _ _)⟩

set_option maxRecDepth 100000 in
set_option maxHeartbeats 2000000 in
theorem a_blocks (x y : TK) (w : World) :
    Calls Try.prog 35 #[.agg #[.int .i64 x.cls, .int .i64 x.lvl, .int .i64 x.per, .int .i64 x.ddl, .int .i64 x.bud, .int .i64 x.line, .slice x.U x.un x.uc, .slice x.O x.on x.oc], .agg #[.int .i64 y.cls, .int .i64 y.lvl, .int .i64 y.per, .int .i64 y.ddl, .int .i64 y.bud, .int .i64 y.line, .slice y.U y.un y.uc, .slice y.O y.on y.oc]] w fun e w' => e = .returned (.bool (cntB x y)) ∧ Below w.heap.size w w' := by
  have hb0 : Ext w ((w.alloc (.cells #[.int .i64 x.cls, .int .i64 x.lvl, .int .i64 x.per, .int .i64 x.ddl, .int .i64 x.bud, .int .i64 x.line, .slice x.U x.un x.uc, .slice x.O x.on x.oc] 77)).alloc (.cells #[.int .i64 y.cls, .int .i64 y.lvl, .int .i64 y.per, .int .i64 y.ddl, .int .i64 y.bud, .int .i64 y.line, .slice y.U y.un y.uc, .slice y.O y.on y.oc] 47)) := Ext.trans (Ext.alloc _ _) (Ext.alloc _ _)
  have oX := (Own.new w 77 [.int .i64 x.cls, .int .i64 x.lvl, .int .i64 x.per, .int .i64 x.ddl, .int .i64 x.bud, .int .i64 x.line, .slice x.U x.un x.uc, .slice x.O x.on x.oc]).alloc (.cells #[.int .i64 y.cls, .int .i64 y.lvl, .int .i64 y.per, .int .i64 y.ddl, .int .i64 y.bud, .int .i64 y.line, .slice y.U y.un y.uc, .slice y.O y.on y.oc] 47)
  have oY := Own.new (w.alloc (.cells #[.int .i64 x.cls, .int .i64 x.lvl, .int .i64 x.per, .int .i64 x.ddl, .int .i64 x.bud, .int .i64 x.line, .slice x.U x.un x.uc, .slice x.O x.on x.oc] 77)) 47 [.int .i64 y.cls, .int .i64 y.lvl, .int .i64 y.per, .int .i64 y.ddl, .int .i64 y.bud, .int .i64 y.line, .slice y.U y.un y.uc, .slice y.O y.on y.oc]
  rw [World.size_alloc] at oY
  have x0 := oX.cell 0
  have y0 := oY.cell 0
  simp only [List.getElem?_cons_zero] at x0 y0
  have HBX := Lib.hid (fun w => a_base x w)
  have HBY := Lib.hid (fun w => a_base y w)
  by_cases h1 : x.cls = 1
  · have t1 : (x.cls == 1) = true := by simp [h1]
    have HQ := Lib.hid (show cntB x y = true by simp [cntB, h1])
    clear h1
    go_enter Try.func35, Try.ntmps35
    go_wp2
    refine wp_region_dep (S := Ext) (C := Ext (_)) (by kernel_rfl) (by kernel_rfl) rfl Ext.refl (Ext.drew _) ?_
    repeat (refine dep_det (by rfl) (fun K hK => ?_); go_simp; first
      | ((with_reducible refine hK _ ?_); clear hK K)
      | (rw [if_neg (by decide)]; (with_reducible refine hK _ ?_); clear hK K)
      | (refine ⟨_, fun w1 hw1 => ⟨Ext.refl w1, hw1, rfl⟩, hK _ ?_⟩; clear hK K)
      | (apply Exists.intro; refine ⟨fun w1 hw1 => ?_, hK _ ?_⟩
         first
           | (have c_x0 := cell_keep hw1 x0; have c_y0 := cell_keep hw1 y0; go_simp; first | exact ⟨Ext.refl _, hw1, rfl⟩ | exact ⟨Ext.refl _, rfl⟩)
         clear hK K))
    refine dep_nil ?_
    intro a' w' hC hE
    obtain rfl := atEnd_nil hE
    clear hE
    go_wp2
    go_ret
    exact ⟨by rw [HQ.out]; rfl, Ext.trans hb0 hC⟩
  · have t1 : (x.cls == 1) = false := by simp [h1]
    by_cases h2 : y.cls = 2
    · have t2 : (y.cls == 2) = true := by simp [h2]
      have HQ := Lib.hid (show cntB x y = decide (0 ≤ pcmp y.cls y.lvl 0 x.cls x.lvl 0) by simp [cntB, h1, h2])
      have hcmp := fun w => prio_compare y.cls y.lvl 0 x.cls x.lvl 0 w
      generalize pcmp y.cls y.lvl 0 x.cls x.lvl 0 = z at *
      have HCM := Lib.hid hcmp
      have OX := Lib.hid oX
      have OY := Lib.hid oY
      clear h1 h2 hcmp oX oY
      go_enter Try.func35, Try.ntmps35
      go_wp2
      refine wp_region_dep (S := Ext) (C := Ext (_)) (by kernel_rfl) (by kernel_rfl) rfl Ext.refl (Ext.drew _) ?_
      repeat (refine dep_det (by rfl) (fun K hK => ?_); go_simp; first
        | ((with_reducible refine hK _ ?_); clear hK K)
        | (rw [if_neg (by decide)]; (with_reducible refine hK _ ?_); clear hK K)
        | (refine ⟨_, fun w1 hw1 => ⟨Ext.refl w1, hw1, rfl⟩, hK _ ?_⟩; clear hK K)
        | (apply Exists.intro; refine ⟨fun w1 hw1 => ?_, hK _ ?_⟩
           first
             | (have c_x0 := cell_keep hw1 x0; have c_y0 := cell_keep hw1 y0; go_simp; first | exact ⟨Ext.refl _, hw1, rfl⟩ | exact ⟨Ext.refl _, rfl⟩)
           clear hK K))
      refine dep_load_rd (by rfl) 47 _ rfl (by kernel_rfl) 8 size_task' (w.heap.size + 1) 0 (by rfl) [.int .i64 y.cls, .int .i64 y.lvl, .int .i64 y.per, .int .i64 y.ddl, .int .i64 y.bud, .int .i64 y.line, .slice y.U y.un y.uc, .slice y.O y.on y.oc] rfl (by go_simp) Ext.refl (fun w1 hw1 j v hv => by rw [Nat.zero_add, (OY.out.keep hw1).cell j]; exact hv) ?_
      repeat (refine dep_det (by rfl) (fun K hK => ?_); go_simp; first
        | ((with_reducible refine hK _ ?_); clear hK K)
        | (rw [if_neg (by decide)]; (with_reducible refine hK _ ?_); clear hK K)
        | (refine ⟨_, fun w1 hw1 => ⟨Ext.refl w1, hw1, rfl⟩, hK _ ?_⟩; clear hK K)
        | (apply Exists.intro; refine ⟨fun w1 hw1 => ?_, hK _ ?_⟩
           first
             | (go_at_call 55; ((with_reducible refine (HBY.out _).mono ?_); rintro e w' ⟨rfl, hb'⟩; exact ⟨_, rfl, hb', Ext.trans hw1 hb', rfl⟩))
             | (have c_x0 := cell_keep hw1 x0; have c_y0 := cell_keep hw1 y0; go_simp; first | exact ⟨Ext.refl _, hw1, rfl⟩ | exact ⟨Ext.refl _, rfl⟩)
           clear hK K))
      refine dep_load_rd (by rfl) 47 _ rfl (by kernel_rfl) 8 size_task' w.heap.size 0 (by rfl) [.int .i64 x.cls, .int .i64 x.lvl, .int .i64 x.per, .int .i64 x.ddl, .int .i64 x.bud, .int .i64 x.line, .slice x.U x.un x.uc, .slice x.O x.on x.oc] rfl (by go_simp) Ext.refl (fun w1 hw1 j v hv => by rw [Nat.zero_add, (OX.out.keep hw1).cell j]; exact hv) ?_
      repeat (refine dep_det (by rfl) (fun K hK => ?_); go_simp; first
        | ((with_reducible refine hK _ ?_); clear hK K)
        | (rw [if_neg (by decide)]; (with_reducible refine hK _ ?_); clear hK K)
        | (refine ⟨_, fun w1 hw1 => ⟨Ext.refl w1, hw1, rfl⟩, hK _ ?_⟩; clear hK K)
        | (apply Exists.intro; refine ⟨fun w1 hw1 => ?_, hK _ ?_⟩
           first
             | (go_at_call 55; ((with_reducible refine (HBX.out _).mono ?_); rintro e w' ⟨rfl, hb'⟩; exact ⟨_, rfl, hb', Ext.trans hw1 hb', rfl⟩))
             | (go_at_call 54; ((with_reducible refine (HCM.out _).mono ?_); rintro e w' ⟨rfl, hb'⟩; exact ⟨_, rfl, hb', Ext.trans hw1 hb', rfl⟩))
             | (have c_x0 := cell_keep hw1 x0; have c_y0 := cell_keep hw1 y0; go_simp; first | exact ⟨Ext.refl _, hw1, rfl⟩ | exact ⟨Ext.refl _, rfl⟩)
           clear hK K))
      refine dep_nil ?_
      intro a' w' hC hE
      obtain rfl := atEnd_nil hE
      clear hE
      go_wp2
      go_ret
      exact ⟨by rw [HQ.out]; rfl, Ext.trans hb0 hC⟩
    · have t2 : (y.cls == 2) = false := by simp [h2]
      have HQ := Lib.hid (show cntB x y = false by simp [cntB, h1, h2])
      clear h1 h2
      go_enter Try.func35, Try.ntmps35
      go_wp2
      refine wp_region_dep (S := Ext) (C := Ext (_)) (by kernel_rfl) (by kernel_rfl) rfl Ext.refl (Ext.drew _) ?_
      repeat (refine dep_det (by rfl) (fun K hK => ?_); go_simp; first
        | ((with_reducible refine hK _ ?_); clear hK K)
        | (rw [if_neg (by decide)]; (with_reducible refine hK _ ?_); clear hK K)
        | (refine ⟨_, fun w1 hw1 => ⟨Ext.refl w1, hw1, rfl⟩, hK _ ?_⟩; clear hK K)
        | (apply Exists.intro; refine ⟨fun w1 hw1 => ?_, hK _ ?_⟩
           first
             | (have c_x0 := cell_keep hw1 x0; have c_y0 := cell_keep hw1 y0; go_simp; first | exact ⟨Ext.refl _, hw1, rfl⟩ | exact ⟨Ext.refl _, rfl⟩)
           clear hK K))
      refine dep_nil ?_
      intro a' w' hC hE
      obtain rfl := atEnd_nil hE
      clear hE
      go_wp2
      go_ret
      exact ⟨by rw [HQ.out]; rfl, Ext.trans hb0 hC⟩

end Go.Proofs.Ytdninhdabeddeaa
