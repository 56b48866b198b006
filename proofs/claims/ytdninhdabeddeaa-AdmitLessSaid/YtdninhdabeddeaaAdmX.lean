/-
  THE STATEMENT AdmitBest: the walk.
-/
import Derived.Test.YtdninhdabeddeaaAdmT
import Derived.Test.YtdninhdabeddeaaOver
import Derived.Test.YtdninhdabeddeaaAdmW
import Derived.Test.YtdninhdabeddeaaFrame
namespace Go.Proofs.Ytdninhdabeddeaa
open Go.ChangeShapes Go.WideShapes Go.ChangeAt Go.RowKit
attribute [local go_sem] depUpon Sp.ok readsTo

section
variable {H : Type} {enc : TypeId × Value → H} {W : World} {base : Nat} {v : Value} {d : DataW H} {p : List MemPlace}
set_option maxRecDepth 100000 in
theorem open_efforts (hv : Value.okWide Try.prog W .any base 23 v) (h : DataW.Trod enc Try.prog W 0 (fun _ => true) true 23 v d p) : ∃ A n c es, v = .slice A n c ∧ BestArg W A n es := by
  obtain ⟨A, n, c, rfl⟩ := okWide_slice Try.underlying23 hv
  obtain ⟨fuel, hf⟩ := h
  simp only [Value.cells] at hf
  obtain ⟨b1, _, LB, b3, b4, b5⟩ := open_list (fun cs => ∃ y : EF, y.cs = cs ∧ y.Ok W) (fun _ _ _ h => effort_of h) Try.underlying23 (by kernel_rfl : Try.prog.cellsOf 60 = 2) (by omega) hf
  obtain ⟨es, rfl, hes⟩ := choose_map EF.cs (EF.Ok W) LB (fun x hx => (b4 x hx).2)
  exact ⟨A, n, c, es, rfl, by simpa using b3, b1, hes, b5⟩
end

theorem flat_set (m : Nat) (j : Nat) (hj : j < m) (v : Value) : ∀ (L : List (List Value)) (_ : ∀ x ∈ L, x.length = m) (k : Nat) (hk : k < L.length), (flat L).set (k * m + j) v = flat (L.set k ((L[k]).set j v))
  | x :: L, hl, 0, _ => by
    have hx : x.length = m := hl x (by simp)
    have e : flat (x :: L) = x ++ flat L := rfl
    rw [e, Nat.zero_mul, Nat.zero_add, List.set_append_left _ _ (by omega)]
    rfl
  | x :: L, hl, k + 1, hk => by
    have hx : x.length = m := hl x (by simp)
    have ih := flat_set m j hj v L (fun y hy => hl y (by simp [hy])) k (by simpa using hk)
    have e : flat (x :: L) = x ++ flat L := rfl
    have e2 : (k + 1) * m + j = m + (k * m + j) := by rw [Nat.add_mul]; omega
    rw [e, e2, List.set_append_right _ _ (by omega), hx, Nat.add_sub_cancel_left, ih]
    rfl

/-- A task with another program. -/
def prgd (x : TK) (O : Option Addr) (os : List (List Value)) : TK := ⟨x.cls, x.lvl, x.per, x.ddl, x.bud, x.line, x.U, x.un, x.uc, x.us, O, 1, 1, os⟩
theorem core_prgd (x : TK) (O : Option Addr) (os : List (List Value)) : core (prgd x O os) = core x := rfl
theorem cs_prgd (us : List TK) {k : Nat} (hk : k < us.length) (O : Option Addr) (os : List (List Value)) : (flat (us.map TK.cs)).set (k * 8 + 7) (.slice O 1 1) = flat ((us.set k (prgd us[k] O os)).map TK.cs) := by
  rw [flat_set 8 7 (by omega) _ (us.map TK.cs) (by intro x hx; obtain ⟨y, _, rfl⟩ := List.mem_map.1 hx; rfl) k (by simpa using hk), List.map_set]
  congr 2
  simp [TK.cs, prgd]
/-- The one step of a program. -/
def opj : List Value := [.int .i64 5, .int .i64 0, .int .i64 0, .int .i64 0, .int .i64 0, .int .i64 0, .int .i64 0, .string (.mk #[]), .string (.mk #[])]
structure PrgOk (w wr : World) (row : Option Nat) (x : TK) : Prop where
  wf : I64 x.cls ∧ I64 x.lvl ∧ I64 x.per ∧ I64 x.ddl ∧ I64 x.bud ∧ I64 x.line
  us : IntsArg w x.U x.un x.us
  uc : x.un ≤ x.uc
  os : OpsArg w x.O x.on x.os ∨ ∃ g, x.O = some ⟨g, 0, none⟩ ∧ x.on = 1 ∧ x.os = [opj] ∧ Own wr g 52 opj ∧ some g ≠ row
theorem PrgOk.grown {w wr wq : World} {row : Option Nat} {x : TK} (h : PrgOk w wr row x) (hg : wr.grownBy wq row) : PrgOk w wq row x :=
  ⟨h.wf, h.us, h.uc, h.os.imp id fun ⟨g, e1, e2, e3, ho, hne⟩ => ⟨g, e1, e2, e3, ho.grown hg hne, hne⟩⟩
theorem PrgOk.keep {w wr wq : World} {row : Option Nat} {x : TK} (h : PrgOk w wr row x) (hg : Ext wr wq) : PrgOk w wq row x :=
  h.grown ⟨hg.os, hg.tape, hg.output, hg.size, fun i hi _ => hg.block i hi⟩
theorem PrgOk.toOk {w wr : World} {row : Option Nat} {x : TK} (h : PrgOk w wr row x) (hb : Ext w wr) : x.Ok wr := by
  refine ⟨h.wf, h.us.keep hb, h.uc, ?_⟩
  rcases h.os with ho | ⟨g, e1, e2, e3, ho, _⟩
  · exact ho.keep hb
  · rw [e1, e2, e3]
    exact ⟨rfl, by omega, by intro x hx; simp at hx; subst hx; exact ⟨rfl, _, _, rfl, rfl⟩, ho.rd0⟩
structure URel (w wr : World) (row : Option Nat) (ts us : List TK) : Prop where
  core : us.map core = ts.map core
  ons : ∀ x ∈ us, x.on ≤ 40
  ok : ∀ x ∈ us, PrgOk w wr row x
theorem URel.len {w wr : World} {row : Option Nat} {ts us : List TK} (h : URel w wr row ts us) : us.length = ts.length := by
  have := congrArg List.length h.core
  simpa using this
theorem URel.keep {w wr wq : World} {row : Option Nat} {ts us : List TK} (h : URel w wr row ts us) (hg : Ext wr wq) : URel w wq row ts us := ⟨h.core, h.ons, fun x hx => (h.ok x hx).keep hg⟩
theorem URel.set {w wr wq : World} {row : Option Nat} {ts us : List TK} (h : URel w wr row ts us) {k : Nat} (hk : k < us.length) (hg : wr.grownBy wq row) {g : Nat} (ho : Own wq g 52 opj) (hne : some g ≠ row) : URel w wq row ts (us.set k (prgd us[k] (some ⟨g, 0, none⟩) [opj])) := by
  have hmem : ∀ x ∈ us.set k (prgd us[k] (some ⟨g, 0, none⟩) [opj]), x ∈ us ∨ x = prgd us[k] (some ⟨g, 0, none⟩) [opj] := fun x hx => (List.mem_or_eq_of_mem_set hx)
  refine ⟨?_, fun x hx => ?_, fun x hx => ?_⟩
  · rw [← h.core, List.map_set, core_prgd]
    refine List.ext_getElem? fun j => ?_
    rw [List.getElem?_set]
    by_cases e : k = j
    · subst e
      simp [hk]
    · simp [e]
  · rcases hmem x hx with h1 | rfl
    · exact h.ons x h1
    · show 1 ≤ 40; omega
  · rcases hmem x hx with h1 | rfl
    · exact (h.ok x h1).grown hg
    · have hx := h.ok us[k] (List.getElem_mem hk)
      exact ⟨hx.wf, hx.us, hx.uc, .inr ⟨g, rfl, rfl, rfl, ho, hne⟩⟩

theorem setCell_grown (w : World) (p : Addr) (v : Value) : w.grownBy (w.setCell p v) (some p.block) := ⟨rfl, rfl, rfl, by simp, fun j _ hj => heap_setCell_other w p j v (fun q => hj (by rw [q]))⟩
set_option maxRecDepth 100000 in
theorem info_task : (Try.prog.info? 47).map (fun i => (i.zero, i.size, i.bytes)) = some (some ztk, 8, 96) := by kernel_rfl
theorem flat_one {ts : List TK} : ∀ u ∈ flat (ts.map TK.cs), u.oneCell' = true := by
  intro u hu
  unfold flat at hu
  obtain ⟨l, hl, hu⟩ := List.mem_flatMap.1 hu
  obtain ⟨y, _, rfl⟩ := List.mem_map.1 hl
  exact TK.one y u hu

set_option maxRecDepth 100000 in
set_option maxHeartbeats 8000000 in
theorem law_admitbest (A : Option Addr) (nt ct : Nat) (ts : List TK) (B : Option Addr) (nb cb : Nat) (bs : List EF) (M : Option Addr) (nm cm : Nat) (ms : List (Int × Int)) (G : Option Addr) (ng cg : Nat) (gs : List Int) (fr dog : Int) (E : Option Addr) (ne ce : Nat) (es : List EF) (w : World) (h : ConfArg w A nt ts B nb bs M nm ms G ng gs fr dog) (_ : nt ≤ ct ∧ nb ≤ cb ∧ nm ≤ cm ∧ ng ≤ cg) (he : BestArg w E ne es) :
    Calls Try.prog 5 #[.agg #[.slice A nt ct, .slice B nb cb, .slice M nm cm, .slice G ng cg, .int .i64 fr, .int .i64 dog], .slice E ne ce] w fun e w' => e = .returned (.bool true) ∧ Below w.heap.size w w' := by
  have h2 : ConfArg w A nt ts E ne es M nm ms G ng gs fr dog := ⟨h.tasks, he, h.mtx, h.gaps, h.fr, h.dog⟩
  have HG := Lib.hid (fun w' (h' : Ext w w') => l_conf A nt ct ts B nb cb bs M nm cm ms G ng cg gs fr dog w' (h.keep h'))
  have HG2 := Lib.hid (fun w' (h' : Ext w w') => l_conf A nt ct ts E ne ce es M nm cm ms G ng cg gs fr dog w' (h2.keep h'))
  have HAW := Lib.hid (fun w => adm_awake w)
  have oV := Own.new w 27 [.slice A nt ct, .slice B nb cb, .slice M nm cm, .slice G ng cg, .int .i64 fr, .int .i64 dog]
  have bV : Ext w (w.alloc (.cells #[.slice A nt ct, .slice B nb cb, .slice M nm cm, .slice G ng cg, .int .i64 fr, .int .i64 dog] 27)) := Ext.alloc _ _
  have HH := Lib.hid h
  have HH2 := Lib.hid h2
  clear h h2 he
  go_enter Try.func5, Try.ntmps5
  go_wp2_with (refine wpl_load_w _ ?_ 27 _ rfl (by kernel_rfl) 6 size_conf _ rfl _ _ oV rfl ?_; focus (go_simp; done))
  refine (HG.out _ bV).mono ?_
  rintro e w1 ⟨⟨b, rfl, hs⟩, b1⟩
  replace oV := oV.keep b1
  replace bV := Ext.trans bV b1
  cases b
  case true =>
    clear hs oV
    go_wp2_with ((with_reducible go_at_call 9); (with_reducible refine (HAW.out _).mono ?_); rintro e w2 ⟨rfl, b2⟩)
    go_ret
    exact ⟨rfl, Ext.trans bV b2⟩
  obtain ⟨n12, nb12, nm12, ng12⟩ := hs rfl
  clear hs HG
  by_cases h6 : (6 : Int) < (ne : Int)
  · go_wp2_with ((with_reducible go_at_call 9); (with_reducible refine (HAW.out _).mono ?_); rintro e w2 ⟨rfl, b2⟩)
    go_ret
    exact ⟨rfl, Ext.trans bV b2⟩
  have HM := Lib.hid (fun w' (h' : Ext w w') => a_may A nt ct ts B nb cb bs M nm cm ms G ng cg gs fr dog w' (HH.out.keep h') (by omega))
  have HM2 := Lib.hid (fun w' (h' : Ext w w') => a_may A nt ct ts E ne ce es M nm cm ms G ng cg gs fr dog w' (HH2.out.keep h') (by omega))
  go_wp2_with (first
    | (refine wpl_load_w _ ?_ 27 _ rfl (by kernel_rfl) 6 size_conf _ rfl _ _ oV rfl ?_; focus (go_simp; done))
    | (refine wpl_alloc_own _ rfl 27 rfl zcf zero_conf ?_; intro w2 o2 b2 s2; clear s2)
    | (refine wpl_store_own _ rfl 27 _ _ rfl 6 size_conf _ rfl [.slice A nt ct, .slice B nb cb, .slice M nm cm, .slice G ng cg, .int .i64 fr, .int .i64 dog] rfl _ _ o2 rfl rfl (by simp [Value.oneCell']) ?_; intro w3 o3 g3 s3; clear s3; have e3 := below_of_grown b2 g3 (Nat.le_refl _) b2.size; have hgd := (Own.lt oV); have oW := (oV.keep e3).far (p := ⟨w1.heap.size, 1, none⟩) (Nat.ne_of_lt hgd) (.slice E ne ce); have v1 : w3.cell? ⟨w1.heap.size, 1, none⟩ = some (.slice B nb cb) := o3.cell 1; have f1 := o3.frozen 1; have oD : Own (w3.setCell ⟨w1.heap.size, 1, none⟩ (.slice E ne ce)) w1.heap.size 27 [.slice A nt ct, .slice E ne ce, .slice M nm cm, .slice G ng cg, .int .i64 fr, .int .i64 dog] := o3.set 1 _; have bD : Ext w (w3.setCell ⟨w1.heap.size, 1, none⟩ (.slice E ne ce)) := (Ext.trans bV e3).setCell (p := ⟨w1.heap.size, 1, none⟩) bV.size _)
    | (refine wpl_load_w _ ?_ 27 _ rfl (by kernel_rfl) 6 size_conf _ rfl _ _ oD rfl ?_; focus (go_simp; done)))
  refine (HG2.out _ bD).mono ?_
  rintro e w4 ⟨⟨b, rfl, hs⟩, b4⟩
  replace oV := oW.keep b4
  replace oD := oD.keep b4
  replace bV := Ext.trans bD b4
  generalize hgg : w1.heap.size = gd at *
  clear oW v1 f1 o2 b2 o3 g3 e3 bD b4 b1 hgg
  cases b
  case true =>
    clear hs oV oD
    go_wp2_with ((with_reducible go_at_call 9); (with_reducible refine (HAW.out _).mono ?_); rintro e w2 ⟨rfl, b2⟩)
    go_ret
    exact ⟨rfl, Ext.trans bV b2⟩
  obtain ⟨_, ne12, _, _⟩ := hs rfl
  clear hs HG2
  cases hm : mayC nt nb nm ng ts bs ms gs fr dog
  · rw [hm] at HM
    clear hm
    go_wp2_with (refine wpl_load_w _ ?_ 27 _ rfl (by kernel_rfl) 6 size_conf _ rfl _ _ oV rfl ?_; focus (go_simp; done))
    refine (HM.out _ bV).mono ?_
    rintro e w5 ⟨rfl, b5⟩
    go_wp2_with ((with_reducible go_at_call 9); (with_reducible refine (HAW.out _).mono ?_); rintro e w6 ⟨rfl, b6⟩)
    go_ret
    exact ⟨rfl, Ext.trans bV (Ext.trans b5 b6)⟩
  cases hm2 : mayC nt ne nm ng ts es ms gs fr dog
  · rw [hm] at HM
    rw [hm2] at HM2
    clear hm hm2
    go_wp2_with (refine wpl_load_w _ ?_ 27 _ rfl (by kernel_rfl) 6 size_conf _ rfl _ _ oV rfl ?_; focus (go_simp; done))
    refine (HM.out _ bV).mono ?_
    rintro e w5 ⟨rfl, b5⟩
    replace oD := oD.keep b5
    replace bV := Ext.trans bV b5
    go_wp2_with (refine wpl_load_w _ ?_ 27 _ rfl (by kernel_rfl) 6 size_conf _ rfl _ _ oD rfl ?_; focus (go_simp; done))
    refine (HM2.out _ bV).mono ?_
    rintro e w6 ⟨rfl, b6⟩
    replace bV := Ext.trans bV b6
    go_wp2_with ((with_reducible go_at_call 9); (with_reducible refine (HAW.out _).mono ?_); rintro e w7 ⟨rfl, b7⟩)
    go_ret
    exact ⟨rfl, Ext.trans bV b7⟩
  have HAD := Lib.hid (fun w' (h' : Ext w w') => a_admit A nt ct ts B nb cb bs M nm cm ms G ng cg gs fr dog w' (HH.out.keep h') (by omega))
  have HLW := Lib.hid (fun us hc ho => best_law (us := us) hm hm2 hc ho)
  have HAD2 := Lib.hid (fun us S d w' (h : ConfArg w' S nt us E ne es M nm ms G ng gs fr dog) => a_admit S nt d us E ne ce es M nm cm ms G ng cg gs fr dog w' h (by omega))
  have HU0 : ∀ x ∈ ts, x.on ≤ 40 := fun x hx => by
    obtain ⟨n8, _, n4, _, hmt, _, _⟩ := may_conf hm
    obtain ⟨k, hk, rfl⟩ := List.getElem_of_mem hx
    have := may_task hmt hk (by have := HH.out.tasks.len; omega)
    unfold mayT at this
    simp only [Bool.and_eq_true, decide_eq_true_eq] at this
    exact this.2
  rw [hm] at HM
  rw [hm2] at HM2
  clear hm hm2
  go_wp2_with (refine wpl_load_w _ ?_ 27 _ rfl (by kernel_rfl) 6 size_conf _ rfl _ _ oV rfl ?_; focus (go_simp; done))
  refine (HM.out _ bV).mono ?_
  rintro e w5 ⟨rfl, b5⟩
  replace oD := oD.keep b5
  replace oV := oV.keep b5
  replace bV := Ext.trans bV b5
  go_wp2_with (refine wpl_load_w _ ?_ 27 _ rfl (by kernel_rfl) 6 size_conf _ rfl _ _ oD rfl ?_; focus (go_simp; done))
  refine (HM2.out _ bV).mono ?_
  rintro e w6 ⟨rfl, b6⟩
  replace oD := oD.keep b6
  replace oV := oV.keep b6
  replace bV := Ext.trans bV b6
  clear HM HM2 b5 b6
  obtain ⟨i0, hi, hz0, hz1, hz2⟩ := info_parts info_task
  have HI := Lib.hid hi
  have HTL := Lib.hid HH.out.tasks.len
  have v0 : w6.cell? ⟨w.heap.size, 0, none⟩ = some (.slice A nt ct) := oV.cell 0
  have HFL := Lib.hid (flat_len (ts.map TK.cs) (k := 8) (by intro x hx; obtain ⟨y, _, rfl⟩ := List.mem_map.1 hx; rfl))
  clear hi
  go_wp2_with (at_builtin; refine wpl_append _ rfl (.const (.slice none 0 0)) (.tmp 36) 22 rfl 47 i0 _ 8 96 Try.underlying22 HI.out hz0 hz1 hz2 rfl (by omega) w.heap.size none 0 0 [] rfl (Row.nil _ _ _ _) A nt ct (flat (ts.map TK.cs)) rfl (by rw [HFL.out, List.length_map, HTL.out]) (HH.out.tasks.keep bV).rd flat_one nt (flat (ts.map TK.cs)) (by omega) rfl (by omega) (by omega) bV.size ?_; intro A2 d2 w7 o7 g7 x7; have b7 := below_grown (Ext.refl w6) g7 (Nat.le_refl _) (by simp [blk]); have v1 : w7.cell? ⟨gd, 0, none⟩ = some (.slice A nt ct) := (oD.keep b7).cell 0; have f1 := (oD.keep b7).frozen 0)
  have hg7 := hgd
  have oV7 := (oV.keep b7).far (p := ⟨gd, 0, none⟩) (Nat.ne_of_lt hgd) (.slice A2 nt d2)
  have oD7 : Own (w7.setCell ⟨gd, 0, none⟩ (.slice A2 nt d2)) gd 27 [.slice A2 nt d2, .slice E ne ce, .slice M nm cm, .slice G ng cg, .int .i64 fr, .int .i64 dog] := (oD.keep b7).set 0 _
  have bw7 : Ext w (w7.setCell ⟨gd, 0, none⟩ (.slice A2 nt d2)) := (Ext.trans bV b7).setCell (p := ⟨gd, 0, none⟩) (Nat.le_of_lt hgd) _
  have hA2 : blk A2 = none ∨ ∃ g2, blk A2 = some g2 ∧ gd < g2 := by
    have hl := (Own.lt oD)
    rcases x7 with x7 | x7
    · left; exact x7
    · right; exact ⟨_, x7, hl⟩
  have r7 : Row (w7.setCell ⟨gd, 0, none⟩ (.slice A2 nt d2)) w.heap.size 47 8 A2 nt d2 (flat (ts.map TK.cs)) := o7.grown (row := some gd) ⟨rfl, rfl, rfl, by simp, fun j _ hj => heap_setCell_other w7 _ j _ (fun q => hj (by rw [q]))⟩ (by
    rcases hA2 with e | ⟨g2, e, hlt⟩
    · left; exact e
    · right; rw [e]; intro q; injection q with q; omega)
  have u7 : URel w (w7.setCell ⟨gd, 0, none⟩ (.slice A2 nt d2)) (blk A2) ts ts := ⟨rfl, HU0, fun x hx => have h := HH.out.tasks.ok x hx; ⟨h.wf, h.us, h.uc, .inl h.os⟩⟩
  clear v0 v1 f1 oV oD o7 g7 x7 b7 bV HFL
  generalize w7.setCell ⟨gd, 0, none⟩ (.slice A2 nt d2) = w8 at *
  go_loopw [6] (fun i wr => ∃ (k : Nat) (us : List TK), k ≤ nt ∧ i = .int .i64 k ∧ Row wr w.heap.size 47 8 A2 nt d2 (flat (us.map TK.cs)) ∧ URel w wr (blk A2) ts us ∧ Own wr w.heap.size 27 [.slice A nt ct, .slice B nb cb, .slice M nm cm, .slice G ng cg, .int .i64 fr, .int .i64 dog] ∧ Own wr gd 27 [.slice A2 nt d2, .slice E ne ce, .slice M nm cm, .slice G ng cg, .int .i64 fr, .int .i64 dog] ∧ Ext w wr) (fun i _ => nt - (intOf i).toNat)
  case atStart => exact ⟨0, ts, by omega, rfl, r7, u7, oV7, oD7, bw7⟩
  case round =>
    obtain ⟨k, us, hk, rfl, r1, u1, oV, oD, q1⟩ := hrel
    clear r7 u7 oV7 oD7 bw7
    have v0 : wr.cell? ⟨gd, 0, none⟩ = some (.slice A2 nt d2) := oD.cell 0
    by_cases hlt : k < nt
    · obtain ⟨g2, rfl⟩ := r1.addr (by omega)
      have hul : us.length = nt := by rw [u1.len, HTL.out]
      have hkl : k < us.length := by omega
      have hx2 : gd < g2 := by
        rcases hA2 with e | ⟨g', e, h⟩
        · simp [blk] at e
        · simp [blk] at e; omega
      obtain ⟨hcc, hff, hrr⟩ := r1.setAt (k * 8 + 7) (by omega) (.slice (some ⟨wr.heap.size, 0, none⟩) 1 1)
      rw [cs_prgd us hkl _ [opj]] at hrr
      rw [flat_get (us.map TK.cs) (by intro x hx; obtain ⟨y, _, rfl⟩ := List.mem_map.1 hx; rfl) k 7 (by simpa using hkl) (by omega)] at hcc
      simp only [List.getElem_map, TK.cs, List.getElem?_cons_succ, List.getElem?_cons_zero] at hcc
      have hgl : g2 < wr.heap.size := (r1.at_ g2 rfl).2
      have hg := setCell_grown wr ⟨g2, k * 8 + 7, none⟩ (.slice (some ⟨wr.heap.size, 0, none⟩) 1 1)
      have oV1 := (oV.far (p := ⟨g2, k * 8 + 7, none⟩) (show w.heap.size ≠ g2 by omega) (.slice (some ⟨wr.heap.size, 0, none⟩) 1 1)).alloc (.cells opj.toArray 52)
      have oD1 := (oD.far (p := ⟨g2, k * 8 + 7, none⟩) (show gd ≠ g2 by omega) (.slice (some ⟨wr.heap.size, 0, none⟩) 1 1)).alloc (.cells opj.toArray 52)
      have q2 := q1.setCell (p := ⟨g2, k * 8 + 7, none⟩) (show w.heap.size ≤ g2 by omega) (.slice (some ⟨wr.heap.size, 0, none⟩) 1 1)
      have hsz : (wr.setCell ⟨g2, k * 8 + 7, none⟩ (.slice (some ⟨wr.heap.size, 0, none⟩) 1 1)).heap.size = wr.heap.size := by simp
      have oN := Own.new (wr.setCell ⟨g2, k * 8 + 7, none⟩ (.slice (some ⟨wr.heap.size, 0, none⟩) 1 1)) 52 opj
      rw [hsz] at oN
      have hga : (wr.setCell ⟨g2, k * 8 + 7, none⟩ (.slice (some ⟨wr.heap.size, 0, none⟩) 1 1)).grownBy ((wr.setCell ⟨g2, k * 8 + 7, none⟩ (.slice (some ⟨wr.heap.size, 0, none⟩) 1 1)).alloc (.cells opj.toArray 52)) (some g2) := ⟨rfl, rfl, rfl, by simp, fun j hj _ => Below.heap_alloc _ _ j hj⟩
      have hU := u1.set hkl (hg.trans hga) oN (by intro q; injection q with q; have q' : wr.heap.size = g2 := q; omega)
      replace q2 := q2.alloc (by rw [hsz]; have := q1.size; omega) (.cells opj.toArray 52)
      replace hrr := hrr.alloc (.cells opj.toArray 52)
      have k0' : (0 : Int) ≤ (k : Int) := by omega
      have k1' : (k : Int) < (nt : Int) := by omega
      have HRR := Lib.hid (And.intro hrr (And.intro hU (And.intro oV1 (And.intro oD1 q2))))
      clear hrr hU oV1 oD1 q2 oN hg r1 u1 oV oD q1
      go_wp2
      go_roundw
      case rel => exact ⟨k + 1, _, by omega, by go_num, HRR.out.1, HRR.out.2.1, HRR.out.2.2.1, HRR.out.2.2.2.1, HRR.out.2.2.2.2⟩
      case measure => simp [intOf]; omega
    · obtain rfl : nt = k := by omega
      have hul : us.length = nt := by rw [u1.len, HTL.out]
      have HUC := Lib.hid u1
      have HL := Lib.hid (HLW.out us u1.core u1.ons)
      have hAD2 := fun w' (hb : Ext wr w') => HAD2.out us A2 d2 w' ⟨⟨hul, by omega, fun x hx => ((u1.ok x hx).keep hb).toOk (Ext.trans q1 hb), (r1.keep hb).rd⟩, HH2.out.best.keep (Ext.trans q1 hb), HH2.out.mtx.keep (Ext.trans q1 hb), HH2.out.gaps.keep (Ext.trans q1 hb), HH2.out.fr, HH2.out.dog⟩
      rw [HL.out.adm, HL.out.res] at hAD2
      have hAD := fun w' (hb : Ext wr w') => HAD.out w' (Ext.trans q1 hb)
      generalize admB nt nb nm ng ts bs ms gs fr dog = q at *
      generalize hLL : admR nt nb nm ng ts bs ms gs fr dog = L at *
      have hLn : L.length ≤ 12 := by
        rw [← hLL]; unfold admR
        split
        · rw [respTo_len]; exact n12
        · simp
      clear hLL
      have HA := Lib.hid hAD
      have HA2 := Lib.hid hAD2
      clear hAD hAD2 u1 r1
      go_wp2_with (refine wpl_load_w _ ?_ 27 _ rfl (by kernel_rfl) 6 size_conf _ rfl _ _ oV rfl ?_; focus (go_simp; done))
      refine (HA.out _ (Ext.refl _)).mono ?_
      rintro e w9 ⟨S1, c1, rfl, rd1, b9⟩
      replace oD := oD.keep b9
      go_wp2_with (refine wpl_load_w _ ?_ 27 _ rfl (by kernel_rfl) 6 size_conf _ rfl _ _ oD rfl ?_; focus (go_simp; done))
      refine (HA2.out _ b9).mono ?_
      rintro e w10 ⟨S2, c2, rfl, rd2, b10⟩
      replace rd1 := rd1.keep b10
      have b11 := Ext.trans q1 (Ext.trans b9 b10)
      clear HA HA2 HAD HAD2 HLW HL HUC b9 oV oD v0 q1
      have HSI := Lib.hid (fun w' (hb : Ext w10 w') => same_ints S1 S2 L.length L.length c1 c2 L L w' (by omega) (by omega) (rd1.keep hb) (rd2.keep hb) rfl rfl)
      simp only [decide_true] at HSI
      cases q
      all_goals
        go_wp2_with (first
          | ((with_reducible go_at_call 20); (with_reducible refine (HSI.out _ (Ext.refl _)).mono ?_); rintro e w11 ⟨rfl, qn, rfl⟩)
          | ((with_reducible go_at_call 9); (with_reducible refine (HAW.out _).mono ?_); rintro e w12 ⟨rfl, b12⟩))
        go_ret
        exact ⟨rfl, Ext.trans b11 (Ext.trans (Ext.drewN _ qn) b12)⟩

end Go.Proofs.Ytdninhdabeddeaa
