/-
  WALKS of package admit: task, Blocking.
-/
import Derived.Test.YtdninhdabeddeaaAdmL
namespace Go.Proofs.Ytdninhdabeddeaa
open Go.RowKit
attribute [local go_sem] depUpon Sp.ok

theorem results_own2 {P : Program} {fn : Func} {p q : Tmp} {ty : TypeId} (h : fn.results = #[.cell p ty, .tmp q]) (hd : aggB (P.underlying ty) = true) (n : Nat) (hi : (P.info? ty).map (·.size) = some n)
    (tmps : Array Value) (w : World) (g : Nat) (t : TypeId) (xs : List Value) (v : Value) (hp : tmps.getD p undef = .pointer (some ⟨g, 0, none⟩)) (hq : tmps.getD q undef = v) (hO : Own w g t xs) (hn : xs.length = n) :
    (results fn tmps).run P w = .ok (.tuple #[.agg xs.toArray, v]) w := by
  obtain ⟨d, h1, h2⟩ := aggB_spec hd
  have hp' : tmps[p]?.getD undef = .pointer (some ⟨g, 0, none⟩) := by simpa using hp
  have hq' : tmps[q]?.getD undef = v := by simpa using hq
  simp [results, h, hp', hq', asAddr, run_loadVar_row w g t ty xs.toArray (0, 0) d hO h1 (by cases d <;> first | rfl | cases h2) (by simp [hi, hn])]
theorem may_conf {nt nb nm ng : Nat} {ts : List TK} {bs : List EF} {ms : List (Int × Int)} {gs : List Int} {fr dog : Int} (h : mayC nt nb nm ng ts bs ms gs fr dog = true) : nt ≤ 8 ∧ nb ≤ 6 ∧ ng ≤ 4 ∧ okM ms = true ∧ mayTs nm ng ts nt = true ∧ gapB gs = false ∧ inB dog 1 1099511627776 = true := by
  unfold mayC at h
  simp only [Bool.and_eq_true, decide_eq_true_eq, Bool.not_eq_true'] at h
  obtain ⟨⟨⟨⟨⟨⟨⟨⟨h1, h2⟩, h3⟩, h4⟩, h5⟩, h6⟩, h7⟩, h8⟩, h9⟩ := h
  exact ⟨h1, h2, h3, h6, h7, h9, h5⟩
theorem may_task {nm ng m : Nat} {ts : List TK} (h : mayTs nm ng ts m = true) {k : Nat} (hk : k < ts.length) (hm : k < m) : mayT nm ng ts[k] = true := by
  unfold mayTs at h
  rw [List.all_eq_true] at h
  have := h k (List.mem_range.2 hm)
  simp [hk] at this
  exact this.1
theorem mayT_un {nm ng : Nat} {x : TK} (h : mayT nm ng x = true) : x.un ≤ 6 := by
  unfold mayT usesB at h
  simp only [Bool.and_eq_true, decide_eq_true_eq] at h
  exact h.1.1.2.1

set_option maxRecDepth 100000 in
set_option maxHeartbeats 1000000 in
theorem a_task_yes (A : Option Addr) (nt ct : Nat) (ts : List TK) (B : Option Addr) (nb cb : Nat) (bs : List EF) (M : Option Addr) (nm cm : Nat) (ms : List (Int × Int)) (G : Option Addr) (ng cg : Nat) (gs : List Int) (fr dog : Int) (k : Nat) (x : TK) (w : World) (h : ConfArg w A nt ts B nb bs M nm ms G ng gs fr dog) (hk : k < ts.length) (hx : ts[k] = x) (hm : mayC nt nb nm ng ts bs ms gs fr dog = true) (h12 : nm ≤ 65536) :
    Calls Try.prog 33 #[.agg #[.slice A nt ct, .slice B nb cb, .slice M nm cm, .slice G ng cg, .int .i64 fr, .int .i64 dog], .int .i64 (k : Int)] w fun e w' => e = .returned (.tuple #[.agg #[.int .i64 x.cls, .int .i64 x.lvl, .int .i64 x.per, .int .i64 x.ddl, .int .i64 x.bud, .int .i64 x.line, .slice x.U x.un x.uc, .slice x.O x.on x.oc], .bool true]) ∧ Below w.heap.size w w' := by
  have HM := Lib.hid (fun w' (h' : Ext w w') => a_may A nt ct ts B nb cb bs M nm cm ms G ng cg gs fr dog w' (h.keep h') h12)
  rw [hm] at HM
  have oV := Own.new w 27 [.slice A nt ct, .slice B nb cb, .slice M nm cm, .slice G ng cg, .int .i64 fr, .int .i64 dog]
  have i0' : (0 : Int) ≤ (k : Int) := by omega
  have i1' : (k : Int) < (nt : Int) := by have := h.tasks.len; omega
  have HT := Lib.hid h.tasks
  have kn : k < nt := by omega
  have HX := Lib.hid hx
  clear hx
  have v0 := oV.cell 0
  simp only [List.getElem?_cons_zero] at v0
  have bV : Ext w (w.alloc (.cells #[.slice A nt ct, .slice B nb cb, .slice M nm cm, .slice G ng cg, .int .i64 fr, .int .i64 dog] 27)) := Ext.alloc _ _
  clear h hm h12
  go_enter Try.func33, Try.ntmps33
  go_wp2_with (first
    | (refine wpl_alloc_own _ rfl 47 rfl ztk zero_task ?_; intro w2 o2 b2 s2; clear s2; (try rw [World.size_alloc] at o2); replace oV := oV.keep b2; replace bV := Ext.trans bV b2; replace v0 := cell_keep b2 v0)
    | (refine wpl_load_w _ ?_ 27 _ rfl (by kernel_rfl) 6 size_conf _ rfl _ _ oV rfl ?_; focus (go_simp; done)))
  refine (HM.out _ bV).mono ?_
  rintro e w3 ⟨rfl, b3⟩
  replace oV := oV.keep b3
  replace bV := Ext.trans bV b3
  have v3 := cell_keep b3 v0
  replace o2 := o2.keep b3
  clear v0
  obtain ⟨b0, off, rfl, he⟩ := flat_at (k := 8) (HT.out.keep bV).rd (fun _ _ => rfl) (by omega) hk
  rw [HX.out] at he
  go_wp2_with (first
    | (refine wpl_load_rd _ rfl 47 _ rfl (by kernel_rfl) 8 size_task b0 (off + k * 8) rfl [.int .i64 x.cls, .int .i64 x.lvl, .int .i64 x.per, .int .i64 x.ddl, .int .i64 x.bud, .int .i64 x.line, .slice x.U x.un x.uc, .slice x.O x.on x.oc] rfl he ?_)
    | (refine wpl_store_own _ rfl 47 _ _ rfl 8 size_task _ rfl [.int .i64 x.cls, .int .i64 x.lvl, .int .i64 x.per, .int .i64 x.ddl, .int .i64 x.bud, .int .i64 x.line, .slice x.U x.un x.uc, .slice x.O x.on x.oc] rfl _ _ o2 rfl rfl (TK.one x) ?_; intro w4 o4 g4 s4; clear s4))
  exact bodyPost_ret (v := .tuple #[.agg #[.int .i64 x.cls, .int .i64 x.lvl, .int .i64 x.per, .int .i64 x.ddl, .int .i64 x.bud, .int .i64 x.line, .slice x.U x.un x.uc, .slice x.O x.on x.oc], .bool true]) (results_own2 Try.results33 (by kernel_rfl) 8 size_task _ _ _ _ _ _ rfl rfl o4 rfl) rfl ⟨rfl, below_of_grown bV g4 (by simp) bV.size⟩

set_option maxRecDepth 100000 in
set_option maxHeartbeats 1000000 in
theorem a_task_no (A : Option Addr) (nt ct : Nat) (ts : List TK) (B : Option Addr) (nb cb : Nat) (bs : List EF) (M : Option Addr) (nm cm : Nat) (ms : List (Int × Int)) (G : Option Addr) (ng cg : Nat) (gs : List Int) (fr dog : Int) (i : Int) (w : World) (h : ConfArg w A nt ts B nb bs M nm ms G ng gs fr dog) (hno : ¬ (0 ≤ i ∧ i < (nt : Int) ∧ mayC nt nb nm ng ts bs ms gs fr dog = true)) (h12 : nm ≤ 65536) :
    Calls Try.prog 33 #[.agg #[.slice A nt ct, .slice B nb cb, .slice M nm cm, .slice G ng cg, .int .i64 fr, .int .i64 dog], .int .i64 i] w fun e w' => e = .returned (.tuple #[ztk, .bool false]) ∧ Below w.heap.size w w' := by
  have HM := Lib.hid (fun w' (h' : Ext w w') => a_may A nt ct ts B nb cb bs M nm cm ms G ng cg gs fr dog w' (h.keep h') h12)
  have oV := Own.new w 27 [.slice A nt ct, .slice B nb cb, .slice M nm cm, .slice G ng cg, .int .i64 fr, .int .i64 dog]
  have v0 := oV.cell 0
  simp only [List.getElem?_cons_zero] at v0
  have bV : Ext w (w.alloc (.cells #[.slice A nt ct, .slice B nb cb, .slice M nm cm, .slice G ng cg, .int .i64 fr, .int .i64 dog] 27)) := Ext.alloc _ _
  have hzb : ∀ w, (Instr.build 47 #[]).run Try.prog w = .ok ztk w := fun w => by kernel_rfl
  clear h h12
  by_cases h0 : i < 0
  · clear hno
    go_enter Try.func33, Try.ntmps33
    go_wp2_with (first
        | (refine wpl_alloc_own _ rfl 47 rfl ztk zero_task ?_; intro w2 o2 b2 s2; clear s2; (try rw [World.size_alloc] at o2); replace oV := oV.keep b2; replace bV := Ext.trans bV b2; replace v0 := cell_keep b2 v0)
        | (refine wpl_load_w _ ?_ 27 _ rfl (by kernel_rfl) 6 size_conf _ rfl _ _ oV rfl ?_; focus (go_simp; done))
        | (refine wpl_store_own _ rfl 47 _ _ rfl 8 size_task _ rfl [.int .i64 0, .int .i64 0, .int .i64 0, .int .i64 0, .int .i64 0, .int .i64 0, .slice none 0 0, .slice none 0 0] rfl _ _ o2 rfl rfl (by simp [Value.oneCell']) ?_; intro w4 o4 g4 s4; clear s4))
    exact bodyPost_ret (v := .tuple #[ztk, .bool false]) (results_own2 Try.results33 (by kernel_rfl) 8 size_task _ _ _ _ _ _ rfl rfl o4 rfl) rfl ⟨rfl, below_of_grown bV g4 (by simp) bV.size⟩
  · by_cases h1 : (nt : Int) ≤ i
    · clear hno
      go_enter Try.func33, Try.ntmps33
      go_wp2_with (first
        | (refine wpl_alloc_own _ rfl 47 rfl ztk zero_task ?_; intro w2 o2 b2 s2; clear s2; (try rw [World.size_alloc] at o2); replace oV := oV.keep b2; replace bV := Ext.trans bV b2; replace v0 := cell_keep b2 v0)
        | (refine wpl_load_w _ ?_ 27 _ rfl (by kernel_rfl) 6 size_conf _ rfl _ _ oV rfl ?_; focus (go_simp; done))
        | (refine wpl_store_own _ rfl 47 _ _ rfl 8 size_task _ rfl [.int .i64 0, .int .i64 0, .int .i64 0, .int .i64 0, .int .i64 0, .int .i64 0, .slice none 0 0, .slice none 0 0] rfl _ _ o2 rfl rfl (by simp [Value.oneCell']) ?_; intro w4 o4 g4 s4; clear s4))
      exact bodyPost_ret (v := .tuple #[ztk, .bool false]) (results_own2 Try.results33 (by kernel_rfl) 8 size_task _ _ _ _ _ _ rfl rfl o4 rfl) rfl ⟨rfl, below_of_grown bV g4 (by simp) bV.size⟩
    · have hm : mayC nt nb nm ng ts bs ms gs fr dog = false := by
        cases hq : mayC nt nb nm ng ts bs ms gs fr dog
        · rfl
        · exact absurd ⟨by omega, by omega, hq⟩ hno
      rw [hm] at HM
      clear hno hm
      go_enter Try.func33, Try.ntmps33
      go_wp2_with (first
        | (refine wpl_alloc_own _ rfl 47 rfl ztk zero_task ?_; intro w2 o2 b2 s2; clear s2; (try rw [World.size_alloc] at o2); replace oV := oV.keep b2; replace bV := Ext.trans bV b2; replace v0 := cell_keep b2 v0)
        | (refine wpl_load_w _ ?_ 27 _ rfl (by kernel_rfl) 6 size_conf _ rfl _ _ oV rfl ?_; focus (go_simp; done))
        | (refine wpl_store_own _ rfl 47 _ _ rfl 8 size_task _ rfl [.int .i64 0, .int .i64 0, .int .i64 0, .int .i64 0, .int .i64 0, .int .i64 0, .slice none 0 0, .slice none 0 0] rfl _ _ o2 rfl rfl (by simp [Value.oneCell']) ?_; intro w4 o4 g4 s4; clear s4))
      refine (HM.out _ bV).mono ?_
      rintro e w3 ⟨rfl, b3⟩
      replace bV := Ext.trans bV b3
      replace o2 := o2.keep b3
      go_wp2_with (first
        | (refine wpl_alloc_own _ rfl 47 rfl ztk zero_task ?_; intro w2 o2 b2 s2; clear s2; (try rw [World.size_alloc] at o2); replace oV := oV.keep b2; replace bV := Ext.trans bV b2; replace v0 := cell_keep b2 v0)
        | (refine wpl_load_w _ ?_ 27 _ rfl (by kernel_rfl) 6 size_conf _ rfl _ _ oV rfl ?_; focus (go_simp; done))
        | (refine wpl_store_own _ rfl 47 _ _ rfl 8 size_task _ rfl [.int .i64 0, .int .i64 0, .int .i64 0, .int .i64 0, .int .i64 0, .int .i64 0, .slice none 0 0, .slice none 0 0] rfl _ _ o2 rfl rfl (by simp [Value.oneCell']) ?_; intro w4 o4 g4 s4; clear s4))
      exact bodyPost_ret (v := .tuple #[ztk, .bool false]) (results_own2 Try.results33 (by kernel_rfl) 8 size_task _ _ _ _ _ _ rfl rfl o4 rfl) rfl ⟨rfl, below_of_grown bV g4 (by simp) bV.size⟩

end Go.Proofs.Ytdninhdabeddeaa
