/-
  WALKS of package admit: May, where the sizes and the mutexes are well.
-/
import Derived.Test.YtdninhdabeddeaaAdmI
namespace Go.Proofs.Ytdninhdabeddeaa
open Go.RowKit Go.Maps
attribute [local go_sem] depUpon Sp.ok

/-- The zero of a task. -/
def ztk : Value := .agg #[.int .i64 0, .int .i64 0, .int .i64 0, .int .i64 0, .int .i64 0, .int .i64 0, .slice none 0 0, .slice none 0 0]
set_option maxRecDepth 100000 in
theorem zero_task : (Try.prog.info? 47).map (·.zero) = some (some ztk) := by kernel_rfl
set_option maxRecDepth 100000 in
theorem size_task : (Try.prog.info? 47).map (·.size) = some 8 := by kernel_rfl
def zef : Value := .agg #[.int .i64 0, .slice none 0 0]
set_option maxRecDepth 100000 in
theorem zero_effort : (Try.prog.info? 60).map (·.zero) = some (some zef) := by kernel_rfl
set_option maxRecDepth 100000 in
theorem size_effort : (Try.prog.info? 60).map (·.size) = some 2 := by kernel_rfl
set_option maxRecDepth 100000 in
theorem size_conf : (Try.prog.info? 27).map (·.size) = some 6 := by kernel_rfl
theorem TK.one (x : TK) : ∀ u ∈ x.cs, u.oneCell' = true := by simp [TK.cs, Value.oneCell']
theorem EF.one (x : EF) : ∀ u ∈ x.cs, u.oneCell' = true := by simp [EF.cs, Value.oneCell']
theorem wf_i64 {x : Int} (h : I64 x) : (Lit.int .i64 x).wf = true := by
  obtain ⟨h0, h1⟩ := h
  simp [Lit.wf, IntKind.min, IntKind.max, IntKind.signed, IntKind.bits]
  omega
theorem Cnt.nil {H : Type} : Cnt (H := H) (.map []) [] := by
  refine ⟨isMap_empty, fun l => ?_⟩
  rfl
/-- A look-up, guarded or not. -/
theorem wpl_lookup_int {H : Type} {P : Program} (w : World) {ops : Array Oper} {rest : List Oper} {o : Oper} {a : Act} {Q : Exit → Act → World → Prop}
    (hw : Region.wanted o (yielded ops a.tmps) = true) (m x : Operand) (t : TypeId) (hop : o.op = Op.lookup t m x false)
    (k e : TypeId) (q : IntKind) (K : Keyed P k) (ht : P.underlying t = some (.map k e)) (he : P.underlying e = some (.int q)) (hz : (zeroValue e).run P w = .ok (.int q 0) w) (b n : Nat) (D : DataW H)
    (hm : a.eval m = .map (some b)) (hown : w.ownsMap P k (plainElem P e) b n D) (key : Value) (kl : Lit) (hx : a.eval x = key) (hkey : keyOf P k key = some kl)
    (hK : ∀ c : Int, D.atKey kl (.lit (.int q 0)) = .lit (.int q c) → (Lit.int q c).wf = true → wpList P ops Q rest (a.put o.dst (.int q c)) w) :
    wpList P ops Q (o :: rest) a w := by
  refine wpList_step fun K' hK' => ?_
  rw [if_pos hw]
  obtain ⟨c, hrun, hat, hwc⟩ := hown.lookup_int K ht he hz hkey
  unfold Oper.wp
  simp [execOp, hop, hm, hx, hrun, Result.andThen]
  exact hK' _ _ (hK c hat hwc)
/-- What the rounds over the tasks keep. -/
structure MRel (H : Type) (w wr : World) (g nm ng : Nat) (ts : List TK) (k : Nat) : Prop where
  may : mayTs nm ng ts k = true
  map : ∃ D : DataW H, wr.ownsMap Try.prog 3 (plainElem Try.prog 3) g k D ∧ Cnt D (ts.take k)
  ext : Ext w wr

set_option maxRecDepth 100000 in
set_option maxHeartbeats 4000000 in
theorem a_may_ok (A : Option Addr) (nt ct : Nat) (ts : List TK) (B : Option Addr) (nb cb : Nat) (bs : List EF) (M : Option Addr) (nm cm : Nat) (ms : List (Int × Int)) (G : Option Addr) (ng cg : Nat) (gs : List Int) (fr dog : Int) (w : World) (h : ConfArg w A nt ts B nb bs M nm ms G ng gs fr dog) (hs : nt ≤ 8 ∧ nb ≤ 6 ∧ ng ≤ 4 ∧ inB fr 8 64 = true ∧ inB dog 1 1099511627776 = true) (hok : okM ms = true) :
    Calls Try.prog 10 #[.agg #[.slice A nt ct, .slice B nb cb, .slice M nm cm, .slice G ng cg, .int .i64 fr, .int .i64 dog]] w fun e w' => e = .returned (.bool (mayC nt nb nm ng ts bs ms gs fr dog)) ∧ Below w.heap.size w w' := by
  have hb0 : Ext w (w.alloc (.cells #[.slice A nt ct, .slice B nb cb, .slice M nm cm, .slice G ng cg, .int .i64 fr, .int .i64 dog] 27)) := Ext.alloc _ _
  have hnm : nm ≤ 6 := by
    have := h.mtx.len
    unfold okM at hok
    simp at hok
    omega
  obtain ⟨a, b, c, d, e⟩ := hs
  have HQ : Hid (mayC nt nb nm ng ts bs ms gs fr dog = (mayTs nm ng ts nt && bs.all effB && !gapB gs)) := Lib.hid (by
    unfold mayC
    rw [hok, d, e]
    simp [a, b, c])
  have c1 := fun w => a_within fr 8 64 w
  have c2 := fun w => a_within dog 1 1099511627776 w
  rw [show decide (8 ≤ fr ∧ fr ≤ 64) = true from d] at c1
  rw [show decide (1 ≤ dog ∧ dog ≤ 1099511627776) = true from e] at c2
  have C1 := Lib.hid c1
  have C2 := Lib.hid c2
  have HN := Lib.hid (t_new M nm cm ms _ (by omega) (h.mtx.rd.keep hb0) h.mtx.len hok)
  have a' : ¬ (8 : Int) < (nt : Int) := by omega
  have b' : ¬ (6 : Int) < (nb : Int) := by omega
  have c' : ¬ (4 : Int) < (ng : Int) := by omega
  have HC := Lib.hid h
  have oV := Own.new w 27 [.slice A nt ct, .slice B nb cb, .slice M nm cm, .slice G ng cg, .int .i64 fr, .int .i64 dog]
  have hmm := @run_makeMap Try.prog
  have HTL := Lib.hid h.tasks.len
  have HBL := Lib.hid h.best.len
  clear c1 c2 h hok d e
  go_enter Try.func10, Try.ntmps10
  go_wp2_with (first | ((with_reducible go_at_call 25); (with_reducible refine (C1.out _).mono ?_); rintro e w' ⟨rfl, rfl⟩) | ((with_reducible go_at_call 25); (with_reducible refine (C2.out _).mono ?_); rintro e w' ⟨rfl, rfl⟩))
  refine HN.out.mono ?_
  rintro e w1 ⟨g, rfl, _, b1⟩
  have oV1 := (oV.keep b1).alloc (.map #[] 0)
  have v0 := oV1.cell 0
  simp only [List.getElem?_cons_zero] at v0
  have bM : Ext w (w1.alloc (.map #[] 0)) := Ext.trans (Ext.trans hb0 b1) (Ext.alloc _ _)
  have hsz1 : w.heap.size < w1.heap.size := by have := (oV.keep b1).lt; exact this
  have HM0 := Lib.hid (World.ownsMap_made w1 Try.prog 3 (plainElem (H := Unit) Try.prog 3))
  clear oV
  go_wp2
  go_loopw [50] (fun i wr => ∃ k : Nat, k ≤ nt ∧ i = .int .i64 k ∧ MRel Unit w wr w1.heap.size nm ng ts k ∧ Own wr w.heap.size 27 [.slice A nt ct, .slice B nb cb, .slice M nm cm, .slice G ng cg, .int .i64 fr, .int .i64 dog]) (fun i _ => nt - (intOf i).toNat)
  case atStart => exact ⟨0, by omega, rfl, ⟨rfl, ⟨_, HM0.out, Cnt.nil⟩, bM⟩, oV1⟩
  case round =>
    obtain ⟨k, hk, rfl, HR, oW⟩ := hrel
    clear v0 oV1 bM HM0 b1
    by_cases hlt : k < nt
    · have hkl : k < ts.length := by rw [HTL.out]; exact hlt
      have q2 := HR.ext
      have hX := HC.out.tasks.ok _ (List.getElem_mem hkl)
      obtain ⟨D, hmap, hcnt⟩ := HR.map
      have hmay := HR.may
      have hsc := mayTs_succ nm ng ts k hkl
      rw [hmay, Bool.true_and] at hsc
      have HF := Lib.hid (fun h => mayTs_false (nm := nm) (ng := ng) hkl hlt h)
      have hctl := cntLine_le (ts.take k) ts[k].line
      have htk : (ts.take k).length ≤ 8 := by rw [List.length_take]; omega
      have hst := hcnt.step ts[k]
      rw [← take_succ' ts k hkl] at hst
      have hat0 := hcnt.2 ts[k].line
      have hcT := fun w' (h' : Ext w w') => a_mayTask A nt ct B nb cb M nm cm G ng cg fr dog ts[k] w' (hX.keep h') (by omega) (by omega)
      obtain ⟨b0, off, rfl, he⟩ := flat_at (k := 8) (HC.out.tasks.keep q2).rd (fun _ _ => rfl) (by omega) hkl
      clear HR hmay hcnt
      generalize hXX : ts[k]'hkl = x at *
      clear hXX
      generalize cntLine (ts.take k) x.line = c0 at *
      have hc0 : 0 ≤ c0 := hctl.1
      have hc1 : c0 ≤ 8 := by omega
      have hkey : keyOf Try.prog 3 (.int .i64 x.line) = some (.int .i64 x.line) := keyOf_int_mk Try.underlying3 (wf_i64 hX.wf.2.2.2.2.2)
      have HK := Lib.hid hkey
      have HM := Lib.hid hmap
      have HST := Lib.hid hst
      have HAT := Lib.hid hat0
      have HSC := Lib.hid hsc
      have HX := Lib.hid hX
      have i0' : (0 : Int) ≤ (k : Int) := by omega
      have i1' : (k : Int) < (nt : Int) := by omega
      have hwf1 := wf_i64 (x := c0 + 1) ⟨by omega, by omega⟩
      have HWF := Lib.hid hwf1
      clear hkey hmap hst hat0 hsc hX hctl htk hwf1
      generalize mayT nm ng x = q at *
      have HCT := Lib.hid hcT
      clear hcT
      cases q
      · have HE := Lib.hid (HF.out rfl)
        go_wp2_with (first
          | (refine wpl_load_rd _ rfl 47 _ rfl (by kernel_rfl) 8 size_task b0 (off + k * 8) rfl [.int .i64 x.cls, .int .i64 x.lvl, .int .i64 x.per, .int .i64 x.ddl, .int .i64 x.bud, .int .i64 x.line, .slice x.U x.un x.uc, .slice x.O x.on x.oc] rfl he ?_)
          | (refine wpl_alloc_own _ rfl 47 rfl ztk zero_task ?_; intro w2 o2 b2 s2; clear s2)
          | (refine wpl_store_own _ rfl 47 _ _ rfl 8 size_task _ rfl [.int .i64 x.cls, .int .i64 x.lvl, .int .i64 x.per, .int .i64 x.ddl, .int .i64 x.bud, .int .i64 x.line, .slice x.U x.un x.uc, .slice x.O x.on x.oc] rfl _ _ o2 rfl rfl (TK.one x) ?_; intro w3 o3 g3 s3; clear s3; have e3' := below_of_grown b2 g3 (Nat.le_refl _) b2.size; have e3 := Ext.trans q2 e3'; have o3v := oW.keep e3')
          | (refine wpl_load_own _ rfl 27 _ rfl (by kernel_rfl) 6 size_conf _ rfl _ _ o3v rfl ?_)
          | (refine wpl_load_own _ rfl 47 _ rfl (by kernel_rfl) 8 size_task _ rfl _ _ o3 rfl ?_))
        refine (HCT.out _ e3).mono ?_
        rintro e w4 ⟨rfl, b4⟩
        go_wp2
        go_ret
        exact ⟨by rw [HQ.out, HE.out]; rfl, Ext.trans e3 b4⟩
      · by_cases hl : 0 ≤ x.line
        · by_cases hc : 0 < c0
          · have HE := Lib.hid (HF.out (by simp [hl, hc]))
            go_wp2_with (first
          | (refine wpl_load_rd _ rfl 47 _ rfl (by kernel_rfl) 8 size_task b0 (off + k * 8) rfl [.int .i64 x.cls, .int .i64 x.lvl, .int .i64 x.per, .int .i64 x.ddl, .int .i64 x.bud, .int .i64 x.line, .slice x.U x.un x.uc, .slice x.O x.on x.oc] rfl he ?_)
          | (refine wpl_alloc_own _ rfl 47 rfl ztk zero_task ?_; intro w2 o2 b2 s2; clear s2)
          | (refine wpl_store_own _ rfl 47 _ _ rfl 8 size_task _ rfl [.int .i64 x.cls, .int .i64 x.lvl, .int .i64 x.per, .int .i64 x.ddl, .int .i64 x.bud, .int .i64 x.line, .slice x.U x.un x.uc, .slice x.O x.on x.oc] rfl _ _ o2 rfl rfl (TK.one x) ?_; intro w3 o3 g3 s3; clear s3; have e3' := below_of_grown b2 g3 (Nat.le_refl _) b2.size; have e3 := Ext.trans q2 e3'; have o3v := oW.keep e3')
          | (refine wpl_load_own _ rfl 27 _ rfl (by kernel_rfl) 6 size_conf _ rfl _ _ o3v rfl ?_)
          | (refine wpl_load_own _ rfl 47 _ rfl (by kernel_rfl) 8 size_task _ rfl _ _ o3 rfl ?_))
            refine (HCT.out _ e3).mono ?_
            rintro e w4 ⟨rfl, b4⟩
            have t5 : w4.cell? ⟨wr.heap.size, 5, none⟩ = some (.int .i64 x.line) := (o3.keep b4).cell 5
            have HM4 := Lib.hid (map_keep HM.out (Ext.trans e3' b4))
            go_wp2_with ((at_lookup; refine wpl_lookup_int _ (by go_simp) _ _ 66 rfl 3 3 .i64 keyed_int Try.underlying66 Try.underlying3 (zero_int _) _ _ _ rfl HM4.out _ _ rfl HK.out ?_; intro c hat hwc; obtain rfl : c0 = c := (by have hh := HAT.out.symm.trans hat; injection hh with hh; injection hh); clear hat hwc))
            go_ret
            exact ⟨by rw [HQ.out, HE.out]; rfl, Ext.trans e3 b4⟩
          · have HMY : Hid (mayTs nm ng ts (k + 1) = true) := Lib.hid (by rw [HSC.out]; simp [hc])
            go_wp2_with (first
          | (refine wpl_load_rd _ rfl 47 _ rfl (by kernel_rfl) 8 size_task b0 (off + k * 8) rfl [.int .i64 x.cls, .int .i64 x.lvl, .int .i64 x.per, .int .i64 x.ddl, .int .i64 x.bud, .int .i64 x.line, .slice x.U x.un x.uc, .slice x.O x.on x.oc] rfl he ?_)
          | (refine wpl_alloc_own _ rfl 47 rfl ztk zero_task ?_; intro w2 o2 b2 s2; clear s2)
          | (refine wpl_store_own _ rfl 47 _ _ rfl 8 size_task _ rfl [.int .i64 x.cls, .int .i64 x.lvl, .int .i64 x.per, .int .i64 x.ddl, .int .i64 x.bud, .int .i64 x.line, .slice x.U x.un x.uc, .slice x.O x.on x.oc] rfl _ _ o2 rfl rfl (TK.one x) ?_; intro w3 o3 g3 s3; clear s3; have e3' := below_of_grown b2 g3 (Nat.le_refl _) b2.size; have e3 := Ext.trans q2 e3'; have o3v := oW.keep e3')
          | (refine wpl_load_own _ rfl 27 _ rfl (by kernel_rfl) 6 size_conf _ rfl _ _ o3v rfl ?_)
          | (refine wpl_load_own _ rfl 47 _ rfl (by kernel_rfl) 8 size_task _ rfl _ _ o3 rfl ?_))
            refine (HCT.out _ e3).mono ?_
            rintro e w4 ⟨rfl, b4⟩
            have t5 : w4.cell? ⟨wr.heap.size, 5, none⟩ = some (.int .i64 x.line) := (o3.keep b4).cell 5
            have HM4 := Lib.hid (map_keep HM.out (Ext.trans e3' b4))
            go_wp2_with (first | (at_lookup; refine wpl_lookup_int _ (by go_simp) _ _ 66 rfl 3 3 .i64 keyed_int Try.underlying66 Try.underlying3 (zero_int _) _ _ _ rfl HM4.out _ _ rfl HK.out ?_; intro c hat hwc; obtain rfl : c0 = c := (by have hh := HAT.out.symm.trans hat; injection hh with hh; injection hh); clear hat hwc) | (at_mapUpdate; refine wpList_mapUpdate_own _ rfl _ _ _ 66 rfl 3 3 keyed_int Try.underlying66 _ _ k _ rfl HM4.out (by unfold maxLen; omega) _ _ _ rfl rfl HK.out _ [] (plainElem_int Try.underlying3 HWF.out) ?_; intro w5 hown5 hgrow5))
            have e4 := Ext.trans e3 b4
            have e5 := below_grown e4 hgrow5 e4.size (fun j hj => by cases hj; omega)
            have o5 := (o3v.keep b4).grown hgrow5 (by intro q; injection q with q; omega)
            go_roundw
            case rel => exact ⟨k + 1, by omega, by go_num, ⟨HMY.out, ⟨_, hown5, HST.out⟩, e5⟩, o5⟩
            case measure => simp [intOf]; omega
        · have HMY : Hid (mayTs nm ng ts (k + 1) = true) := Lib.hid (by rw [HSC.out]; simp [hl])
          go_wp2_with (first
          | (refine wpl_load_rd _ rfl 47 _ rfl (by kernel_rfl) 8 size_task b0 (off + k * 8) rfl [.int .i64 x.cls, .int .i64 x.lvl, .int .i64 x.per, .int .i64 x.ddl, .int .i64 x.bud, .int .i64 x.line, .slice x.U x.un x.uc, .slice x.O x.on x.oc] rfl he ?_)
          | (refine wpl_alloc_own _ rfl 47 rfl ztk zero_task ?_; intro w2 o2 b2 s2; clear s2)
          | (refine wpl_store_own _ rfl 47 _ _ rfl 8 size_task _ rfl [.int .i64 x.cls, .int .i64 x.lvl, .int .i64 x.per, .int .i64 x.ddl, .int .i64 x.bud, .int .i64 x.line, .slice x.U x.un x.uc, .slice x.O x.on x.oc] rfl _ _ o2 rfl rfl (TK.one x) ?_; intro w3 o3 g3 s3; clear s3; have e3' := below_of_grown b2 g3 (Nat.le_refl _) b2.size; have e3 := Ext.trans q2 e3'; have o3v := oW.keep e3')
          | (refine wpl_load_own _ rfl 27 _ rfl (by kernel_rfl) 6 size_conf _ rfl _ _ o3v rfl ?_)
          | (refine wpl_load_own _ rfl 47 _ rfl (by kernel_rfl) 8 size_task _ rfl _ _ o3 rfl ?_))
          refine (HCT.out _ e3).mono ?_
          rintro e w4 ⟨rfl, b4⟩
          have t5 : w4.cell? ⟨wr.heap.size, 5, none⟩ = some (.int .i64 x.line) := (o3.keep b4).cell 5
          have HM4 := Lib.hid (map_keep HM.out (Ext.trans e3' b4))
          go_wp2_with (first | (at_lookup; refine wpl_lookup_int _ (by go_simp) _ _ 66 rfl 3 3 .i64 keyed_int Try.underlying66 Try.underlying3 (zero_int _) _ _ _ rfl HM4.out _ _ rfl HK.out ?_; intro c hat hwc; obtain rfl : c0 = c := (by have hh := HAT.out.symm.trans hat; injection hh with hh; injection hh); clear hat hwc) | (at_mapUpdate; refine wpList_mapUpdate_own _ rfl _ _ _ 66 rfl 3 3 keyed_int Try.underlying66 _ _ k _ rfl HM4.out (by unfold maxLen; omega) _ _ _ rfl rfl HK.out _ [] (plainElem_int Try.underlying3 HWF.out) ?_; intro w5 hown5 hgrow5))
          have e4 := Ext.trans e3 b4
          have e5 := below_grown e4 hgrow5 e4.size (fun j hj => by cases hj; omega)
          have o5 := (o3v.keep b4).grown hgrow5 (by intro q; injection q with q; omega)
          go_roundw
          case rel => exact ⟨k + 1, by omega, by go_num, ⟨HMY.out, ⟨_, hown5, HST.out⟩, e5⟩, o5⟩
          case measure => simp [intOf]; omega
    · obtain rfl : nt = k := by omega
      obtain ⟨wo, rfl⟩ : ∃ wo : World, wo = wr := ⟨_, rfl⟩
      have HMY := Lib.hid HR.may
      have q2 := HR.ext
      have v1 : wo.cell? ⟨w.heap.size, 1, none⟩ = some (.slice B nb cb) := oW.cell 1
      clear HR HN
      go_wp2
      go_loopw [79] (fun i wr => ∃ j : Nat, j ≤ nb ∧ i = .int .i64 j ∧ Hid ((bs.take j).all effB = true) ∧ Ext w wr ∧ Own wr w.heap.size 27 [.slice A nt ct, .slice B nb cb, .slice M nm cm, .slice G ng cg, .int .i64 fr, .int .i64 dog]) (fun i _ => nb - (intOf i).toNat)
      case atStart => exact ⟨0, by omega, rfl, Lib.hid rfl, q2, oW⟩
      case round =>
        obtain ⟨j, hj, rfl, HA, q3, oX⟩ := hrel
        clear v1 oW
        by_cases hlt2 : j < nb
        · have hjl : j < bs.length := by rw [HBL.out]; exact hlt2
          obtain ⟨b0, off, rfl, he⟩ := flat_at (k := 2) (HC.out.best.keep q3).rd (fun _ _ => rfl) (by omega) hjl
          have HTJ := Lib.hid (take_succ' bs j hjl)
          have HMEM := Lib.hid (List.getElem_mem hjl)
          have c1 := fun w => a_within bs[j].lvl 0 15 w
          rw [show decide (0 ≤ bs[j].lvl ∧ bs[j].lvl ≤ 15) = inB bs[j].lvl 0 15 from rfl] at c1
          have HEF := Lib.hid (show effB bs[j] = (inB bs[j].lvl 0 15 && decide (bs[j].on ≤ 40)) from rfl)
          generalize hYY : bs[j]'hjl = y at *
          clear hYY
          have i0' : (0 : Int) ≤ (j : Int) := by omega
          have i1' : (j : Int) < (nb : Int) := by omega
          generalize inB y.lvl 0 15 = q at *
          have CW := Lib.hid c1
          clear c1
          have HNO : Hid (effB y = false → bs.all effB = false) := Lib.hid (fun h => by rw [List.all_eq_false]; exact ⟨y, HMEM.out, by simp [h]⟩)
          cases q
          · have HE := Lib.hid (HNO.out (by rw [HEF.out]; rfl))
            go_wp2_with (first
          | (refine wpl_load_rd _ rfl 60 _ rfl (by kernel_rfl) 2 size_effort b0 (off + j * 2) rfl [.int .i64 y.lvl, .slice y.O y.on y.oc] rfl he ?_)
          | (refine wpl_alloc_own _ rfl 60 rfl zef zero_effort ?_; intro w2 o2 b2 s2; clear s2)
          | (refine wpl_store_own _ rfl 60 _ _ rfl 2 size_effort _ rfl [.int .i64 y.lvl, .slice y.O y.on y.oc] rfl _ _ o2 rfl rfl (EF.one y) ?_; intro w3 o3 g3 s3; clear s3; have e3' := below_of_grown b2 g3 (Nat.le_refl _) b2.size; have e3 := Ext.trans q3 e3'; have d0 : w3.cell? ⟨wr.heap.size, 0, none⟩ = some (.int .i64 y.lvl) := o3.cell 0; have d1 : w3.cell? ⟨wr.heap.size, 1, none⟩ = some (.slice y.O y.on y.oc) := o3.cell 1)
          | ((with_reducible go_at_call 25); (with_reducible refine (CW.out _).mono ?_); rintro e w' ⟨rfl, rfl⟩))
            go_ret
            exact ⟨by rw [HQ.out, HE.out]; simp, e3⟩
          · by_cases h40 : (40 : Int) < (y.on : Int)
            · have HE := Lib.hid (HNO.out (by rw [HEF.out]; simp; omega))
              go_wp2_with (first
          | (refine wpl_load_rd _ rfl 60 _ rfl (by kernel_rfl) 2 size_effort b0 (off + j * 2) rfl [.int .i64 y.lvl, .slice y.O y.on y.oc] rfl he ?_)
          | (refine wpl_alloc_own _ rfl 60 rfl zef zero_effort ?_; intro w2 o2 b2 s2; clear s2)
          | (refine wpl_store_own _ rfl 60 _ _ rfl 2 size_effort _ rfl [.int .i64 y.lvl, .slice y.O y.on y.oc] rfl _ _ o2 rfl rfl (EF.one y) ?_; intro w3 o3 g3 s3; clear s3; have e3' := below_of_grown b2 g3 (Nat.le_refl _) b2.size; have e3 := Ext.trans q3 e3'; have d0 : w3.cell? ⟨wr.heap.size, 0, none⟩ = some (.int .i64 y.lvl) := o3.cell 0; have d1 : w3.cell? ⟨wr.heap.size, 1, none⟩ = some (.slice y.O y.on y.oc) := o3.cell 1)
          | ((with_reducible go_at_call 25); (with_reducible refine (CW.out _).mono ?_); rintro e w' ⟨rfl, rfl⟩))
              go_ret
              exact ⟨by rw [HQ.out, HE.out]; simp, e3⟩
            · have HE : Hid ((bs.take (j + 1)).all effB = true) := Lib.hid (by rw [HTJ.out, List.all_append, HA.out]; simp [HEF.out]; omega)
              go_wp2_with (first
          | (refine wpl_load_rd _ rfl 60 _ rfl (by kernel_rfl) 2 size_effort b0 (off + j * 2) rfl [.int .i64 y.lvl, .slice y.O y.on y.oc] rfl he ?_)
          | (refine wpl_alloc_own _ rfl 60 rfl zef zero_effort ?_; intro w2 o2 b2 s2; clear s2)
          | (refine wpl_store_own _ rfl 60 _ _ rfl 2 size_effort _ rfl [.int .i64 y.lvl, .slice y.O y.on y.oc] rfl _ _ o2 rfl rfl (EF.one y) ?_; intro w3 o3 g3 s3; clear s3; have e3' := below_of_grown b2 g3 (Nat.le_refl _) b2.size; have e3 := Ext.trans q3 e3'; have d0 : w3.cell? ⟨wr.heap.size, 0, none⟩ = some (.int .i64 y.lvl) := o3.cell 0; have d1 : w3.cell? ⟨wr.heap.size, 1, none⟩ = some (.slice y.O y.on y.oc) := o3.cell 1)
          | ((with_reducible go_at_call 25); (with_reducible refine (CW.out _).mono ?_); rintro e w' ⟨rfl, rfl⟩))
              go_roundw
              case rel => exact ⟨j + 1, by omega, by go_num, HE, e3, oX.keep e3'⟩
              case measure => simp [intOf]; omega
        · obtain rfl : nb = j := by omega
          have HB2 : Hid (bs.all effB = true) := Lib.hid (by have := HA.out; rwa [List.take_of_length_le (by rw [HBL.out]; omega)] at this)
          have v3 : wr.cell? ⟨w.heap.size, 3, none⟩ = some (.slice G ng cg) := oX.cell 3
          have HG := Lib.hid (gap_contains G ng cg gs wr (by omega) (HC.out.gaps.keep q3).rd HC.out.gaps.len)
          have hmf : ∀ (fn : Fn) (first cap : Array Value) (w : World), (Instr.makeFunc fn first cap).run Try.prog w = .ok (.func fn first cap) w := fun _ _ _ _ => rfl
          clear oX
          go_wp2_with fail
          refine HG.out.mono ?_
          rintro e w5 ⟨rfl, b5⟩
          go_wp2
          go_ret
          exact ⟨by rw [HQ.out, HMY.out, HB2.out]; rfl, Ext.trans q3 b5⟩

set_option maxRecDepth 100000 in
set_option maxHeartbeats 400000 in
theorem a_may (A : Option Addr) (nt ct : Nat) (ts : List TK) (B : Option Addr) (nb cb : Nat) (bs : List EF) (M : Option Addr) (nm cm : Nat) (ms : List (Int × Int)) (G : Option Addr) (ng cg : Nat) (gs : List Int) (fr dog : Int) (w : World) (h : ConfArg w A nt ts B nb bs M nm ms G ng gs fr dog) (h12 : nm ≤ 65536) :
    Calls Try.prog 10 #[.agg #[.slice A nt ct, .slice B nb cb, .slice M nm cm, .slice G ng cg, .int .i64 fr, .int .i64 dog]] w fun e w' => e = .returned (.bool (mayC nt nb nm ng ts bs ms gs fr dog)) ∧ Below w.heap.size w w' := by
  by_cases hs : nt ≤ 8 ∧ nb ≤ 6 ∧ ng ≤ 4 ∧ inB fr 8 64 = true ∧ inB dog 1 1099511627776 = true
  · cases hok : okM ms
    · exact a_may_mtx A nt ct ts B nb cb bs M nm cm ms G ng cg gs fr dog w h h12 hs hok
    · exact a_may_ok A nt ct ts B nb cb bs M nm cm ms G ng cg gs fr dog w h hs hok
  · exact a_may_size A nt ct ts B nb cb bs M nm cm ms G ng cg gs fr dog w hs

end Go.Proofs.Ytdninhdabeddeaa
