/-
  THE STATEMENT AdmitAhead: the plain law, the walk.
-/
import Derived.Test.YtdninhdabeddeaaAdmS
import Derived.Test.YtdninhdabeddeaaTwo
namespace Go.Proofs.Ytdninhdabeddeaa
open Go.RowKit
attribute [local go_sem] depUpon Sp.ok readsTo

theorem mayT_cls {nm ng : Nat} {x : TK} (h : mayT nm ng x = true) : x.cls = 1 ∨ x.cls = 2 := by
  unfold mayT clsB at h
  simp only [Bool.and_eq_true] at h
  have h1 := h.1.1.1.1
  by_cases h2 : x.cls = 2
  · exact .inr h2
  · rw [if_neg h2] at h1
    simp only [Bool.and_eq_true, decide_eq_true_eq] at h1
    exact .inl h1.1
theorem cnt_fixed {x y : TK} (hx : x.cls = 2) : cntB x y = (decide (y.cls = 2) && decide (x.lvl ≤ y.lvl)) := by
  unfold cntB
  by_cases hy : y.cls = 2
  · rw [hx, hy]
    unfold pcmp icmp
    simp
    by_cases h1 : y.lvl < x.lvl
    · rw [if_pos h1]; simp; omega
    · rw [if_neg h1]
      by_cases h2 : x.lvl < y.lvl
      · rw [if_pos h2]; simp; omega
      · rw [if_neg h2]; simp; omega
  · simp [hx, hy]
theorem cnt_early {x y : TK} (hx : x.cls = 1) : cntB x y = true := by simp [cntB, hx]
theorem ahd_fixed {x y : TK} (hx : x.cls = 2) : ahdB x y = (decide (y.cls = 2) && decide (x.lvl ≤ y.lvl)) := by
  unfold ahdB
  rw [cnt_fixed hx]
  by_cases hy : y.cls = 2 <;> simp [hy]
theorem ahd_early {x y : TK} (hx : x.cls = 1) : ahdB x y = decide (y.cls = 2) := by
  unfold ahdB
  rw [cnt_early hx, Bool.and_true]
theorem ahd_low {x y z : TK} (hx : x.cls = 1 ∨ x.cls = 2) (hy : y.cls = 2) (hlo : ¬ (x.cls = 2 ∧ y.lvl ≤ x.lvl)) (h : ahdB y z = true) : ahdB x z = true := by
  rw [ahd_fixed hy] at h
  simp only [Bool.and_eq_true, decide_eq_true_eq] at h
  rcases hx with hx | hx
  · rw [ahd_early hx]; simp [h.1]
  · rw [ahd_fixed hx]
    have : ¬ y.lvl ≤ x.lvl := fun e => hlo ⟨hx, e⟩
    simp [h.1]; omega
theorem ahd_self {x y : TK} (hx : x.cls = 1 ∨ x.cls = 2) (hy : y.cls = 2) (hlo : ¬ (x.cls = 2 ∧ y.lvl ≤ x.lvl)) : ahdB x y = true := by
  rcases hx with hx | hx
  · rw [ahd_early hx]; simp [hy]
  · rw [ahd_fixed hx]
    have : ¬ y.lvl ≤ x.lvl := fun e => hlo ⟨hx, e⟩
    simp [hy]; omega
theorem ahd_not {x y : TK} (hx : x.cls = 1 ∨ x.cls = 2) (hy : y.cls = 2) (hlo : ¬ (x.cls = 2 ∧ y.lvl ≤ x.lvl)) : ahdB y x = false := by
  rw [ahd_fixed hy]
  rcases hx with hx | hx
  · simp [hx]
  · have : ¬ y.lvl ≤ x.lvl := fun e => hlo ⟨hx, e⟩
    simp [hx]; omega
section
variable {ts : List TK} {i k : Nat} (hi : i < ts.length) (hk : k < ts.length) (hx : (ts[i]'hi).cls = 1 ∨ (ts[i]'hi).cls = 2) (hy : (ts[k]'hk).cls = 2) (hlo : ¬ ((ts[i]'hi).cls = 2 ∧ (ts[k]'hk).lvl ≤ (ts[i]'hi).lvl))
include hx hy hlo
theorem ahead_sub : ∀ m, m ≤ ts.length → List.Sublist (partT ts (k : Int) (someT (ahdB (ts[k]'hk)) ts m)) (partT ts (i : Int) (someT (ahdB (ts[i]'hi)) ts m)) ∧
      (k < m → (partT ts (k : Int) (someT (ahdB (ts[k]'hk)) ts m)).length < (partT ts (i : Int) (someT (ahdB (ts[i]'hi)) ts m)).length ∧ ((ts[k]'hk).per, (ts[k]'hk).bud) ∈ partT ts (i : Int) (someT (ahdB (ts[i]'hi)) ts m))
  | 0, _ => ⟨by simp [someT, partT], by omega⟩
  | m + 1, hm => by
    obtain ⟨ih1, ih2⟩ := ahead_sub m (by omega)
    have hm' : m < ts.length := by omega
    have hik : i ≠ k := by
      intro e
      subst e
      exact hlo ⟨hy, by omega⟩
    -- what the higher one's list gains
    have gain : partT ts (i : Int) (someT (ahdB (ts[i]'hi)) ts (m + 1)) = partT ts (i : Int) (someT (ahdB (ts[i]'hi)) ts m) ∨ ∃ q, partT ts (i : Int) (someT (ahdB (ts[i]'hi)) ts (m + 1)) = partT ts (i : Int) (someT (ahdB (ts[i]'hi)) ts m) ++ [q] := by
      cases hq : ahdB (ts[i]'hi) ts[m]
      · left; rw [someT_no hm' hq]
      · rw [someT_yes hm' hq]
        by_cases hmi : m = i
        · left; subst hmi; exact partT_same _ _ _
        · right; exact ⟨_, partT_snoc ts (i : Int) _ hm' (by omega)⟩
    by_cases hmk : m = k
    · have hA : partT ts (i : Int) (someT (ahdB (ts[i]'hi)) ts (m + 1)) = partT ts (i : Int) (someT (ahdB (ts[i]'hi)) ts m) ++ [((ts[k]'hk).per, (ts[k]'hk).bud)] := by
        subst hmk
        rw [someT_yes hm' (ahd_self hx hy hlo)]
        exact partT_snoc ts (i : Int) _ hm' (by omega)
      have hB : partT ts (k : Int) (someT (ahdB (ts[k]'hk)) ts (m + 1)) = partT ts (k : Int) (someT (ahdB (ts[k]'hk)) ts m) := by
        subst hmk
        cases hq : ahdB (ts[m]'hk) (ts[m]'hk)
        · rw [someT_no hm' hq]
        · rw [someT_yes hm' hq]; exact partT_same _ _ _
      rw [hA, hB]
      refine ⟨ih1.trans (List.sublist_append_left _ _), fun _ => ⟨?_, by simp⟩⟩
      have := ih1.length_le
      rw [List.length_append]; simp; omega
    · cases hq : ahdB (ts[k]'hk) ts[m]
      · have hB : partT ts (k : Int) (someT (ahdB (ts[k]'hk)) ts (m + 1)) = partT ts (k : Int) (someT (ahdB (ts[k]'hk)) ts m) := by rw [someT_no hm' hq]
        rw [hB]
        rcases gain with hg | ⟨q, hg⟩
        · rw [hg]; exact ⟨ih1, fun h => ih2 (by omega)⟩
        · rw [hg]
          refine ⟨ih1.trans (List.sublist_append_left _ _), fun h => ?_⟩
          obtain ⟨l1, l2⟩ := ih2 (by omega)
          exact ⟨by rw [List.length_append]; omega, List.mem_append_left _ l2⟩
      · have hmi : m ≠ i := by
          intro e
          subst e
          rw [ahd_not hx hy hlo] at hq
          cases hq
        rw [someT_yes hm' hq, someT_yes hm' (ahd_low hx hy hlo hq), partT_snoc ts (k : Int) _ hm' (by omega), partT_snoc ts (i : Int) _ hm' (by omega)]
        refine ⟨ih1.append (List.Sublist.refl _), fun h => ?_⟩
        obtain ⟨l1, l2⟩ := ih2 (by omega)
        exact ⟨by simp; omega, List.mem_append_left _ l2⟩
end
structure AheadLaw (A B : List (Int × Int)) (ng : Nat) (p : Int × Int) : Prop where
  sub : List.Sublist B A
  len : B.length < A.length
  own : (hasP A ng p).2 = true
theorem ahead_law {ts : List TK} {gs : List Int} {i k : Nat} (hi : i < ts.length) (hk : k < ts.length) (hx : ts[i].cls = 1 ∨ ts[i].cls = 2) (hy : ts[k].cls = 2) (hlo : ¬ (ts[i].cls = 2 ∧ ts[k].lvl ≤ ts[i].lvl)) :
    AheadLaw (partsV ts gs (i : Int) ts[i]) (partsV ts gs (k : Int) ts[k]) gs.length (ts[k].per, ts[k].bud) := by
  obtain ⟨h1, h2⟩ := ahead_sub hi hk hx hy hlo ts.length (Nat.le_refl _)
  obtain ⟨h3, h4⟩ := h2 hk
  refine ⟨(List.Sublist.refl _).append h1, by unfold partsV someL; rw [List.length_append, List.length_append]; omega, ?_⟩
  have hd : (partsV ts gs (i : Int) ts[i]).drop gs.length = partT ts (i : Int) (someT (ahdB ts[i]) ts ts.length) := by
    unfold partsV someL
    rw [← gapP_len gs, List.drop_left]
  obtain ⟨j, hj, _⟩ := hasP_sub (p := (ts[k].per, ts[k].bud)) (b := []) _ (partsV ts gs (i : Int) ts[i]) gs.length rfl (by rw [hd]; exact List.singleton_sublist.2 h4)
  rw [hj]

set_option maxRecDepth 100000 in
set_option maxHeartbeats 8000000 in
theorem law_admitahead (A : Option Addr) (nt ct : Nat) (ts : List TK) (B : Option Addr) (nb cb : Nat) (bs : List EF) (M : Option Addr) (nm cm : Nat) (ms : List (Int × Int)) (G : Option Addr) (ng cg : Nat) (gs : List Int) (fr dog : Int) (one two : Int) (w : World) (h : ConfArg w A nt ts B nb bs M nm ms G ng gs fr dog) (_ : nt ≤ ct ∧ nb ≤ cb ∧ nm ≤ cm ∧ ng ≤ cg) (_ : I64 one) (_ : I64 two) :
    Calls Try.prog 7 #[.agg #[.slice A nt ct, .slice B nb cb, .slice M nm cm, .slice G ng cg, .int .i64 fr, .int .i64 dog], .int .i64 one, .int .i64 two] w fun e w' => e = .returned (.bool true) ∧ Below w.heap.size w w' := by
  have HG := Lib.hid (fun w' (h' : Ext w w') => l_conf A nt ct ts B nb cb bs M nm cm ms G ng cg gs fr dog w' (h.keep h'))
  have HAW := Lib.hid (fun w => adm_awake w)
  have oV := Own.new w 27 [.slice A nt ct, .slice B nb cb, .slice M nm cm, .slice G ng cg, .int .i64 fr, .int .i64 dog]
  have bV : Ext w (w.alloc (.cells #[.slice A nt ct, .slice B nb cb, .slice M nm cm, .slice G ng cg, .int .i64 fr, .int .i64 dog] 27)) := Ext.alloc _ _
  have HH := Lib.hid h
  clear h
  go_enter Try.func7, Try.ntmps7
  go_wp2_with (refine wpl_load_w _ ?_ 27 _ rfl (by kernel_rfl) 6 size_conf _ rfl _ _ oV rfl ?_; focus (go_simp; done))
  refine (HG.out _ bV).mono ?_
  rintro e w1 ⟨⟨b, rfl, hs⟩, b1⟩
  replace oV := oV.keep b1
  replace bV := Ext.trans bV b1
  cases b
  case true =>
    clear hs oV
    go_wp2_with ((with_reducible go_at_call 9); (with_reducible refine (HAW.out _).mono ?_); rintro e w2 ⟨rfl, b2⟩)
    go_ret
    exact ⟨rfl, Ext.trans bV b2⟩
  obtain ⟨n12, nb12, nm12, ng12⟩ := hs rfl
  clear hs
  have HM := Lib.hid (fun w' (h' : Ext w w') => a_may A nt ct ts B nb cb bs M nm cm ms G ng cg gs fr dog w' (HH.out.keep h') (by omega))
  have v0 : w1.cell? ⟨w.heap.size, 0, none⟩ = some (.slice A nt ct) := oV.cell 0
  by_cases h0 : nt = 0
  · have t0 : ((nt : Int) == 0) = true := by simp [h0]
    clear h0
    go_wp2_with (first | (refine wpl_load_w _ ?_ 27 _ rfl (by kernel_rfl) 6 size_conf _ rfl _ _ oV rfl ?_; focus (go_simp; done)) | ((with_reducible go_at_call 9); (with_reducible refine (HAW.out _).mono ?_); rintro e w2 ⟨rfl, b2⟩))
    go_ret
    exact ⟨rfl, Ext.trans bV b2⟩
  have t0 : ((nt : Int) == 0) = false := by simp; omega
  cases hm : mayC nt nb nm ng ts bs ms gs fr dog
  · rw [hm] at HM
    clear hm
    go_wp2_with (refine wpl_load_w _ ?_ 27 _ rfl (by kernel_rfl) 6 size_conf _ rfl _ _ oV rfl ?_; focus (go_simp; done))
    refine (HM.out _ bV).mono ?_
    rintro e w2 ⟨rfl, b2⟩
    go_wp2_with ((with_reducible go_at_call 9); (with_reducible refine (HAW.out _).mono ?_); rintro e w3 ⟨rfl, b3⟩)
    go_ret
    exact ⟨rfl, Ext.trans bV (Ext.trans b2 b3)⟩
  have HPT := Lib.hid (fun (k : Nat) (hk : k < ts.length) w' (h' : Ext w w') => a_parts_yes A nt ct ts B nb cb bs M nm cm ms G ng cg gs fr dog k ts[k] w' (HH.out.keep h') hk rfl hm (by omega))
  obtain ⟨n8, _, n4, _, hmt, _, _⟩ := may_conf hm
  have HCL := Lib.hid (fun (k : Nat) (hk : k < ts.length) (hn : k < nt) => mayT_cls (may_task hmt hk hn))
  rw [hm] at HM
  have HTL := Lib.hid HH.out.tasks.len
  have HGL := Lib.hid HH.out.gaps.len
  clear hm hmt
  go_wp2_with (refine wpl_load_w _ ?_ 27 _ rfl (by kernel_rfl) 6 size_conf _ rfl _ _ oV rfl ?_; focus (go_simp; done))
  refine (HM.out _ bV).mono ?_
  rintro e w2 ⟨rfl, b2⟩
  replace oV := oV.keep b2
  replace bV := Ext.trans bV b2
  replace v0 := cell_keep b2 v0
  have HL1 := Lib.hid (fun w => low_any one (nt : Int) w (by omega) (by omega))
  have HL2 := Lib.hid (fun w => low_any two (nt : Int) w (by omega) (by omega))
  have i0 := low_lo one (nt : Int) (by omega)
  have i1 := low_hi one (nt : Int) (by omega)
  have k0 := low_lo two (nt : Int) (by omega)
  have k1 := low_hi two (nt : Int) (by omega)
  generalize low one (nt : Int) = ii at *
  generalize low two (nt : Int) = kk at *
  obtain ⟨i, rfl⟩ : ∃ i : Nat, ii = (i : Int) := ⟨ii.toNat, by omega⟩
  obtain ⟨k, rfl⟩ : ∃ k : Nat, kk = (k : Int) := ⟨kk.toNat, by omega⟩
  clear HM HG b1 h0 t0
  go_wp2
  refine wp_region_dep (S := Ext) (C := Ext (w2)) (by kernel_rfl) (by kernel_rfl) rfl Ext.refl (Ext.drew _) ?_
  repeat (refine dep_det (by rfl) (fun K hK => ?_); go_simp; first
    | ((with_reducible refine hK _ ?_); clear hK K)
    | (rw [if_neg (by decide)]; (with_reducible refine hK _ ?_); clear hK K)
    | (refine ⟨_, fun w1 hw1 => ⟨Ext.refl w1, hw1, rfl⟩, hK _ ?_⟩; clear hK K)
    | (apply Exists.intro; refine ⟨fun w1 hw1 => ?_, hK _ ?_⟩
       first
         | (go_at_call 22; ((with_reducible refine (HL1.out _).mono ?_); rintro e w' ⟨rfl, rfl⟩; exact ⟨_, rfl, Ext.refl _, hw1, rfl⟩))
         | (go_at_call 22; ((with_reducible refine (HL2.out _).mono ?_); rintro e w' ⟨rfl, rfl⟩; exact ⟨_, rfl, Ext.refl _, hw1, rfl⟩))
         | (have c_v0 := cell_keep hw1 v0; go_simp; first | exact ⟨Ext.refl _, hw1, rfl⟩ | exact ⟨Ext.refl _, rfl⟩)
       clear hK K))
  refine dep_nil ?_
  intro a' w' hC hE
  obtain rfl := atEnd_nil hE
  clear hE
  obtain ⟨wa, rfl⟩ : ∃ wa : World, wa = w' := ⟨_, rfl⟩
  replace oV := oV.keep hC
  replace bV := Ext.trans bV hC
  replace v0 := cell_keep hC v0
  clear hC HL1 HL2
  have hil : i < ts.length := by rw [HTL.out]; omega
  have hkl : k < ts.length := by rw [HTL.out]; omega
  have hci := HCL.out i hil (by omega)
  have hpi := HPT.out i hil
  have hpk := HPT.out k hkl
  have hal := fun hy hlo => ahead_law (gs := gs) hil hkl hci hy hlo
  rw [HGL.out] at hal
  obtain ⟨b0, off, rfl, he⟩ := flat_at (k := 8) (HH.out.tasks.keep bV).rd (fun _ _ => rfl) (by omega) hil
  obtain ⟨b0', off', eA, he'⟩ := flat_at (k := 8) (HH.out.tasks.keep bV).rd (fun _ _ => rfl) (by omega) hkl
  injection eA with eA
  injection eA with eA1 eA2
  subst eA1
  subst eA2
  have hPL := partsV_len (ts := ts) (gs := gs) (i := (i : Int)) (x := ts[i]) (by rw [HTL.out]; omega) (by rw [HGL.out]; omega)
  have hPL2 := partsV_len (ts := ts) (gs := gs) (i := (k : Int)) (x := ts[k]) (by rw [HTL.out]; omega) (by rw [HGL.out]; omega)
  have hGP : ng ≤ (partsV ts gs (i : Int) ts[i]).length := by unfold partsV; rw [List.length_append, gapP_len, HGL.out]; omega
  generalize partsV ts gs (i : Int) ts[i] = PA at *
  generalize partsV ts gs (k : Int) ts[k] = PB at *
  generalize ts[i] = x at *
  generalize ts[k] = y at *
  have HPI := Lib.hid hpi
  have HPK := Lib.hid hpk
  have HAL := Lib.hid hal
  have HE := Lib.hid he
  have HE' := Lib.hid he'
  have hi2 : i < nt := by omega
  have hk2 : k < nt := by omega
  clear hpi hpk hal he he' hci hil hkl HPT HCL
  go_wp2
  refine wp_region_two 13 10 11 12 9 10 47 [.int .i64 0, .int .i64 0, .int .i64 0, .int .i64 0, .int .i64 0, .int .i64 0, .slice none 0 0, .slice none 0 0] [.int .i64 x.cls, .int .i64 x.lvl, .int .i64 x.per, .int .i64 x.ddl, .int .i64 x.bud, .int .i64 x.line, .slice x.U x.un x.uc, .slice x.O x.on x.oc] (by kernel_rfl) (by kernel_rfl) (by kernel_rfl) rfl ?_
  repeat (refine two_read (by rfl) (by decide) (fun K hK => ?_); go_simp; first
    | (refine ⟨_, fun w1 hw1 => ⟨rfl, rfl⟩, hK _ ?_⟩; clear hK K)
    | (apply Exists.intro
       refine ⟨fun w1 hw1 => ?_, hK _ ?_⟩
       · have c_1 := cell_keep hw1 v0
         go_simp
         first | done | exact ⟨rfl, rfl⟩ | rfl
       clear hK K))
  refine two_load_rd (by rfl) (by decide) 47 _ rfl b0 (off + i * 8) (by rfl) [.int .i64 x.cls, .int .i64 x.lvl, .int .i64 x.per, .int .i64 x.ddl, .int .i64 x.bud, .int .i64 x.line, .slice x.U x.un x.uc, .slice x.O x.on x.oc] (by go_simp) (fun w1 hw1 => run_load_rd w1 47 (by kernel_rfl) 8 size_task b0 (off + i * 8) _ rfl (fun j v hv => cell_keep hw1 (HE.out j v hv))) ?_
  repeat (refine two_read (by rfl) (by decide) (fun K hK => ?_); go_simp; first
    | (refine ⟨_, fun w1 hw1 => ⟨rfl, rfl⟩, hK _ ?_⟩; clear hK K)
    | (apply Exists.intro
       refine ⟨fun w1 hw1 => ?_, hK _ ?_⟩
       · have c_1 := cell_keep hw1 v0
         go_simp
         first | done | exact ⟨rfl, rfl⟩ | rfl
       clear hK K))
  refine two_load_rd (by rfl) (by decide) 47 _ rfl b0 (off + k * 8) (by rfl) [.int .i64 y.cls, .int .i64 y.lvl, .int .i64 y.per, .int .i64 y.ddl, .int .i64 y.bud, .int .i64 y.line, .slice y.U y.un y.uc, .slice y.O y.on y.oc] (by go_simp) (fun w1 hw1 => run_load_rd w1 47 (by kernel_rfl) 8 size_task b0 (off + k * 8) _ rfl (fun j v hv => cell_keep hw1 (HE'.out j v hv))) ?_
  refine two_alloc (by rfl) (by decide) rfl rfl ztk zero_task rfl rfl 9 rfl ?_
  refine two_alloc (by rfl) (by decide) rfl rfl ztk zero_task rfl rfl 10 rfl ?_
  refine two_store 46 (by rfl) (by decide) rfl rfl (by decide) (by intro V' h; simpa using h) (by simp) (by first | (simp; done) | simp [Act.put]) 8 size_task (by rfl) rfl rfl (TK.one x) rfl ?_
  intro a' w' g1 g2 hC e1 e2 hne hb1 hb2 o1 o2 hE
  obtain ⟨v, ⟨h2, rfl, _⟩, hE⟩ := atEnd_cons hE (by simp) (by first | (simp; done) | simp [Act.put])
  obtain ⟨v, ⟨h1, rfl, _⟩, hE⟩ := atEnd_cons hE (by simp) (by first | (simp; done) | simp [Act.put])
  obtain rfl := atEnd_nil hE
  obtain rfl : h1 = g1 := ptr_inj (by simpa [Act.put] using e1)
  obtain rfl : h2 = g2 := ptr_inj (by simpa [Act.put] using e2)
  clear hE e1 e2
  unfold ptr
  refine wpl_store_own _ rfl 47 _ _ rfl 8 size_task _ rfl [.int .i64 y.cls, .int .i64 y.lvl, .int .i64 y.per, .int .i64 y.ddl, .int .i64 y.bud, .int .i64 y.line, .slice y.U y.un y.uc, .slice y.O y.on y.oc] rfl _ _ o2 rfl rfl (TK.one y) ?_
  intro w5 o5 g5 s5
  have o1' := o1.grown g5 (by intro q; injection q with q; exact hne q)
  have e5 := below_grown hC g5 hC.size (fun j hj => by injection hj with hj; omega)
  replace oV := (oV.keep hC).grown g5 (by intro q; injection q with q; have := (Own.lt oV); omega)
  have bW := Ext.trans bV e5
  have dx0 : w5.cell? ⟨h1, 0, none⟩ = some (.int .i64 x.cls) := o1'.cell 0
  have dx1 : w5.cell? ⟨h1, 1, none⟩ = some (.int .i64 x.lvl) := o1'.cell 1
  have dy0 : w5.cell? ⟨h2, 0, none⟩ = some (.int .i64 y.cls) := o5.cell 0
  have dy1 : w5.cell? ⟨h2, 1, none⟩ = some (.int .i64 y.lvl) := o5.cell 1
  have dy2 : w5.cell? ⟨h2, 2, none⟩ = some (.int .i64 y.per) := o5.cell 2
  have dy4 : w5.cell? ⟨h2, 4, none⟩ = some (.int .i64 y.bud) := o5.cell 4
  have v3 : w5.cell? ⟨w.heap.size, 3, none⟩ = some (.slice G ng cg) := oV.cell 3
  have OV := Lib.hid oV
  have O1 := Lib.hid o1'
  have O5 := Lib.hid o5
  clear o1 o2 o1' o5 g5 s5 hb1 hb2 hne hC e5 bV v0 oV HE HE'
  by_cases hyc : y.cls = 2
  · have ty : (y.cls != 2) = false := by simp [hyc]
    by_cases hxc : x.cls = 2
    · have tx : (x.cls == 2) = true := by simp [hxc]
      by_cases hlv : y.lvl ≤ x.lvl
      · clear hyc hxc HAL
        have tg : decide (ng ≤ PA.length) = true := by simp; omega
        go_wp2
        refine wp_region_dep (S := Ext) (C := Ext (w5)) (by kernel_rfl) (by kernel_rfl) rfl Ext.refl (Ext.drew _) ?_
        refine dep_load_rd (by rfl) 27 _ rfl (by kernel_rfl) 6 size_conf w.heap.size 0 (by rfl) [.slice (some ⟨b0, off, none⟩) nt ct, .slice B nb cb, .slice M nm cm, .slice G ng cg, .int .i64 fr, .int .i64 dog] rfl (by go_simp) Ext.refl (fun w1 hw1 j v hv => by rw [Nat.zero_add, (OV.out.keep hw1).cell j]; exact hv) ?_
        repeat (refine dep_det (by rfl) (fun K hK => ?_); go_simp; first
          | ((with_reducible refine hK _ ?_); clear hK K)
          | (rw [if_neg (by decide)]; (with_reducible refine hK _ ?_); clear hK K)
          | (refine ⟨_, fun w1 hw1 => ⟨Ext.refl w1, hw1, rfl⟩, hK _ ?_⟩; clear hK K))
        refine dep_var (RdSl (pairs PA) PA.length) 69 rfl (by rfl) RdSl.keep (by go_simp) (fun w1 hw1 => ?_) ?_
        · go_simp
          refine (HPI.out w1 (Ext.trans bW hw1)).mono ?_
          rintro e w' ⟨S, c', rfl, hr, hb'⟩
          exact ⟨_, rfl, hb', Ext.trans hw1 hb', S, c', rfl, hr⟩
        refine dep_det1 69 _ (by rfl) (by intro V' h; simpa using h) (List.mem_cons_self ..) (by first | (simp; done) | simp [Act.put]) (fun K hK => ?_)
        apply Exists.intro
        refine ⟨fun w1 v hw1 hV => ?_, hK _ ?_⟩
        · obtain ⟨S, c', rfl, hr⟩ := hV
          go_simp
          first | exact ⟨Ext.refl _, hw1, rfl⟩ | exact ⟨Ext.refl _, rfl⟩
        clear hK K
        repeat (refine dep_det (by rfl) (fun K hK => ?_); go_simp; first
          | ((with_reducible refine hK _ ?_); clear hK K)
          | (rw [if_neg (by decide)]; (with_reducible refine hK _ ?_); clear hK K)
          | (refine ⟨_, fun w1 hw1 => ⟨Ext.refl w1, hw1, rfl⟩, hK _ ?_⟩; clear hK K)
          | (apply Exists.intro; refine ⟨fun w1 hw1 => ?_, hK _ ?_⟩
             first
               | (go_at_call 9; ((with_reducible refine (HAW.out _).mono ?_); rintro e w' ⟨rfl, hb'⟩; exact ⟨_, rfl, hb', Ext.trans hw1 hb', rfl⟩))
               | (have c_v3 := cell_keep hw1 v3; go_simp; first | exact ⟨Ext.refl _, hw1, rfl⟩ | exact ⟨Ext.refl _, rfl⟩)
             clear hK K))
        refine dep_nil ?_
        intro a' w' hC hE
        obtain ⟨v, ⟨S1, d1, rfl, p1⟩, hE⟩ := atEnd_cons hE (by simp) (by first | (simp; done) | simp [Act.put])
        obtain rfl := atEnd_nil hE
        clear hE
        go_wp2
        go_ret
        exact ⟨rfl, Ext.trans bW hC⟩
      · have hl2 : decide (y.lvl ≤ x.lvl) = false := by simpa using hlv
        have HL := Lib.hid (HAL.out hyc (fun e => hlv e.2))
        clear hyc hxc hlv HAL
        go_wp2
        refine wp_region_dep (S := Ext) (C := Ext (w5)) (by kernel_rfl) (by kernel_rfl) rfl Ext.refl (Ext.drew _) ?_
        refine dep_load_rd (by rfl) 27 _ rfl (by kernel_rfl) 6 size_conf w.heap.size 0 (by rfl) [.slice (some ⟨b0, off, none⟩) nt ct, .slice B nb cb, .slice M nm cm, .slice G ng cg, .int .i64 fr, .int .i64 dog] rfl (by go_simp) Ext.refl (fun w1 hw1 j v hv => by rw [Nat.zero_add, (OV.out.keep hw1).cell j]; exact hv) ?_
        repeat (refine dep_det (by rfl) (fun K hK => ?_); go_simp; first
          | ((with_reducible refine hK _ ?_); clear hK K)
          | (rw [if_neg (by decide)]; (with_reducible refine hK _ ?_); clear hK K)
          | (refine ⟨_, fun w1 hw1 => ⟨Ext.refl w1, hw1, rfl⟩, hK _ ?_⟩; clear hK K))
        refine dep_var (RdSl (pairs PA) PA.length) 80 rfl (by rfl) RdSl.keep (by go_simp) (fun w1 hw1 => ?_) ?_
        · go_simp
          refine (HPI.out w1 (Ext.trans bW hw1)).mono ?_
          rintro e w' ⟨S, c', rfl, hr, hb'⟩
          exact ⟨_, rfl, hb', Ext.trans hw1 hb', S, c', rfl, hr⟩
        refine dep_load_rd (by rfl) 27 _ rfl (by kernel_rfl) 6 size_conf w.heap.size 0 (by rfl) [.slice (some ⟨b0, off, none⟩) nt ct, .slice B nb cb, .slice M nm cm, .slice G ng cg, .int .i64 fr, .int .i64 dog] rfl (by go_simp) Ext.refl (fun w1 hw1 j v hv => by rw [Nat.zero_add, (OV.out.keep hw1).cell j]; exact hv) ?_
        repeat (refine dep_det (by rfl) (fun K hK => ?_); go_simp; first
          | ((with_reducible refine hK _ ?_); clear hK K)
          | (rw [if_neg (by decide)]; (with_reducible refine hK _ ?_); clear hK K)
          | (refine ⟨_, fun w1 hw1 => ⟨Ext.refl w1, hw1, rfl⟩, hK _ ?_⟩; clear hK K))
        refine dep_var (RdSl (pairs PB) PB.length) 83 rfl (by rfl) RdSl.keep (by go_simp) (fun w1 hw1 => ?_) ?_
        · go_simp
          refine (HPK.out w1 (Ext.trans bW hw1)).mono ?_
          rintro e w' ⟨S, c', rfl, hr, hb'⟩
          exact ⟨_, rfl, hb', Ext.trans hw1 hb', S, c', rfl, hr⟩
        refine dep_var1 80 (RdSl (pairs PA) PA.length) (RdSl (pairs PA) PA.length) 11 rfl (by rfl) (by intro V' h; simpa using h) (by simp) (by first | (simp; done) | simp [Act.put]) RdSl.keep (fun w1 v hw1 hV => ?_) ?_
        · go_simp
          first | exact Ext.refl _ | exact ⟨Ext.refl _, hV⟩ | exact ⟨Ext.refl _, hw1, hV⟩
        refine dep_var1 83 (RdSl (pairs PB) PB.length) (RdSl (pairs PB) PB.length) 12 rfl (by rfl) (by intro V' h; simpa using h) (by simp) (by first | (simp; done) | simp [Act.put]) RdSl.keep (fun w1 v hw1 hV => ?_) ?_
        · go_simp
          first | exact Ext.refl _ | exact ⟨Ext.refl _, hV⟩ | exact ⟨Ext.refl _, hw1, hV⟩
        refine dep_nil ?_
        intro a' w' hC hE
        obtain ⟨v, ⟨SB, dB, rfl, rB⟩, hE⟩ := atEnd_cons hE (by simp) (by first | (simp; done) | simp [Act.put])
        obtain ⟨v, ⟨SA, dA, rfl, rA⟩, hE⟩ := atEnd_cons hE (by simp) (by first | (simp; done) | simp [Act.put])
        obtain ⟨v, ⟨SB', dB', rfl, _⟩, hE⟩ := atEnd_cons hE (by simp) (by first | (simp; done) | simp [Act.put])
        obtain ⟨v, ⟨SA', dA', rfl, _⟩, hE⟩ := atEnd_cons hE (by simp) (by first | (simp; done) | simp [Act.put])
        obtain rfl := atEnd_nil hE
        clear hE
        obtain ⟨wb, rfl⟩ : ∃ wb : World, wb = w' := ⟨_, rfl⟩
        have bX := Ext.trans bW hC
        have f2 := cell_keep hC dy2
        have f4 := cell_keep hC dy4
        have f3 := cell_keep hC v3
        have HSUB0 := Lib.hid HL.out.sub
        clear dx0 dx1 dy0 dy1 dy2 dy4 v3 hC bW
        go_wp2
        go_loopw [13, 14, 15] (fun at_ ok_ j wr => ∃ (jn p : Nat), at_ = .int .i64 p ∧ ok_ = .bool true ∧ j = .int .i64 jn ∧ jn ≤ PB.length ∧ p ≤ PA.length ∧ Hid (List.Sublist (PB.drop jn) (PA.drop p)) ∧ Ext wb wr) (fun _ _ j _ => PB.length - (intOf j).toNat)
        case atStart => exact ⟨0, 0, rfl, rfl, rfl, by omega, by omega, HSUB0, Ext.refl _⟩
        case round =>
          obtain ⟨jn, p, rfl, rfl, rfl, hjn, hp, HS, q2⟩ := hrel
          by_cases hlt : jn < PB.length
          · have hsub := HS.out
            rw [List.drop_eq_getElem_cons hlt] at hsub
            obtain ⟨j2, hj2, hj3, hj4⟩ := hasP_sub _ PA p rfl hsub
            obtain ⟨bb, ob, rfl, k1, k2⟩ := (rB.keep q2).pair hlt
            have hhas := fun a b w1 (h' : Ext wb w1) => l_has SA PA.length dA PA p a b w1 (by omega) (by omega) (rA.keep h') rfl
            generalize PB[jn] = pq at *
            obtain ⟨pa, pb⟩ := pq
            have hh := hhas pa pb
            rw [hj2] at hh
            have HHH := Lib.hid hh
            have HS2 := Lib.hid hj4
            have HCE := Lib.hid (show ∀ j v, ([.int .i64 pa, .int .i64 pb] : List Value)[j]? = some v → wr.cell? ⟨bb, ob + jn * 2 + j, none⟩ = some v by
              intro j v hv
              match j with
              | 0 => simpa using hv ▸ k1
              | 1 => simpa using hv ▸ k2
              | j + 2 => simp at hv)
            have j0' : (0 : Int) ≤ (jn : Int) := by omega
            have j1' : (jn : Int) < (PB.length : Int) := by omega
            clear hh hhas hj2 hj4 hsub k1 k2
            go_wp2_with (refine wpl_load_rd _ rfl 36 _ rfl (by kernel_rfl) 2 size_prt bb (ob + jn * 2) rfl [.int .i64 pa, .int .i64 pb] rfl HCE.out ?_)
            refine (HHH.out _ q2).mono ?_
            rintro e w7 ⟨rfl, b7⟩
            go_wp2
            go_roundw
            case rel => exact ⟨jn + 1, j2, rfl, rfl, by go_num, by omega, hj3, HS2, Ext.trans q2 b7⟩
            case measure => simp [intOf]; omega
          · obtain rfl : PB.length = jn := by omega
            have hown := HL.out.own
            have hln := HL.out.len
            have hhas := fun w1 (h' : Ext wb w1) => l_has SA PA.length dA PA ng y.per y.bud w1 (by omega) (by omega) (rA.keep h') rfl
            generalize hasP PA ng (y.per, y.bud) = hq at *
            obtain ⟨hq1, hq2⟩ := hq
            obtain rfl : hq2 = true := hown
            have HHH := Lib.hid hhas
            have f2' := cell_keep q2 f2
            have f4' := cell_keep q2 f4
            have f3' := cell_keep q2 f3
            clear hhas f2 f3 f4
            go_wp2_with fail
            refine (HHH.out _ q2).mono ?_
            rintro e w7 ⟨rfl, b7⟩
            go_wp2_with ((with_reducible go_at_call 9); (with_reducible refine (HAW.out _).mono ?_); rintro e w8 ⟨rfl, b8⟩)
            go_ret
            exact ⟨rfl, Ext.trans (Ext.trans (Ext.trans bX q2) b7) b8⟩
    · have tx : (x.cls == 2) = false := by simp [hxc]
      have HL := Lib.hid (HAL.out hyc (fun e => hxc e.1))
      clear hyc hxc HAL
      go_wp2
      refine wp_region_dep (S := Ext) (C := Ext (w5)) (by kernel_rfl) (by kernel_rfl) rfl Ext.refl (Ext.drew _) ?_
      refine dep_load_rd (by rfl) 27 _ rfl (by kernel_rfl) 6 size_conf w.heap.size 0 (by rfl) [.slice (some ⟨b0, off, none⟩) nt ct, .slice B nb cb, .slice M nm cm, .slice G ng cg, .int .i64 fr, .int .i64 dog] rfl (by go_simp) Ext.refl (fun w1 hw1 j v hv => by rw [Nat.zero_add, (OV.out.keep hw1).cell j]; exact hv) ?_
      repeat (refine dep_det (by rfl) (fun K hK => ?_); go_simp; first
        | ((with_reducible refine hK _ ?_); clear hK K)
        | (rw [if_neg (by decide)]; (with_reducible refine hK _ ?_); clear hK K)
        | (refine ⟨_, fun w1 hw1 => ⟨Ext.refl w1, hw1, rfl⟩, hK _ ?_⟩; clear hK K))
      refine dep_var (RdSl (pairs PA) PA.length) 80 rfl (by rfl) RdSl.keep (by go_simp) (fun w1 hw1 => ?_) ?_
      · go_simp
        refine (HPI.out w1 (Ext.trans bW hw1)).mono ?_
        rintro e w' ⟨S, c', rfl, hr, hb'⟩
        exact ⟨_, rfl, hb', Ext.trans hw1 hb', S, c', rfl, hr⟩
      refine dep_load_rd (by rfl) 27 _ rfl (by kernel_rfl) 6 size_conf w.heap.size 0 (by rfl) [.slice (some ⟨b0, off, none⟩) nt ct, .slice B nb cb, .slice M nm cm, .slice G ng cg, .int .i64 fr, .int .i64 dog] rfl (by go_simp) Ext.refl (fun w1 hw1 j v hv => by rw [Nat.zero_add, (OV.out.keep hw1).cell j]; exact hv) ?_
      repeat (refine dep_det (by rfl) (fun K hK => ?_); go_simp; first
        | ((with_reducible refine hK _ ?_); clear hK K)
        | (rw [if_neg (by decide)]; (with_reducible refine hK _ ?_); clear hK K)
        | (refine ⟨_, fun w1 hw1 => ⟨Ext.refl w1, hw1, rfl⟩, hK _ ?_⟩; clear hK K))
      refine dep_var (RdSl (pairs PB) PB.length) 83 rfl (by rfl) RdSl.keep (by go_simp) (fun w1 hw1 => ?_) ?_
      · go_simp
        refine (HPK.out w1 (Ext.trans bW hw1)).mono ?_
        rintro e w' ⟨S, c', rfl, hr, hb'⟩
        exact ⟨_, rfl, hb', Ext.trans hw1 hb', S, c', rfl, hr⟩
      refine dep_var1 80 (RdSl (pairs PA) PA.length) (RdSl (pairs PA) PA.length) 11 rfl (by rfl) (by intro V' h; simpa using h) (by simp) (by first | (simp; done) | simp [Act.put]) RdSl.keep (fun w1 v hw1 hV => ?_) ?_
      · go_simp
        first | exact Ext.refl _ | exact ⟨Ext.refl _, hV⟩ | exact ⟨Ext.refl _, hw1, hV⟩
      refine dep_var1 83 (RdSl (pairs PB) PB.length) (RdSl (pairs PB) PB.length) 12 rfl (by rfl) (by intro V' h; simpa using h) (by simp) (by first | (simp; done) | simp [Act.put]) RdSl.keep (fun w1 v hw1 hV => ?_) ?_
      · go_simp
        first | exact Ext.refl _ | exact ⟨Ext.refl _, hV⟩ | exact ⟨Ext.refl _, hw1, hV⟩
      refine dep_nil ?_
      intro a' w' hC hE
      obtain ⟨v, ⟨SB, dB, rfl, rB⟩, hE⟩ := atEnd_cons hE (by simp) (by first | (simp; done) | simp [Act.put])
      obtain ⟨v, ⟨SA, dA, rfl, rA⟩, hE⟩ := atEnd_cons hE (by simp) (by first | (simp; done) | simp [Act.put])
      obtain ⟨v, ⟨SB', dB', rfl, _⟩, hE⟩ := atEnd_cons hE (by simp) (by first | (simp; done) | simp [Act.put])
      obtain ⟨v, ⟨SA', dA', rfl, _⟩, hE⟩ := atEnd_cons hE (by simp) (by first | (simp; done) | simp [Act.put])
      obtain rfl := atEnd_nil hE
      clear hE
      obtain ⟨wb, rfl⟩ : ∃ wb : World, wb = w' := ⟨_, rfl⟩
      have bX := Ext.trans bW hC
      have f2 := cell_keep hC dy2
      have f4 := cell_keep hC dy4
      have f3 := cell_keep hC v3
      have HSUB0 := Lib.hid HL.out.sub
      clear dx0 dx1 dy0 dy1 dy2 dy4 v3 hC bW
      go_wp2
      go_loopw [13, 14, 15] (fun at_ ok_ j wr => ∃ (jn p : Nat), at_ = .int .i64 p ∧ ok_ = .bool true ∧ j = .int .i64 jn ∧ jn ≤ PB.length ∧ p ≤ PA.length ∧ Hid (List.Sublist (PB.drop jn) (PA.drop p)) ∧ Ext wb wr) (fun _ _ j _ => PB.length - (intOf j).toNat)
      case atStart => exact ⟨0, 0, rfl, rfl, rfl, by omega, by omega, HSUB0, Ext.refl _⟩
      case round =>
        obtain ⟨jn, p, rfl, rfl, rfl, hjn, hp, HS, q2⟩ := hrel
        by_cases hlt : jn < PB.length
        · have hsub := HS.out
          rw [List.drop_eq_getElem_cons hlt] at hsub
          obtain ⟨j2, hj2, hj3, hj4⟩ := hasP_sub _ PA p rfl hsub
          obtain ⟨bb, ob, rfl, k1, k2⟩ := (rB.keep q2).pair hlt
          have hhas := fun a b w1 (h' : Ext wb w1) => l_has SA PA.length dA PA p a b w1 (by omega) (by omega) (rA.keep h') rfl
          generalize PB[jn] = pq at *
          obtain ⟨pa, pb⟩ := pq
          have hh := hhas pa pb
          rw [hj2] at hh
          have HHH := Lib.hid hh
          have HS2 := Lib.hid hj4
          have HCE := Lib.hid (show ∀ j v, ([.int .i64 pa, .int .i64 pb] : List Value)[j]? = some v → wr.cell? ⟨bb, ob + jn * 2 + j, none⟩ = some v by
            intro j v hv
            match j with
            | 0 => simpa using hv ▸ k1
            | 1 => simpa using hv ▸ k2
            | j + 2 => simp at hv)
          have j0' : (0 : Int) ≤ (jn : Int) := by omega
          have j1' : (jn : Int) < (PB.length : Int) := by omega
          clear hh hhas hj2 hj4 hsub k1 k2
          go_wp2_with (refine wpl_load_rd _ rfl 36 _ rfl (by kernel_rfl) 2 size_prt bb (ob + jn * 2) rfl [.int .i64 pa, .int .i64 pb] rfl HCE.out ?_)
          refine (HHH.out _ q2).mono ?_
          rintro e w7 ⟨rfl, b7⟩
          go_wp2
          go_roundw
          case rel => exact ⟨jn + 1, j2, rfl, rfl, by go_num, by omega, hj3, HS2, Ext.trans q2 b7⟩
          case measure => simp [intOf]; omega
        · obtain rfl : PB.length = jn := by omega
          have hown := HL.out.own
          have hln := HL.out.len
          have hhas := fun w1 (h' : Ext wb w1) => l_has SA PA.length dA PA ng y.per y.bud w1 (by omega) (by omega) (rA.keep h') rfl
          generalize hasP PA ng (y.per, y.bud) = hq at *
          obtain ⟨hq1, hq2⟩ := hq
          obtain rfl : hq2 = true := hown
          have HHH := Lib.hid hhas
          have f2' := cell_keep q2 f2
          have f4' := cell_keep q2 f4
          have f3' := cell_keep q2 f3
          clear hhas f2 f3 f4
          go_wp2_with fail
          refine (HHH.out _ q2).mono ?_
          rintro e w7 ⟨rfl, b7⟩
          go_wp2_with ((with_reducible go_at_call 9); (with_reducible refine (HAW.out _).mono ?_); rintro e w8 ⟨rfl, b8⟩)
          go_ret
          exact ⟨rfl, Ext.trans (Ext.trans (Ext.trans bX q2) b7) b8⟩
  · have ty : (y.cls != 2) = true := by simp [hyc]
    clear hyc HAL
    have tg : decide (ng ≤ PA.length) = true := by simp; omega
    go_wp2
    refine wp_region_dep (S := Ext) (C := Ext (w5)) (by kernel_rfl) (by kernel_rfl) rfl Ext.refl (Ext.drew _) ?_
    refine dep_load_rd (by rfl) 27 _ rfl (by kernel_rfl) 6 size_conf w.heap.size 0 (by rfl) [.slice (some ⟨b0, off, none⟩) nt ct, .slice B nb cb, .slice M nm cm, .slice G ng cg, .int .i64 fr, .int .i64 dog] rfl (by go_simp) Ext.refl (fun w1 hw1 j v hv => by rw [Nat.zero_add, (OV.out.keep hw1).cell j]; exact hv) ?_
    repeat (refine dep_det (by rfl) (fun K hK => ?_); go_simp; first
      | ((with_reducible refine hK _ ?_); clear hK K)
      | (rw [if_neg (by decide)]; (with_reducible refine hK _ ?_); clear hK K)
      | (refine ⟨_, fun w1 hw1 => ⟨Ext.refl w1, hw1, rfl⟩, hK _ ?_⟩; clear hK K))
    refine dep_var (RdSl (pairs PA) PA.length) 69 rfl (by rfl) RdSl.keep (by go_simp) (fun w1 hw1 => ?_) ?_
    · go_simp
      refine (HPI.out w1 (Ext.trans bW hw1)).mono ?_
      rintro e w' ⟨S, c', rfl, hr, hb'⟩
      exact ⟨_, rfl, hb', Ext.trans hw1 hb', S, c', rfl, hr⟩
    refine dep_det1 69 _ (by rfl) (by intro V' h; simpa using h) (List.mem_cons_self ..) (by first | (simp; done) | simp [Act.put]) (fun K hK => ?_)
    apply Exists.intro
    refine ⟨fun w1 v hw1 hV => ?_, hK _ ?_⟩
    · obtain ⟨S, c', rfl, hr⟩ := hV
      go_simp
      first | exact ⟨Ext.refl _, hw1, rfl⟩ | exact ⟨Ext.refl _, rfl⟩
    clear hK K
    repeat (refine dep_det (by rfl) (fun K hK => ?_); go_simp; first
      | ((with_reducible refine hK _ ?_); clear hK K)
      | (rw [if_neg (by decide)]; (with_reducible refine hK _ ?_); clear hK K)
      | (refine ⟨_, fun w1 hw1 => ⟨Ext.refl w1, hw1, rfl⟩, hK _ ?_⟩; clear hK K)
      | (apply Exists.intro; refine ⟨fun w1 hw1 => ?_, hK _ ?_⟩
         first
           | (go_at_call 9; ((with_reducible refine (HAW.out _).mono ?_); rintro e w' ⟨rfl, hb'⟩; exact ⟨_, rfl, hb', Ext.trans hw1 hb', rfl⟩))
           | (have c_v3 := cell_keep hw1 v3; go_simp; first | exact ⟨Ext.refl _, hw1, rfl⟩ | exact ⟨Ext.refl _, rfl⟩)
         clear hK K))
    refine dep_nil ?_
    intro a' w' hC hE
    obtain ⟨v, ⟨S1, d1, rfl, p1⟩, hE⟩ := atEnd_cons hE (by simp) (by first | (simp; done) | simp [Act.put])
    obtain rfl := atEnd_nil hE
    clear hE
    go_wp2
    go_ret
    exact ⟨rfl, Ext.trans bW hC⟩

end Go.Proofs.Ytdninhdabeddeaa
