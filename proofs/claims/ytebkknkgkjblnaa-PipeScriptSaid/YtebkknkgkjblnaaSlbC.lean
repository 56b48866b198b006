/-
  WALKS of package slab: Has, Len.
-/
import Derived.Test.YtebkknkgkjblnaaSlbB
namespace Go.Proofs.Ytebkknkgkjblnaa
open Go.RowKit Go.Maps
attribute [local go_sem] depUpon Sp.ok

/-- Is a piece taken? -/
def hasB (L : List Pc) (f i s : Int) : Bool := L.any fun a => decide ((a.f : Int) = f ∧ a.sz = s ∧ i ∈ a.sl)
theorem SP.inj {p : FP} {L : List Pc} (h : SP p L) {a b : Pc} (ha : a ∈ L) (hb : b ∈ L) (e : a.f = b.f) : a = b := by
  have key : ∀ {L : List Pc}, (L.Pairwise fun a b => a.f < b.f) → a ∈ L → b ∈ L → a = b := by
    intro L
    induction L with
    | nil => intro _ ha; cases ha
    | cons z r ih =>
      intro hs ha hb
      obtain ⟨h1, h2⟩ := List.pairwise_cons.1 hs
      rcases List.mem_cons.1 ha with rfl | ha'
      · rcases List.mem_cons.1 hb with rfl | hb'
        · rfl
        · have := h1 b hb'; omega
      · rcases List.mem_cons.1 hb with rfl | hb'
        · have := h1 a ha'; omega
        · exact ih h2 ha' hb'
  exact key h.srt ha hb
theorem hasB_of {p : FP} {L : List Pc} (h : SP p L) {a : Pc} (ha : a ∈ L) (i s : Int) : hasB L (a.f : Int) i s = (decide (a.sz = s) && decide (i ∈ a.sl)) := by
  rw [Bool.eq_iff_iff]
  unfold hasB
  rw [List.any_eq_true, Bool.and_eq_true, decide_eq_true_eq, decide_eq_true_eq]
  constructor
  · rintro ⟨b, hb, q⟩
    simp only [decide_eq_true_eq] at q
    have := h.inj hb ha (by omega)
    subst this
    exact ⟨q.2.1, q.2.2⟩
  · rintro ⟨q1, q2⟩
    exact ⟨a, ha, by simp [q1, q2]⟩
theorem hasB_none {L : List Pc} {f : Int} (h : ∀ a ∈ L, (a.f : Int) ≠ f) (i s : Int) : hasB L f i s = false := by
  unfold hasB
  rw [List.any_eq_false]
  intro a ha
  simp [h a ha]
theorem zero_ptr (w : World) : (zeroValue 115).run Try.prog w = .ok (.pointer none) w := by kernel_rfl

set_option maxRecDepth 100000 in
set_option maxHeartbeats 4000000 in
theorem s_has (B gs gm gf : Nat) (ad : AD) (p : FP) (L : List Pc) (f i s : Int) (w : World) (h : SS w B gs gm gf ad L) (hp : SP p L) (hf : I64 f) (hi : I64 i) :
    Calls Try.prog 54 #[.pointer (some ⟨gs, 0, none⟩), .agg #[.int .i64 f, .int .i64 i, .int .i64 s]] w fun e w' => e = .returned (.bool (hasB L f i s)) ∧ Ext w w' := by
  have bX := Ext.alloc w (.cells #[.int .i64 f, .int .i64 i, .int .i64 s] 84)
  have oX := Own.new w 84 [.int .i64 f, .int .i64 i, .int .i64 s]
  have HH := Lib.hid (h.keep bX)
  have HLK := Lib.hid (fun w' (b : Ext w w') => ((h.keep b).map).look Try.underlying108 (zero_ptr w') hf)
  by_cases hno : ∀ a ∈ L, (a.f : Int) ≠ f
  · rw [hasB_none hno]
    rw [show vget (sm ad L) f = none from sm_none hno] at HLK
    simp only [Option.getD_none] at HLK
    clear h hno
    go_enter Try.func54, Try.ntmps54
    go_upto_region 3 with fail
    generalize w.alloc (.cells #[.int .i64 f, .int .i64 i, .int .i64 s] 84) = w1 at *
    have x0 := oX.cell 0
    simp only [List.getElem?_cons_zero] at x0
    have v2 := HH.out.own.cell 2
    simp only [List.getElem?_cons_zero, List.getElem?_cons_succ] at v2
    refine wp_region_dep (S := Ext) (C := Ext (w1)) (by kernel_rfl) (by kernel_rfl) rfl Ext.refl (Ext.drew _) ?_
    repeat (refine dep_det (by rfl) (fun K hK => ?_); go_simp; first
      | ((with_reducible refine hK _ ?_); clear hK K)
      | (rw [if_neg (by decide)]; (with_reducible refine hK _ ?_); clear hK K)
      | (refine ⟨_, fun w1 hw1 => ⟨Ext.refl w1, hw1, rfl⟩, hK _ ?_⟩; clear hK K)
      | (apply Exists.intro; refine ⟨fun w1 hw1 => ?_, hK _ ?_⟩
         first
           | (have c_x0 := cell_keep hw1 x0; have c_v2 := cell_keep hw1 v2; go_simp; first | exact ⟨Ext.refl _, hw1, rfl⟩ | exact ⟨Ext.refl _, rfl⟩)
           | (have hlk := HLK.out _ (Ext.trans bX hw1); go_simp; first | exact ⟨Ext.refl _, hw1, rfl⟩ | exact ⟨Ext.refl _, rfl⟩)
         clear hK K))
    refine dep_nil ?_
    intro a' w' hC hE
    obtain rfl := atEnd_nil hE
    clear hE
    have HC1 := Lib.hid hC
    clear x0 v2 hC
    go_upto_region 4 with fail
    refine wp_region_dep (S := Ext) (C := Ext (w')) (by kernel_rfl) (by kernel_rfl) rfl Ext.refl (Ext.drew _) ?_
    repeat (refine dep_det (by rfl) (fun K hK => ?_); go_simp; first
      | ((with_reducible refine hK _ ?_); clear hK K)
      | (rw [if_neg (by decide)]; (with_reducible refine hK _ ?_); clear hK K)
      | (refine ⟨_, fun w1 hw1 => ⟨Ext.refl w1, hw1, rfl⟩, hK _ ?_⟩; clear hK K)
      | (apply Exists.intro; refine ⟨fun w1 hw1 => ?_, hK _ ?_⟩
         first
           | (go_simp; first | exact ⟨Ext.refl _, hw1, rfl⟩ | exact ⟨Ext.refl _, rfl⟩)
         clear hK K))
    refine dep_nil ?_
    intro a' w' hC hE
    obtain rfl := atEnd_nil hE
    clear hE
    go_wp2
    go_ret
    exact ⟨rfl, Ext.trans bX (Ext.trans HC1.out hC)⟩
  · have hex : ∃ a ∈ L, (a.f : Int) = f := by
      refine Classical.byContradiction fun q => hno fun a ha e => q ⟨a, ha, e⟩
    obtain ⟨a, ha, rfl⟩ := hex
    rw [hasB_of hp ha]
    rw [show vget (sm ad L) (a.f : Int) = some (pv_ ad a.f) from sm_get ha] at HLK
    simp only [Option.getD_some, pv_] at HLK
    have HL2 := Lib.hid (fun w' (b : Ext w w') => (((h.keep b).shs a ha).2).look Try.underlying118 (zero_int w') hi)
    rw [sq_get] at HL2
    have HSH := Lib.hid (fun w' (b : Ext w w') => ((h.keep b).shs a ha).1)
    generalize (ad a.f).1 = gx at *
    generalize (ad a.f).2 = gq at *
    generalize a.sz = sz at *
    generalize a.sl = sl at *
    clear h hno ha hp
    generalize (a.f : Int) = f at *
    by_cases hsz : sz = s
    · subst hsz
      have tz : (sz == sz) = true := by simp
      by_cases hin : i ∈ sl
      · rw [if_pos hin] at HL2
        simp only [Option.getD_some, one_] at HL2
        rw [show (decide (sz = sz) && decide (i ∈ sl)) = true by simp [hin]]
        clear hin
        go_enter Try.func54, Try.ntmps54
        go_upto_region 3 with fail
        generalize w.alloc (.cells #[.int .i64 f, .int .i64 i, .int .i64 sz] 84) = w1 at *
        have x0 := oX.cell 0
        have x1 := oX.cell 1
        have x2 := oX.cell 2
        simp only [List.getElem?_cons_zero, List.getElem?_cons_succ] at x0 x1 x2
        have v2 := HH.out.own.cell 2
        simp only [List.getElem?_cons_zero, List.getElem?_cons_succ] at v2
        refine wp_region_dep (S := Ext) (C := Ext (w1)) (by kernel_rfl) (by kernel_rfl) rfl Ext.refl (Ext.drew _) ?_
        repeat (refine dep_det (by rfl) (fun K hK => ?_); go_simp; first
          | ((with_reducible refine hK _ ?_); clear hK K)
          | (rw [if_neg (by decide)]; (with_reducible refine hK _ ?_); clear hK K)
          | (refine ⟨_, fun w1 hw1 => ⟨Ext.refl w1, hw1, rfl⟩, hK _ ?_⟩; clear hK K)
          | (apply Exists.intro; refine ⟨fun w1 hw1 => ?_, hK _ ?_⟩
             first
               | (have c_x0 := cell_keep hw1 x0; have c_v2 := cell_keep hw1 v2; go_simp; first | exact ⟨Ext.refl _, hw1, rfl⟩ | exact ⟨Ext.refl _, rfl⟩)
               | (have hlk := HLK.out _ (Ext.trans bX hw1); go_simp; first | exact ⟨Ext.refl _, hw1, rfl⟩ | exact ⟨Ext.refl _, rfl⟩)
             clear hK K))
        refine dep_nil ?_
        intro a' w' hC hE
        obtain rfl := atEnd_nil hE
        clear hE
        have HC1 := Lib.hid (Ext.trans bX hC)
        replace x0 := cell_keep hC x0
        replace x1 := cell_keep hC x1
        replace x2 := cell_keep hC x2
        have y0 := (HSH.out _ HC1.out).cell 0
        have y1 := (HSH.out _ HC1.out).cell 1
        simp only [List.getElem?_cons_zero, List.getElem?_cons_succ] at y0 y1
        clear v2 hC
        go_upto_region 4 with fail
        refine wp_region_dep (S := Ext) (C := Ext (w')) (by kernel_rfl) (by kernel_rfl) rfl Ext.refl (Ext.drew _) ?_
        repeat (refine dep_det (by rfl) (fun K hK => ?_); go_simp; first
          | ((with_reducible refine hK _ ?_); clear hK K)
          | (rw [if_neg (by decide)]; (with_reducible refine hK _ ?_); clear hK K)
          | (refine ⟨_, fun w1 hw1 => ⟨Ext.refl w1, hw1, rfl⟩, hK _ ?_⟩; clear hK K)
          | (apply Exists.intro; refine ⟨fun w1 hw1 => ?_, hK _ ?_⟩
             first
               | (have c_x0 := cell_keep hw1 x0; have c_x1 := cell_keep hw1 x1; have c_x2 := cell_keep hw1 x2; have c_y0 := cell_keep hw1 y0; have c_y1 := cell_keep hw1 y1; go_simp; first | exact ⟨Ext.refl _, hw1, rfl⟩ | exact ⟨Ext.refl _, rfl⟩)
               | (have hlk := HL2.out _ (Ext.trans HC1.out hw1); go_simp; first | exact ⟨Ext.refl _, hw1, rfl⟩ | exact ⟨Ext.refl _, rfl⟩)
             clear hK K))
        refine dep_nil ?_
        intro a' w' hC hE
        obtain rfl := atEnd_nil hE
        clear hE
        go_wp2
        go_ret
        exact ⟨rfl, Ext.trans HC1.out hC⟩
      · rw [if_neg hin] at HL2
        simp only [Option.getD_none] at HL2
        rw [show (decide (sz = sz) && decide (i ∈ sl)) = false by simp [hin]]
        clear hin
        go_enter Try.func54, Try.ntmps54
        go_upto_region 3 with fail
        generalize w.alloc (.cells #[.int .i64 f, .int .i64 i, .int .i64 sz] 84) = w1 at *
        have x0 := oX.cell 0
        have x1 := oX.cell 1
        have x2 := oX.cell 2
        simp only [List.getElem?_cons_zero, List.getElem?_cons_succ] at x0 x1 x2
        have v2 := HH.out.own.cell 2
        simp only [List.getElem?_cons_zero, List.getElem?_cons_succ] at v2
        refine wp_region_dep (S := Ext) (C := Ext (w1)) (by kernel_rfl) (by kernel_rfl) rfl Ext.refl (Ext.drew _) ?_
        repeat (refine dep_det (by rfl) (fun K hK => ?_); go_simp; first
          | ((with_reducible refine hK _ ?_); clear hK K)
          | (rw [if_neg (by decide)]; (with_reducible refine hK _ ?_); clear hK K)
          | (refine ⟨_, fun w1 hw1 => ⟨Ext.refl w1, hw1, rfl⟩, hK _ ?_⟩; clear hK K)
          | (apply Exists.intro; refine ⟨fun w1 hw1 => ?_, hK _ ?_⟩
             first
               | (have c_x0 := cell_keep hw1 x0; have c_v2 := cell_keep hw1 v2; go_simp; first | exact ⟨Ext.refl _, hw1, rfl⟩ | exact ⟨Ext.refl _, rfl⟩)
               | (have hlk := HLK.out _ (Ext.trans bX hw1); go_simp; first | exact ⟨Ext.refl _, hw1, rfl⟩ | exact ⟨Ext.refl _, rfl⟩)
             clear hK K))
        refine dep_nil ?_
        intro a' w' hC hE
        obtain rfl := atEnd_nil hE
        clear hE
        have HC1 := Lib.hid (Ext.trans bX hC)
        replace x0 := cell_keep hC x0
        replace x1 := cell_keep hC x1
        replace x2 := cell_keep hC x2
        have y0 := (HSH.out _ HC1.out).cell 0
        have y1 := (HSH.out _ HC1.out).cell 1
        simp only [List.getElem?_cons_zero, List.getElem?_cons_succ] at y0 y1
        clear v2 hC
        go_upto_region 4 with fail
        refine wp_region_dep (S := Ext) (C := Ext (w')) (by kernel_rfl) (by kernel_rfl) rfl Ext.refl (Ext.drew _) ?_
        repeat (refine dep_det (by rfl) (fun K hK => ?_); go_simp; first
          | ((with_reducible refine hK _ ?_); clear hK K)
          | (rw [if_neg (by decide)]; (with_reducible refine hK _ ?_); clear hK K)
          | (refine ⟨_, fun w1 hw1 => ⟨Ext.refl w1, hw1, rfl⟩, hK _ ?_⟩; clear hK K)
          | (apply Exists.intro; refine ⟨fun w1 hw1 => ?_, hK _ ?_⟩
             first
               | (have c_x0 := cell_keep hw1 x0; have c_x1 := cell_keep hw1 x1; have c_x2 := cell_keep hw1 x2; have c_y0 := cell_keep hw1 y0; have c_y1 := cell_keep hw1 y1; go_simp; first | exact ⟨Ext.refl _, hw1, rfl⟩ | exact ⟨Ext.refl _, rfl⟩)
               | (have hlk := HL2.out _ (Ext.trans HC1.out hw1); go_simp; first | exact ⟨Ext.refl _, hw1, rfl⟩ | exact ⟨Ext.refl _, rfl⟩)
             clear hK K))
        refine dep_nil ?_
        intro a' w' hC hE
        obtain rfl := atEnd_nil hE
        clear hE
        go_wp2
        go_ret
        exact ⟨rfl, Ext.trans HC1.out hC⟩
    · have tz : (sz == s) = false := by simp [hsz]
      rw [show (decide (sz = s) && decide (i ∈ sl)) = false by simp [hsz]]
      clear hsz
      go_enter Try.func54, Try.ntmps54
      go_upto_region 3 with fail
      generalize w.alloc (.cells #[.int .i64 f, .int .i64 i, .int .i64 s] 84) = w1 at *
      have x0 := oX.cell 0
      have x1 := oX.cell 1
      have x2 := oX.cell 2
      simp only [List.getElem?_cons_zero, List.getElem?_cons_succ] at x0 x1 x2
      have v2 := HH.out.own.cell 2
      simp only [List.getElem?_cons_zero, List.getElem?_cons_succ] at v2
      refine wp_region_dep (S := Ext) (C := Ext (w1)) (by kernel_rfl) (by kernel_rfl) rfl Ext.refl (Ext.drew _) ?_
      repeat (refine dep_det (by rfl) (fun K hK => ?_); go_simp; first
        | ((with_reducible refine hK _ ?_); clear hK K)
        | (rw [if_neg (by decide)]; (with_reducible refine hK _ ?_); clear hK K)
        | (refine ⟨_, fun w1 hw1 => ⟨Ext.refl w1, hw1, rfl⟩, hK _ ?_⟩; clear hK K)
        | (apply Exists.intro; refine ⟨fun w1 hw1 => ?_, hK _ ?_⟩
           first
             | (have c_x0 := cell_keep hw1 x0; have c_v2 := cell_keep hw1 v2; go_simp; first | exact ⟨Ext.refl _, hw1, rfl⟩ | exact ⟨Ext.refl _, rfl⟩)
             | (have hlk := HLK.out _ (Ext.trans bX hw1); go_simp; first | exact ⟨Ext.refl _, hw1, rfl⟩ | exact ⟨Ext.refl _, rfl⟩)
           clear hK K))
      refine dep_nil ?_
      intro a' w' hC hE
      obtain rfl := atEnd_nil hE
      clear hE
      have HC1 := Lib.hid (Ext.trans bX hC)
      replace x0 := cell_keep hC x0
      replace x1 := cell_keep hC x1
      replace x2 := cell_keep hC x2
      have y0 := (HSH.out _ HC1.out).cell 0
      have y1 := (HSH.out _ HC1.out).cell 1
      simp only [List.getElem?_cons_zero, List.getElem?_cons_succ] at y0 y1
      clear v2 hC
      go_upto_region 4 with fail
      refine wp_region_dep (S := Ext) (C := Ext (w')) (by kernel_rfl) (by kernel_rfl) rfl Ext.refl (Ext.drew _) ?_
      repeat (refine dep_det (by rfl) (fun K hK => ?_); go_simp; first
        | ((with_reducible refine hK _ ?_); clear hK K)
        | (rw [if_neg (by decide)]; (with_reducible refine hK _ ?_); clear hK K)
        | (refine ⟨_, fun w1 hw1 => ⟨Ext.refl w1, hw1, rfl⟩, hK _ ?_⟩; clear hK K)
        | (apply Exists.intro; refine ⟨fun w1 hw1 => ?_, hK _ ?_⟩
           first
             | (have c_x0 := cell_keep hw1 x0; have c_x1 := cell_keep hw1 x1; have c_x2 := cell_keep hw1 x2; have c_y0 := cell_keep hw1 y0; have c_y1 := cell_keep hw1 y1; go_simp; first | exact ⟨Ext.refl _, hw1, rfl⟩ | exact ⟨Ext.refl _, rfl⟩)
             | (have hlk := HL2.out _ (Ext.trans HC1.out hw1); go_simp; first | exact ⟨Ext.refl _, hw1, rfl⟩ | exact ⟨Ext.refl _, rfl⟩)
           clear hK K))
      refine dep_nil ?_
      intro a' w' hC hE
      obtain rfl := atEnd_nil hE
      clear hE
      go_wp2
      go_ret
      exact ⟨rfl, Ext.trans HC1.out hC⟩

/-- How many pieces of a frame are taken. -/
def lenOf (L : List Pc) (k : Int) : Nat := match L.find? fun a => decide ((a.f : Int) = k) with
  | some a => a.sl.length
  | none => 0
def totL (L : List Pc) : Nat := (L.map fun a => a.sl.length).sum
theorem lenOf_of {p : FP} {L : List Pc} (h : SP p L) {a : Pc} (ha : a ∈ L) : lenOf L (a.f : Int) = a.sl.length := by
  unfold lenOf
  cases hf : L.find? (fun b => decide ((b.f : Int) = (a.f : Int))) with
  | none =>
    have := List.find?_eq_none.1 hf a ha
    simp at this
  | some b =>
    have h1 := List.find?_some hf
    simp only [decide_eq_true_eq] at h1
    have := h.inj (List.mem_of_find?_eq_some hf) ha (by omega)
    rw [this]
def sumS (L : List Pc) (S : KV) : Nat := (S.map fun r => lenOf L r.1).sum
theorem sumS_perm (L : List Pc) {S T : KV} (h : S.Perm T) : sumS L S = sumS L T := by
  unfold sumS
  exact (h.map _).sum_nat
theorem sumS_all {p : FP} {L : List Pc} (h : SP p L) (ad : AD) : sumS L (sm ad L) = totL L := by
  unfold sumS sm totL
  rw [List.map_map]
  congr 1
  exact List.map_congr_left fun a ha => lenOf_of h ha
theorem sumS_snoc (L : List Pc) (S : KV) (x : Int × Value) : sumS L (S ++ [x]) = sumS L S + lenOf L x.1 := by
  unfold sumS
  rw [List.map_append, List.sum_append]; simp

end Go.Proofs.Ytebkknkgkjblnaa
