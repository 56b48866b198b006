/-
  SLAB: one word for a slab with its frames; awake; the statement SlabNone.
-/
import Derived.Test.YtkdhinemianndaaSlbF
namespace Go.Proofs.Ytkdhinemianndaa
open Go.ChangeShapes Go.WideShapes Go.ChangeAt Go.RowKit Go.Maps
attribute [local go_sem] depUpon Sp.ok

/-- A slab gs over frames gf; their blocks are P. -/
structure SW (w : World) (B gs gf : Nat) (p : FP) (L : List Pc) (P : Nat → Prop) : Prop where
  st : ∃ gm gb gt A c ad, SS w B gs gm gf ad L ∧ FS w B gf gb gt A c p ∧ P = Un (SB gs gm ad L) (FB gf gb gt A)
  sp : SP p L
section
variable {w w' : World} {B gs gf : Nat} {p : FP} {L : List Pc} {P : Nat → Prop}
theorem SW.keep (h : SW w B gs gf p L P) (hb : Ext w w') : SW w' B gs gf p L P := by
  obtain ⟨gm, gb, gt, A, c, ad, h1, h2, h3⟩ := h.st
  exact ⟨⟨gm, gb, gt, A, c, ad, h1.keep hb, h2.keep hb, h3⟩, h.sp⟩
theorem SW.other (h : SW w B gs gf p L P) {Q Q' : Nat → Prop} (a : Tr w w' Q Q') (hP : ∀ i, P i → ¬ Q i) : SW w' B gs gf p L P := by
  obtain ⟨gm, gb, gt, A, c, ad, h1, h2, rfl⟩ := h.st
  exact ⟨⟨gm, gb, gt, A, c, ad, h1.other a fun i hi => hP i (.inl hi), h2.other a fun i hi => hP i (.inr hi), rfl⟩, h.sp⟩
theorem SW.lt (h : SW w B gs gf p L P) : ∀ i, P i → i < w.heap.size := by
  obtain ⟨gm, gb, gt, A, c, ad, h1, h2, rfl⟩ := h.st
  intro i hi
  rcases hi with hi | hi
  · exact h1.lt i hi
  · exact h2.lt i hi
theorem SW.ge (h : SW w B gs gf p L P) : ∀ i, P i → B ≤ i := by
  obtain ⟨gm, gb, gt, A, c, ad, h1, h2, rfl⟩ := h.st
  intro i hi
  rcases hi with hi | hi
  · exact h1.lo i hi
  · exact h2.ge i hi
theorem SW.ok (h : SW w B gs gf p L P) : p.ok := by
  obtain ⟨gm, gb, gt, A, c, ad, h1, h2, _⟩ := h.st
  exact h2.ok
/-- A block of another kind lies beside it. -/
theorem SW.no (h : SW w B gs gf p L P) {i : Nat} {t : TypeId} {xs : List Value} (ho : Own w i t xs) (t1 : t ≠ 68) (t2 : t ≠ 73) (t3 : t ≠ 77) (t4 : t ≠ 89) (t5 : t ≠ 3) : ¬ P i := by
  obtain ⟨gm, gb, gt, A, c, ad, h1, h2, rfl⟩ := h.st
  intro hi
  rcases hi with hi | hi
  · rcases hi with rfl | rfl | ⟨a, ha, rfl | rfl⟩
    · exact own_ne ho h1.own t1 rfl
    · exact h1.map.own_ne ho rfl
    · exact own_ne ho (h1.shs a ha).1 t2 rfl
    · exact (h1.shs a ha).2.own_ne ho rfl
  · rcases hi with rfl | rfl | rfl | hi
    · exact own_ne ho h2.own t3 rfl
    · exact own_ne ho h2.byt t4 rfl
    · exact own_ne ho h2.tak t5 rfl
    · exact row_ne h2.row ho (fun e => t5 e.symm) i hi rfl
theorem SW.noRow (h : SW w B gs gf p L P) {b m c size : Nat} {e : TypeId} {A : Option Addr} {xs : List Value} (hr : Row w b e size A m c xs) (t1 : e ≠ 68) (t2 : e ≠ 73) (t3 : e ≠ 77) (t4 : e ≠ 89) (t5 : e ≠ 3) : ∀ i, blk A = some i → ¬ P i := by
  intro i hi hP
  rcases hr.2 with ⟨hv, _⟩ | ⟨g', cap, cur, hv, _, hc, _⟩
  · injection hv with e1 e2 e3
    subst e1; cases hi
  · injection hv with e1 e2 e3
    subst e1
    have : g' = i := by simpa [blk] using hi
    subst this
    have ho : Own w g' e cur.toList := by unfold Own; rw [hc]
    exact h.no ho t1 t2 t3 t4 t5 hP
end
theorem SS.lower {w : World} {B B' gs gm gf : Nat} {ad : AD} {L : List Pc} (h : SS w B gs gm gf ad L) (hB : B' ≤ B) : SS w B' gs gm gf ad L := ⟨h.own, h.map, h.shs, h.inj, h.ngm, fun i hi => Nat.le_trans hB (h.lo i hi)⟩
theorem sw_take (B gs gf : Nat) (p : FP) (L : List Pc) (P : Nat → Prop) (size : Int) (w : World) (h : SW w B gs gf p L P) (hB : B ≤ w.heap.size) :
    Calls Try.prog 6 #[.pointer (some ⟨gs, 0, none⟩), .int .i64 size] w fun e w' =>
      e = .returned (.tuple #[.agg #[.int .i64 (takeV p L size).1, .int .i64 (takeV p L size).2.1, .int .i64 (takeV p L size).2.2.1], .int .i64 (takeV p L size).2.2.2]) ∧ ∃ P', SW w' B gs gf (takeL p L size).1 (takeL p L size).2 P' ∧ Tr w w' P P' := by
  obtain ⟨gm, gb, gt, A, c, ad, h1, h2, rfl⟩ := h.st
  exact (s_take B gs gm gf gb gt A c ad p L size w h1 h2 h.sp hB).mono fun e w' ⟨r, ad', q1, q2, q3⟩ => ⟨r, _, ⟨⟨gm, gb, gt, A, c, ad', q1, q2, rfl⟩, h.sp.take h2.ok size⟩, q3⟩
theorem sw_give (B gs gf : Nat) (p : FP) (L : List Pc) (P : Nat → Prop) (f i s : Int) (w : World) (h : SW w B gs gf p L P) (hB : B ≤ w.heap.size) (hf1 : I64 f) (hi1 : I64 i) :
    Calls Try.prog 7 #[.pointer (some ⟨gs, 0, none⟩), .agg #[.int .i64 f, .int .i64 i, .int .i64 s]] w fun e w' =>
      e = .returned (.int .i64 (giveE L f i s)) ∧ ∃ P', SW w' B gs gf (giveL p L f i s).1 (giveL p L f i s).2 P' ∧ Tr w w' P P' := by
  obtain ⟨gm, gb, gt, A, c, ad, h1, h2, rfl⟩ := h.st
  exact (s_give B gs gm gf gb gt A c ad p L f i s w h1 h2 h.sp hB hf1 hi1).mono fun e w' ⟨r, A', c', q1, q2, q3⟩ => ⟨r, _, ⟨⟨gm, gb, gt, A', c', ad, q1, q2, rfl⟩, h.sp.give f i s⟩, q3⟩
theorem sw_has (B gs gf : Nat) (p : FP) (L : List Pc) (P : Nat → Prop) (f i s : Int) (w : World) (h : SW w B gs gf p L P) (hf1 : I64 f) (hi1 : I64 i) :
    Calls Try.prog 8 #[.pointer (some ⟨gs, 0, none⟩), .agg #[.int .i64 f, .int .i64 i, .int .i64 s]] w fun e w' => e = .returned (.bool (hasB L f i s)) ∧ Ext w w' := by
  obtain ⟨gm, gb, gt, A, c, ad, h1, h2, _⟩ := h.st
  exact s_has B gs gm gf ad p L f i s w h1 h.sp hf1 hi1
theorem tot_le {n : Nat} {tk : List Bool} : ∀ {L : List Pc}, (∀ a ∈ L, a.ok n tk) → totL L ≤ 4 * L.length
  | [], _ => Nat.le_refl _
  | a :: r, h => by
    have h1 := (h a (by simp)).len
    have h2 := tot_le (L := r) fun b hb => h b (by simp [hb])
    unfold totL at *
    rw [List.map_cons, List.sum_cons, List.length_cons]
    omega
theorem SP.tot {p : FP} {L : List Pc} (h : SP p L) : totL L ≤ 4 * p.n := by
  have h1 := tot_le h.ok
  have h2 := h.len
  omega
theorem sw_len (B gs gf : Nat) (p : FP) (L : List Pc) (P : Nat → Prop) (w : World) (h : SW w B gs gf p L P) :
    Calls Try.prog 9 #[.pointer (some ⟨gs, 0, none⟩)] w fun e w' => e = .returned (.int .i64 (totL L : Int)) ∧ Ext w w' := by
  obtain ⟨gm, gb, gt, A, c, ad, h1, h2, _⟩ := h.st
  exact s_len B gs gm gf ad p L w h1 h.sp (by have := h.sp.tot; have := h2.ok.n64; omega)
theorem sw_free (B gs gf : Nat) (p : FP) (L : List Pc) (P : Nat → Prop) (w : World) (h : SW w B gs gf p L P) :
    Calls Try.prog 20 #[.pointer (some ⟨gf, 0, none⟩)] w fun e w' => e = .returned (.int .i64 ((p.fr.length : Int) + (p.n : Int) - (p.fs : Int))) ∧ Ext w w' := by
  obtain ⟨gm, gb, gt, A, c, ad, h1, h2, _⟩ := h.st
  exact f_free B gf gb gt A c p w h2
theorem sw_fhas (B gs gf : Nat) (p : FP) (L : List Pc) (P : Nat → Prop) (i : Int) (w : World) (h : SW w B gs gf p L P) :
    Calls Try.prog 24 #[.pointer (some ⟨gf, 0, none⟩), .int .i64 i] w fun e w' => e = .returned (.bool (p.known i == 0)) ∧ w = w' := by
  obtain ⟨gm, gb, gt, A, c, ad, h1, h2, _⟩ := h.st
  exact f_has B gf gb gt A c p i w h2
/-- frames.New and New. -/
theorem SW.made {w w1 w2 : World} {n gs gm gf gb gt : Nat} (hf : FS w1 w.heap.size gf gb gt none 0 (p0 n)) (hs : SS w2 w1.heap.size gs gm gf (fun _ => (0, 0)) []) (b1 : Ext w w1) (b2 : Ext w1 w2) : ∃ P, SW w2 w.heap.size gs gf (p0 n) [] P :=
  ⟨_, ⟨gm, gb, gt, none, 0, _, hs.lower b1.size, hf.keep b2, rfl⟩, fun a ha => absurd ha (by simp), List.Pairwise.nil⟩
theorem Tr.belowOf {w0 w w' : World} {P P' : Nat → Prop} (a : Tr w w' P P') (h : Ext w0 w) (hP : ∀ i, P i → w0.heap.size ≤ i) : Ext w0 w' := Below.trans h (a.below h.size hP)

def aw1 : List Pc := [⟨0, 16, [0]⟩]
def ap1 : FP := ⟨4, [true, false, false, false], [], 1⟩
set_option maxRecDepth 100000 in
theorem aw_1 : takeV (p0 4) [] 10 = (0, 0, 16, 0) ∧ takeL (p0 4) [] 10 = (ap1, aw1) := ⟨by kernel_rfl, by kernel_rfl⟩
set_option maxRecDepth 100000 in
theorem aw_2 : takeV ap1 aw1 33 = (1, 0, 64, 0) := by kernel_rfl
set_option maxRecDepth 100000 in
theorem aw_3 : cls 17 = 32 := by kernel_rfl

set_option maxRecDepth 100000 in
set_option maxHeartbeats 2000000 in
theorem slb_awake (w : World) : Calls Try.prog 10 #[] w fun e w' => e = .returned (.bool true) ∧ Below w.heap.size w w' := by
  have hn := f_new 4 w (by omega) (by omega)
  rw [show ((4 : Nat) : Int) = 4 from rfl] at hn
  have HN := Lib.hid hn
  clear hn
  have HS := Lib.hid (fun gf w => s_new gf w)
  have H1 := Lib.hid (fun B gs gf P w h hB => sw_take B gs gf (p0 4) [] P 10 w h hB)
  rw [aw_1.1, aw_1.2] at H1
  have H2 := Lib.hid (fun B gs gf P w h hB => sw_take B gs gf ap1 aw1 P 33 w h hB)
  rw [aw_2] at H2
  have H3 := Lib.hid (fun w => s_class 17 w)
  rw [aw_3] at H3
  go_enter Try.func10, Try.ntmps10
  go_wp2_with (first
    | ((with_reducible go_at_call 11); (with_reducible refine HN.out.mono ?_); rintro e w1 ⟨gf, gb, gt, rfl, f1, b1⟩; have F1 := Lib.hid f1; clear f1)
    | ((with_reducible go_at_call 13); (with_reducible refine (HS.out _ _).mono ?_); rintro e w2 ⟨gs, gm, rfl, s2, b2⟩; obtain ⟨P2, S2⟩ := SW.made F1.out s2 b1 b2; have b12 := Ext.trans b1 b2; have S2 := Lib.hid S2; have z2 := b12.size; clear s2)
    | ((with_reducible go_at_call 6); (with_reducible refine (H1.out _ _ _ _ _ S2.out z2).mono ?_); rintro e w3 ⟨rfl, P3, s3, t3⟩; have b3 := t3.belowOf b12 S2.out.ge; have z3 := Nat.le_trans b3.size (Ext.alloc w3 (.cells #[.int .i64 0, .int .i64 0, .int .i64 16] 23)).size; have S3 := Lib.hid (s3.keep (Ext.alloc w3 (.cells #[.int .i64 0, .int .i64 0, .int .i64 16] 23))); have O3 := Lib.hid (Own.new w3 23 [.int .i64 0, .int .i64 0, .int .i64 16]); have b3' := Ext.trans b3 (Ext.alloc w3 (.cells #[.int .i64 0, .int .i64 0, .int .i64 16] 23)); clear s3)
    | ((with_reducible go_at_call 6); (with_reducible refine (H2.out _ _ _ _ _ S3.out z3).mono ?_); rintro e w4 ⟨rfl, P4, s4, t4⟩; have b4 := t4.belowOf b3' S3.out.ge; have o4 := (t4.own O3.out (S3.out.no O3.out (by decide) (by decide) (by decide) (by decide) (by decide))).alloc (.cells #[.int .i64 1, .int .i64 0, .int .i64 64] 23); have x0 := o4.cell 0; have x1 := o4.cell 1; have x2 := o4.cell 2; simp only [List.getElem?_cons_zero, List.getElem?_cons_succ] at x0 x1 x2; clear s4)
    | ((with_reducible go_at_call 22); (with_reducible refine (H3.out _).mono ?_); rintro e w' ⟨rfl, rfl⟩))
  go_ret
  exact ⟨rfl, Ext.trans b4 (Ext.alloc _ _)⟩

theorem n_take (size : Int) (w : World) : Calls Try.prog 6 #[.pointer none, .int .i64 size] w fun e w' => e = .returned (.tuple #[.agg #[.int .i64 0, .int .i64 0, .int .i64 0], .int .i64 1]) ∧ Ext w w' := by
  go_enter Try.func6, Try.ntmps6
  go_wp2_with (first
    | (refine wpl_alloc_own _ rfl 23 rfl (.agg #[.int .i64 0, .int .i64 0, .int .i64 0]) zero_ref ?_; intro w1 o1 b1 s1)
    | (refine wpl_store_own _ rfl 23 _ _ rfl 3 size_ref _ rfl [.int .i64 0, .int .i64 0, .int .i64 0] rfl _ _ o1 rfl rfl (by simp [Value.oneCell']) ?_; intro w4 o4 g4 s4; clear s4))
  have b4 := below_of_grown b1 g4 (Nat.le_refl _) b1.size
  exact bodyPost_ret (v := .tuple #[.agg #[.int .i64 0, .int .i64 0, .int .i64 0], .int .i64 1]) (results_own2 Try.results6 (by kernel_rfl) 3 size_ref _ _ _ _ _ _ rfl rfl o4 rfl) rfl ⟨rfl, b4⟩
theorem n_give (f i s : Int) (w : World) : Calls Try.prog 7 #[.pointer none, .agg #[.int .i64 f, .int .i64 i, .int .i64 s]] w fun e w' => e = .returned (.int .i64 1) ∧ Ext w w' := by
  go_enter Try.func7, Try.ntmps7
  go_wp2
  go_ret
  exact ⟨rfl, Ext.alloc _ _⟩
theorem n_has (f i s : Int) (w : World) : Calls Try.prog 8 #[.pointer none, .agg #[.int .i64 f, .int .i64 i, .int .i64 s]] w fun e w' => e = .returned (.bool false) ∧ Ext w w' := by
  go_enter Try.func8, Try.ntmps8
  go_wp2
  go_ret
  exact ⟨rfl, Ext.alloc _ _⟩
theorem n_len (w : World) : Calls Try.prog 9 #[.pointer none] w fun e w' => e = .returned (.int .i64 0) ∧ w = w' := by
  go_enter Try.func9, Try.ntmps9
  go_wp2
  go_ret
  exact ⟨rfl, rfl⟩
section
variable {H : Type} {enc : TypeId × Value → H} {W : World} {base : Nat} {v : Value} {d : DataW H} {p : List MemPlace}
set_option maxRecDepth 100000 in
theorem open_ref (hv : Value.okWide Try.prog W .any base 23 v) (h : DataW.Trod enc Try.prog W 0 (fun _ => true) true 23 v d p) : ∃ a b c, v = .agg #[.int .i64 a, .int .i64 b, .int .i64 c] ∧ (I64 a ∧ I64 b ∧ I64 c) := by
  obtain ⟨zs, h1, h2, h3⟩ := open_struct Try.underlying23 (by kernel_rfl) (by kernel_rfl) hv h
  match zs, h1 with
  | [a, b, c], _ => exact ⟨a, b, c, h2, h3 a (by simp), h3 b (by simp), h3 c (by simp)⟩
end
set_option maxRecDepth 100000 in
set_option maxHeartbeats 2000000 in
theorem law_slabnone (size a b c : Int) (w : World) (_ : I64 size) (_ : I64 a ∧ I64 b ∧ I64 c) :
    Calls Try.prog 3 #[.int .i64 size, .agg #[.int .i64 a, .int .i64 b, .int .i64 c]] w fun e w' => e = .returned (.bool true) ∧ Below w.heap.size w w' := by
  have HAW := Lib.hid (fun w => slb_awake w)
  have oX := Own.new w 23 [.int .i64 a, .int .i64 b, .int .i64 c]
  have bX := Ext.alloc w (.cells #[.int .i64 a, .int .i64 b, .int .i64 c] 23)
  have OX := Lib.hid oX
  clear oX
  go_enter Try.func3, Try.ntmps3
  go_wp2_with (first
    | ((with_reducible go_at_call 6); (with_reducible refine (n_take _ _).mono ?_); rintro e w1 ⟨rfl, b1⟩; have o1 := (OX.out.keep b1).alloc (.cells #[.int .i64 0, .int .i64 0, .int .i64 0] 23); have x0 := o1.cell 0; have x1 := o1.cell 1; have x2 := o1.cell 2; simp only [List.getElem?_cons_zero, List.getElem?_cons_succ] at x0 x1 x2; have o2 := Own.new w1 23 [.int .i64 0, .int .i64 0, .int .i64 0]; have y0 := o2.cell 0; have y1 := o2.cell 1; have y2 := o2.cell 2; simp only [List.getElem?_cons_zero, List.getElem?_cons_succ] at y0 y1 y2; have b2 := Ext.trans (Ext.trans bX b1) (Ext.alloc w1 (.cells #[.int .i64 0, .int .i64 0, .int .i64 0] 23)); clear o1 o2)
    | ((with_reducible go_at_call 7); (with_reducible refine (n_give _ _ _ _).mono ?_); rintro e w3 ⟨rfl, b3⟩; replace x0 := cell_keep b3 x0; replace x1 := cell_keep b3 x1; replace x2 := cell_keep b3 x2)
    | ((with_reducible go_at_call 8); (with_reducible refine (n_has _ _ _ _).mono ?_); rintro e w4 ⟨rfl, b4⟩)
    | ((with_reducible go_at_call 9); (with_reducible refine (n_len _).mono ?_); rintro e w' ⟨rfl, rfl⟩)
    | ((with_reducible go_at_call 10); (with_reducible refine (HAW.out _).mono ?_); rintro e w5 ⟨rfl, b5⟩))
  go_ret
  exact ⟨rfl, Ext.trans b2 (Ext.trans b3 (Ext.trans b4 b5))⟩

end Go.Proofs.Ytkdhinemianndaa
