/-
  SLAB: one word for a slab with its frames; awake; the statement SlabNone.
-/
import Derived.Test.YtebkknkgkjblnaaSlbF
namespace Go.Proofs.Ytebkknkgkjblnaa
open Go.ChangeShapes Go.WideShapes Go.ChangeAt Go.RowKit Go.Maps
attribute [local go_sem] depUpon Sp.ok

/-- A slab gs over frames gf; their blocks are P. -/
structure SW (w : World) (B gs gf : Nat) (p : FP) (L : List Pc) (P : Nat → Prop) : Prop where
  st : ∃ gm gb gt A c ad, SS w B gs gm gf ad L ∧ FS w B gf gb gt A c p ∧ P = Un (SB gs gm ad L) (FB gf gb gt A)
  sp : SP p L
section
variable {w w' : World} {B gs gf : Nat} {p : FP} {L : List Pc} {P : Nat → Prop}
theorem SW.keep (h : SW w B gs gf p L P) (hb : Ext w w') : SW w' B gs gf p L P := by
  obtain ⟨gm, gb, gt, A, c, ad, h1, h2, h3⟩ := h.st
  exact ⟨⟨gm, gb, gt, A, c, ad, h1.keep hb, h2.keep hb, h3⟩, h.sp⟩
theorem SW.other (h : SW w B gs gf p L P) {Q Q' : Nat → Prop} (a : Tr w w' Q Q') (hP : ∀ i, P i → ¬ Q i) : SW w' B gs gf p L P := by
  obtain ⟨gm, gb, gt, A, c, ad, h1, h2, rfl⟩ := h.st
  exact ⟨⟨gm, gb, gt, A, c, ad, h1.other a fun i hi => hP i (.inl hi), h2.other a fun i hi => hP i (.inr hi), rfl⟩, h.sp⟩
theorem SW.lt (h : SW w B gs gf p L P) : ∀ i, P i → i < w.heap.size := by
  obtain ⟨gm, gb, gt, A, c, ad, h1, h2, rfl⟩ := h.st
  intro i hi
  rcases hi with hi | hi
  · exact h1.lt i hi
  · exact h2.lt i hi
theorem SW.ge (h : SW w B gs gf p L P) : ∀ i, P i → B ≤ i := by
  obtain ⟨gm, gb, gt, A, c, ad, h1, h2, rfl⟩ := h.st
  intro i hi
  rcases hi with hi | hi
  · exact h1.lo i hi
  · exact h2.ge i hi
theorem SW.ok (h : SW w B gs gf p L P) : p.ok := by
  obtain ⟨gm, gb, gt, A, c, ad, h1, h2, _⟩ := h.st
  exact h2.ok
/-- A block of another kind lies beside it. -/
theorem SW.no (h : SW w B gs gf p L P) {i : Nat} {t : TypeId} {xs : List Value} (ho : Own w i t xs) (t1 : t ≠ 110) (t2 : t ≠ 120) (t3 : t ≠ 98) (t4 : t ≠ 125) (t5 : t ≠ 3) : ¬ P i := by
  obtain ⟨gm, gb, gt, A, c, ad, h1, h2, rfl⟩ := h.st
  intro hi
  rcases hi with hi | hi
  · rcases hi with rfl | rfl | ⟨a, ha, rfl | rfl⟩
    · exact own_ne ho h1.own t1 rfl
    · exact h1.map.own_ne ho rfl
    · exact own_ne ho (h1.shs a ha).1 t2 rfl
    · exact (h1.shs a ha).2.own_ne ho rfl
  · rcases hi with rfl | rfl | rfl | hi
    · exact own_ne ho h2.own t3 rfl
    · exact own_ne ho h2.byt t4 rfl
    · exact own_ne ho h2.tak t5 rfl
    · exact row_ne h2.row ho (fun e => t5 e.symm) i hi rfl
theorem SW.noRow (h : SW w B gs gf p L P) {b m c size : Nat} {e : TypeId} {A : Option Addr} {xs : List Value} (hr : Row w b e size A m c xs) (t1 : e ≠ 110) (t2 : e ≠ 120) (t3 : e ≠ 98) (t4 : e ≠ 125) (t5 : e ≠ 3) : ∀ i, blk A = some i → ¬ P i := by
  intro i hi hP
  rcases hr.2 with ⟨hv, _⟩ | ⟨g', cap, cur, hv, _, hc, _⟩
  · injection hv with e1 e2 e3
    subst e1; cases hi
  · injection hv with e1 e2 e3
    subst e1
    have : g' = i := by simpa [blk] using hi
    subst this
    have ho : Own w g' e cur.toList := by unfold Own; rw [hc]
    exact h.no ho t1 t2 t3 t4 t5 hP
end
theorem SS.lower {w : World} {B B' gs gm gf : Nat} {ad : AD} {L : List Pc} (h : SS w B gs gm gf ad L) (hB : B' ≤ B) : SS w B' gs gm gf ad L := ⟨h.own, h.map, h.shs, h.inj, h.ngm, fun i hi => Nat.le_trans hB (h.lo i hi)⟩
theorem sw_take (B gs gf : Nat) (p : FP) (L : List Pc) (P : Nat → Prop) (size : Int) (w : World) (h : SW w B gs gf p L P) (hB : B ≤ w.heap.size) :
    Calls Try.prog 38 #[.pointer (some ⟨gs, 0, none⟩), .int .i64 size] w fun e w' =>
      e = .returned (.tuple #[.agg #[.int .i64 (takeV p L size).1, .int .i64 (takeV p L size).2.1, .int .i64 (takeV p L size).2.2.1], .int .i64 (takeV p L size).2.2.2]) ∧ ∃ P', SW w' B gs gf (takeL p L size).1 (takeL p L size).2 P' ∧ Tr w w' P P' := by
  obtain ⟨gm, gb, gt, A, c, ad, h1, h2, rfl⟩ := h.st
  exact (s_take B gs gm gf gb gt A c ad p L size w h1 h2 h.sp hB).mono fun e w' ⟨r, ad', q1, q2, q3⟩ => ⟨r, _, ⟨⟨gm, gb, gt, A, c, ad', q1, q2, rfl⟩, h.sp.take h2.ok size⟩, q3⟩
theorem sw_give (B gs gf : Nat) (p : FP) (L : List Pc) (P : Nat → Prop) (f i s : Int) (w : World) (h : SW w B gs gf p L P) (hB : B ≤ w.heap.size) (hf1 : I64 f) (hi1 : I64 i) :
    Calls Try.prog 43 #[.pointer (some ⟨gs, 0, none⟩), .agg #[.int .i64 f, .int .i64 i, .int .i64 s]] w fun e w' =>
      e = .returned (.int .i64 (giveE L f i s)) ∧ ∃ P', SW w' B gs gf (giveL p L f i s).1 (giveL p L f i s).2 P' ∧ Tr w w' P P' := by
  obtain ⟨gm, gb, gt, A, c, ad, h1, h2, rfl⟩ := h.st
  exact (s_give B gs gm gf gb gt A c ad p L f i s w h1 h2 h.sp hB hf1 hi1).mono fun e w' ⟨r, A', c', q1, q2, q3⟩ => ⟨r, _, ⟨⟨gm, gb, gt, A', c', ad, q1, q2, rfl⟩, h.sp.give f i s⟩, q3⟩
theorem sw_has (B gs gf : Nat) (p : FP) (L : List Pc) (P : Nat → Prop) (f i s : Int) (w : World) (h : SW w B gs gf p L P) (hf1 : I64 f) (hi1 : I64 i) :
    Calls Try.prog 54 #[.pointer (some ⟨gs, 0, none⟩), .agg #[.int .i64 f, .int .i64 i, .int .i64 s]] w fun e w' => e = .returned (.bool (hasB L f i s)) ∧ Ext w w' := by
  obtain ⟨gm, gb, gt, A, c, ad, h1, h2, _⟩ := h.st
  exact s_has B gs gm gf ad p L f i s w h1 h.sp hf1 hi1
theorem tot_le {n : Nat} {tk : List Bool} : ∀ {L : List Pc}, (∀ a ∈ L, a.ok n tk) → totL L ≤ 4 * L.length
  | [], _ => Nat.le_refl _
  | a :: r, h => by
    have h1 := (h a (by simp)).len
    have h2 := tot_le (L := r) fun b hb => h b (by simp [hb])
    unfold totL at *
    rw [List.map_cons, List.sum_cons, List.length_cons]
    omega
theorem SP.tot {p : FP} {L : List Pc} (h : SP p L) : totL L ≤ 4 * p.n := by
  have h1 := tot_le h.ok
  have h2 := h.len
  omega

theorem sw_free (B gs gf : Nat) (p : FP) (L : List Pc) (P : Nat → Prop) (w : World) (h : SW w B gs gf p L P) :
    Calls Try.prog 18 #[.pointer (some ⟨gf, 0, none⟩)] w fun e w' => e = .returned (.int .i64 ((p.fr.length : Int) + (p.n : Int) - (p.fs : Int))) ∧ Ext w w' := by
  obtain ⟨gm, gb, gt, A, c, ad, h1, h2, _⟩ := h.st
  exact f_free B gf gb gt A c p w h2

/-- frames.New and New. -/
theorem SW.made {w w1 w2 : World} {n gs gm gf gb gt : Nat} (hf : FS w1 w.heap.size gf gb gt none 0 (p0 n)) (hs : SS w2 w1.heap.size gs gm gf (fun _ => (0, 0)) []) (b1 : Ext w w1) (b2 : Ext w1 w2) : ∃ P, SW w2 w.heap.size gs gf (p0 n) [] P :=
  ⟨_, ⟨gm, gb, gt, none, 0, _, hs.lower b1.size, hf.keep b2, rfl⟩, fun a ha => absurd ha (by simp), List.Pairwise.nil⟩
theorem Tr.belowOf {w0 w w' : World} {P P' : Nat → Prop} (a : Tr w w' P P') (h : Ext w0 w) (hP : ∀ i, P i → w0.heap.size ≤ i) : Ext w0 w' := Below.trans h (a.below h.size hP)

def aw1 : List Pc := [⟨0, 16, [0]⟩]
def ap1 : FP := ⟨4, [true, false, false, false], [], 1⟩
set_option maxRecDepth 100000 in
theorem aw_1 : takeV (p0 4) [] 10 = (0, 0, 16, 0) ∧ takeL (p0 4) [] 10 = (ap1, aw1) := ⟨by kernel_rfl, by kernel_rfl⟩
set_option maxRecDepth 100000 in
theorem aw_2 : takeV ap1 aw1 33 = (1, 0, 64, 0) := by kernel_rfl
set_option maxRecDepth 100000 in
theorem aw_3 : cls 17 = 32 := by kernel_rfl

end Go.Proofs.Ytebkknkgkjblnaa
