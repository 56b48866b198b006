/-
  SLAB: THE WALK of the statement SlabScript.
-/
import Derived.Test.YtkdhinemianndaaSlbP
import Derived.Test.YtkdhinemianndaaLend
import Derived.Deep.CutRange
import Derived.Deep.CutBlock
import Derived.Deep.RegionHeld3
import Derived.BigQuiet
namespace Go.Proofs.Ytkdhinemianndaa
open Go.ChangeShapes Go.WideShapes Go.ChangeAt Go.RowKit Go.Maps
attribute [local go_sem] depUpon Sp.ok

theorem SW.grown {w w' : World} {B gs gf : Nat} {p : FP} {L : List Pc} {P : Nat → Prop} (h : SW w B gs gf p L P) {S : Option Addr} (hg : w.grownBy w' (blk S)) (hS : ∀ i, blk S = some i → ¬ P i) : SW w' B gs gf p L P :=
  h.other (Tr.grown (P := fun i => blk S = some i) hg fun _ hg => .inl hg) fun i hi q => hS i q hi
theorem SW.apart {w : World} {B gs gf : Nat} {p : FP} {L : List Pc} {P : Nat → Prop} (h : SW w B gs gf p L P) {b n c : Nat} {S : Option Addr} {xs : List Value} (hr : Row w b 23 3 S n c xs) : ∀ i, blk S = some i → ¬ P i :=
  h.noRow hr (by decide) (by decide) (by decide) (by decide) (by decide)
theorem l_num5 (x : Int) (w : World) : Calls Try.prog 15 #[.int .i64 x] w fun e w' => e = .returned (.int .i64 x) ∧ w = w' := by
  go_enter Try.func15, Try.ntmps15
  go_wp2
  go_ret
  exact ⟨rfl, rfl⟩
section
variable {P : Program} (w : World) {ops : Array Oper} {rest : List Oper} {o : Oper} {a : Act} {Q : Exit → Act → World → Prop}
theorem wpl_build1 (hg : o.guard = none) (t : TypeId) (i : Nat) (x : Operand) (hop : o.op = .build t #[(i, x)]) (u : Value) (hx : a.eval x = u) (v : Value) (hrun : (Instr.build t #[(i, u)]).run P w = .ok v w)
    (h : wpList P ops Q rest (a.put o.dst v) w) : wpList P ops Q (o :: rest) a w := by
  refine wpList_plain hg fun K hK' => ?_
  unfold Oper.wp
  simp only [execOp, hop]
  simp only [List.map_toArray, List.map_cons, List.map_nil, hx]
  simp only [Sem.run_bind, hrun, Result.andThen_ok]
  exact hK' _ _ h
end
theorem run_rslab (gr : Nat) (w : World) : (Instr.build 44 #[(0, .pointer (some ⟨gr, 0, none⟩))]).run Try.prog w = .ok (.agg #[.pointer (some ⟨gr, 0, none⟩), .slice none 0 0]) w := by kernel_rfl
/-- The reference's slab in block gs over the frames in gr; its blocks are Q. -/
def RW (w : World) (B gs gr : Nat) (p : FP) (L : List Pc) (Q : Nat → Prop) : Prop := ∃ ga gB A c S d, RS w B gs gr S d L ∧ RF w B gr ga gB A c p ∧ Q = Un (RSB gs S) (RFB gr ga gB A)
section
variable {w w' : World} {B gs gr : Nat} {p : FP} {L : List Pc} {Q : Nat → Prop}
theorem RW.keep (h : RW w B gs gr p L Q) (hb : Ext w w') : RW w' B gs gr p L Q := by
  obtain ⟨ga, gB, A, c, S, d, h1, h2, h3⟩ := h
  exact ⟨ga, gB, A, c, S, d, h1.keep hb, h2.keep hb, h3⟩
theorem RW.other (h : RW w B gs gr p L Q) {P P' : Nat → Prop} (a : Tr w w' P P') (hP : ∀ i, Q i → ¬ P i) : RW w' B gs gr p L Q := by
  obtain ⟨ga, gB, A, c, S, d, h1, h2, rfl⟩ := h
  exact ⟨ga, gB, A, c, S, d, h1.other a fun i hi => hP i (.inl hi), h2.other a fun i hi => hP i (.inr hi), rfl⟩
theorem RW.lt (h : RW w B gs gr p L Q) : ∀ i, Q i → i < w.heap.size := by
  obtain ⟨ga, gB, A, c, S, d, h1, h2, rfl⟩ := h
  intro i hi
  rcases hi with hi | hi
  · exact h1.lt i hi
  · exact h2.lt i hi
theorem RW.ge (h : RW w B gs gr p L Q) : ∀ i, Q i → B ≤ i := by
  obtain ⟨ga, gB, A, c, S, d, h1, h2, rfl⟩ := h
  intro i hi
  rcases hi with hi | hi
  · exact h1.ge i hi
  · exact h2.ge i hi
/-- A block of another kind lies beside it. -/
theorem RW.no (h : RW w B gs gr p L Q) {i : Nat} {t : TypeId} {xs : List Value} (ho : Own w i t xs) (t1 : t ≠ 44) (t2 : t ≠ 84) (t3 : t ≠ 81) (t4 : t ≠ 4) (t5 : t ≠ 90) (t6 : t ≠ 3) : ¬ Q i := by
  obtain ⟨ga, gB, A, c, S, d, h1, h2, rfl⟩ := h
  obtain ⟨xs, _, hx⟩ := h2.byt
  intro hi
  rcases hi with hi | hi
  · rcases hi with rfl | hi
    · exact own_ne ho h1.own t1 rfl
    · exact row_ne h1.row ho (fun e => t2 e.symm) i hi rfl
  · rcases hi with rfl | rfl | rfl | hi
    · exact own_ne ho h2.own t3 rfl
    · exact own_ne ho h2.tak t4 rfl
    · exact own_ne ho hx t5 rfl
    · exact row_ne h2.row ho (fun e => t6 e.symm) i hi rfl
theorem RW.noRef (h : RW w B gs gr p L Q) {b m c : Nat} {A : Option Addr} {xs : List Value} (hr : Row w b 23 3 A m c xs) : ∀ i, blk A = some i → ¬ Q i := by
  intro i hi hP
  rcases hr.2 with ⟨hv, _⟩ | ⟨g', cap, cur, hv, _, hc, _⟩
  · injection hv with e1 e2 e3
    subst e1; cases hi
  · injection hv with e1 e2 e3
    subst e1
    have : g' = i := by simpa [blk] using hi
    subst this
    have ho : Own w g' 23 cur.toList := by unfold Own; rw [hc]
    exact h.no ho (by decide) (by decide) (by decide) (by decide) (by decide) (by decide) hP
theorem RW.n64 (h : RW w B gs gr p L Q) : p.n ≤ 64 := by
  obtain ⟨ga, gB, A, c, S, d, h1, h2, _⟩ := h
  exact h2.ok.n64
end
theorem rw_take (B gs gr : Nat) (p : FP) (L : List Pc) (Q : Nat → Prop) (size : Int) (w : World) (h : RW w B gs gr p L Q) (hp : SP p L) (hB : B ≤ w.heap.size) :
    Calls Try.prog 14 #[.pointer (some ⟨gs, 0, none⟩), .int .i64 size] w fun e w' =>
      e = .returned (.tuple #[.agg #[.int .i64 (takeV p L size).1, .int .i64 (takeV p L size).2.1, .int .i64 (takeV p L size).2.2.1], .int .i64 (takeV p L size).2.2.2]) ∧ ∃ Q', RW w' B gs gr (takeL p L size).1 (takeL p L size).2 Q' ∧ Tr w w' Q Q' := by
  obtain ⟨ga, gB, A, c, S, d, h1, h2, rfl⟩ := h
  exact (r5_take B gs gr ga gB c d A S p L size w h1 h2 hp hB).mono fun e w' ⟨r, A', c', S', d', q1, q2, q3⟩ => ⟨r, _, ⟨ga, gB, A', c', S', d', q1, q2, rfl⟩, q3⟩
theorem rw_give (B gs gr : Nat) (p : FP) (L : List Pc) (Q : Nat → Prop) (f i s : Int) (w : World) (h : RW w B gs gr p L Q) (hp : SP p L) (hB : B ≤ w.heap.size) :
    Calls Try.prog 18 #[.pointer (some ⟨gs, 0, none⟩), .agg #[.int .i64 f, .int .i64 i, .int .i64 s]] w fun e w' =>
      e = .returned (.int .i64 (giveE L f i s)) ∧ ∃ Q', RW w' B gs gr (giveL p L f i s).1 (giveL p L f i s).2 Q' ∧ Tr w w' Q Q' := by
  obtain ⟨ga, gB, A, c, S, d, h1, h2, rfl⟩ := h
  exact (r5_give B gs gr ga gB c d A S p L f i s w h1 h2 hp hB).mono fun e w' ⟨r, A', c', S', d', q1, q2, q3⟩ => ⟨r, _, ⟨ga, gB, A', c', S', d', q1, q2, rfl⟩, q3⟩
theorem rw_has (B gs gr : Nat) (p : FP) (L : List Pc) (Q : Nat → Prop) (f i s : Int) (w : World) (h : RW w B gs gr p L Q) (hp : SP p L) :
    Calls Try.prog 17 #[.pointer (some ⟨gs, 0, none⟩), .agg #[.int .i64 f, .int .i64 i, .int .i64 s]] w fun e w' => e = .returned (.bool (hasB L f i s)) ∧ Ext w w' := by
  obtain ⟨ga, gB, A, c, S, d, h1, h2, _⟩ := h
  exact r5_has B gs gr d S p L f i s w h1 hp h2.ok.n64
theorem rw_len (B gs gr : Nat) (p : FP) (L : List Pc) (Q : Nat → Prop) (w : World) (h : RW w B gs gr p L Q) (hp : SP p L) :
    Calls Try.prog 19 #[.pointer (some ⟨gs, 0, none⟩)] w fun e w' => e = .returned (.int .i64 (totL L : Int)) ∧ w = w' := by
  obtain ⟨ga, gB, A, c, S, d, h1, h2, _⟩ := h
  exact r5_len B gs gr d S p L w h1 hp h2.ok.n64
theorem rw_free (B gs gr : Nat) (p : FP) (L : List Pc) (Q : Nat → Prop) (w : World) (h : RW w B gs gr p L Q) :
    Calls Try.prog 21 #[.pointer (some ⟨gr, 0, none⟩)] w fun e w' => e = .returned (.int .i64 ((p.fr.length : Int) + (p.n : Int) - (p.fs : Int))) ∧ Ext w w' := by
  obtain ⟨ga, gB, A, c, S, d, h1, h2, _⟩ := h
  exact r4_free B gr ga gB A c p w h2
/-- frames.New, slab.New; the reference's. -/
theorem SW.made2 {w w1 w2 w3 : World} {n gs gm gf gb gt : Nat} (hf : FS w1 w.heap.size gf gb gt none 0 (p0 n)) (hs : SS w3 w2.heap.size gs gm gf (fun _ => (0, 0)) []) (b1 : Ext w w1) (b2 : Ext w1 w2) (b3 : Ext w2 w3) :
    ∃ P, SW w3 w.heap.size gs gf (p0 n) [] P ∧ ∀ i, P i → i < w1.heap.size ∨ (w2.heap.size ≤ i ∧ i < w3.heap.size) :=
  ⟨_, ⟨⟨gm, gb, gt, none, 0, _, hs.lower (Nat.le_trans b1.size b2.size), hf.keep (Ext.trans b2 b3), rfl⟩, fun a ha => absurd ha (by simp), List.Pairwise.nil⟩, fun i hi => by
    rcases hi with hi | hi
    · exact .inr ⟨hs.lo i hi, hs.lt i hi⟩
    · exact .inl (hf.lt i hi)⟩
theorem RW.made {w1 w2 w3 : World} {n gr ga gB gs B : Nat} (hf : RF w2 w1.heap.size gr ga gB none 0 (p0 n)) (ho : Own w3 gs 44 [.pointer (some ⟨gr, 0, none⟩), .slice none 0 0]) (b : Ext w2 w3) (hB : B ≤ w1.heap.size) (hgs : B ≤ gs) (hgs2 : w2.heap.size ≤ gs) :
    ∃ Q, RW w3 B gs gr (p0 n) [] Q ∧ ∀ i, Q i → i = gs ∨ (w1.heap.size ≤ i ∧ i < w2.heap.size) := by
  have h2 := hf.keep b
  obtain ⟨l1, l2, l3⟩ := h2.lo
  refine ⟨_, ⟨ga, gB, none, 0, none, 0, ⟨ho, Row.nil _ _ _ _, hgs⟩, ⟨h2.own, h2.tak, h2.byt, Row.nil _ _ _ _, ⟨by omega, by omega, by omega⟩, h2.ok⟩, rfl⟩, fun i hi => ?_⟩
  rcases hi with hi | hi
  · rcases hi with rfl | hi
    · exact .inl rfl
    · simp [blk] at hi
  · exact .inr ⟨hf.ge i hi, hf.lt i hi⟩
/-- After Give it is not there. -/
theorem has_after {p : FP} {L : List Pc} (h : SP p L) (f i s : Int) : hasB (giveL p L f i s).2 f i s = false := by
  cases hb : hasB L f i s with
  | false =>
    have : giveL p L f i s = (p, L) := by unfold giveL; rw [hb]; rfl
    rw [this]; exact hb
  | true =>
    obtain ⟨_, g⟩ := give_spec (x := (f, i, s)) h (has3_iff.1 hb)
    have h2 := g.has (f, i, s)
    cases hc : hasB (giveL p L f i s).2 f i s with
    | false => rfl
    | true => exact absurd rfl ((h2.1 (has3_iff.1 hc)).2)
/-- Both hold the same pieces; what was taken so far. -/
structure SC (w : World) (B gs gf gw gr : Nat) (p : FP) (L : List Pc) (nw : List X3) (S : Option Addr) (c : Nat) : Prop where
  sw : ∃ P Q, SW w B gs gf p L P ∧ RW w B gw gr p L Q ∧ (∀ i, Q i → ¬ P i)
  row : Row w B 23 3 S nw.length c (trips nw)
  i64 : ∀ x ∈ nw, I64 x.1 ∧ I64 x.2.1
theorem SC.keep {w w' : World} {B gs gf gw gr c : Nat} {p : FP} {L : List Pc} {nw : List X3} {S : Option Addr} (h : SC w B gs gf gw gr p L nw S c) (hb : Ext w w') : SC w' B gs gf gw gr p L nw S c := by
  obtain ⟨⟨P, Q, h1, h2, h3⟩, h4, h5⟩ := h
  exact ⟨⟨P, Q, h1.keep hb, h2.keep hb, h3⟩, h4.keep hb, h5⟩
theorem SC.grown {w w' : World} {B gs gf gw gr c g : Nat} {p : FP} {L : List Pc} {nw : List X3} {S : Option Addr} {xs : List Value} (h : SC w B gs gf gw gr p L nw S c) (ho : Own w g 23 xs) (hb : w.grownBy w' (some g)) (hS : blk S ≠ some g) : SC w' B gs gf gw gr p L nw S c := by
  obtain ⟨⟨P, Q, h1, h2, h3⟩, h4, h5⟩ := h
  have t : Tr w w' (fun i => i = g) (fun i => i = g) := Tr.grown hb (fun k q => .inl (by injection q with q; exact q.symm))
  exact ⟨⟨P, Q, h1.other t (fun i hi q => h1.no ho (by decide) (by decide) (by decide) (by decide) (by decide) (q ▸ hi)), h2.other t (fun i hi q => h2.no ho (by decide) (by decide) (by decide) (by decide) (by decide) (by decide) (q ▸ hi)), h3⟩, t.row h4 (fun i hi q => hS (by rw [hi, q])), h5⟩

set_option maxRecDepth 100000 in
set_option maxHeartbeats 16000000 in
theorem law_slabscript (A : Option Addr) (m c : Nat) (X : Nat → A5) (w : World) (ga : Acts5 w A m X) :
    Calls Try.prog 4 #[.slice A m c] w fun e w' => e = .returned (.bool true) ∧ Below w.heap.size w w' := by
  have HAW := Lib.hid (fun w => slb_awake w)
  by_cases h100 : 100 < m
  · have h1 : (100 : Int) < (m : Int) := by omega
    clear ga
    go_enter Try.func4, Try.ntmps4
    go_wp2_with ((with_reducible go_at_call 10); (with_reducible refine (HAW.out _).mono ?_); rintro e w1 ⟨rfl, b1⟩)
    go_ret
    exact ⟨rfl, b1⟩
  have m1 : (m : Int) ≤ 100 := by omega
  have HZ := Lib.hid ga
  have hn := f_new 4 w (by omega) (by omega)
  rw [show ((4 : Nat) : Int) = 4 from rfl] at hn
  have HN := Lib.hid hn
  have hn2 := fun w => r4_new 4 w (by omega) (by omega)
  rw [show ((4 : Nat) : Int) = 4 from rfl] at hn2
  have HN2 := Lib.hid hn2
  have HS := Lib.hid (fun gf w => s_new gf w)
  have HRB := Lib.hid (fun gr w => run_rslab gr w)
  obtain ⟨i0, hi0, hz0, hz1, hz2⟩ := info_parts info_ref
  have HI := Lib.hid hi0
  clear hn hn2 ga hi0
  go_enter Try.func4, Try.ntmps4
  go_wp2_with (first
    | ((with_reducible go_at_call 11); (with_reducible refine HN.out.mono ?_); rintro e w1 ⟨gf, gb, gt, rfl, f1, b1⟩; have F1 := Lib.hid f1; clear f1)
    | ((with_reducible go_at_call 12); (with_reducible refine (HN2.out _).mono ?_); rintro e w2 ⟨gr, ga, gB, rfl, f2, b2⟩; have F2 := Lib.hid f2; clear f2)
    | ((with_reducible go_at_call 13); (with_reducible refine (HS.out _ _).mono ?_); rintro e w3 ⟨gs, gm, rfl, s3, b3⟩; have S3 := Lib.hid s3; clear s3)
    | (refine wpl_build1 _ rfl 44 0 _ rfl (.pointer (some ⟨gr, 0, none⟩)) rfl _ (HRB.out _ _) ?_)
    | (refine wpl_box_own _ rfl _ _ rfl [.pointer (some ⟨gr, 0, none⟩), .slice none 0 0] rfl ?_; intro w4 o4 b4 s4))
  have z1 := b1.size
  have z2 := b2.size
  have z3 := b3.size
  obtain ⟨P3, SW3, hP3⟩ := SW.made2 F1.out S3.out b1 b2 b3
  obtain ⟨Q3, RW4, hQ4⟩ := RW.made (B := w.heap.size) F2.out o4 (Ext.trans b3 b4) (by omega) (by omega) (by omega)
  have hap : ∀ i, Q3 i → ¬ P3 i := fun i hq hp => by
    rcases hQ4 i hq with q | q <;> rcases hP3 i hp with r | r <;> omega
  have b14 : Ext w w4 := Ext.trans (Ext.trans (Ext.trans b1 b2) b3) b4
  have SC0 := Lib.hid (show SC w4 w.heap.size gs gf w3.heap.size gr (p0 4) [] [] none 0 from ⟨⟨P3, Q3, SW3.keep b4, RW4, hap⟩, Row.nil _ _ _ _, fun x hx => absurd hx (by simp)⟩)
  clear SW3 RW4 hP3 hQ4 hap o4 F1 F2 S3 HN HN2 HS HRB b1 b2 b3 b4 z1 z2 z3 s4
  generalize w3.heap.size = gw at *
  go_loopw [9, 10] (fun v q wr => ∃ (i : Nat) (p : FP) (L : List Pc) (nw : List X3) (S : Option Addr) (c1 : Nat), v = .slice S nw.length c1 ∧ q = .int .i64 (i : Int) ∧ i ≤ m ∧ SC wr w.heap.size gs gf gw gr p L nw S c1 ∧ nw.length ≤ i ∧ Ext w wr) (fun _ q _ => m - (intOf q).toNat)
  case atStart => exact ⟨0, p0 4, [], [], none, 0, rfl, rfl, by omega, SC0.out, Nat.le_refl _, b14⟩
  case round =>
    clear SC0 b14
    obtain ⟨i, p, L, nw, S, c1, rfl, rfl, hi, hC0, hn16, h4⟩ := hrel
    by_cases hlt : i < m
    · have i0' : (0 : Int) ≤ (i : Int) := by omega
      have i1' : (i : Int) < (m : Int) := by omega
      obtain ⟨hx64, b, off, rfl, hc⟩ := HZ.out.at_ i hlt
      generalize X i = x at *
      obtain ⟨xg, xr, xs, xk, xa, xb, xc⟩ := x
      have HX64 := Lib.hid (show I64 xa ∧ I64 xb from ⟨hx64.2.2.1, hx64.2.2.2.1⟩)
      have e0 := cell_keep h4 (hc 0 _ rfl)
      have e1 := cell_keep h4 (hc 1 _ rfl)
      have e2 := cell_keep h4 (hc 2 _ rfl)
      have e3 := cell_keep h4 (hc 3 _ rfl)
      have e4 := cell_keep h4 (hc 4 _ rfl)
      have e5 := cell_keep h4 (hc 5 _ rfl)
      have e6 := cell_keep h4 (hc 6 _ rfl)
      simp only [Nat.add_zero, ← Nat.add_assoc] at e0 e1 e2 e3 e4 e5 e6
      have bX := Ext.alloc wr (.cells #[.bool xg, .bool xr, .int .i64 xs, .int .i64 xk, .int .i64 xa, .int .i64 xb, .int .i64 xc] 47)
      have oX := Own.new wr 47 [.bool xg, .bool xr, .int .i64 xs, .int .i64 xk, .int .i64 xa, .int .i64 xb, .int .i64 xc]
      go_upto_region 13 with fail
      have HC := Lib.hid (hC0.keep bX)
      have OX := Lib.hid oX
      have h5 := Ext.trans h4 bX
      clear e0 e1 e2 e3 e4 e5 e6 hC0 h4 bX oX hc hx64
      generalize (wr.alloc (.cells #[.bool xg, .bool xr, .int .i64 xs, .int .i64 xk, .int .i64 xa, .int .i64 xb, .int .i64 xc] 47)) = w3 at *
      generalize wr.heap.size = hx at *
      have x0 := OX.out.cell 0
      simp only [List.getElem?_cons_zero] at x0
      go_upto_if 49 with fail
      go_cut [9, 12, 13, 14, 15, 16, 17] from 37 to 162 (fun s9 _ _ _ _ _ _ wx => ∃ (p' : FP) (L' : List Pc) (nw' : List X3) (S' : Option Addr) (c' : Nat), s9 = .slice S' nw'.length c' ∧ SC wx w.heap.size gs gf gw gr p' L' nw' S' c' ∧ nw'.length ≤ i + 1 ∧ Own wx hx 47 [.bool xg, .bool xr, .int .i64 xs, .int .i64 xk, .int .i64 xa, .int .i64 xb, .int .i64 xc] ∧ Ext w wx)
      case first =>
        cases xg
        · have h5s := h5.size
          obtain ⟨⟨P, Q, hS, hR, hap⟩, hRow, hI64⟩ := HC.out
          have HT := Lib.hid (sw_take _ gs gf p L P xs w3 hS h5s)
          have HT2 := Lib.hid (fun w' (h : RW w' w.heap.size gw gr p L Q) (hB : w.heap.size ≤ w'.heap.size) => rw_take _ gw gr p L Q xs w' h hS.sp hB)
          have HTS := Lib.hid (fun he => take_spec hS.sp hS.ok (size := xs) he)
          have HS3 := Lib.hid hS
          have HR3 := Lib.hid hR
          have HAP := Lib.hid hap
          have HRow := Lib.hid hRow
          have HI64 := Lib.hid hI64
          generalize takeL p L xs = pl at *
          generalize takeV p L xs = tv at *
          obtain ⟨vf, vs, vz, ve⟩ := tv
          obtain ⟨p', L'⟩ := pl
          simp only at HT HTS HT2
          have x2 := OX.out.cell 2
          simp only [List.getElem?_cons_zero, List.getElem?_cons_succ] at x2
          clear hS hR hap hRow hI64
          go_upto_region 15 with ((with_reducible go_at_call 6); (with_reducible refine HT.out.mono ?_); rintro e w4 ⟨rfl, P4, s4, t4⟩)
          have b4 := t4.belowOf h5 HS3.out.ge
          have bR := Ext.alloc w4 (.cells #[.int .i64 vf, .int .i64 vs, .int .i64 vz] 23)
          have OR5 := Lib.hid (Own.new w4 23 [.int .i64 vf, .int .i64 vs, .int .i64 vz])
          have S5 := Lib.hid (s4.keep bR)
          have R5 := Lib.hid ((HR3.out.other t4 HAP.out).keep bR)
          have AP5 := Lib.hid (t4.apart HAP.out HR3.out.lt)
          have Row5 := Lib.hid ((t4.row HRow.out (HS3.out.apart HRow.out)).keep bR)
          have OX5 := Lib.hid ((t4.own OX.out (HS3.out.no OX.out (by decide) (by decide) (by decide) (by decide) (by decide))).keep bR)
          have b5 := Ext.trans b4 bR
          have hs5 := b5.size
          clear s4 t4 bR b4 x0 x2 HT
          generalize (w4.alloc (.cells #[.int .i64 vf, .int .i64 vs, .int .i64 vz] 23)) = w5 at *
          generalize w4.heap.size = hr at *
          have x2 := OX5.out.cell 2
          simp only [List.getElem?_cons_zero, List.getElem?_cons_succ] at x2
          go_upto_region 16 with ((with_reducible go_at_call 14); (with_reducible refine (HT2.out _ R5.out hs5).mono ?_); rintro e w6 ⟨rfl, Q6, r6, t6⟩)
          have b6 := t6.belowOf b5 R5.out.ge
          have bR := Ext.alloc w6 (.cells #[.int .i64 vf, .int .i64 vs, .int .i64 vz] 48)
          have OV7 := Lib.hid (Own.new w6 48 [.int .i64 vf, .int .i64 vs, .int .i64 vz])
          have S7 := Lib.hid ((S5.out.other t6 (fun j hj q => AP5.out j q hj)).keep bR)
          have R7 := Lib.hid (r6.keep bR)
          have AP7 := Lib.hid (fun j (hj : Q6 j) (q : P4 j) => (t6.apart (fun k hk q => AP5.out k q hk) S5.out.lt) j q hj)
          have Row7 := Lib.hid ((t6.row Row5.out (R5.out.noRef Row5.out)).keep bR)
          have OX7 := Lib.hid ((t6.own OX5.out (R5.out.no OX5.out (by decide) (by decide) (by decide) (by decide) (by decide) (by decide))).keep bR)
          have OR7 := Lib.hid ((t6.own OR5.out (R5.out.no OR5.out (by decide) (by decide) (by decide) (by decide) (by decide) (by decide))).keep bR)
          have b7 := Ext.trans b6 bR
          have hs7 := b7.size
          clear r6 t6 bR b6 b5 x2 HT2 S5 R5 AP5 Row5 OX5 OR5 HS3 HR3 HAP HRow
          generalize (w6.alloc (.cells #[.int .i64 vf, .int .i64 vs, .int .i64 vz] 48)) = w7 at *
          generalize w6.heap.size = hv at *
          have y0 := OR7.out.cell 0
          have y1 := OR7.out.cell 1
          have y2 := OR7.out.cell 2
          have z0 := OV7.out.cell 0
          have z1 := OV7.out.cell 1
          have z2 := OV7.out.cell 2
          simp only [List.getElem?_cons_zero, List.getElem?_cons_succ] at y0 y1 y2 z0 z1 z2
          have tz1 : (vf != vf) = false := by simp
          have tz2 : (vs != vs) = false := by simp
          have tz3 : (vz != vz) = false := by simp
          have tz4 : (ve != ve) = false := by simp
          by_cases he : ve = 0
          rotate_left
          · have te : (ve == 0) = false := by simp [he]
            go_wp2_with ((with_reducible go_at_call 15); (with_reducible refine (l_num5 _ _).mono ?_); rintro e w' ⟨rfl, rfl⟩)
            go_meet
            exact ⟨p', L', nw, S, c1, rfl, ⟨⟨P4, Q6, S7.out, R7.out, AP7.out⟩, Row7.out, HI64.out⟩, by omega, OX7.out, b7⟩
          · subst he
            have te : ((0 : Int) == 0) = true := by simp
            have hT := HTS.out rfl
            have HNI := Lib.hid (show ∀ x ∈ nw ++ [(vf, vs, vz)], I64 x.1 ∧ I64 x.2.1 from fun x hx => by
              rcases List.mem_append.1 hx with hx | hx
              · exact HI64.out x hx
              · rw [List.mem_singleton] at hx
                subst hx
                exact has3_i64 S7.out.sp S7.out.ok ((hT.has _).2 (.inr rfl)))
            clear hT HTS
            go_wp2_with (first
              | ((with_reducible go_at_call 15); (with_reducible refine (l_num5 _ _).mono ?_); rintro e w' ⟨rfl, rfl⟩)
              | (at_builtin; have r7 := (Row7.out.alloc (.cells #[.int .i64 vf, .int .i64 vs, .int .i64 vz] 23)); refine wpl_append _ rfl (.tmp 91) (.tmp 93) 45 rfl 23 i0 _ 3 24 Try.underlying45 HI.out hz0 hz1 hz2 rfl (by omega) w.heap.size S nw.length c1 _ rfl r7 _ 1 1 (trips [(vf, vs, vz)]) rfl rfl (Own.new w7 23 (trips [(vf, vs, vz)])).rd0 (trips_one _) (nw.length + 1) _ rfl (trips_app _ _) (by omega) (by omega) (by simp; omega) ?_; intro A8 c8 w8 o8 g8 k8; have e8 := below_grown (Ext.trans b7 (Ext.alloc w7 (.cells #[.int .i64 vf, .int .i64 vs, .int .i64 vz] 23))) g8 (by simp; omega) (fun gg hg => (r7.at_ gg hg).1); have ea := Ext.alloc w7 (.cells #[.int .i64 vf, .int .i64 vs, .int .i64 vz] 23); have S8 := Lib.hid ((S7.out.keep ea).grown g8 ((S7.out.keep ea).apart r7)); have R8 := Lib.hid ((R7.out.keep ea).other (Tr.grown (P := fun i => blk S = some i) g8 fun _ hg => .inl hg) (fun j hj q => (R7.out.keep ea).noRef r7 j q hj)); have OX8 := Lib.hid ((OX7.out.keep ea).grown g8 (fun q => row_ne r7 (OX7.out.keep ea) (by decide) _ q.symm rfl)); clear r7))
            go_meet
            exact ⟨p', L', nw ++ [(vf, vs, vz)], A8, c8, by rw [List.length_append]; rfl, ⟨⟨P4, Q6, S8.out, R8.out, AP7.out⟩, by rw [List.length_append]; exact o8, HNI.out⟩, by rw [List.length_append, List.length_singleton]; omega, OX8.out, e8⟩
        · have x4 := OX.out.cell 4
          have x5 := OX.out.cell 5
          have x6 := OX.out.cell 6
          simp only [List.getElem?_cons_zero, List.getElem?_cons_succ] at x4 x5 x6
          have bR := Ext.alloc w3 (.cells #[.int .i64 xa, .int .i64 xb, .int .i64 xc] 23)
          have OR := Lib.hid (Own.new w3 23 [.int .i64 xa, .int .i64 xb, .int .i64 xc])
          go_upto_region 21 with fail
          have HC4 := Lib.hid (HC.out.keep bR)
          have OX4 := Lib.hid (OX.out.keep bR)
          have h6 := Ext.trans h5 bR
          have hsl : blk S ≠ some w3.heap.size := fun q => by have := (HC.out.row.at_ _ q).2; omega
          have hhx := OX.out.lt
          have hwr := h5.size
          clear x4 x5 x6 bR h5 OX HC x0
          generalize (w3.alloc (.cells #[.int .i64 xa, .int .i64 xb, .int .i64 xc] 23)) = w4 at *
          generalize w3.heap.size = hr at *
          have x1 := OX4.out.cell 1
          have x3 := OX4.out.cell 3
          simp only [List.getElem?_cons_zero, List.getElem?_cons_succ] at x1 x3
          go_cut [104] from 37 to 162 (fun s104 wx => ∃ cb : Bool, cb = (!xr && decide (0 < nw.length)) ∧ s104 = .bool cb ∧ wx = w4)
          case first =>
            cases xr
            · by_cases hl0 : 0 < nw.length
              · have tl : (0 : Int) < (nw.length : Int) := by omega
                go_wp2
                go_meet
                exact ⟨_, by simp [hl0], rfl, rfl⟩
              · have tl : decide ((0 : Int) < (nw.length : Int)) = false := decide_eq_false (by omega)
                have tl2 : (nw.length : Int) = 0 := by omega
                have tl3 : nw.length = 0 := by omega
                go_wp2
                go_meet
                exact ⟨_, by simp [hl0], rfl, rfl⟩
            · go_wp2
              go_meet
              exact ⟨_, by simp, rfl, rfl⟩
          case rest =>
            obtain ⟨cb, hcb, rfl, rfl⟩ := hcut
            go_upto_if 104 with fail
            go_cut [] from 37 to 162 (fun wx => ∃ r1 r2 r3 : Int, I64 r1 ∧ I64 r2 ∧ Own wx hr 23 [.int .i64 r1, .int .i64 r2, .int .i64 r3] ∧ SC wx w.heap.size gs gf gw gr p L nw S c1 ∧ Own wx hx 47 [.bool true, .bool xr, .int .i64 xs, .int .i64 xk, .int .i64 xa, .int .i64 xb, .int .i64 xc] ∧ Ext w wx)
            case first =>
              cases cb
              · go_wp2
                go_meet
                exact ⟨xa, xb, xc, HX64.out.1, HX64.out.2, OR.out, HC4.out, OX4.out, h6⟩
              · have hcb2 : xr = false ∧ 0 < nw.length := by
                  revert hcb
                  cases xr <;> simp
                obtain ⟨hxr, hpos⟩ := hcb2
                have p1' : (0 : Int) < (nw.length : Int) := by omega
                have HL := Lib.hid (fun w => low_any xk (nw.length : Int) w (by omega) (by omega))
                have k0 := low_lo xk (nw.length : Int) (by omega)
                have k1 := low_hi xk (nw.length : Int) (by omega)
                generalize low xk (nw.length : Int) = kz at *
                obtain ⟨k, rfl⟩ : ∃ k : Nat, kz = (k : Int) := ⟨kz.toNat, by omega⟩
                have hk : k < nw.length := by omega
                obtain ⟨bn, on, rfl, n0, n1, n2⟩ := HC4.out.row.rd.trip hk
                have HII := Lib.hid (HC4.out.i64 _ (List.getElem_mem hk))
                clear hcb hxr x1
                generalize nw[k].1 = nf at *
                generalize nw[k].2.1 = ns at *
                generalize nw[k].2.2 = nz at *
                go_wp2_with (first
                  | ((with_reducible go_at_call 16); (with_reducible refine (HL.out _).mono ?_); rintro e w' ⟨rfl, rfl⟩)
                  | (refine wpl_store_own _ rfl 23 _ _ rfl 3 size_ref _ rfl [.int .i64 nf, .int .i64 ns, .int .i64 nz] rfl _ _ OR.out rfl rfl (by simp [Value.oneCell']) ?_; intro w5 o5 g5 s5; clear s5))
                go_meet
                exact ⟨nf, ns, nz, HII.out.1, HII.out.2, o5, HC4.out.grown OR.out g5 hsl, OX4.out.grown g5 (fun q => by injection q with q; omega), below_grown h6 g5 h6.size (fun q hq => by injection hq with hq; omega)⟩
            case rest =>
              clear HC4 OX4 OR h6 x1 x3 hcb HX64
              obtain ⟨r1, r2, r3, hr1, hr2, hOR, hSC, hOX, h7⟩ := hcut
              have y0 := hOR.cell 0
              have y1 := hOR.cell 1
              have y2 := hOR.cell 2
              simp only [List.getElem?_cons_zero, List.getElem?_cons_succ] at y0 y1 y2
              have bR := Ext.alloc wc (.cells #[.int .i64 r1, .int .i64 r2, .int .i64 r3] 48)
              have OV5 := Lib.hid (Own.new wc 48 [.int .i64 r1, .int .i64 r2, .int .i64 r3])
              go_upto_region 24 with fail
              have OR5 := Lib.hid (hOR.keep bR)
              have OX5 := Lib.hid (hOX.keep bR)
              have hSC5 := hSC.keep bR
              have h8 := Ext.trans h7 bR
              clear y0 y1 y2 hOR hSC hOX h7 bR
              generalize (wc.alloc (.cells #[.int .i64 r1, .int .i64 r2, .int .i64 r3] 48)) = w5 at *
              generalize wc.heap.size = hv at *
              obtain ⟨⟨P, Q, hS, hR, hap⟩, hRow, hI64⟩ := hSC5
              have hs8 := h8.size
              have H1 := Lib.hid (sw_has _ gs gf p L P r1 r2 r3 _ (hS.keep (Ext.drew w5)) hr1 hr2)
              have H2 := Lib.hid (fun w' (b : Ext w5 w') => rw_has _ gw gr p L Q r1 r2 r3 w' (hR.keep b) hS.sp)
              have H3 := Lib.hid (fun w' (b : Ext w5 w') => sw_give _ gs gf p L P r1 r2 r3 w' (hS.keep b) (Nat.le_trans hs8 b.size) hr1 hr2)
              have H5 := Lib.hid (fun w' (h : RW w' w.heap.size gw gr p L Q) (hB : w.heap.size ≤ w'.heap.size) => rw_give _ gw gr p L Q r1 r2 r3 w' h hS.sp hB)
              have H6 := Lib.hid (fun P' w' (h : SW w' w.heap.size gs gf (giveL p L r1 r2 r3).1 (giveL p L r1 r2 r3).2 P') => sw_has _ gs gf _ _ P' r1 r2 r3 w' h hr1 hr2)
              rw [has_after hS.sp] at H6
              have HS5 := Lib.hid hS
              have HR5 := Lib.hid hR
              have HAP := Lib.hid hap
              have HRow := Lib.hid hRow
              have HI64 := Lib.hid hI64
              generalize giveL p L r1 r2 r3 = pl at *
              generalize giveE L r1 r2 r3 = ge at *
              generalize hasB L r1 r2 r3 = hb at *
              have tz1 : (hb != hb) = false := by simp
              have tz2 : (ge != ge) = false := by simp
              have K5 : w5.cell? ⟨hr, 0, none⟩ = some (.int .i64 r1) ∧ w5.cell? ⟨hr, 1, none⟩ = some (.int .i64 r2) ∧ w5.cell? ⟨hr, 2, none⟩ = some (.int .i64 r3) ∧ w5.cell? ⟨hv, 0, none⟩ = some (.int .i64 r1) ∧ w5.cell? ⟨hv, 1, none⟩ = some (.int .i64 r2) ∧ w5.cell? ⟨hv, 2, none⟩ = some (.int .i64 r3) := ⟨OR5.out.cell 0, OR5.out.cell 1, OR5.out.cell 2, OV5.out.cell 0, OV5.out.cell 1, OV5.out.cell 2⟩
              clear hS hR hap hRow hI64
              go_region_held3 (fun w' => w'.cell? ⟨hr, 0, none⟩ = some (.int .i64 r1) ∧ w'.cell? ⟨hr, 1, none⟩ = some (.int .i64 r2) ∧ w'.cell? ⟨hr, 2, none⟩ = some (.int .i64 r3) ∧ w'.cell? ⟨hv, 0, none⟩ = some (.int .i64 r1) ∧ w'.cell? ⟨hv, 1, none⟩ = some (.int .i64 r2) ∧ w'.cell? ⟨hv, 2, none⟩ = some (.int .i64 r3)) (first | exact K5 | exact K6 | exact K7 | exact K8 | exact K9 | exact K10)
                (first
                  | ((with_reducible go_at_call 8); (with_reducible refine H1.out.mono ?_); rintro e w6 ⟨rfl, b6⟩; have b56 : Ext w5 w6 := Ext.trans (Ext.drew w5) b6; have K6 : w6.cell? ⟨hr, 0, none⟩ = some (.int .i64 r1) ∧ w6.cell? ⟨hr, 1, none⟩ = some (.int .i64 r2) ∧ w6.cell? ⟨hr, 2, none⟩ = some (.int .i64 r3) ∧ w6.cell? ⟨hv, 0, none⟩ = some (.int .i64 r1) ∧ w6.cell? ⟨hv, 1, none⟩ = some (.int .i64 r2) ∧ w6.cell? ⟨hv, 2, none⟩ = some (.int .i64 r3) := ⟨(OR5.out.keep b56).cell 0, (OR5.out.keep b56).cell 1, (OR5.out.keep b56).cell 2, (OV5.out.keep b56).cell 0, (OV5.out.keep b56).cell 1, (OV5.out.keep b56).cell 2⟩)
                  | ((with_reducible go_at_call 17); (with_reducible refine (H2.out _ b56).mono ?_); rintro e w7 ⟨rfl, b7⟩; have b57 : Ext w5 w7 := Ext.trans b56 b7; have K7 : w7.cell? ⟨hr, 0, none⟩ = some (.int .i64 r1) ∧ w7.cell? ⟨hr, 1, none⟩ = some (.int .i64 r2) ∧ w7.cell? ⟨hr, 2, none⟩ = some (.int .i64 r3) ∧ w7.cell? ⟨hv, 0, none⟩ = some (.int .i64 r1) ∧ w7.cell? ⟨hv, 1, none⟩ = some (.int .i64 r2) ∧ w7.cell? ⟨hv, 2, none⟩ = some (.int .i64 r3) := ⟨(OR5.out.keep b57).cell 0, (OR5.out.keep b57).cell 1, (OR5.out.keep b57).cell 2, (OV5.out.keep b57).cell 0, (OV5.out.keep b57).cell 1, (OV5.out.keep b57).cell 2⟩)
                  | ((with_reducible go_at_call 7); (with_reducible refine (H3.out _ b57).mono ?_); rintro e w8 ⟨rfl, P8, s8, t8⟩; have S8 := Lib.hid s8; have R8 := Lib.hid ((HR5.out.keep b57).other t8 HAP.out); have AP8 := Lib.hid (t8.apart HAP.out (HR5.out.keep b57).lt); have OR8 := t8.own (OR5.out.keep b57) ((HS5.out.keep b57).no (OR5.out.keep b57) (by decide) (by decide) (by decide) (by decide) (by decide)); have OV8 := t8.own (OV5.out.keep b57) ((HS5.out.keep b57).no (OV5.out.keep b57) (by decide) (by decide) (by decide) (by decide) (by decide)); have OX8 := Lib.hid (t8.own (OX5.out.keep b57) ((HS5.out.keep b57).no (OX5.out.keep b57) (by decide) (by decide) (by decide) (by decide) (by decide))); have Row8 := Lib.hid (t8.row (HRow.out.keep b57) ((HS5.out.keep b57).apart (HRow.out.keep b57))); have b8 : Ext w w8 := t8.belowOf (Ext.trans h8 b57) (HS5.out.keep b57).ge; have z8 : w.heap.size ≤ w8.heap.size := b8.size; have K8 : w8.cell? ⟨hr, 0, none⟩ = some (.int .i64 r1) ∧ w8.cell? ⟨hr, 1, none⟩ = some (.int .i64 r2) ∧ w8.cell? ⟨hr, 2, none⟩ = some (.int .i64 r3) ∧ w8.cell? ⟨hv, 0, none⟩ = some (.int .i64 r1) ∧ w8.cell? ⟨hv, 1, none⟩ = some (.int .i64 r2) ∧ w8.cell? ⟨hv, 2, none⟩ = some (.int .i64 r3) := ⟨OR8.cell 0, OR8.cell 1, OR8.cell 2, OV8.cell 0, OV8.cell 1, OV8.cell 2⟩; clear s8 t8)
                  | ((with_reducible go_at_call 15); (with_reducible refine (l_num5 _ _).mono ?_); rintro e wq ⟨rfl, rfl⟩)
                  | ((with_reducible go_at_call 18); (with_reducible refine (H5.out _ R8.out z8).mono ?_); rintro e w9 ⟨rfl, Q9, r9, t9⟩; have R9 := Lib.hid r9; have S9 := Lib.hid (S8.out.other t9 (fun j hj q => AP8.out j q hj)); have AP9 := Lib.hid (fun j (hj : Q9 j) (q : P8 j) => (t9.apart (fun k hk q => AP8.out k q hk) S8.out.lt) j q hj); have OR9 := t9.own OR8 (R8.out.no OR8 (by decide) (by decide) (by decide) (by decide) (by decide) (by decide)); have OV9 := t9.own OV8 (R8.out.no OV8 (by decide) (by decide) (by decide) (by decide) (by decide) (by decide)); have OX9 := Lib.hid (t9.own OX8.out (R8.out.no OX8.out (by decide) (by decide) (by decide) (by decide) (by decide) (by decide))); have Row9 := Lib.hid (t9.row Row8.out (R8.out.noRef Row8.out)); have b9 : Ext w w9 := t9.belowOf b8 R8.out.ge; have K9 : w9.cell? ⟨hr, 0, none⟩ = some (.int .i64 r1) ∧ w9.cell? ⟨hr, 1, none⟩ = some (.int .i64 r2) ∧ w9.cell? ⟨hr, 2, none⟩ = some (.int .i64 r3) ∧ w9.cell? ⟨hv, 0, none⟩ = some (.int .i64 r1) ∧ w9.cell? ⟨hv, 1, none⟩ = some (.int .i64 r2) ∧ w9.cell? ⟨hv, 2, none⟩ = some (.int .i64 r3) := ⟨OR9.cell 0, OR9.cell 1, OR9.cell 2, OV9.cell 0, OV9.cell 1, OV9.cell 2⟩; clear r9 t9)
                  | ((with_reducible go_at_call 8); (with_reducible refine (H6.out _ _ S9.out).mono ?_); rintro e w10 ⟨rfl, b10⟩; have K10 : w10.cell? ⟨hr, 0, none⟩ = some (.int .i64 r1) ∧ w10.cell? ⟨hr, 1, none⟩ = some (.int .i64 r2) ∧ w10.cell? ⟨hr, 2, none⟩ = some (.int .i64 r3) ∧ w10.cell? ⟨hv, 0, none⟩ = some (.int .i64 r1) ∧ w10.cell? ⟨hv, 1, none⟩ = some (.int .i64 r2) ∧ w10.cell? ⟨hv, 2, none⟩ = some (.int .i64 r3) := ⟨(OR9.keep b10).cell 0, (OR9.keep b10).cell 1, (OR9.keep b10).cell 2, (OV9.keep b10).cell 0, (OV9.keep b10).cell 1, (OV9.keep b10).cell 2⟩))
              go_wp2
              go_meet
              exact ⟨pl.1, pl.2, nw, S, c1, rfl, ⟨⟨P8, Q9, S9.out.keep b10, R9.out.keep b10, AP9.out⟩, Row9.out.keep b10, HI64.out⟩, by omega, OX9.out.keep b10, Ext.trans b9 b10⟩
      case rest =>
        obtain ⟨p', L', nw', S', c', rfl, hSC, hl', hO, h6⟩ := hcut
        obtain ⟨P', Q', hS, hR, hap⟩ := hSC.sw
        have H1 := Lib.hid (fun w' (b : Ext wc w') => sw_len _ gs gf p' L' P' w' (hS.keep b))
        have H2 := Lib.hid (fun w' (b : Ext wc w') => rw_len _ gw gr p' L' Q' w' (hR.keep b) hS.sp)
        have H3 := Lib.hid (fun w' (b : Ext wc w') => sw_free _ gs gf p' L' P' w' (hS.keep b))
        have H4 := Lib.hid (fun w' (b : Ext wc w') => rw_free _ gw gr p' L' Q' w' (hR.keep b))
        have H5 := Lib.hid (fun w => s_class xs w)
        have H6 := Lib.hid (fun w => r5_class xs w)
        generalize ((p'.fr.length : Int) + (p'.n : Int) - (p'.fs : Int)) = fv at *
        generalize cls xs = cv at *
        generalize totL L' = tv at *
        have tz1 : (((tv : Nat) : Int) != ((tv : Nat) : Int)) = false := by simp
        have tz2 : (fv != fv) = false := by simp
        have tz3 : (cv != cv) = false := by simp
        have x2 := hO.cell 2
        simp only [List.getElem?_cons_zero, List.getElem?_cons_succ] at x2
        have HSC := Lib.hid hSC
        clear hS hR hap hSC hO HC OX h5 x0
        go_wp2
        refine wp_region_dep (S := Ext) (C := Ext (wc)) (by kernel_rfl) (by kernel_rfl) rfl Ext.refl (Ext.drew _) ?_
        repeat (refine dep_det (by rfl) (fun K hK => ?_); go_simp; first
          | ((with_reducible refine hK _ ?_); clear hK K)
          | (rw [if_neg (by decide)]; (with_reducible refine hK _ ?_); clear hK K)
          | (refine ⟨_, fun w1 hw1 => ⟨Ext.refl w1, hw1, rfl⟩, hK _ ?_⟩; clear hK K)
          | (apply Exists.intro; refine ⟨fun w1 hw1 => ?_, hK _ ?_⟩
             first
               | (have c_x2 := cell_keep hw1 x2; go_simp; first | exact ⟨Ext.refl _, hw1, rfl⟩ | exact ⟨Ext.refl _, rfl⟩)
               | (go_at_call 9; ((with_reducible refine (H1.out _ hw1).mono ?_); rintro e w' ⟨rfl, hb'⟩; exact ⟨_, rfl, hb', Ext.trans hw1 hb', rfl⟩))
               | (go_at_call 19; ((with_reducible refine (H2.out _ hw1).mono ?_); rintro e w' ⟨rfl, rfl⟩; exact ⟨_, rfl, Ext.refl _, hw1, rfl⟩))
               | (go_at_call 20; ((with_reducible refine (H3.out _ hw1).mono ?_); rintro e w' ⟨rfl, hb'⟩; exact ⟨_, rfl, hb', Ext.trans hw1 hb', rfl⟩))
               | (go_at_call 21; ((with_reducible refine (H4.out _ hw1).mono ?_); rintro e w' ⟨rfl, hb'⟩; exact ⟨_, rfl, hb', Ext.trans hw1 hb', rfl⟩))
               | (go_at_call 22; ((with_reducible refine (H5.out _).mono ?_); rintro e w' ⟨rfl, rfl⟩; exact ⟨_, rfl, Ext.refl _, hw1, rfl⟩))
               | (go_at_call 23; ((with_reducible refine (H6.out _).mono ?_); rintro e w' ⟨rfl, rfl⟩; exact ⟨_, rfl, Ext.refl _, hw1, rfl⟩))
             clear hK K))
        refine dep_nil ?_
        intro a' w' hC hE
        obtain rfl := atEnd_nil hE
        clear hE
        go_wp2
        go_roundw
        case rel => exact ⟨i + 1, p', L', nw', S', c', rfl, by go_num, by omega, HSC.out.keep hC, hl', Ext.trans h6 hC⟩
        case measure => simp [intOf]; omega
    · obtain rfl : i = m := by omega
      go_wp2_with ((with_reducible go_at_call 10); (with_reducible refine (HAW.out _).mono ?_); rintro e w7 ⟨rfl, b7⟩)
      go_ret
      exact ⟨rfl, Ext.trans h4 b7⟩

end Go.Proofs.Ytkdhinemianndaa
