/-
  PIPES: THE WALK of the statement PipeScript.
-/
import Derived.Test.YtebkknkgkjblnaaPipR
import Derived.Deep.CutRange
import Derived.Deep.CutBlock
import Derived.Deep.RegionHeld3
import Derived.BigQuiet
namespace Go.Proofs.Ytebkknkgkjblnaa
open Go.ChangeShapes Go.WideShapes Go.ChangeAt Go.RowKit Go.Maps
attribute [local go_sem] depUpon Sp.ok

theorem l_num23 (x : Int) (w : World) : Calls Try.prog 23 #[.int .i64 x] w fun e w' => e = .returned (.int .i64 x) ∧ w = w' := by
  go_enter Try.func23, Try.ntmps23
  go_wp2
  go_ret
  exact ⟨rfl, rfl⟩
theorem run_rpipes (gw : Nat) (w : World) : (Instr.build 63 #[(0, .pointer (some ⟨gw, 0, none⟩))]).run Try.prog w = .ok (.agg (.pointer (some ⟨gw, 0, none⟩) :: qvs (fun _ => (none, 0)) T0).toArray) w := by kernel_rfl
theorem QW.no {w : World} {B gq gw gr : Nat} {p : FP} {L : List Pc} {T : PT} {Q : Nat → Prop} (h : QW w B gq gw gr p L T Q) {i : Nat} {t : TypeId} {xs : List Value} (ho : Own w i t xs) (t1 : t ≠ 63) (t2 : t ≠ 5) (t3 : t ≠ 56) (t4 : t ≠ 124) (t5 : t ≠ 102) (t6 : t ≠ 4) (t7 : t ≠ 32) (t8 : t ≠ 3) : ¬ Q i := by
  obtain ⟨A, Q1, h1, h2, rfl⟩ := h
  intro hi
  rcases hi with hi | hi
  · exact h1.no ho t1 t2 hi
  · exact h2.no ho t3 t4 t5 t6 t7 t8 hi
/-- No pipe has more ends than were opened. -/
def EB (k : Nat) (T : PT) : Prop := ∀ j x, T j = some x → x.r ≤ (k : Int) + 1 ∧ x.w ≤ (k : Int) + 1
theorem EB.zero : EB 0 T0 := fun j x h => by cases h
theorem EB.upd {k : Nat} {T : PT} (h : EB k T) {j : Nat} {o : Option PP} (ho : ∀ x, o = some x → x.r ≤ (k : Int) + 2 ∧ x.w ≤ (k : Int) + 2) : EB (k + 1) (upd T j o) := fun i y hy => by
  by_cases e : i = j
  · subst e
    rw [upd_at] at hy
    have := ho y hy
    push_cast
    omega
  · rw [upd_ne _ _ e] at hy
    have := h i y hy
    push_cast
    omega
theorem EB.mono {k : Nat} {T : PT} (h : EB k T) : EB (k + 1) T := fun j x hx => by
  have := h j x hx
  push_cast
  omega
theorem EB.make {k : Nat} {T : PT} (h : EB k T) (p : FP) (L : List Pc) : EB (k + 1) (makeT p L T) := by
  unfold makeT
  split
  · exact h.mono
  · split
    · exact h.mono
    · refine h.upd fun x e => ?_
      injection e with e
      subst e
      simp only
      omega
theorem look_some {T : PT} {id : Int} {x : PP} (h : look T id = some x) : T id.toNat = some x := by
  rcases look_cases T id with e | ⟨j, y, rfl, hj, hx, e⟩
  · rw [e] at h; cases h
  · rw [e] at h
    injection h with h
    subst h
    rw [Int.toNat_natCast]; exact hx
theorem EB.open_ {k : Nat} {T : PT} (h : EB k T) (id : Int) (b : Bool) : EB (k + 1) (opT T id b) := by
  unfold opT
  cases hl : look T id with
  | none => exact h.mono
  | some x =>
    have := h _ _ (look_some hl)
    refine h.upd fun y e => ?_
    injection e with e
    subst e
    cases b <;> simp only [setEnd, endV, if_true, Bool.false_eq_true, if_false] <;> omega
theorem EB.close {k : Nat} {T : PT} (h : EB k T) (id : Int) (b : Bool) : EB (k + 1) (clT T id b) := by
  unfold clT
  cases hl : look T id with
  | none => exact h.mono
  | some x =>
    have := h _ _ (look_some hl)
    show EB (k + 1) (clsT T id.toNat x b)
    unfold clsT
    split
    · exact h.mono
    · split
      · exact h.upd fun y e => by cases e
      · refine h.upd fun y e => ?_
        injection e with e
        subst e
        cases b <;> simp only [cls1, setEnd, endV, if_true, Bool.false_eq_true, if_false] <;> omega
theorem EB.write {k : Nat} {T : PT} (h : EB k T) (id : Int) (bs : List Int) : EB (k + 1) (wrT T id bs) := by
  unfold wrT
  cases hl : look T id with
  | none => exact h.mono
  | some x =>
    have := h _ _ (look_some hl)
    show EB (k + 1) (writeT T id.toNat x bs)
    unfold writeT
    split
    · refine h.upd fun y e => ?_
      injection e with e
      subst e
      simp only
      omega
    · exact h.mono
theorem EB.read {k : Nat} {T : PT} (h : EB k T) (id n : Int) : EB (k + 1) (rdT T id n) := by
  unfold rdT
  cases hl : look T id with
  | none => exact h.mono
  | some x =>
    have := h _ _ (look_some hl)
    refine h.upd fun y e => ?_
    injection e with e
    subst e
    simp only
    omega
/-- Both hold the same pipes; at most so many acts were. -/
structure PC (w : World) (B g gs gf gq gw gr k : Nat) (p : FP) (L : List Pc) (T : PT) (P Q : Nat → Prop) : Prop where
  pw : PW w B g gs gf p L T P
  qw : QW w B gq gw gr p L T Q
  ap : ∀ i, Q i → ¬ P i
  eb : EB k T
section
variable {w w' : World} {B g gs gf gq gw gr k : Nat} {p : FP} {L : List Pc} {T : PT} {P Q : Nat → Prop}
theorem PC.keep (h : PC w B g gs gf gq gw gr k p L T P Q) (hb : Ext w w') : PC w' B g gs gf gq gw gr k p L T P Q := ⟨h.pw.keep hb, h.qw.keep hb, h.ap, h.eb⟩
/-- A block of bytes beside both turns. -/
theorem PC.over (h : PC w B g gs gf gq gw gr k p L T P Q) {S : Option Addr} (hg : w.grownBy w' (blk S)) (h1 : ∀ i, blk S = some i → ¬ P i) (h2 : ∀ i, blk S = some i → ¬ Q i) : PC w' B g gs gf gq gw gr k p L T P Q := by
  have t : Tr w w' (fun i => blk S = some i) (fun i => blk S = some i) := Tr.grown hg fun _ q => .inl q
  exact ⟨h.pw.other t fun i hi q => h1 i q hi, h.qw.other t fun i hi q => h2 i q hi, h.ap, h.eb⟩
theorem PC.okp (h : PC w B g gs gf gq gw gr k p L T P Q) : ∀ j x, j < 4 → T j = some x → x.ok := fun _ _ hj hx => h.pw.okx hj hx
theorem PC.lt (h : PC w B g gs gf gq gw gr k p L T P Q) (hk : k ≤ 100) : ∀ j x, j < 4 → T j = some x → x.r < 65536 ∧ x.w < 65536 := fun j x _ hx => by
  have := h.eb j x hx
  omega
end

theorem read_len {T : PT} (h : ∀ j x, j < 4 → T j = some x → x.ok) (id n : Int) : (rdB T id n).length ≤ 64 := by
  unfold rdB
  rcases look_cases T id with e | ⟨j, x, rfl, hj, hx, e⟩
  · rw [e]; simp
  · rw [e]
    have := (h j x hj hx).dl
    simp only [List.length_take]
    omega
theorem lent_rd {w : World} {gl : Nat} {xb : List Int} (h : Own w gl 5 (lentBytes xb)) : Rd w (some ⟨gl, 0, none⟩) (u8s xb) := h.rd0.pre
theorem lent_row {w : World} {B gl n : Nat} {xb : List Int} (h : Own w gl 5 (lentBytes xb)) (hB : B ≤ gl) (hn : n ≤ 200) (hl : xb.length = n) : Row w B 5 1 (some ⟨gl, 0, none⟩) n (n + 3) (u8s xb) :=
  ⟨by rw [u8s_len, hl]; omega, .inr ⟨gl, n + 3, (lentBytes xb).toArray, rfl, hB, h, by omega, by unfold maxLen; omega, by simp [lentBytes, u8s, hl], by simp [lentBytes, u8s, ← hl]⟩⟩

set_option maxRecDepth 100000 in
set_option maxHeartbeats 16000000 in
theorem law_pipescript (A : Option Addr) (m c : Nat) (X : Nat → A23) (w : World) (ga : Acts23 w A m X) :
    Calls Try.prog 7 #[.slice A m c] w fun e w' => e = .returned (.bool true) ∧ Below w.heap.size w w' := by
  have HAW := Lib.hid (fun w => pip_awake w)
  by_cases hg : Great m X
  · have HG := Lib.hid (l_great A m c X w ga true (by simp [hg]))
    clear ga hg
    go_enter Try.func7, Try.ntmps7
    go_wp2_with (first
      | ((with_reducible go_at_call 8); (with_reducible refine (HG.out).mono ?_); rintro e w' ⟨rfl, rfl⟩)
      | ((with_reducible go_at_call 9); (with_reducible refine (HAW.out _).mono ?_); rintro e w1 ⟨rfl, b1⟩))
    go_ret
    exact ⟨rfl, b1⟩
  have HG := Lib.hid (l_great A m c X w ga false (by simp [hg]))
  obtain ⟨m1, hx200⟩ := Great.not hg
  have HX200 := Lib.hid hx200
  have HZ := Lib.hid ga
  have hn := fun w => l_made 3 w (by omega) (by omega)
  rw [show ((3 : Nat) : Int) = 3 from rfl] at hn
  have HN := Lib.hid hn
  have hn2 := fun w => r4_new 3 w (by omega) (by omega)
  rw [show ((3 : Nat) : Int) = 3 from rfl] at hn2
  have HN2 := Lib.hid hn2
  have HRB := Lib.hid (fun gr w => run_rslab gr w)
  have HRP := Lib.hid (fun gw w => run_rpipes gw w)
  clear hn hn2 ga hg hx200
  go_enter Try.func7, Try.ntmps7
  go_wp2_with (first
    | ((with_reducible go_at_call 8); (with_reducible refine (HG.out).mono ?_); rintro e w' ⟨rfl, rfl⟩)
    | ((with_reducible go_at_call 10); (with_reducible refine (HN.out _).mono ?_); rintro e w1 ⟨g, gs, gf, rfl, P1, s1, b1⟩; have S1 := Lib.hid s1; clear s1)
    | ((with_reducible go_at_call 21); (with_reducible refine (HN2.out _).mono ?_); rintro e w2 ⟨gr, ga, gB, rfl, f2, b2⟩; have F2 := Lib.hid f2; clear f2)
    | (refine wpl_build1 _ rfl 56 0 _ rfl (.pointer (some ⟨gr, 0, none⟩)) rfl _ (HRB.out _ _) ?_)
    | (refine wpl_box_own _ rfl 56 _ rfl [.pointer (some ⟨gr, 0, none⟩), .slice none 0 0] rfl ?_; intro w3 o3 b3 s3; clear s3)
    | (refine wpl_build1 _ rfl 63 0 _ rfl (.pointer (some ⟨w2.heap.size, 0, none⟩)) rfl _ (HRP.out _ _) ?_)
    | (refine wpl_box_own _ rfl 63 _ rfl (.pointer (some ⟨w2.heap.size, 0, none⟩) :: qvs (fun _ => (none, 0)) T0) rfl ?_; intro w4 o4 b4 s4; clear s4))
  have z1 := b1.size
  have z2 := b2.size
  have z3 := b3.size
  obtain ⟨Q3, RW3, hQ3⟩ := RW.made (B := w.heap.size) F2.out o3 b3 (by omega) (by omega) (by omega)
  have QM4 : QM w4 w.heap.size w3.heap.size w2.heap.size (fun _ => (none, 0)) T0 := ⟨o4, fun j x _ h => (by cases h), by omega⟩
  have QW4 : QW w4 w.heap.size w3.heap.size w2.heap.size gr (p0 3) [] T0 (Un (QB w3.heap.size (fun _ => (none, 0)) T0) Q3) := ⟨_, Q3, QM4, RW3.keep b4, rfl⟩
  have PW4 := S1.out.keep (Ext.trans (Ext.trans b2 b3) b4)
  have hlt1 := S1.out.lt
  have hap : ∀ i, Un (QB w3.heap.size (fun _ => (none, 0)) T0) Q3 i → ¬ P1 i := fun i hq hp => by
    have hp1 := hlt1 i hp
    rcases hq with q | q
    · rcases q with q | ⟨j, x, _, hx, _⟩
      · omega
      · cases hx
    · rcases hQ3 i q with q | q <;> omega
  have b14 : Ext w w4 := Ext.trans (Ext.trans (Ext.trans b1 b2) b3) b4
  have PC0 := Lib.hid (show PC w4 w.heap.size g gs gf w3.heap.size w2.heap.size gr 0 (p0 3) [] T0 P1 (Un (QB w3.heap.size (fun _ => (none, 0)) T0) Q3) from ⟨PW4, QW4, hap, EB.zero⟩)
  clear RW3 QM4 QW4 PW4 hQ3 hlt1 hap o3 o4 S1 F2 HN HN2 HRB HRP HG b1 b2 b3 b4 z1 z2 z3
  generalize w3.heap.size = gq at *
  generalize w2.heap.size = gw at *
  go_loopw [8] (fun q wr => ∃ (i : Nat) (p : FP) (L : List Pc) (T : PT) (P Q : Nat → Prop), q = .int .i64 (i : Int) ∧ i ≤ m ∧ PC wr w.heap.size g gs gf gq gw gr i p L T P Q ∧ Ext w wr) (fun q _ => m - (intOf q).toNat)
  case atStart => exact ⟨0, p0 3, [], T0, P1, _, rfl, by omega, PC0.out, b14⟩
  case round =>
    clear PC0 b14
    obtain ⟨i, p, L, T, P, Q, rfl, hi, hC0, h4⟩ := hrel
    by_cases hlt : i < m
    · have i0' : (0 : Int) ≤ (i : Int) := by omega
      have i1' : (i : Int) < (m : Int) := by omega
      have hxm := HX200.out i hlt
      obtain ⟨hx, b, off, rfl, hc⟩ := HZ.out.at_ i hlt
      generalize X i = x at *
      obtain ⟨xd, xi, xn, xw, xA, xm, xc, xb⟩ := x
      have HXN := Lib.hid hx.n64
      have hbl := hx.b.len
      have HRX := Lib.hid hx.b.rd
      simp only at hxm hbl HRX HXN
      have e0 := cell_keep h4 (hc 0 _ rfl)
      have e1 := cell_keep h4 (hc 1 _ rfl)
      have e2 := cell_keep h4 (hc 2 _ rfl)
      have e3 := cell_keep h4 (hc 3 _ rfl)
      have e4 := cell_keep h4 (hc 4 _ rfl)
      simp only [Nat.add_zero, ← Nat.add_assoc] at e0 e1 e2 e3 e4
      have bX := Ext.alloc wr (.cells #[.int .i64 xd, .int .i64 xi, .int .i64 xn, .bool xw, .slice xA xm xc] 34)
      have oX := Own.new wr 34 [.int .i64 xd, .int .i64 xi, .int .i64 xn, .bool xw, .slice xA xm xc]
      go_upto_block 2 with fail
      have HC := Lib.hid (hC0.keep bX)
      have OX := Lib.hid oX
      have h5 := Ext.trans h4 bX
      clear e0 e1 e2 e3 e4 hC0 h4 bX oX hc hx
      generalize (wr.alloc (.cells #[.int .i64 xd, .int .i64 xi, .int .i64 xn, .bool xw, .slice xA xm xc] 34)) = w3 at *
      generalize wr.heap.size = hx at *
      go_cut [10, 11, 12, 13, 14, 15, 16, 17, 18, 19] from 55 to 165 (fun s10 _ _ _ _ _ _ _ _ _ wx => ∃ (p' : FP) (L' : List Pc) (T' : PT) (P' Q' : Nat → Prop), s10 = .bool true ∧ PC wx w.heap.size g gs gf gq gw gr (i + 1) p' L' T' P' Q' ∧ Own wx hx 34 [.int .i64 xd, .int .i64 xi, .int .i64 xn, .bool xw, .slice xA xm xc] ∧ Ext w wx)
      case first =>
        have x0 := OX.out.cell 0
        have x1 := OX.out.cell 1
        have x2 := OX.out.cell 2
        have x3 := OX.out.cell 3
        have x4 := OX.out.cell 4
        simp only [List.getElem?_cons_zero, List.getElem?_cons_succ] at x0 x1 x2 x3 x4
        have z5 := h5.size
        have HS := Lib.hid HC.out.pw
        have HQ := Lib.hid HC.out.qw
        have HAP := Lib.hid HC.out.ap
        have HEB := Lib.hid HC.out.eb
        have HOK := Lib.hid HC.out.okp
        have HLT := Lib.hid (HC.out.lt (by omega))
        have HSP := Lib.hid HC.out.pw.okp.2
        by_cases hd0 : xd = 0
        · subst hd0
          have t0 : ((0 : Int) == 0) = true := by simp
          have S3 := Lib.hid HS.out
          have R3 := Lib.hid HQ.out
          have AP3 := Lib.hid HAP.out
          have OX3 := Lib.hid OX.out
          have H1 := Lib.hid (pw_make _ g gs gf p L T P w3 HS.out z5)
          have H2 := Lib.hid (fun w' (h : QW w' w.heap.size gq gw gr p L T Q) (hB : w.heap.size ≤ w'.heap.size) => qw_make _ gq gw gr p L T Q w' h HSP.out hB)
          have HEB1 := Lib.hid (HEB.out.make p L)
          generalize makeV p L T = mv at *
          generalize makeL p L T = ml at *
          generalize makeT p L T = mt at *
          obtain ⟨v1, v2⟩ := mv
          simp only at H1 H2
          have tz1 : (v1 == v1) = true := by simp
          have tz2 : (v2 == v2) = true := by simp
          go_wp2_with (first
            | ((with_reducible go_at_call 11); (with_reducible refine (H1.out).mono ?_); rintro e w4 ⟨rfl, P4, s4, t4⟩; have z4 : w.heap.size ≤ w4.heap.size := (t4.belowOf h5 S3.out.ge).size; have b4 : Ext w w4 := t4.belowOf h5 S3.out.ge; have S4 := Lib.hid s4; have R4 := Lib.hid (R3.out.other t4 AP3.out); have AP4 := Lib.hid (t4.apart AP3.out R3.out.lt); have OX4 := Lib.hid (t4.own OX3.out (S3.out.no OX3.out (by decide) (by decide) (by decide) (by decide) (by decide) (by decide) (by decide) (by decide))); clear s4)
            | ((with_reducible go_at_call 22); (with_reducible refine (H2.out _ R4.out z4).mono ?_); rintro e w5 ⟨rfl, Q5, r5, t5⟩; have z5 : w.heap.size ≤ w5.heap.size := (t5.belowOf b4 R4.out.ge).size; have b5 : Ext w w5 := t5.belowOf b4 R4.out.ge; have R5 := Lib.hid r5; have S5 := Lib.hid (S4.out.other t5 (fun j hj q => AP4.out j q hj)); have AP5 := Lib.hid (fun j hj q => (t5.apart (fun k hk q => AP4.out k q hk) S4.out.lt) j q hj); have OX5 := Lib.hid (t5.own OX4.out (R4.out.no OX4.out (by decide) (by decide) (by decide) (by decide) (by decide) (by decide) (by decide) (by decide))); clear r5)
            | ((with_reducible go_at_call 23); (with_reducible refine (l_num23 _ _).mono ?_); rintro e wq ⟨rfl, rfl⟩))
          go_meet
          exact ⟨ml.1, ml.2, mt, P4, Q5, rfl, ⟨S5.out, R5.out, AP5.out, HEB1.out⟩, OX5.out, b5⟩
        have t0 : (xd == 0) = false := by simp [hd0]
        by_cases hd1 : xd = 1
        · subst hd1
          have t1 : ((1 : Int) == 1) = true := by simp
          · have S3 := Lib.hid (HS.out.keep (Ext.drew w3))
            have R3 := Lib.hid (HQ.out.keep (Ext.drew w3))
            have AP3 := Lib.hid HAP.out
            have OX3 := Lib.hid (OX.out.keep (Ext.drew w3))
            have h5d := Ext.trans h5 (Ext.drew w3)
            have H1 := Lib.hid (pw_open _ g gs gf p L T P xi w3.drew S3.out xw HLT.out)
            have H2 := Lib.hid (fun w' (h : QW w' w.heap.size gq gw gr p L T Q) (hB : w.heap.size ≤ w'.heap.size) => qw_open _ gq gw gr p L T Q xi w' h xw (fun j x hj hx => ⟨HOK.out j x hj hx, HLT.out j x hj hx⟩))
            have HEB1 := Lib.hid (HEB.out.open_ xi xw)
            generalize opE T xi = v1 at *
            have hnop : True := trivial
            generalize opT T xi xw = mt at *
            have tz1 : (v1 == v1) = true := by simp
            go_upto_region 19 with fail
            go_region_held3 (fun w' => w'.cell? ⟨hx, 1, none⟩ = some (.int .i64 xi) ∧ w'.cell? ⟨hx, 3, none⟩ = some (.bool xw)) (first | exact ⟨x1, x3⟩ | exact ⟨k1, k2⟩ | exact ⟨k3, k4⟩)
              (first
                | ((with_reducible go_at_call 20); (with_reducible refine (H1.out).mono ?_); rintro e w4 ⟨rfl, P4, s4, t4⟩; have z4 : w.heap.size ≤ w4.heap.size := (t4.belowOf h5d S3.out.ge).size; have b4 : Ext w w4 := t4.belowOf h5d S3.out.ge; have S4 := Lib.hid s4; have R4 := Lib.hid (R3.out.other t4 AP3.out); have AP4 := Lib.hid (t4.apart AP3.out R3.out.lt); have OX4 := Lib.hid (t4.own OX3.out (S3.out.no OX3.out (by decide) (by decide) (by decide) (by decide) (by decide) (by decide) (by decide) (by decide))); clear s4; have k1 : w4.cell? ⟨hx, 1, none⟩ = some (.int .i64 xi) := OX4.out.cell 1; have k2 : w4.cell? ⟨hx, 3, none⟩ = some (.bool xw) := OX4.out.cell 3)
                | ((with_reducible go_at_call 24); (with_reducible refine (H2.out _ R4.out z4).mono ?_); rintro e w5 ⟨rfl, Q5, r5, t5⟩; have z5 : w.heap.size ≤ w5.heap.size := (t5.belowOf b4 R4.out.ge).size; have b5 : Ext w w5 := t5.belowOf b4 R4.out.ge; have R5 := Lib.hid r5; have S5 := Lib.hid (S4.out.other t5 (fun j hj q => AP4.out j q hj)); have AP5 := Lib.hid (fun j hj q => (t5.apart (fun k hk q => AP4.out k q hk) S4.out.lt) j q hj); have OX5 := Lib.hid (t5.own OX4.out (R4.out.no OX4.out (by decide) (by decide) (by decide) (by decide) (by decide) (by decide) (by decide) (by decide))); clear r5; have k3 : w5.cell? ⟨hx, 1, none⟩ = some (.int .i64 xi) := OX5.out.cell 1; have k4 : w5.cell? ⟨hx, 3, none⟩ = some (.bool xw) := OX5.out.cell 3)
                | ((with_reducible go_at_call 23); (with_reducible refine (l_num23 _ _).mono ?_); rintro e wq ⟨rfl, rfl⟩))
            go_wp2
            go_meet
            exact ⟨p, L, mt, P4, Q5, rfl, ⟨S5.out, R5.out, AP5.out, HEB1.out⟩, OX5.out, b5⟩
        have t1 : (xd == 1) = false := by simp [hd1]
        by_cases hd2 : xd = 2
        · subst hd2
          have t2 : ((2 : Int) == 2) = true := by simp
          · have S3 := Lib.hid (HS.out.keep (Ext.drew w3))
            have R3 := Lib.hid (HQ.out.keep (Ext.drew w3))
            have AP3 := Lib.hid HAP.out
            have OX3 := Lib.hid (OX.out.keep (Ext.drew w3))
            have h5d := Ext.trans h5 (Ext.drew w3)
            have H1 := Lib.hid (pw_closeI _ g gs gf p L T P xi w3.drew S3.out xw (by simpa using z5))
            have H2 := Lib.hid (fun w' (h : QW w' w.heap.size gq gw gr p L T Q) (hB : w.heap.size ≤ w'.heap.size) => qw_close _ gq gw gr p L T Q xi xw w' h HSP.out HOK.out hB)
            have HEB1 := Lib.hid (HEB.out.close xi xw)
            generalize clE T xi xw = v1 at *
            generalize clL p L T xi xw = ml at *
            generalize clT T xi xw = mt at *
            have tz1 : (v1 == v1) = true := by simp
            go_upto_region 21 with fail
            go_region_held3 (fun w' => w'.cell? ⟨hx, 1, none⟩ = some (.int .i64 xi) ∧ w'.cell? ⟨hx, 3, none⟩ = some (.bool xw)) (first | exact ⟨x1, x3⟩ | exact ⟨k1, k2⟩ | exact ⟨k3, k4⟩)
              (first
                | ((with_reducible go_at_call 17); (with_reducible refine (H1.out).mono ?_); rintro e w4 ⟨rfl, P4, s4, t4⟩; have z4 : w.heap.size ≤ w4.heap.size := (t4.belowOf h5d S3.out.ge).size; have b4 : Ext w w4 := t4.belowOf h5d S3.out.ge; have S4 := Lib.hid s4; have R4 := Lib.hid (R3.out.other t4 AP3.out); have AP4 := Lib.hid (t4.apart AP3.out R3.out.lt); have OX4 := Lib.hid (t4.own OX3.out (S3.out.no OX3.out (by decide) (by decide) (by decide) (by decide) (by decide) (by decide) (by decide) (by decide))); clear s4; have k1 : w4.cell? ⟨hx, 1, none⟩ = some (.int .i64 xi) := OX4.out.cell 1; have k2 : w4.cell? ⟨hx, 3, none⟩ = some (.bool xw) := OX4.out.cell 3)
                | ((with_reducible go_at_call 25); (with_reducible refine (H2.out _ R4.out z4).mono ?_); rintro e w5 ⟨rfl, Q5, r5, t5⟩; have z5 : w.heap.size ≤ w5.heap.size := (t5.belowOf b4 R4.out.ge).size; have b5 : Ext w w5 := t5.belowOf b4 R4.out.ge; have R5 := Lib.hid r5; have S5 := Lib.hid (S4.out.other t5 (fun j hj q => AP4.out j q hj)); have AP5 := Lib.hid (fun j hj q => (t5.apart (fun k hk q => AP4.out k q hk) S4.out.lt) j q hj); have OX5 := Lib.hid (t5.own OX4.out (R4.out.no OX4.out (by decide) (by decide) (by decide) (by decide) (by decide) (by decide) (by decide) (by decide))); clear r5; have k3 : w5.cell? ⟨hx, 1, none⟩ = some (.int .i64 xi) := OX5.out.cell 1; have k4 : w5.cell? ⟨hx, 3, none⟩ = some (.bool xw) := OX5.out.cell 3)
                | ((with_reducible go_at_call 23); (with_reducible refine (l_num23 _ _).mono ?_); rintro e wq ⟨rfl, rfl⟩))
            go_wp2
            go_meet
            exact ⟨ml.1, ml.2, mt, P4, Q5, rfl, ⟨S5.out, R5.out, AP5.out, HEB1.out⟩, OX5.out, b5⟩
        have t2 : (xd == 2) = false := by simp [hd2]
        by_cases hd3 : xd = 3
        · subst hd3
          have t3 : ((3 : Int) == 3) = true := by simp
          · · have S3 := Lib.hid HS.out
              have R3 := Lib.hid HQ.out
              have AP3 := Lib.hid HAP.out
              have OX3 := Lib.hid OX.out
              have H1 := Lib.hid (pw_read _ g gs gf p L T P xi w3 HS.out xn HXN.out z5)
              have H2 := Lib.hid (fun w' (h : QW w' w.heap.size gq gw gr p L T Q) (hB : w.heap.size ≤ w'.heap.size) => qw_read _ gq gw gr p L T Q xi w' h xn HOK.out hB)
              have HEB1 := Lib.hid (HEB.out.read xi xn)
              have hrl := read_len HOK.out xi xn
              generalize rdE T xi xn = v1 at *
              generalize rdT T xi xn = mt at *
              generalize rdB T xi xn = bs at *
              have tz1 : (v1 == v1) = true := by simp
              have HSM := Lib.hid (fun A1 A2 c1 c2 w' h1 h2 => same_bytes A1 A2 bs.length bs.length c1 c2 bs bs w' (by omega) (by omega) h1 h2 rfl rfl)
              simp only [decide_true] at HSM
              go_wp2_with (first
                | ((with_reducible go_at_call 13); (with_reducible refine (H1.out).mono ?_); rintro e w4 ⟨A4, c4, rfl, ra4, P4, s4, t4, n4⟩; have hz34 := t4.base.size; have N4 := Lib.hid (fun i (q : blk A4 = some i) (h : P4 i) => n4 i h q); have NQ4 := Lib.hid (show ∀ i, blk A4 = some i → ¬ Q i from fun i q h => by have h1 := (ra4.at_ i q).1; have h2 := HQ.out.lt i h; omega); have RA4 := Lib.hid (ra4.mono z5); have z4 : w.heap.size ≤ w4.heap.size := (t4.belowOf h5 S3.out.ge).size; have b4 : Ext w w4 := t4.belowOf h5 S3.out.ge; have S4 := Lib.hid s4; have R4 := Lib.hid (R3.out.other t4 AP3.out); have AP4 := Lib.hid (t4.apart AP3.out R3.out.lt); have OX4 := Lib.hid (t4.own OX3.out (S3.out.no OX3.out (by decide) (by decide) (by decide) (by decide) (by decide) (by decide) (by decide) (by decide))); clear s4; clear n4 ra4; have k1 : w4.cell? ⟨hx, 1, none⟩ = some (.int .i64 xi) := OX4.out.cell 1; have k2 : w4.cell? ⟨hx, 2, none⟩ = some (.int .i64 xn) := OX4.out.cell 2)
                | ((with_reducible go_at_call 26); (with_reducible refine (H2.out _ R4.out z4).mono ?_); rintro e w5 ⟨A5, c5, rfl, rb5, Q5, r5, t5⟩; have RA5 := Lib.hid (t5.row RA4.out NQ4.out); have NQ5 := Lib.hid (t5.apart (Q := fun i => blk A4 = some i) NQ4.out (blkQ RA4.out)); have RB5 := Lib.hid rb5; have z5 : w.heap.size ≤ w5.heap.size := (t5.belowOf b4 R4.out.ge).size; have b5 : Ext w w5 := t5.belowOf b4 R4.out.ge; have R5 := Lib.hid r5; have S5 := Lib.hid (S4.out.other t5 (fun j hj q => AP4.out j q hj)); have AP5 := Lib.hid (fun j hj q => (t5.apart (fun k hk q => AP4.out k q hk) S4.out.lt) j q hj); have OX5 := Lib.hid (t5.own OX4.out (R4.out.no OX4.out (by decide) (by decide) (by decide) (by decide) (by decide) (by decide) (by decide) (by decide))); clear r5; clear rb5)
                | ((with_reducible go_at_call 15); (with_reducible refine (HSM.out _ _ _ _ _ RA5.out.rd RB5.out.rd).mono ?_); rintro e w6 ⟨rfl, q6, rfl⟩; have PC6 := Lib.hid (show PC (w5.drewN q6) w.heap.size g gs gf gq gw gr (i + 1) p L mt P4 Q5 from ⟨S5.out.keep (Ext.drewN w5 q6), R5.out.keep (Ext.drewN w5 q6), AP5.out, HEB1.out⟩); have RA6 := Lib.hid (RA5.out.keep (Ext.drewN w5 q6)); have b6 := Ext.trans b5 (Ext.drewN w5 q6); have OX6 := Lib.hid (OX5.out.keep (Ext.drewN w5 q6)); have HOV := Lib.hid (over_bytes _ _ _ _ _ _ RA6.out b6.size (by omega)))
                | ((with_reducible go_at_call 23); (with_reducible refine (l_num23 _ _).mono ?_); rintro e wq ⟨rfl, rfl⟩)
                | ((with_reducible go_at_call 27); (with_reducible refine (HOV.out).mono ?_); rintro e w7 ⟨rfl, g7⟩; have PO := Lib.hid (PC6.out.over g7 N4.out NQ5.out); have b7 : Ext w w7 := below_grown b6 g7 b6.size (fun gg hg => (RA6.out.at_ gg hg).1); have OX7 := Lib.hid (OX6.out.grown g7 (fun q => row_ne RA6.out OX6.out (by decide) _ q.symm rfl))))
              go_meet
              exact ⟨p, L, mt, P4, Q5, rfl, PO.out, OX7.out, b7⟩
        have t3 : (xd == 3) = false := by simp [hd3]
        by_cases hd4 : xd = 4
        · subst hd4
          have t4 : ((4 : Int) == 4) = true := by simp
          · · · have HLB := Lib.hid (lend_bytes xA xm xc xb w3 (by omega) (HRX.out.keep h5) hbl)
                go_upto_region 29 with ((with_reducible go_at_call 28); (with_reducible refine (HLB.out).mono ?_); rintro e w40 ⟨gl, rfl, o40, gl0, b40⟩; have zz40 := b40.size)
                have S3 := Lib.hid ((HS.out.keep b40).keep (Ext.drew w40))
                have R3 := Lib.hid ((HQ.out.keep b40).keep (Ext.drew w40))
                have AP3 := Lib.hid HAP.out
                have OX3 := Lib.hid ((OX.out.keep b40).keep (Ext.drew w40))
                have OL3 := Lib.hid (o40.keep (Ext.drew w40))
                have h5d := Ext.trans (Ext.trans h5 b40) (Ext.drew w40)
                have NP3 := Lib.hid (fun q => (by have := HS.out.lt gl q; omega) : ¬ P gl)
                have NQ3 := Lib.hid (fun q => (by have := HQ.out.lt gl q; omega) : ¬ Q gl)
                have y1 : w40.drew.cell? ⟨hx, 1, none⟩ = some (.int .i64 xi) := OX3.out.cell 1
                have y4 : w40.drew.cell? ⟨hx, 4, none⟩ = some (.slice xA xm xc) := OX3.out.cell 4
                have HRL := Lib.hid (lent_rd OL3.out)
                have H1 := Lib.hid (pw_write _ g gs gf p L T P xi w40.drew S3.out (some ⟨gl, 0, none⟩) xm (xm + 3) xb HRL.out hbl h5d.size)
                have H2 := Lib.hid (fun w' (h : QW w' w.heap.size gq gw gr p L T Q) (hB : w.heap.size ≤ w'.heap.size) (hE : Ext w w') => qw_write _ gq gw gr p L T Q xi w' h xA xm xc xb HOK.out (HRX.out.keep hE) hbl hB)
                have HEB1 := Lib.hid (HEB.out.write xi xb)
                have HKB := Lib.hid (fun w' (hE : Ext w w') (ho : Own w' gl 5 (lentBytes xb)) => kept_bytes xA gl xm xm xc xb xb w' (by omega) (by omega) ho (HRX.out.keep hE) hbl hbl)
                simp only [decide_true] at HKB
                generalize wrE T xi xm = v1 at *
                generalize wrT T xi xb = mt at *
                have tz1 : (v1 == v1) = true := by simp
                clear x0 x1 x2 x3 x4
                go_region_held3 (fun w' => w'.cell? ⟨hx, 1, none⟩ = some (.int .i64 xi) ∧ w'.cell? ⟨hx, 4, none⟩ = some (.slice xA xm xc)) (first | exact ⟨y1, y4⟩ | exact ⟨k1, k2⟩ | exact ⟨k3, k4⟩ | exact ⟨k5, k6⟩)
                  (first
                    | ((with_reducible go_at_call 12); (with_reducible refine (H1.out).mono ?_); rintro e w4 ⟨rfl, P4, s4, t4⟩; have OL4 := Lib.hid (t4.own OL3.out NP3.out); have NP4 := Lib.hid (fun (q : P4 gl) => t4.apart (Q := fun i => i = gl) (fun i hi => hi ▸ NP3.out) (fun i hi => hi ▸ OL3.out.lt) gl rfl q); have z4 : w.heap.size ≤ w4.heap.size := (t4.belowOf h5d S3.out.ge).size; have b4 : Ext w w4 := t4.belowOf h5d S3.out.ge; have S4 := Lib.hid s4; have R4 := Lib.hid (R3.out.other t4 AP3.out); have AP4 := Lib.hid (t4.apart AP3.out R3.out.lt); have OX4 := Lib.hid (t4.own OX3.out (S3.out.no OX3.out (by decide) (by decide) (by decide) (by decide) (by decide) (by decide) (by decide) (by decide))); clear s4; have k1 : w4.cell? ⟨hx, 1, none⟩ = some (.int .i64 xi) := OX4.out.cell 1; have k2 : w4.cell? ⟨hx, 4, none⟩ = some (.slice xA xm xc) := OX4.out.cell 4)
                    | ((with_reducible go_at_call 29); (with_reducible refine (H2.out _ R4.out z4 b4).mono ?_); rintro e w5 ⟨rfl, Q5, r5, t5⟩; have OL5 := Lib.hid (t5.own OL4.out NQ3.out); have NQ5 := Lib.hid (fun (q : Q5 gl) => t5.apart (Q := fun i => i = gl) (fun i hi => hi ▸ NQ3.out) (fun i hi => hi ▸ OL4.out.lt) gl rfl q); have z5 : w.heap.size ≤ w5.heap.size := (t5.belowOf b4 R4.out.ge).size; have b5 : Ext w w5 := t5.belowOf b4 R4.out.ge; have R5 := Lib.hid r5; have S5 := Lib.hid (S4.out.other t5 (fun j hj q => AP4.out j q hj)); have AP5 := Lib.hid (fun j hj q => (t5.apart (fun k hk q => AP4.out k q hk) S4.out.lt) j q hj); have OX5 := Lib.hid (t5.own OX4.out (R4.out.no OX4.out (by decide) (by decide) (by decide) (by decide) (by decide) (by decide) (by decide) (by decide))); clear r5; have k3 : w5.cell? ⟨hx, 1, none⟩ = some (.int .i64 xi) := OX5.out.cell 1; have k4 : w5.cell? ⟨hx, 4, none⟩ = some (.slice xA xm xc) := OX5.out.cell 4)
                    | ((with_reducible go_at_call 30); (with_reducible refine (HKB.out _ b5 OL5.out).mono ?_); rintro e w6 ⟨rfl, q6, rfl⟩; have k5 : (w5.drewN q6).cell? ⟨hx, 1, none⟩ = some (.int .i64 xi) := OX5.out.cell 1; have k6 : (w5.drewN q6).cell? ⟨hx, 4, none⟩ = some (.slice xA xm xc) := OX5.out.cell 4)
                    | ((with_reducible go_at_call 23); (with_reducible refine (l_num23 _ _).mono ?_); rintro e wq ⟨rfl, rfl⟩))
                have PC6 := Lib.hid (show PC (w5.drewN q6) w.heap.size g gs gf gq gw gr (i + 1) p L mt P4 Q5 from ⟨S5.out.keep (Ext.drewN w5 q6), R5.out.keep (Ext.drewN w5 q6), AP5.out, HEB1.out⟩)
                have b6 := Ext.trans b5 (Ext.drewN w5 q6)
                have ROW6 := Lib.hid ((lent_row OL5.out (show w.heap.size ≤ gl by omega) (show xm ≤ 200 by omega) hbl).keep (Ext.drewN w5 q6))
                have OX6 := Lib.hid (OX5.out.keep (Ext.drewN w5 q6))
                have HOV := Lib.hid (over_bytes _ _ _ _ _ _ ROW6.out b6.size (by omega))
                go_wp2_with ((with_reducible go_at_call 27); (with_reducible refine (HOV.out).mono ?_); rintro e w7 ⟨rfl, g7⟩; have PO := Lib.hid (PC6.out.over g7 (fun j (q : blk (some ⟨gl, 0, none⟩) = some j) => by injection q with q; exact q ▸ NP4.out) (fun j (q : blk (some ⟨gl, 0, none⟩) = some j) => by injection q with q; exact q ▸ NQ5.out)); have b7 : Ext w w7 := below_grown b6 g7 b6.size (fun gg hg => (ROW6.out.at_ gg hg).1); have OX7 := Lib.hid (OX6.out.grown g7 (fun q => row_ne ROW6.out OX6.out (by decide) _ q.symm rfl)))
                go_meet
                exact ⟨p, L, mt, P4, Q5, rfl, PO.out, OX7.out, b7⟩
        have t4 : (xd == 4) = false := by simp [hd4]
        clear hd0 hd1 hd2 hd3 hd4
        go_wp2
        go_meet
        exact ⟨p, L, T, P, Q, rfl, ⟨HS.out, HQ.out, HAP.out, HEB.out.mono⟩, OX.out, h5⟩
      case rest =>
        obtain ⟨p', L', T', P', Q', rfl, hPC, hO, h6⟩ := hcut
        have HS := Lib.hid hPC.pw
        have HQ := Lib.hid hPC.qw
        have HPC := Lib.hid hPC
        have x1 := hO.cell 1
        simp only [List.getElem?_cons_zero, List.getElem?_cons_succ] at x1
        have H1 := Lib.hid (fun w' (b : Ext wc w') => pw_ends _ g gs gf p' L' T' P' xi w' (HS.out.keep b))
        have H2 := Lib.hid (fun w' (b : Ext wc w') => qw_ends _ gq gw gr p' L' T' Q' xi w' (HQ.out.keep b))
        have H3 := Lib.hid (fun w' (b : Ext wc w') => pw_len _ g gs gf p' L' T' P' xi w' (HS.out.keep b))
        have H4 := Lib.hid (fun w' (b : Ext wc w') => qw_len _ gq gw gr p' L' T' Q' xi w' (HQ.out.keep b))
        have H5 := Lib.hid (fun w' (b : Ext wc w') => pw_free _ g gs gf p' L' T' P' w' (HS.out.keep b))
        have H6 := Lib.hid (fun w' (b : Ext wc w') => qw_free _ gq gw gr p' L' T' Q' w' (HQ.out.keep b))
        generalize ((p'.fr.length : Int) + (p'.n : Int) - (p'.fs : Int)) = fv at *
        generalize lnV T' xi = lv at *
        generalize enV T' xi = ev at *
        obtain ⟨ev1, ev2, ev3⟩ := ev
        simp only at H1 H2
        have tz1 : (((lv : Nat) : Int) != ((lv : Nat) : Int)) = false := by simp
        have tz2 : (fv != fv) = false := by simp
        have tz3 : (ev1 != ev1) = false := by simp
        have tz4 : (ev2 != ev2) = false := by simp
        have tz5 : (ev3 != ev3) = false := by simp
        clear hPC hO HC OX h5
        go_upto_region 33 with (first
          | ((with_reducible go_at_call 19); (with_reducible refine (H1.out _ (Ext.refl _)).mono ?_); rintro e w4 ⟨rfl, b4⟩; have y1 := cell_keep b4 x1)
          | ((with_reducible go_at_call 31); (with_reducible refine (H2.out _ b4).mono ?_); rintro e w5 ⟨rfl, b5⟩; have b45 := Ext.trans b4 b5; have u1 := cell_keep b5 y1))
        have H3' := Lib.hid (fun w' (b : Ext w5 w') => H3.out w' (Ext.trans b45 b))
        have H4' := Lib.hid (fun w' (b : Ext w5 w') => H4.out w' (Ext.trans b45 b))
        have H5' := Lib.hid (fun w' (b : Ext w5 w') => H5.out w' (Ext.trans b45 b))
        have H6' := Lib.hid (fun w' (b : Ext w5 w') => H6.out w' (Ext.trans b45 b))
        refine wp_region_dep (S := Ext) (C := Ext (w5)) (by kernel_rfl) (by kernel_rfl) rfl Ext.refl (Ext.drew _) ?_
        repeat (refine dep_det (by rfl) (fun K hK => ?_); go_simp; first
          | ((with_reducible refine hK _ ?_); clear hK K)
          | (rw [if_neg (by decide)]; (with_reducible refine hK _ ?_); clear hK K)
          | (refine ⟨_, fun w1 hw1 => ⟨Ext.refl w1, hw1, rfl⟩, hK _ ?_⟩; clear hK K)
          | (apply Exists.intro; refine ⟨fun w1 hw1 => ?_, hK _ ?_⟩
             first
               | (have c_u1 := cell_keep hw1 u1; go_simp; first | exact ⟨Ext.refl _, hw1, rfl⟩ | exact ⟨Ext.refl _, rfl⟩)
               | (go_at_call 16; ((with_reducible refine (H3'.out _ hw1).mono ?_); rintro e w' ⟨rfl, rfl⟩; exact ⟨_, rfl, Ext.refl _, hw1, rfl⟩))
               | (go_at_call 32; ((with_reducible refine (H4'.out _ hw1).mono ?_); rintro e w' ⟨rfl, rfl⟩; exact ⟨_, rfl, Ext.refl _, hw1, rfl⟩))
               | (go_at_call 18; ((with_reducible refine (H5'.out _ hw1).mono ?_); rintro e w' ⟨rfl, hb'⟩; exact ⟨_, rfl, hb', Ext.trans hw1 hb', rfl⟩))
               | (go_at_call 33; ((with_reducible refine (H6'.out _ hw1).mono ?_); rintro e w' ⟨rfl, hb'⟩; exact ⟨_, rfl, hb', Ext.trans hw1 hb', rfl⟩))
             clear hK K))
        refine dep_nil ?_
        intro a' w' hC hE
        obtain rfl := atEnd_nil hE
        clear hE
        go_wp2
        go_roundw
        case rel => exact ⟨i + 1, p', L', T', P', Q', by go_num, by omega, HPC.out.keep (Ext.trans b45 hC), Ext.trans h6 (Ext.trans b45 hC)⟩
        case measure => simp [intOf]; omega
    · obtain rfl : i = m := by omega
      go_wp2_with ((with_reducible go_at_call 9); (with_reducible refine (HAW.out _).mono ?_); rintro e w7 ⟨rfl, b7⟩)
      go_ret
      exact ⟨rfl, Ext.trans h4 b7⟩

end Go.Proofs.Ytebkknkgkjblnaa
