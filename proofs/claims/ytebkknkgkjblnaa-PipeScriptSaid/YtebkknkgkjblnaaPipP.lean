/-
  PIPES: the reference's slab over its frames in one word; the reference's pipes: is, Ends, Len, Open.
-/
import Derived.Test.YtebkknkgkjblnaaSlbP
import Derived.Test.YtebkknkgkjblnaaPipN
import Derived.Deep.MidRow
namespace Go.Proofs.Ytebkknkgkjblnaa
open Go.ChangeShapes Go.WideShapes Go.ChangeAt Go.RowKit Go.Maps
attribute [local go_sem] depUpon Sp.ok

theorem run_rslab (gr : Nat) (w : World) : (Instr.build 56 #[(0, .pointer (some ⟨gr, 0, none⟩))]).run Try.prog w = .ok (.agg #[.pointer (some ⟨gr, 0, none⟩), .slice none 0 0]) w := by kernel_rfl
/-- The reference's slab in block gs over the frames in gr; its blocks are Q. -/
def RW (w : World) (B gs gr : Nat) (p : FP) (L : List Pc) (Q : Nat → Prop) : Prop := ∃ ga gB A c S d, RS w B gs gr S d L ∧ RF w B gr ga gB A c p ∧ Q = Un (RSB gs S) (RFB gr ga gB A)
section
variable {w w' : World} {B gs gr : Nat} {p : FP} {L : List Pc} {Q : Nat → Prop}
theorem RW.keep (h : RW w B gs gr p L Q) (hb : Ext w w') : RW w' B gs gr p L Q := by
  obtain ⟨ga, gB, A, c, S, d, h1, h2, h3⟩ := h
  exact ⟨ga, gB, A, c, S, d, h1.keep hb, h2.keep hb, h3⟩
theorem RW.other (h : RW w B gs gr p L Q) {P P' : Nat → Prop} (a : Tr w w' P P') (hP : ∀ i, Q i → ¬ P i) : RW w' B gs gr p L Q := by
  obtain ⟨ga, gB, A, c, S, d, h1, h2, rfl⟩ := h
  exact ⟨ga, gB, A, c, S, d, h1.other a fun i hi => hP i (.inl hi), h2.other a fun i hi => hP i (.inr hi), rfl⟩
theorem RW.lt (h : RW w B gs gr p L Q) : ∀ i, Q i → i < w.heap.size := by
  obtain ⟨ga, gB, A, c, S, d, h1, h2, rfl⟩ := h
  intro i hi
  rcases hi with hi | hi
  · exact h1.lt i hi
  · exact h2.lt i hi
theorem RW.ge (h : RW w B gs gr p L Q) : ∀ i, Q i → B ≤ i := by
  obtain ⟨ga, gB, A, c, S, d, h1, h2, rfl⟩ := h
  intro i hi
  rcases hi with hi | hi
  · exact h1.ge i hi
  · exact h2.ge i hi
/-- A block of another kind lies beside it. -/
theorem RW.no (h : RW w B gs gr p L Q) {i : Nat} {t : TypeId} {xs : List Value} (ho : Own w i t xs) (t1 : t ≠ 56) (t2 : t ≠ 124) (t3 : t ≠ 102) (t4 : t ≠ 4) (t5 : t ≠ 32) (t6 : t ≠ 3) : ¬ Q i := by
  obtain ⟨ga, gB, A, c, S, d, h1, h2, rfl⟩ := h
  obtain ⟨xs, _, hx⟩ := h2.byt
  intro hi
  rcases hi with hi | hi
  · rcases hi with rfl | hi
    · exact own_ne ho h1.own t1 rfl
    · exact row_ne h1.row ho (fun e => t2 e.symm) i hi rfl
  · rcases hi with rfl | rfl | rfl | hi
    · exact own_ne ho h2.own t3 rfl
    · exact own_ne ho h2.tak t4 rfl
    · exact own_ne ho hx t5 rfl
    · exact row_ne h2.row ho (fun e => t6 e.symm) i hi rfl
theorem RW.noRef (h : RW w B gs gr p L Q) {b m c : Nat} {A : Option Addr} {xs : List Value} (hr : Row w b 84 3 A m c xs) : ∀ i, blk A = some i → ¬ Q i := by
  intro i hi hP
  rcases hr.2 with ⟨hv, _⟩ | ⟨g', cap, cur, hv, _, hc, _⟩
  · injection hv with e1 e2 e3
    subst e1; cases hi
  · injection hv with e1 e2 e3
    subst e1
    have : g' = i := by simpa [blk] using hi
    subst this
    have ho : Own w g' 84 cur.toList := by unfold Own; rw [hc]
    exact h.no ho (by decide) (by decide) (by decide) (by decide) (by decide) (by decide) hP
theorem RW.n64 (h : RW w B gs gr p L Q) : p.n ≤ 64 := by
  obtain ⟨ga, gB, A, c, S, d, h1, h2, _⟩ := h
  exact h2.ok.n64
end
theorem rw_take (B gs gr : Nat) (p : FP) (L : List Pc) (Q : Nat → Prop) (size : Int) (w : World) (h : RW w B gs gr p L Q) (hp : SP p L) (hB : B ≤ w.heap.size) :
    Calls Try.prog 44 #[.pointer (some ⟨gs, 0, none⟩), .int .i64 size] w fun e w' =>
      e = .returned (.tuple #[.agg #[.int .i64 (takeV p L size).1, .int .i64 (takeV p L size).2.1, .int .i64 (takeV p L size).2.2.1], .int .i64 (takeV p L size).2.2.2]) ∧ ∃ Q', RW w' B gs gr (takeL p L size).1 (takeL p L size).2 Q' ∧ Tr w w' Q Q' := by
  obtain ⟨ga, gB, A, c, S, d, h1, h2, rfl⟩ := h
  exact (r5_take B gs gr ga gB c d A S p L size w h1 h2 hp hB).mono fun e w' ⟨r, A', c', S', d', q1, q2, q3⟩ => ⟨r, _, ⟨ga, gB, A', c', S', d', q1, q2, rfl⟩, q3⟩
theorem rw_give (B gs gr : Nat) (p : FP) (L : List Pc) (Q : Nat → Prop) (f i s : Int) (w : World) (h : RW w B gs gr p L Q) (hp : SP p L) (hB : B ≤ w.heap.size) :
    Calls Try.prog 46 #[.pointer (some ⟨gs, 0, none⟩), .agg #[.int .i64 f, .int .i64 i, .int .i64 s]] w fun e w' =>
      e = .returned (.int .i64 (giveE L f i s)) ∧ ∃ Q', RW w' B gs gr (giveL p L f i s).1 (giveL p L f i s).2 Q' ∧ Tr w w' Q Q' := by
  obtain ⟨ga, gB, A, c, S, d, h1, h2, rfl⟩ := h
  exact (r5_give B gs gr ga gB c d A S p L f i s w h1 h2 hp hB).mono fun e w' ⟨r, A', c', S', d', q1, q2, q3⟩ => ⟨r, _, ⟨ga, gB, A', c', S', d', q1, q2, rfl⟩, q3⟩
theorem rw_free (B gs gr : Nat) (p : FP) (L : List Pc) (Q : Nat → Prop) (w : World) (h : RW w B gs gr p L Q) :
    Calls Try.prog 33 #[.pointer (some ⟨gr, 0, none⟩)] w fun e w' => e = .returned (.int .i64 ((p.fr.length : Int) + (p.n : Int) - (p.fs : Int))) ∧ Ext w w' := by
  obtain ⟨ga, gB, A, c, S, d, h1, h2, _⟩ := h
  exact r4_free B gr ga gB A c p w h2
/-- frames.New, slab.New; the reference's. -/
theorem SW.made2 {w w1 w2 w3 : World} {n gs gm gf gb gt : Nat} (hf : FS w1 w.heap.size gf gb gt none 0 (p0 n)) (hs : SS w3 w2.heap.size gs gm gf (fun _ => (0, 0)) []) (b1 : Ext w w1) (b2 : Ext w1 w2) (b3 : Ext w2 w3) :
    ∃ P, SW w3 w.heap.size gs gf (p0 n) [] P ∧ ∀ i, P i → i < w1.heap.size ∨ (w2.heap.size ≤ i ∧ i < w3.heap.size) :=
  ⟨_, ⟨⟨gm, gb, gt, none, 0, _, hs.lower (Nat.le_trans b1.size b2.size), hf.keep (Ext.trans b2 b3), rfl⟩, fun a ha => absurd ha (by simp), List.Pairwise.nil⟩, fun i hi => by
    rcases hi with hi | hi
    · exact .inr ⟨hs.lo i hi, hs.lt i hi⟩
    · exact .inl (hf.lt i hi)⟩
theorem RW.made {w1 w2 w3 : World} {n gr ga gB gs B : Nat} (hf : RF w2 w1.heap.size gr ga gB none 0 (p0 n)) (ho : Own w3 gs 56 [.pointer (some ⟨gr, 0, none⟩), .slice none 0 0]) (b : Ext w2 w3) (hB : B ≤ w1.heap.size) (hgs : B ≤ gs) (hgs2 : w2.heap.size ≤ gs) :
    ∃ Q, RW w3 B gs gr (p0 n) [] Q ∧ ∀ i, Q i → i = gs ∨ (w1.heap.size ≤ i ∧ i < w2.heap.size) := by
  have h2 := hf.keep b
  obtain ⟨l1, l2, l3⟩ := h2.lo
  refine ⟨_, ⟨ga, gB, none, 0, none, 0, ⟨ho, Row.nil _ _ _ _, hgs⟩, ⟨h2.own, h2.tak, h2.byt, Row.nil _ _ _ _, ⟨by omega, by omega, by omega⟩, h2.ok⟩, rfl⟩, fun i hi => ?_⟩
  rcases hi with hi | hi
  · rcases hi with rfl | hi
    · exact .inl rfl
    · simp [blk] at hi
  · exact .inr ⟨hf.ge i hi, hf.lt i hi⟩

/-- The seven cells of one of the reference's pipes. -/
def qx (x : PP) (a : Option Addr × Nat) : List Value := [.bool true, .slice a.1 x.d.length a.2, .int .i64 x.r, .int .i64 x.w, .int .i64 x.f, .int .i64 x.i, .int .i64 x.z]
def q0 : List Value := [.bool false, .slice none 0 0, .int .i64 0, .int .i64 0, .int .i64 0, .int .i64 0, .int .i64 0]
def qv (A : Nat → Option Addr × Nat) (T : PT) (j : Nat) : List Value := match T j with
  | some x => qx x (A j)
  | none => q0
theorem qv_some {A : Nat → Option Addr × Nat} {T : PT} {j : Nat} {x : PP} (h : T j = some x) : qv A T j = qx x (A j) := by unfold qv; rw [h]
theorem qv_none {A : Nat → Option Addr × Nat} {T : PT} {j : Nat} (h : T j = none) : qv A T j = q0 := by unfold qv; rw [h]
theorem qv_len (A : Nat → Option Addr × Nat) (T : PT) (j : Nat) : (qv A T j).length = 7 := by unfold qv; split <;> rfl
def qvs (A : Nat → Option Addr × Nat) (T : PT) : List Value := qv A T 0 ++ (qv A T 1 ++ (qv A T 2 ++ qv A T 3))
theorem qvs_get (A : Nat → Option Addr × Nat) (T : PT) (v : Value) {j k : Nat} (hj : j < 4) (hk : k < 7) : (v :: qvs A T)[1 + j * 7 + k]? = (qv A T j)[k]? := by
  have h0 := qv_len A T 0
  have h1 := qv_len A T 1
  have h2 := qv_len A T 2
  have h3 := qv_len A T 3
  rw [show 1 + j * 7 + k = (j * 7 + k) + 1 by omega, List.getElem?_cons_succ]
  unfold qvs
  match j, hj with
  | 0, _ => rw [show 0 * 7 + k = k by omega, List.getElem?_append_left (by omega)]
  | 1, _ => rw [List.getElem?_append_right (by omega), List.getElem?_append_left (by omega), h0, show 1 * 7 + k - 7 = k by omega]
  | 2, _ => rw [List.getElem?_append_right (by omega), List.getElem?_append_right (by omega), List.getElem?_append_left (by omega), h0, h1, show 2 * 7 + k - 7 - 7 = k by omega]
  | 3, _ => rw [List.getElem?_append_right (by omega), List.getElem?_append_right (by omega), List.getElem?_append_right (by omega), h0, h1, h2, show 3 * 7 + k - 7 - 7 - 7 = k by omega]
theorem qvs_set {A A' : Nat → Option Addr × Nat} {T T' : PT} (v u : Value) {j k : Nat} (hj : j < 4) (hk : k < 7) (ho : ∀ i, i ≠ j → qv A' T' i = qv A T i) (hs : qv A' T' j = (qv A T j).set k u) : (v :: qvs A T).set (1 + j * 7 + k) u = v :: qvs A' T' := by
  have h0 := qv_len A T 0
  have h1 := qv_len A T 1
  have h2 := qv_len A T 2
  have h3 := qv_len A T 3
  rw [show 1 + j * 7 + k = (j * 7 + k) + 1 by omega, List.set_cons_succ]
  unfold qvs
  match j, hj with
  | 0, _ => rw [hs, ho 1 (by omega), ho 2 (by omega), ho 3 (by omega), show 0 * 7 + k = k by omega, List.set_append_left _ _ (by omega)]
  | 1, _ => rw [hs, ho 0 (by omega), ho 2 (by omega), ho 3 (by omega), List.set_append_right _ _ (by omega), List.set_append_left _ _ (by omega), h0, show 1 * 7 + k - 7 = k by omega]
  | 2, _ => rw [hs, ho 0 (by omega), ho 1 (by omega), ho 3 (by omega), List.set_append_right _ _ (by omega), List.set_append_right _ _ (by omega), List.set_append_left _ _ (by omega), h0, h1, show 2 * 7 + k - 7 - 7 = k by omega]
  | 3, _ => rw [hs, ho 0 (by omega), ho 1 (by omega), ho 2 (by omega), List.set_append_right _ _ (by omega), List.set_append_right _ _ (by omega), List.set_append_right _ _ (by omega), h0, h1, h2, show 3 * 7 + k - 7 - 7 - 7 = k by omega]
theorem qv_upd_ne {A : Nat → Option Addr × Nat} {a : Option Addr × Nat} {T : PT} {j : Nat} {o : Option PP} : ∀ i, i ≠ j → qv (fun k => if k = j then a else A k) (upd T j o) i = qv A T i := fun i hi => by
  unfold qv
  rw [upd_ne _ _ hi]
  simp only [if_neg hi]
theorem qv_upd_at {A : Nat → Option Addr × Nat} {a : Option Addr × Nat} {T : PT} {j : Nat} {x : PP} : qv (fun k => if k = j then a else A k) (upd T j (some x)) j = qx x a := by
  unfold qv
  rw [upd_at]
  simp only [if_pos]
theorem qv_upd_no {A : Nat → Option Addr × Nat} {a : Option Addr × Nat} {T : PT} {j : Nat} : qv (fun k => if k = j then a else A k) (upd T j none) j = q0 := by
  unfold qv
  rw [upd_at]
/-- Memory that bears the reference's pipes (their slab apart). -/
structure QM (w : World) (B gq gw : Nat) (A : Nat → Option Addr × Nat) (T : PT) : Prop where
  own : Own w gq 63 (.pointer (some ⟨gw, 0, none⟩) :: qvs A T)
  row : ∀ j x, j < 4 → T j = some x → Row w B 5 1 (A j).1 x.d.length (A j).2 (u8s x.d)
  lo : B ≤ gq
def QB (gq : Nat) (A : Nat → Option Addr × Nat) (T : PT) (i : Nat) : Prop := i = gq ∨ ∃ j x, j < 4 ∧ T j = some x ∧ blk (A j).1 = some i
section
variable {w w' : World} {B gq gw : Nat} {A : Nat → Option Addr × Nat} {T : PT}
theorem QM.keep (h : QM w B gq gw A T) (hb : Ext w w') : QM w' B gq gw A T := ⟨h.own.keep hb, fun j x hj hx => (h.row j x hj hx).keep hb, h.lo⟩
theorem QM.other (h : QM w B gq gw A T) {P P' : Nat → Prop} (a : Tr w w' P P') (hP : ∀ i, QB gq A T i → ¬ P i) : QM w' B gq gw A T :=
  ⟨a.own h.own (hP _ (.inl rfl)), fun j x hj hx => a.row (h.row j x hj hx) fun i hi => hP i (.inr ⟨j, x, hj, hx, hi⟩), h.lo⟩
theorem QM.lt (h : QM w B gq gw A T) : ∀ i, QB gq A T i → i < w.heap.size := fun i hi => by
  rcases hi with rfl | ⟨j, x, hj, hx, hi⟩
  · exact h.own.lt
  · exact ((h.row j x hj hx).at_ i hi).2
theorem QM.ge (h : QM w B gq gw A T) : ∀ i, QB gq A T i → B ≤ i := fun i hi => by
  rcases hi with rfl | ⟨j, x, hj, hx, hi⟩
  · exact h.lo
  · exact ((h.row j x hj hx).at_ i hi).1
theorem QM.s_ (h : QM w B gq gw A T) : w.cell? ⟨gq, 0, none⟩ = some (.pointer (some ⟨gw, 0, none⟩)) := h.own.cell 0
theorem QM.c_ (h : QM w B gq gw A T) {j k : Nat} (hj : j < 4) (hk : k < 7) : w.cell? ⟨gq, 1 + j * 7 + k, none⟩ = (qv A T j)[k]? := by
  rw [h.own.cell, qvs_get A T _ hj hk]
/-- One pipe's cell turns, none comes and none goes. -/
theorem QM.set (h : QM w B gq gw A T) {j k : Nat} {x x' : PP} {a : Option Addr × Nat} (hj : j < 4) (hk : k < 7) (hx : T j = some x) (u : Value) (hq : qx x' a = (qx x (A j)).set k u) (hr : Row w B 5 1 a.1 x'.d.length a.2 (u8s x'.d)) :
    QM (w.setCell ⟨gq, 1 + j * 7 + k, none⟩ u) B gq gw (fun k => if k = j then a else A k) (upd T j (some x')) ∧
    Tr w (w.setCell ⟨gq, 1 + j * 7 + k, none⟩ u) (fun i => i = gq) (fun i => i = gq) := by
  have hst := setCell_grown w ⟨gq, 1 + j * 7 + k, none⟩ u
  have ht : Tr w (w.setCell ⟨gq, 1 + j * 7 + k, none⟩ u) (fun i => i = gq) (fun i => i = gq) := Tr.set ⟨gq, 1 + j * 7 + k, none⟩ u rfl
  have hrow : ∀ {n c : Nat} {Z : Option Addr} {xs : List Value}, Row w B 5 1 Z n c xs → Row (w.setCell ⟨gq, 1 + j * 7 + k, none⟩ u) B 5 1 Z n c xs := fun hz => hz.grown hst (.inr fun q => row_ne hz h.own (by decide) _ q rfl)
  refine ⟨⟨?_, fun i y hi hy => ?_, h.lo⟩, ht⟩
  · have := h.own.set (1 + j * 7 + k) u
    rwa [qvs_set (A' := fun k => if k = j then a else A k) (T' := upd T j (some x')) _ _ hj hk qv_upd_ne (by rw [qv_upd_at, qv_some hx, hq])] at this
  · by_cases e : i = j
    · subst e
      rw [upd_at] at hy
      injection hy with hy
      subst hy
      simp only [if_pos]
      exact hrow hr
    · rw [upd_ne _ _ e] at hy
      simp only [if_neg e]
      exact hrow (h.row i y hi hy)
theorem QM.self {j : Nat} (h : QM w B gq gw (fun k => if k = j then A j else A k) T) : QM w B gq gw A T := by
  have : (fun k => if k = j then A j else A k) = A := by
    funext k
    by_cases e : k = j
    · subst e; rw [if_pos rfl]
    · rw [if_neg e]
  rwa [this] at h
/-- A block of another kind lies beside it. -/
theorem QM.no (h : QM w B gq gw A T) {i : Nat} {t : TypeId} {xs : List Value} (ho : Own w i t xs) (t1 : t ≠ 63) (t2 : t ≠ 5) : ¬ QB gq A T i := by
  intro hi
  rcases hi with rfl | ⟨j, x, hj, hx, hi⟩
  · exact own_ne ho h.own t1 rfl
  · exact row_ne (h.row j x hj hx) ho (fun e => t2 e.symm) i hi rfl
end
/-- Is there one? -/
def isB (T : PT) (id : Int) : Bool := (look T id).isSome
theorem q_is (B gq gw : Nat) (A : Nat → Option Addr × Nat) (T : PT) (id : Int) (w : World) (h : QM w B gq gw A T) :
    Calls Try.prog 45 #[.pointer (some ⟨gq, 0, none⟩), .int .i64 id] w fun e w' => e = .returned (.bool (isB T id)) ∧ w = w' := by
  by_cases h0 : id < 0
  · have HE := Lib.hid (show isB T id = false by unfold isB look; rw [if_neg (by omega)]; rfl)
    have t0 : decide (0 ≤ id) = false := decide_eq_false (by omega)
    clear h
    go_enter Try.func45, Try.ntmps45
    go_wp2
    go_ret
    exact ⟨by rw [HE.out]; rfl, rfl⟩
  have t0 : decide (0 ≤ id) = true := decide_eq_true (by omega)
  have t00 : 0 ≤ id := by omega
  by_cases h4 : 4 ≤ id
  · have HE := Lib.hid (show isB T id = false by unfold isB look; rw [if_neg (by omega)]; rfl)
    have t1 : decide (id < 4) = false := decide_eq_false (by omega)
    clear h h0
    go_enter Try.func45, Try.ntmps45
    go_wp2
    go_ret
    exact ⟨by rw [HE.out]; rfl, rfl⟩
  obtain ⟨j, rfl⟩ : ∃ j : Nat, id = (j : Int) := ⟨id.toNat, by omega⟩
  have hj : j < 4 := by omega
  have t1 : decide ((j : Int) < 4) = true := decide_eq_true (by omega)
  have t10 : (j : Int) < 4 := by omega
  have HE := Lib.hid (show isB T (j : Int) = (T j).isSome by unfold isB; rw [look_at hj])
  have v1 := h.c_ hj (show 0 < 7 by omega)
  rw [Nat.add_zero] at v1
  clear h0 h4
  cases ht : T j with
  | none =>
    rw [qv_none ht] at v1
    rw [ht] at HE
    simp only [q0, List.getElem?_cons_zero] at v1
    clear h ht
    go_enter Try.func45, Try.ntmps45
    go_wp2
    go_ret
    exact ⟨by rw [HE.out]; rfl, rfl⟩
  | some x =>
    rw [qv_some ht] at v1
    rw [ht] at HE
    simp only [qx, List.getElem?_cons_zero] at v1
    clear h ht
    go_enter Try.func45, Try.ntmps45
    go_wp2
    go_ret
    exact ⟨by rw [HE.out]; rfl, rfl⟩
theorem isB_no {T : PT} {id : Int} (h : look T id = none) : isB T id = false := by unfold isB; rw [h]; rfl
theorem isB_some {T : PT} {id : Int} {x : PP} (h : look T id = some x) : isB T id = true := by unfold isB; rw [h]; rfl
theorem q_ends (B gq gw : Nat) (A : Nat → Option Addr × Nat) (T : PT) (id : Int) (w : World) (h : QM w B gq gw A T) :
    Calls Try.prog 31 #[.pointer (some ⟨gq, 0, none⟩), .int .i64 id] w fun e w' => e = .returned (.tuple #[.int .i64 (enV T id).1, .int .i64 (enV T id).2.1, .bool (enV T id).2.2]) ∧ Ext w w' := by
  have HI := Lib.hid (q_is B gq gw A T id w h)
  rcases look_cases T id with e | ⟨j, x, rfl, hj, hx, e⟩
  · rw [isB_no e] at HI
    rw [show enV T id = (0, 0, false) by unfold enV; rw [e]]
    clear h e
    go_enter Try.func31, Try.ntmps31
    go_wp2_with ((with_reducible go_at_call 45); (with_reducible refine (HI.out).mono ?_); rintro e w' ⟨rfl, rfl⟩)
    go_ret3
    exact ⟨rfl, Ext.refl _⟩
  · rw [isB_some e] at HI
    rw [show enV T (j : Int) = (x.r, x.w, true) by unfold enV; rw [e]]
    have v2 := h.c_ hj (show 2 < 7 by omega)
    have v3 := h.c_ hj (show 3 < 7 by omega)
    rw [qv_some hx] at v2 v3
    simp only [qx, List.getElem?_cons_zero, List.getElem?_cons_succ] at v2 v3
    have j0' : (0 : Int) ≤ (j : Int) := by omega
    have j1' : (j : Int) < 4 := by omega
    clear h e hx
    go_enter Try.func31, Try.ntmps31
    go_wp2_with ((with_reducible go_at_call 45); (with_reducible refine (HI.out).mono ?_); rintro e w' ⟨rfl, rfl⟩)
    refine wp_region_dep (S := Ext) (C := Ext (w)) (by kernel_rfl) (by kernel_rfl) rfl Ext.refl (Ext.drew _) ?_
    repeat (refine dep_det (by rfl) (fun K hK => ?_); go_simp; first
      | ((with_reducible refine hK _ ?_); clear hK K)
      | (rw [if_neg (by decide)]; (with_reducible refine hK _ ?_); clear hK K)
      | (refine ⟨_, fun w1 hw1 => ⟨Ext.refl w1, hw1, rfl⟩, hK _ ?_⟩; clear hK K)
      | (apply Exists.intro; refine ⟨fun w1 hw1 => ?_, hK _ ?_⟩
         first
           | (have c_v2 := cell_keep hw1 v2; have c_v3 := cell_keep hw1 v3; go_simp; first | exact ⟨Ext.refl _, hw1, rfl⟩ | exact ⟨Ext.refl _, rfl⟩)
         clear hK K))
    refine dep_nil ?_
    intro a' w' hC hE
    obtain rfl := atEnd_nil hE
    clear hE
    go_wp2
    go_ret3
    exact ⟨rfl, hC⟩
theorem q_len (B gq gw : Nat) (A : Nat → Option Addr × Nat) (T : PT) (id : Int) (w : World) (h : QM w B gq gw A T) :
    Calls Try.prog 32 #[.pointer (some ⟨gq, 0, none⟩), .int .i64 id] w fun e w' => e = .returned (.int .i64 (lnV T id : Int)) ∧ w = w' := by
  have HI := Lib.hid (q_is B gq gw A T id w h)
  rcases look_cases T id with e | ⟨j, x, rfl, hj, hx, e⟩
  · rw [isB_no e] at HI
    rw [show lnV T id = 0 by unfold lnV; rw [e]]
    clear h e
    go_enter Try.func32, Try.ntmps32
    go_wp2_with ((with_reducible go_at_call 45); (with_reducible refine (HI.out).mono ?_); rintro e w' ⟨rfl, rfl⟩)
    go_ret
    exact ⟨rfl, rfl⟩
  · rw [isB_some e] at HI
    rw [show lnV T (j : Int) = x.d.length by unfold lnV; rw [e]]
    have v1 := h.c_ hj (show 1 < 7 by omega)
    rw [qv_some hx] at v1
    simp only [qx, List.getElem?_cons_zero, List.getElem?_cons_succ] at v1
    have j0' : (0 : Int) ≤ (j : Int) := by omega
    have j1' : (j : Int) < 4 := by omega
    clear h e hx
    go_enter Try.func32, Try.ntmps32
    go_wp2_with ((with_reducible go_at_call 45); (with_reducible refine (HI.out).mono ?_); rintro e w' ⟨rfl, rfl⟩)
    go_ret
    exact ⟨rfl, rfl⟩

end Go.Proofs.Ytebkknkgkjblnaa
