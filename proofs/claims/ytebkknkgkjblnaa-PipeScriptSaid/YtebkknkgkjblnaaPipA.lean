/-
  PIPES: the plain words; what memory bears pipes; New, end, find, slices.Index, Len, Ends.
-/
import Derived.Test.YtebkknkgkjblnaaSlbG
import Derived.Test.YtebkknkgkjblnaaDel
import Derived.Laws.CopyOwn
namespace Go.Proofs.Ytebkknkgkjblnaa
open Go.RowKit Go.Maps
attribute [local go_sem] depUpon Sp.ok

def u8s (d : List Int) : List Value := d.map fun z => .int .u8 z
theorem u8s_len (d : List Int) : (u8s d).length = d.length := by simp [u8s]
theorem u8s_app (a b : List Int) : u8s a ++ u8s b = u8s (a ++ b) := by simp [u8s]
theorem u8s_one (d : List Int) : ∀ u ∈ u8s d, u.oneCell' = true := by
  intro u hu
  obtain ⟨z, _, rfl⟩ := List.mem_map.1 hu
  rfl
theorem u8s_take (d : List Int) (k : Nat) : u8s (d.take k) = (u8s d).take k := by simp [u8s]
theorem u8s_drop (d : List Int) (k : Nat) : u8s (d.drop k) = (u8s d).drop k := by simp [u8s]
theorem u8s_get (d : List Int) {k : Nat} (hk : k < d.length) : (u8s d)[k]? = some (.int .u8 d[k]) := by simp [u8s, hk]
/-- A pipe: its piece, the bytes that wait, its readers, its writers. -/
structure PP where
  f : Int
  i : Int
  z : Int
  d : List Int
  r : Int
  w : Int
structure PP.ok (x : PP) : Prop where
  f64 : I64 x.f
  i64 : I64 x.i
  r0 : 0 ≤ x.r
  r1 : x.r ≤ 65536
  w0 : 0 ≤ x.w
  w1 : x.w ≤ 65536
  dl : x.d.length ≤ 64
abbrev PT := Nat → Option PP
def upd (T : PT) (j : Nat) (o : Option PP) : PT := fun k => if k = j then o else T k
theorem upd_at (T : PT) (j : Nat) (o : Option PP) : upd T j o j = o := by simp [upd]
theorem upd_ne (T : PT) {j k : Nat} (o : Option PP) (h : k ≠ j) : upd T j o k = T k := by simp [upd, h]
def pv (ad : Nat → Nat) (T : PT) (j : Nat) : Value := match T j with
  | some _ => .pointer (some ⟨ad j, 0, none⟩)
  | none => .pointer none
theorem pv_some {ad : Nat → Nat} {T : PT} {j : Nat} {x : PP} (h : T j = some x) : pv ad T j = .pointer (some ⟨ad j, 0, none⟩) := by unfold pv; rw [h]
theorem pv_none {ad : Nat → Nat} {T : PT} {j : Nat} (h : T j = none) : pv ad T j = .pointer none := by unfold pv; rw [h]
def ptrs (ad : Nat → Nat) (T : PT) : List Value := [pv ad T 0, pv ad T 1, pv ad T 2, pv ad T 3]
def pcs (x : PP) (a : Option Addr × Nat) : List Value := [.int .i64 x.f, .int .i64 x.i, .int .i64 x.z, .slice a.1 x.d.length a.2, .int .i64 x.r, .int .i64 x.w]
/-- Memory that bears pipes (their slab apart). -/
structure PM (w : World) (B g gs : Nat) (ad : Nat → Nat) (A : Nat → Option Addr × Nat) (T : PT) : Prop where
  own : Own w g 83 (.pointer (some ⟨gs, 0, none⟩) :: ptrs ad T)
  pip : ∀ j x, j < 4 → T j = some x → Own w (ad j) 89 (pcs x (A j))
  row : ∀ j x, j < 4 → T j = some x → Row w B 5 1 (A j).1 x.d.length (A j).2 (u8s x.d)
  inj : ∀ j k x y, j < 4 → k < 4 → j ≠ k → T j = some x → T k = some y → ad j ≠ ad k ∧ ∀ i, blk (A j).1 = some i → blk (A k).1 ≠ some i
  ok : ∀ j x, j < 4 → T j = some x → x.ok ∧ B ≤ ad j
  lo : B ≤ g
def PB (g : Nat) (ad : Nat → Nat) (A : Nat → Option Addr × Nat) (T : PT) (i : Nat) : Prop := i = g ∨ ∃ j x, j < 4 ∧ T j = some x ∧ (i = ad j ∨ blk (A j).1 = some i)
section
variable {w w' : World} {B g gs : Nat} {ad : Nat → Nat} {A : Nat → Option Addr × Nat} {T : PT}
theorem PM.keep (h : PM w B g gs ad A T) (hb : Ext w w') : PM w' B g gs ad A T := ⟨h.own.keep hb, fun j x hj hx => (h.pip j x hj hx).keep hb, fun j x hj hx => (h.row j x hj hx).keep hb, h.inj, h.ok, h.lo⟩
theorem PM.other (h : PM w B g gs ad A T) {P P' : Nat → Prop} (a : Tr w w' P P') (hP : ∀ i, PB g ad A T i → ¬ P i) : PM w' B g gs ad A T :=
  ⟨a.own h.own (hP _ (.inl rfl)), fun j x hj hx => a.own (h.pip j x hj hx) (hP _ (.inr ⟨j, x, hj, hx, .inl rfl⟩)), fun j x hj hx => a.row (h.row j x hj hx) fun i hi => hP i (.inr ⟨j, x, hj, hx, .inr hi⟩), h.inj, h.ok, h.lo⟩
theorem PM.lt (h : PM w B g gs ad A T) : ∀ i, PB g ad A T i → i < w.heap.size := fun i hi => by
  rcases hi with rfl | ⟨j, x, hj, hx, rfl | hi⟩
  · exact h.own.lt
  · exact (h.pip j x hj hx).lt
  · exact ((h.row j x hj hx).at_ i hi).2
theorem PM.ge (h : PM w B g gs ad A T) : ∀ i, PB g ad A T i → B ≤ i := fun i hi => by
  rcases hi with rfl | ⟨j, x, hj, hx, rfl | hi⟩
  · exact h.lo
  · exact (h.ok j x hj hx).2
  · exact ((h.row j x hj hx).at_ i hi).1
theorem PM.s_ (h : PM w B g gs ad A T) : w.cell? ⟨g, 0, none⟩ = some (.pointer (some ⟨gs, 0, none⟩)) := h.own.cell 0
theorem PM.l_ (h : PM w B g gs ad A T) {j : Nat} (hj : j < 4) : w.cell? ⟨g, 1 + j, none⟩ = some (pv ad T j) := by
  rw [h.own.cell]
  match j, hj with
  | 0, _ => rfl
  | 1, _ => rfl
  | 2, _ => rfl
  | 3, _ => rfl
theorem PM.ng (h : PM w B g gs ad A T) {j : Nat} {x : PP} (hj : j < 4) (hx : T j = some x) : ad j ≠ g := own_ne (h.pip j x hj hx) h.own (by decide)
/-- A block of another kind lies beside it. -/
theorem PM.no (h : PM w B g gs ad A T) {i : Nat} {t : TypeId} {xs : List Value} (ho : Own w i t xs) (t1 : t ≠ 83) (t2 : t ≠ 89) (t3 : t ≠ 5) : ¬ PB g ad A T i := by
  intro hi
  rcases hi with rfl | ⟨j, x, hj, hx, rfl | hi⟩
  · exact own_ne ho h.own t1 rfl
  · exact own_ne ho (h.pip j x hj hx) t2 rfl
  · exact row_ne (h.row j x hj hx) ho (fun e => t3 e.symm) i hi rfl
/-- One pipe turns. -/
theorem PM.set (h : PM w B g gs ad A T) {j : Nat} {x x' : PP} {a : Option Addr × Nat} (hj : j < 4) (hx : T j = some x) (t : Tr w w' (fun i => i = ad j ∨ blk (A j).1 = some i) (fun i => i = ad j ∨ blk a.1 = some i)) (ho : Own w' (ad j) 89 (pcs x' a))
    (hr : Row w' B 5 1 a.1 x'.d.length a.2 (u8s x'.d)) (hok : x'.ok) :
    PM w' B g gs ad (fun k => if k = j then a else A k) (upd T j (some x')) ∧ Tr w w' (PB g ad A T) (PB g ad (fun k => if k = j then a else A k) (upd T j (some x'))) := by
  have hpv : ∀ k, pv ad (upd T j (some x')) k = pv ad T k := fun k => by
    by_cases e : k = j
    · subst e
      rw [pv_some (upd_at ..), pv_some hx]
    · unfold pv
      rw [upd_ne _ _ e]
  have hps : ptrs ad (upd T j (some x')) = ptrs ad T := by simp only [ptrs, hpv]
  have hno : ∀ k y, k < 4 → k ≠ j → T k = some y → ¬ (ad k = ad j ∨ blk (A j).1 = some (ad k)) ∧ ∀ i, blk (A k).1 = some i → ¬ (i = ad j ∨ blk (A j).1 = some i) := fun k y hk hkj hy => by
    obtain ⟨e1, e2⟩ := h.inj k j y x hk hj hkj hy hx
    refine ⟨fun q => ?_, fun i hi q => ?_⟩
    · rcases q with q | q
      · exact e1 q
      · exact row_ne (h.row j x hj hx) (h.pip k y hk hy) (by decide) _ q rfl
    · rcases q with q | q
      · subst q
        exact row_ne (h.row k y hk hy) (h.pip j x hj hx) (by decide) _ hi rfl
      · exact e2 i hi q
  have hfr : ∀ i, blk a.1 = some i → blk (A j).1 = some i ∨ w.heap.size ≤ i := fun i hi => by
    rcases t.fr i (.inr hi) with q | q
    · rcases q with q | q
      · subst q
        exact absurd rfl (row_ne hr ho (by decide) _ hi)
      · exact .inl q
    · exact .inr q
  refine ⟨⟨?_, fun k y hk hy => ?_, fun k y hk hy => ?_, fun k l y z hk hl hkl hy hz => ?_, fun k y hk hy => ?_, h.lo⟩, ?_⟩
  · rw [hps]
    refine t.own h.own fun q => ?_
    rcases q with q | q
    · exact h.ng hj hx q.symm
    · exact row_ne (h.row j x hj hx) h.own (by decide) _ q rfl
  · by_cases e : k = j
    · subst e
      rw [upd_at] at hy
      injection hy with hy
      subst hy
      simp only [if_pos]
      exact ho
    · rw [upd_ne _ _ e] at hy
      simp only [if_neg e]
      exact t.own (h.pip k y hk hy) (hno k y hk e hy).1
  · by_cases e : k = j
    · subst e
      rw [upd_at] at hy
      injection hy with hy
      subst hy
      simp only [if_pos]
      exact hr
    · rw [upd_ne _ _ e] at hy
      simp only [if_neg e]
      exact t.row (h.row k y hk hy) (hno k y hk e hy).2
  · by_cases e : k = j
    · subst e
      have hlk : l ≠ k := fun q => hkl q.symm
      rw [upd_ne _ _ hlk] at hz
      obtain ⟨e1, e2⟩ := h.inj k l x z hk hl hkl hx hz
      refine ⟨e1, fun i hi q => ?_⟩
      simp only [if_pos, if_neg hlk] at hi q
      rcases hfr i hi with r | r
      · exact e2 i r q
      · have := ((h.row l z hl hz).at_ i q).2; omega
    · rw [upd_ne _ _ e] at hy
      by_cases e' : l = j
      · subst e'
        obtain ⟨e1, e2⟩ := h.inj k l y x hk hl hkl hy hx
        refine ⟨e1, fun i hi q => ?_⟩
        simp only [if_pos, if_neg e] at hi q
        rcases hfr i q with r | r
        · exact e2 i hi r
        · have := ((h.row k y hk hy).at_ i hi).2; omega
      · rw [upd_ne _ _ e'] at hz
        obtain ⟨e1, e2⟩ := h.inj k l y z hk hl hkl hy hz
        refine ⟨e1, fun i hi q => ?_⟩
        simp only [if_neg e, if_neg e'] at hi q
        exact e2 i hi q
  · by_cases e : k = j
    · subst e
      rw [upd_at] at hy
      injection hy with hy
      subst hy
      exact ⟨hok, (h.ok k x hk hx).2⟩
    · rw [upd_ne _ _ e] at hy
      exact h.ok k y hk hy
  · refine t.mono (fun i q => ?_) fun i hi => ?_
    · rcases q with q | q
      · exact .inr ⟨j, x, hj, hx, .inl q⟩
      · exact .inr ⟨j, x, hj, hx, .inr q⟩
    · rcases hi with q | ⟨k, y, hk, hy, q⟩
      · exact .inr (.inl (.inl q))
      · by_cases e : k = j
        · subst e
          simp only [if_pos] at q
          rcases q with q | q
          · exact .inl (.inl q)
          · exact .inl (.inr q)
        · rw [upd_ne _ _ e] at hy
          simp only [if_neg e] at q
          exact .inr (.inl (.inr ⟨k, y, hk, hy, q⟩))
end
/-- A pipe by its number. -/
def look (T : PT) (id : Int) : Option PP := if 0 ≤ id ∧ id < 4 then T id.toNat else none
theorem look_cases (T : PT) (id : Int) : look T id = none ∨ ∃ (j : Nat) (x : PP), id = (j : Int) ∧ j < 4 ∧ T j = some x ∧ look T id = some x := by
  cases h : look T id with
  | none => exact .inl rfl
  | some x =>
    right
    unfold look at h
    split at h
    · rename_i q
      exact ⟨id.toNat, x, by omega, by omega, h, rfl⟩
    · cases h
theorem look_at {T : PT} {j : Nat} (hj : j < 4) : look T (j : Int) = T j := by
  unfold look
  rw [if_pos (by omega), Int.toNat_natCast]

theorem run_newP (gs : Nat) (w : World) : (Instr.build 83 #[(0, .pointer (some ⟨gs, 0, none⟩))]).run Try.prog w = .ok (.agg #[.pointer (some ⟨gs, 0, none⟩), .pointer none, .pointer none, .pointer none, .pointer none]) w := by kernel_rfl

section
variable {P : Program} (w : World) {ops : Array Oper} {rest : List Oper} {o : Oper} {a : Act} {Q : Exit → Act → World → Prop}
theorem wpl_build1 (hg : o.guard = none) (t : TypeId) (i : Nat) (x : Operand) (hop : o.op = .build t #[(i, x)]) (u : Value) (hx : a.eval x = u) (v : Value) (hrun : (Instr.build t #[(i, u)]).run P w = .ok v w)
    (h : wpList P ops Q rest (a.put o.dst v) w) : wpList P ops Q (o :: rest) a w := by
  refine wpList_plain hg fun K hK' => ?_
  unfold Oper.wp
  simp only [execOp, hop]
  simp only [List.map_toArray, List.map_cons, List.map_nil, hx]
  simp only [Sem.run_bind, hrun, Result.andThen_ok]
  exact hK' _ _ h
theorem wpl_bin (hg : o.guard = none) (op : BinOp) (t t' : TypeId) (x y : Operand) (hop : o.op = .binOp op t x y t') (v : Value)
    (hrun : (do eqGuard op t x y (a.eval x) (a.eval y); binOp op t (a.eval x) (a.eval y) : Sem Value).run P w = .ok v w)
    (h : wpList P ops Q rest (a.put o.dst v) w) : wpList P ops Q (o :: rest) a w := by
  refine wpList_plain hg fun K hK' => ?_
  unfold Oper.wp
  simp only [execOp, hop]
  rw [Sem.run_bind, hrun]
  exact hK' _ _ h
end
theorem run_nil_ne (g : Nat) (x y : Operand) (w : World) : (do eqGuard .eql 80 x y (.pointer none) (.pointer (some ⟨g, 0, none⟩)); binOp .eql 80 (.pointer none) (.pointer (some ⟨g, 0, none⟩)) : Sem Value).run Try.prog w = .ok (.bool false) w := by kernel_rfl

def T0 : PT := fun _ => none
theorem p_new (gs : Nat) (w : World) : Calls Try.prog 35 #[.pointer (some ⟨gs, 0, none⟩)] w fun e w' => e = .returned (.pointer (some ⟨w.heap.size, 0, none⟩)) ∧ PM w' w.heap.size w.heap.size gs (fun _ => 0) (fun _ => (none, 0)) T0 ∧ Ext w w' := by
  have HN := Lib.hid (run_newP gs)
  go_enter Try.func35, Try.ntmps35
  go_wp2_with (first
    | (refine wpl_build1 _ rfl 83 0 _ rfl (.pointer (some ⟨gs, 0, none⟩)) rfl _ (HN.out _) ?_)
    | (refine wpl_box_own _ rfl _ _ rfl [.pointer (some ⟨gs, 0, none⟩), .pointer none, .pointer none, .pointer none, .pointer none] rfl ?_; intro w1 o1 b1 s1))
  go_ret
  exact ⟨rfl, ⟨o1, fun j x _ h => (by cases h), fun j x _ h => (by cases h), fun j k x y _ _ _ h => (by cases h), fun j x _ h => (by cases h), Nat.le_refl _⟩, b1⟩

def endI (b : Bool) : Nat := if b then 1 else 0
theorem p_end (b : Bool) (w : World) : Calls Try.prog 42 #[.bool b] w fun e w' => e = .returned (.int .i64 (endI b : Int)) ∧ w = w' := by
  cases b
  · go_enter Try.func42, Try.ntmps42
    go_wp2
    go_ret
    exact ⟨rfl, rfl⟩
  · go_enter Try.func42, Try.ntmps42
    go_wp2
    go_ret
    exact ⟨rfl, rfl⟩

theorem p_find_no (B g gs : Nat) (ad : Nat → Nat) (A : Nat → Option Addr × Nat) (T : PT) (id : Int) (w : World) (h : PM w B g gs ad A T) (hl : look T id = none) :
    Calls Try.prog 39 #[.pointer (some ⟨g, 0, none⟩), .int .i64 id] w fun e w' => e = .returned (.tuple #[.pointer none, .int .i64 4]) ∧ w = w' := by
  by_cases h0 : id < 0
  · have t0 : decide (id < 0) = true := by simp [h0]
    clear h hl
    go_enter Try.func39, Try.ntmps39
    go_wp2
    go_ret2
    exact ⟨rfl, rfl⟩
  have t0 : decide (id < 0) = false := by simp [h0]
  have t00 : 0 ≤ id := by omega
  by_cases h4 : 4 ≤ id
  · have t1 : decide (4 ≤ id) = true := by simp [h4]
    clear h hl h0
    go_enter Try.func39, Try.ntmps39
    go_wp2
    go_ret2
    exact ⟨rfl, rfl⟩
  obtain ⟨j, rfl⟩ : ∃ j : Nat, id = (j : Int) := ⟨id.toNat, by omega⟩
  have hj : j < 4 := by omega
  have t1 : decide (4 ≤ (j : Int)) = false := decide_eq_false h4
  have t10 : (j : Int) < 4 := by omega
  rw [look_at hj] at hl
  have v1 := h.l_ hj
  rw [pv_none hl] at v1
  clear h hl h0 h4
  go_enter Try.func39, Try.ntmps39
  go_wp2
  go_ret2
  exact ⟨rfl, rfl⟩
theorem p_find (B g gs : Nat) (ad : Nat → Nat) (A : Nat → Option Addr × Nat) (T : PT) (j : Nat) (x : PP) (w : World) (h : PM w B g gs ad A T) (hj : j < 4) (hl : T j = some x) :
    Calls Try.prog 39 #[.pointer (some ⟨g, 0, none⟩), .int .i64 (j : Int)] w fun e w' => e = .returned (.tuple #[.pointer (some ⟨ad j, 0, none⟩), .int .i64 0]) ∧ w = w' := by
  have t0 : decide ((j : Int) < 0) = false := decide_eq_false (by omega)
  have t00 : (0 : Int) ≤ (j : Int) := by omega
  have t1 : decide (4 ≤ (j : Int)) = false := decide_eq_false (by omega)
  have t10 : (j : Int) < 4 := by omega
  have v1 := h.l_ hj
  rw [pv_some hl] at v1
  clear h hl
  go_enter Try.func39, Try.ntmps39
  go_wp2
  go_ret2
  exact ⟨rfl, rfl⟩

theorem p_len_no (B g gs : Nat) (ad : Nat → Nat) (A : Nat → Option Addr × Nat) (T : PT) (id : Int) (w : World) (h : PM w B g gs ad A T) (hl : look T id = none) :
    Calls Try.prog 16 #[.pointer (some ⟨g, 0, none⟩), .int .i64 id] w fun e w' => e = .returned (.int .i64 0) ∧ w = w' := by
  have HF := Lib.hid (p_find_no B g gs ad A T id w h hl)
  clear h hl
  go_enter Try.func16, Try.ntmps16
  go_wp2_with ((with_reducible go_at_call 39); (with_reducible refine (HF.out).mono ?_); rintro e w' ⟨rfl, rfl⟩)
  go_ret
  exact ⟨rfl, rfl⟩
theorem p_len (B g gs : Nat) (ad : Nat → Nat) (A : Nat → Option Addr × Nat) (T : PT) (j : Nat) (x : PP) (w : World) (h : PM w B g gs ad A T) (hj : j < 4) (hl : T j = some x) :
    Calls Try.prog 16 #[.pointer (some ⟨g, 0, none⟩), .int .i64 (j : Int)] w fun e w' => e = .returned (.int .i64 (x.d.length : Int)) ∧ w = w' := by
  have HF := Lib.hid (p_find B g gs ad A T j x w h hj hl)
  have v3 := (h.pip j x hj hl).cell 3
  simp only [pcs, List.getElem?_cons_zero, List.getElem?_cons_succ] at v3
  clear h hl
  go_enter Try.func16, Try.ntmps16
  go_wp2_with ((with_reducible go_at_call 39); (with_reducible refine (HF.out).mono ?_); rintro e w' ⟨rfl, rfl⟩)
  go_ret
  exact ⟨rfl, rfl⟩
theorem p_ends_no (B g gs : Nat) (ad : Nat → Nat) (A : Nat → Option Addr × Nat) (T : PT) (id : Int) (w : World) (h : PM w B g gs ad A T) (hl : look T id = none) :
    Calls Try.prog 19 #[.pointer (some ⟨g, 0, none⟩), .int .i64 id] w fun e w' => e = .returned (.tuple #[.int .i64 0, .int .i64 0, .bool false]) ∧ w = w' := by
  have HF := Lib.hid (p_find_no B g gs ad A T id w h hl)
  clear h hl
  go_enter Try.func19, Try.ntmps19
  go_wp2_with ((with_reducible go_at_call 39); (with_reducible refine (HF.out).mono ?_); rintro e w' ⟨rfl, rfl⟩)
  go_ret3
  exact ⟨rfl, rfl⟩
theorem p_ends (B g gs : Nat) (ad : Nat → Nat) (A : Nat → Option Addr × Nat) (T : PT) (j : Nat) (x : PP) (w : World) (h : PM w B g gs ad A T) (hj : j < 4) (hl : T j = some x) :
    Calls Try.prog 19 #[.pointer (some ⟨g, 0, none⟩), .int .i64 (j : Int)] w fun e w' => e = .returned (.tuple #[.int .i64 x.r, .int .i64 x.w, .bool true]) ∧ Ext w w' := by
  have HF := Lib.hid (p_find B g gs ad A T j x w h hj hl)
  have v4 := (h.pip j x hj hl).cell 4
  have v5 := (h.pip j x hj hl).cell 5
  simp only [pcs, List.getElem?_cons_zero, List.getElem?_cons_succ] at v4 v5
  clear h hl
  go_enter Try.func19, Try.ntmps19
  go_upto_region 4 with ((with_reducible go_at_call 39); (with_reducible refine (HF.out).mono ?_); rintro e w' ⟨rfl, rfl⟩)
  refine wp_region_dep (S := Ext) (C := Ext (w)) (by kernel_rfl) (by kernel_rfl) rfl Ext.refl (Ext.drew _) ?_
  repeat (refine dep_det (by rfl) (fun K hK => ?_); go_simp; first
    | ((with_reducible refine hK _ ?_); clear hK K)
    | (rw [if_neg (by decide)]; (with_reducible refine hK _ ?_); clear hK K)
    | (refine ⟨_, fun w1 hw1 => ⟨Ext.refl w1, hw1, rfl⟩, hK _ ?_⟩; clear hK K)
    | (apply Exists.intro; refine ⟨fun w1 hw1 => ?_, hK _ ?_⟩
       first
         | (have c_v4 := cell_keep hw1 v4; have c_v5 := cell_keep hw1 v5; go_simp; first | exact ⟨Ext.refl _, hw1, rfl⟩ | exact ⟨Ext.refl _, rfl⟩)
       clear hK K))
  refine dep_nil ?_
  intro a' w' hC hE
  obtain rfl := atEnd_nil hE
  clear hE
  go_wp2
  go_ret3
  exact ⟨rfl, hC⟩

/-- The least number that is none's. -/
def freeI (T : PT) : Int := if T 0 = none then 0 else if T 1 = none then 1 else if T 2 = none then 2 else if T 3 = none then 3 else -1
theorem freeI_some {T : PT} {k : Nat} (hk : k < 4) (h : ∀ j, j < k → ∃ x, T j = some x) (hn : T k = none) : freeI T = (k : Int) := by
  have hx : ∀ j, j < k → T j ≠ none := fun j hj e => by obtain ⟨x, hx⟩ := h j hj; rw [e] at hx; cases hx
  unfold freeI
  match k, hk with
  | 0, _ => rw [if_pos hn]; rfl
  | 1, _ => rw [if_neg (hx 0 (by omega)), if_pos hn]; rfl
  | 2, _ => rw [if_neg (hx 0 (by omega)), if_neg (hx 1 (by omega)), if_pos hn]; rfl
  | 3, _ => rw [if_neg (hx 0 (by omega)), if_neg (hx 1 (by omega)), if_neg (hx 2 (by omega)), if_pos hn]; rfl
theorem freeI_none {T : PT} (h : ∀ j, j < 4 → ∃ x, T j = some x) : freeI T = -1 := by
  have hx : ∀ j, j < 4 → T j ≠ none := fun j hj e => by obtain ⟨x, hx⟩ := h j hj; rw [e] at hx; cases hx
  unfold freeI
  rw [if_neg (hx 0 (by omega)), if_neg (hx 1 (by omega)), if_neg (hx 2 (by omega)), if_neg (hx 3 (by omega))]
theorem freeI_cases (T : PT) : (freeI T = -1 ∧ ∀ j, j < 4 → ∃ x, T j = some x) ∨ ∃ k : Nat, k < 4 ∧ freeI T = (k : Int) ∧ T k = none ∧ ∀ j, j < k → ∃ x, T j = some x := by
  have hs : ∀ j, T j = none ∨ ∃ x, T j = some x := fun j => by cases T j with
    | none => exact .inl rfl
    | some x => exact .inr ⟨x, rfl⟩
  rcases hs 0 with h0 | h0
  · exact .inr ⟨0, by omega, freeI_some (by omega) (fun j hj => by omega) h0, h0, fun j hj => by omega⟩
  rcases hs 1 with h1 | h1
  · have h : ∀ j, j < 1 → ∃ x, T j = some x := fun j hj => by
      obtain rfl : j = 0 := by omega
      exact h0
    exact .inr ⟨1, by omega, freeI_some (by omega) h h1, h1, h⟩
  rcases hs 2 with h2 | h2
  · have h : ∀ j, j < 2 → ∃ x, T j = some x := fun j hj => by
      match j, hj with
      | 0, _ => exact h0
      | 1, _ => exact h1
    exact .inr ⟨2, by omega, freeI_some (by omega) h h2, h2, h⟩
  rcases hs 3 with h3 | h3
  · have h : ∀ j, j < 3 → ∃ x, T j = some x := fun j hj => by
      match j, hj with
      | 0, _ => exact h0
      | 1, _ => exact h1
      | 2, _ => exact h2
    exact .inr ⟨3, by omega, freeI_some (by omega) h h3, h3, h⟩
  have h : ∀ j, j < 4 → ∃ x, T j = some x := fun j hj => by
    match j, hj with
    | 0, _ => exact h0
    | 1, _ => exact h1
    | 2, _ => exact h2
    | 3, _ => exact h3
  exact .inl ⟨freeI_none h, h⟩

set_option maxRecDepth 100000 in
set_option maxHeartbeats 1000000 in
theorem p_index (B g gs : Nat) (ad : Nat → Nat) (A : Nat → Option Addr × Nat) (T : PT) (w : World) (h : PM w B g gs ad A T) :
    Calls Try.prog 37 #[.slice (some ⟨g, 1, none⟩) 4 4, .pointer none] w fun e w' => e = .returned (.int .i64 (freeI T)) ∧ w = w' := by
  have HV := Lib.hid (fun j (hj : j < 4) => h.l_ hj)
  have HY := Lib.hid (fun k hk h1 h2 => @freeI_some T k hk h1 h2)
  have HN := Lib.hid (@freeI_none T)
  generalize freeI T = z at *
  clear h
  go_enter Try.func37, Try.ntmps37
  go_wp2
  go_loop [8] (fun q => ∃ k : Nat, q = .int .i64 (k : Int) ∧ k ≤ 4 ∧ ∀ j, j < k → ∃ x, T j = some x) (fun q => 4 - (intOf q).toNat)
  case atStart => exact ⟨0, rfl, by omega, fun j hj => by omega⟩
  case round =>
    obtain ⟨k, rfl, hk, hno⟩ := hrel
    have k0' : (0 : Int) ≤ (k : Int) := by omega
    by_cases hlt : k < 4
    · have k1' : (k : Int) < 4 := by omega
      have v1 := HV.out k hlt
      cases ht : T k with
      | none =>
        have HE := Lib.hid (HY.out k hlt hno ht)
        rw [pv_none ht] at v1
        clear hno ht
        go_wp2
        go_ret
        exact ⟨by rw [HE.out]; rfl, rfl⟩
      | some x =>
        rw [pv_some ht] at v1
        have HNX := Lib.hid (show ∀ j, j < k + 1 → ∃ x, T j = some x from fun j hj => by
          rcases Nat.lt_succ_iff_lt_or_eq.1 hj with q | rfl
          · exact hno j q
          · exact ⟨x, ht⟩)
        have HB := Lib.hid (fun x y w => run_nil_ne (ad k) x y w)
        clear hno ht
        go_wp2_with (refine wpl_bin _ rfl _ _ _ _ _ rfl _ (HB.out _ _ _) ?_)
        go_round
        case rel => exact ⟨k + 1, by go_num, by omega, HNX.out⟩
        case measure => simp [intOf]; omega
    · obtain rfl : k = 4 := by omega
      have HE := Lib.hid (HN.out hno)
      clear hno
      go_wp2
      go_ret
      exact ⟨by rw [HE.out]; rfl, rfl⟩

end Go.Proofs.Ytebkknkgkjblnaa
