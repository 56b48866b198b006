/-
  LOCKS: the plain words; what memory bears locks; New, Waits, Held, numbers.
-/
import Derived.Test.YtfdpipjkckbgdaaRnkC
import Derived.Test.YtfdpipjkckbgdaaMpB
import Derived.Test.YtfdpipjkckbgdaaTrn
namespace Go.Proofs.Ytfdpipjkckbgdaa
open Go.RowKit Go.Maps
attribute [local go_sem] depUpon Sp.ok

theorem vget_put {L : KV} (h : KS L) (k : Int) (v : Value) (j : Int) : vget (vput L k v) j = if j = k then some v else vget L j := by
  by_cases e : j = k
  · subst e
    rw [if_pos rfl]
    exact vget_of (h.put j v) (x := (j, v)) (vput_mem.2 (.inl rfl))
  · rw [if_neg e]
    cases hg : vget L j with
    | none =>
      rw [vget_none] at hg ⊢
      intro r hr
      rcases vput_mem.1 hr with rfl | ⟨hr, _⟩
      · exact fun q => e q.symm
      · exact hg r hr
    | some u => exact vget_of (h.put k v) (x := (j, u)) (vput_mem.2 (.inr ⟨vget_some hg, e⟩))
theorem vget_del {L : KV} (h : KS L) (k j : Int) : vget (vdel L k) j = if j = k then none else vget L j := by
  by_cases e : j = k
  · subst e
    rw [if_pos rfl, vget_none]
    exact fun r hr => (vdel_mem.1 hr).2
  · rw [if_neg e]
    cases hg : vget L j with
    | none =>
      rw [vget_none] at hg ⊢
      exact fun r hr => hg r (vdel_mem.1 hr).1
    | some u => exact vget_of (h.del k) (x := (j, u)) (vdel_mem.2 ⟨vget_some hg, e⟩)
theorem kdel_len (L : KV) (k : Int) : (vdel L k).length ≤ L.length := List.length_filter_le ..
theorem kput_len (L : KV) (k : Int) (v : Value) : (vput L k v).length ≤ L.length + 1 := by
  have key : ∀ (x : Int × Value) (M : KV), (vins x M).length = M.length + 1 := by
    intro x M
    induction M with
    | nil => rfl
    | cons y r ih =>
      unfold vins
      split
      · simp
      · simp [ih]
  unfold vput
  rw [key]
  have := kdel_len L k
  omega

/-- One entry turns. -/
def fset {α : Type} (F : Int → Option α) (t : Int) (o : Option α) : Int → Option α := fun k => if k = t then o else F k
theorem fset_at {α : Type} (F : Int → Option α) (t : Int) (o : Option α) : fset F t o t = o := by simp [fset]
theorem fset_ne {α : Type} (F : Int → Option α) {t k : Int} (o : Option α) (h : k ≠ t) : fset F t o k = F k := by simp [fset, h]
/-- Locks: what is declared; what each holds, in which order, for how many ticks; what each waits for. -/
structure LS where
  ms : List (Int × Int)
  H : Int → Option (List (Int × Int))
  W : Int → Option Int
def LS.hl (s : LS) (t : Int) : List (Int × Int) := (s.H t).getD []
def LS.wl (s : LS) (t : Int) : Int := (s.W t).getD (-1)
def LS.mu (s : LS) (t : Int) : List Int := (s.hl t).map Prod.fst
/-- Where they lie. -/
structure LA where
  g : Nat
  gt : Nat
  gh : Nat
  gw : Nat
  K : Option Addr
  kc : Nat
  ad : Int → Option Addr × Nat
def hval (a : LA) (t : Int) (xs : List (Int × Int)) : Value := .slice (a.ad t).1 xs.length (a.ad t).2
/-- Memory that bears locks. -/
structure LW (w : World) (B : Nat) (a : LA) (s : LS) (N : Nat) : Prop where
  own : Own w a.g 65 [.pointer (some ⟨a.gt, 0, none⟩), .map (some a.gh), .map (some a.gw)]
  tab : Own w a.gt 61 [.slice a.K s.ms.length a.kc]
  tro : Row w B 29 2 a.K s.ms.length a.kc (pairs s.ms)
  tle : s.ms.length ≤ 6
  hm : ∃ L, MS w a.gh L ∧ (∀ t, vget L t = (s.H t).map (hval a t)) ∧ L.length ≤ N
  wm : ∃ L, MS w a.gw L ∧ (∀ t, vget L t = (s.W t).map (.int .i64 ·)) ∧ L.length ≤ N
  row : ∀ t xs, s.H t = some xs → Row w B 46 2 (a.ad t).1 xs.length (a.ad t).2 (pairs xs)
  inj : ∀ t u xs ys, t ≠ u → s.H t = some xs → s.H u = some ys → ∀ i, blk (a.ad t).1 = some i → blk (a.ad u).1 ≠ some i
  len : ∀ t xs, s.H t = some xs → xs.length ≤ N
  ne : a.gh ≠ a.gw
  lo : B ≤ a.g ∧ B ≤ a.gt ∧ B ≤ a.gh ∧ B ≤ a.gw
def LB (a : LA) (s : LS) (i : Nat) : Prop := i = a.g ∨ i = a.gt ∨ blk a.K = some i ∨ i = a.gh ∨ i = a.gw ∨ ∃ t xs, s.H t = some xs ∧ blk (a.ad t).1 = some i
theorem Tr.ms {w w' : World} {P P' : Nat → Prop} (a : Tr w w' P P') {gm : Nat} {L : KV} (h : MS w gm L) (hP : ¬ P gm) : MS w' gm L := h.block (a.block gm h.lt hP)
section
variable {w w' : World} {B : Nat} {a : LA} {s : LS} {N : Nat}
theorem LW.keep (h : LW w B a s N) (hb : Ext w w') : LW w' B a s N := by
  obtain ⟨L, l1, l2, l3⟩ := h.hm
  obtain ⟨M, m1, m2, m3⟩ := h.wm
  exact ⟨h.own.keep hb, h.tab.keep hb, h.tro.keep hb, h.tle, ⟨L, l1.keep hb, l2, l3⟩, ⟨M, m1.keep hb, m2, m3⟩, fun t xs hx => (h.row t xs hx).keep hb, h.inj, h.len, h.ne, h.lo⟩
theorem LW.other (h : LW w B a s N) {P P' : Nat → Prop} (q : Tr w w' P P') (hP : ∀ i, LB a s i → ¬ P i) : LW w' B a s N := by
  obtain ⟨L, l1, l2, l3⟩ := h.hm
  obtain ⟨M, m1, m2, m3⟩ := h.wm
  exact ⟨q.own h.own (hP _ (.inl rfl)), q.own h.tab (hP _ (.inr (.inl rfl))), q.row h.tro (fun i hi => hP i (.inr (.inr (.inl hi)))), h.tle, ⟨L, q.ms l1 (hP _ (.inr (.inr (.inr (.inl rfl))))), l2, l3⟩, ⟨M, q.ms m1 (hP _ (.inr (.inr (.inr (.inr (.inl rfl)))))), m2, m3⟩, fun t xs hx => q.row (h.row t xs hx) (fun i hi => hP i (.inr (.inr (.inr (.inr (.inr ⟨t, xs, hx, hi⟩)))))), h.inj, h.len, h.ne, h.lo⟩
theorem LW.lt (h : LW w B a s N) : ∀ i, LB a s i → i < w.heap.size := fun i hi => by
  obtain ⟨L, l1, _⟩ := h.hm
  obtain ⟨M, m1, _⟩ := h.wm
  rcases hi with rfl | rfl | hi | rfl | rfl | ⟨t, xs, hx, hi⟩
  · exact h.own.lt
  · exact h.tab.lt
  · exact (h.tro.at_ i hi).2
  · exact l1.lt
  · exact m1.lt
  · exact ((h.row t xs hx).at_ i hi).2
theorem LW.ge (h : LW w B a s N) : ∀ i, LB a s i → B ≤ i := fun i hi => by
  rcases hi with rfl | rfl | hi | rfl | rfl | ⟨t, xs, hx, hi⟩
  · exact h.lo.1
  · exact h.lo.2.1
  · exact (h.tro.at_ i hi).1
  · exact h.lo.2.2.1
  · exact h.lo.2.2.2
  · exact ((h.row t xs hx).at_ i hi).1
theorem LW.mono (h : LW w B a s N) {M : Nat} (hM : N ≤ M) : LW w B a s M := by
  obtain ⟨L, l1, l2, l3⟩ := h.hm
  obtain ⟨K, m1, m2, m3⟩ := h.wm
  exact ⟨h.own, h.tab, h.tro, h.tle, ⟨L, l1, l2, by omega⟩, ⟨K, m1, m2, by omega⟩, h.row, h.inj, fun t xs hx => by have := h.len t xs hx; omega, h.ne, h.lo⟩
theorem LW.t_ (h : LW w B a s N) : w.cell? ⟨a.g, 0, none⟩ = some (.pointer (some ⟨a.gt, 0, none⟩)) := h.own.cell 0
theorem LW.h_ (h : LW w B a s N) : w.cell? ⟨a.g, 1, none⟩ = some (.map (some a.gh)) := h.own.cell 1
theorem LW.w_ (h : LW w B a s N) : w.cell? ⟨a.g, 2, none⟩ = some (.map (some a.gw)) := h.own.cell 2
theorem LW.table (h : LW w B a s N) : Tab w (.pointer (some ⟨a.gt, 0, none⟩)) s.ms := .inr ⟨a.gt, a.K, s.ms.length, a.kc, rfl, h.tab.cell 0, h.tro.rd, rfl, h.tle⟩
theorem LW.hlen (h : LW w B a s N) (t : Int) : (s.hl t).length ≤ N := by
  unfold LS.hl
  cases hx : s.H t with
  | none => simp
  | some xs => exact h.len t xs hx
/-- A block of another kind lies beside it. -/
theorem LW.no (h : LW w B a s N) {i : Nat} {t : TypeId} {xs : List Value} (ho : Own w i t xs) (t1 : t ≠ 65) (t2 : t ≠ 61) (t3 : t ≠ 29) (t4 : t ≠ 46) : ¬ LB a s i := fun hi => by
  obtain ⟨L, l1, _⟩ := h.hm
  obtain ⟨M, m1, _⟩ := h.wm
  rcases hi with rfl | rfl | hi | rfl | rfl | ⟨t, xs, hx, hi⟩
  · exact own_ne ho h.own t1 rfl
  · exact own_ne ho h.tab t2 rfl
  · exact row_ne h.tro ho (fun e => t3 e.symm) i hi rfl
  · exact l1.own_ne ho rfl
  · exact m1.own_ne ho rfl
  · exact row_ne (h.row t xs hx) ho (fun e => t4 e.symm) i hi rfl
end
/-- The slice that a thread's entry is (none: the empty one). -/
def hsl (a : LA) (s : LS) (t : Int) : Value := ((s.H t).map (hval a t)).getD (.slice none 0 0)
def hA (a : LA) (s : LS) (t : Int) : Option Addr := match s.H t with
  | some _ => (a.ad t).1
  | none => none
def hC (a : LA) (s : LS) (t : Int) : Nat := match s.H t with
  | some _ => (a.ad t).2
  | none => 0
theorem hsl_eq (a : LA) (s : LS) (t : Int) : hsl a s t = .slice (hA a s t) (s.hl t).length (hC a s t) := by
  unfold hsl hA hC LS.hl hval
  cases s.H t <;> rfl
section
variable {w w' : World} {B : Nat} {a : LA} {s : LS} {N : Nat}
theorem LW.hrow (h : LW w B a s N) (t : Int) : Row w B 46 2 (hA a s t) (s.hl t).length (hC a s t) (pairs (s.hl t)) := by
  unfold hA hC LS.hl
  cases hx : s.H t with
  | none => exact Row.nil _ _ _ _
  | some xs => exact h.row t xs hx
theorem zero_helds (w : World) : (zeroValue 42).run Try.prog w = .ok (.slice none 0 0) w := by kernel_rfl
theorem zero_int (w : World) : (zeroValue 3).run Try.prog w = .ok (.int .i64 0) w := by kernel_rfl
theorem LW.hlook (h : LW w B a s N) {t : Int} (ht : I64 t) : (Instr.lookup 62 (.map (some a.gh)) (.int .i64 t) false).run Try.prog w = .ok (.slice (hA a s t) (s.hl t).length (hC a s t)) w := by
  obtain ⟨L, l1, l2, _⟩ := h.hm
  have := l1.look Try.underlying62 (zero_helds w) ht
  rw [l2] at this
  rw [← hsl_eq]
  exact this
theorem LW.wlook (h : LW w B a s N) {t : Int} (ht : I64 t) : (Instr.lookup 63 (.map (some a.gw)) (.int .i64 t) true).run Try.prog w = .ok (.tuple #[((s.W t).map (Value.int .i64 ·)).getD (.int .i64 0), .bool (s.W t).isSome]) w := by
  obtain ⟨L, l1, l2, _⟩ := h.wm
  have := l1.look_ok Try.underlying63 (zero_int w) ht
  rw [l2, Option.isSome_map] at this
  exact this
theorem LW.wget (h : LW w B a s N) {t m : Int} (hw : s.W t = some m) : I64 t := by
  obtain ⟨L, l1, l2, _⟩ := h.wm
  have := l2 t
  rw [hw] at this
  exact l1.wf _ (vget_some this)
theorem LW.hget (h : LW w B a s N) {t : Int} {xs : List (Int × Int)} (hw : s.H t = some xs) : I64 t := by
  obtain ⟨L, l1, l2, _⟩ := h.hm
  have := l2 t
  rw [hw] at this
  exact l1.wf _ (vget_some this)
end
/-- Locks in block g; their blocks are P. -/
def KW (w : World) (B g : Nat) (s : LS) (N : Nat) (P : Nat → Prop) : Prop := ∃ a : LA, a.g = g ∧ LW w B a s N ∧ P = LB a s
section
variable {w w' : World} {B g : Nat} {s : LS} {N : Nat} {P : Nat → Prop}
theorem KW.keep (h : KW w B g s N P) (hb : Ext w w') : KW w' B g s N P := by
  obtain ⟨a, h1, h2, h3⟩ := h
  exact ⟨a, h1, h2.keep hb, h3⟩
theorem KW.other (h : KW w B g s N P) {Q Q' : Nat → Prop} (q : Tr w w' Q Q') (hP : ∀ i, P i → ¬ Q i) : KW w' B g s N P := by
  obtain ⟨a, h1, h2, rfl⟩ := h
  exact ⟨a, h1, h2.other q hP, rfl⟩
theorem KW.lt (h : KW w B g s N P) : ∀ i, P i → i < w.heap.size := by
  obtain ⟨a, h1, h2, rfl⟩ := h
  exact h2.lt
theorem KW.ge (h : KW w B g s N P) : ∀ i, P i → B ≤ i := by
  obtain ⟨a, h1, h2, rfl⟩ := h
  exact h2.ge
theorem KW.mono (h : KW w B g s N P) {M : Nat} (hM : N ≤ M) : KW w B g s M P := by
  obtain ⟨a, h1, h2, h3⟩ := h
  exact ⟨a, h1, h2.mono hM, h3⟩
theorem KW.no (h : KW w B g s N P) {i : Nat} {t : TypeId} {xs : List Value} (ho : Own w i t xs) (t1 : t ≠ 65) (t2 : t ≠ 61) (t3 : t ≠ 29) (t4 : t ≠ 46) : ¬ P i := by
  obtain ⟨a, h1, h2, rfl⟩ := h
  exact h2.no ho t1 t2 t3 t4
theorem KW.hlen (h : KW w B g s N P) (t : Int) : (s.hl t).length ≤ N := by
  obtain ⟨a, h1, h2, rfl⟩ := h
  exact h2.hlen t
theorem KW.mlen (h : KW w B g s N P) : s.ms.length ≤ 6 := by
  obtain ⟨a, h1, h2, rfl⟩ := h
  exact h2.tle
end

/-- The same, with the table's block known. -/
def KX (w : World) (B g gt : Nat) (s : LS) (N : Nat) (P : Nat → Prop) : Prop := ∃ a : LA, a.g = g ∧ a.gt = gt ∧ LW w B a s N ∧ P = LB a s
section
variable {w w' : World} {B g gt : Nat} {s : LS} {N : Nat} {P : Nat → Prop}
theorem KX.kw (h : KX w B g gt s N P) : KW w B g s N P := by
  obtain ⟨a, h1, h2, h3⟩ := h
  exact ⟨a, h1, h3⟩
theorem KX.keep (h : KX w B g gt s N P) (hb : Ext w w') : KX w' B g gt s N P := by
  obtain ⟨a, h1, h2, h3, h4⟩ := h
  exact ⟨a, h1, h2, h3.keep hb, h4⟩
theorem KX.mono (h : KX w B g gt s N P) {M : Nat} (hM : N ≤ M) : KX w B g gt s M P := by
  obtain ⟨a, h1, h2, h3, h4⟩ := h
  exact ⟨a, h1, h2, h3.mono hM, h4⟩
theorem KX.table (h : KX w B g gt s N P) : Tab w (.pointer (some ⟨gt, 0, none⟩)) s.ms := by
  obtain ⟨a, h1, rfl, h3, h4⟩ := h
  exact h3.table
end

set_option maxRecDepth 100000 in
set_option maxHeartbeats 1000000 in
theorem t_new2 (A : Option Addr) (n c : Nat) (ms : List (Int × Int)) (w : World) (hn : n ≤ 65536) (hr : Rd w A (pairs ms)) (hl : ms.length = n) (hok : okM ms = true) :
    Calls Try.prog 9 #[.slice A n c] w fun e w' => ∃ g K kc, e = .returned (.tuple #[.pointer (some ⟨g, 0, none⟩), .int .i64 0]) ∧ Own w' g 61 [.slice K ms.length kc] ∧ Row w' w.heap.size 29 2 K ms.length kc (pairs ms) ∧ ms.length ≤ 6 ∧ w.heap.size ≤ g ∧ Below w.heap.size w w' := by
  unfold okM at hok
  rw [Bool.and_eq_true, decide_eq_true_eq, hl] at hok
  obtain ⟨h6, hall⟩ := hok
  have C1 := Lib.hid (m_contains A n c ms w hn hr hl)
  have hb : (!ms.all goodM) = false := by rw [hall]; rfl
  rw [hb] at C1
  have HL := Lib.hid hl
  clear hb hall hl
  go_enter Try.func9, Try.ntmps9
  go_wp2_with fail
  refine C1.out.mono ?_
  rintro e w1 ⟨rfl, b1⟩
  go_wp2_with fail
  refine (clone_mutexes A n c ms w1 hn (hr.keep b1) HL.out).mono ?_
  rintro e w2 ⟨A2, c2, rfl, r2, b2⟩
  have o3 := Own.new w2 61 [.slice A2 n c2]
  have hz1 := b1.size
  have hz2 := b2.size
  have R3 := Lib.hid ((r2.mono hz1).keep (Ext.alloc w2 (.cells #[.slice A2 n c2] 61)))
  have O3 := Lib.hid o3
  have bT := Ext.trans (Ext.trans b1 b2) (Ext.alloc w2 (.cells #[.slice A2 n c2] 61))
  clear o3 r2
  go_wp2
  go_ret2
  exact ⟨_, A2, c2, rfl, by rw [HL.out]; exact O3.out, by rw [HL.out]; exact R3.out, by rw [HL.out]; exact h6, by omega, bT⟩

/-- Nobody holds, nobody waits. -/
def ls0 (ms : List (Int × Int)) : LS := ⟨ms, fun _ => none, fun _ => none⟩
set_option maxRecDepth 100000 in
theorem run_locks (t : Addr) (gh gw : Nat) (w : World) : (Instr.build 65 #[(0, .pointer (some t)), (1, .map (some gh)), (2, .map (some gw))]).run Try.prog w = .ok (.agg #[.pointer (some t), .map (some gh), .map (some gw)]) w := by kernel_rfl
set_option maxRecDepth 100000 in
set_option maxHeartbeats 1000000 in
theorem kx_new (B gt : Nat) (K : Option Addr) (kc : Nat) (ms : List (Int × Int)) (w : World) (ho : Own w gt 61 [.slice K ms.length kc]) (hr : Row w B 29 2 K ms.length kc (pairs ms)) (h6 : ms.length ≤ 6) (hB : B ≤ gt) (hBw : B ≤ w.heap.size) :
    Calls Try.prog 10 #[.pointer (some ⟨gt, 0, none⟩)] w fun e w' => ∃ g P, e = .returned (.pointer (some ⟨g, 0, none⟩)) ∧ KX w' B g gt (ls0 ms) 0 P ∧ Below w.heap.size w w' := by
  have hgt := ho.lt
  have b1 := Ext.alloc w (.map #[] 0)
  have b2 := Ext.alloc (w.alloc (.map #[] 0)) (.map #[] 0)
  have m1 := Lib.hid ((MS.made w).keep b2)
  have m2 := Lib.hid (MS.made (w.alloc (.map #[] 0)))
  have z2 : (w.alloc (.map #[] 0)).heap.size = w.heap.size + 1 := by simp
  have HZ2 := Lib.hid z2
  have HO := Lib.hid ho
  have HR := Lib.hid hr
  have hbd := fun w' => run_locks ⟨gt, 0, none⟩ w.heap.size (w.heap.size + 1) w'
  have hm := @run_makeMap Try.prog
  have b12 := Ext.trans b1 b2
  clear ho hr z2 b1 b2
  go_enter Try.func10, Try.ntmps10
  go_wp2
  go_ret
  have o3 := Own.new ((w.alloc (.map #[] 0)).alloc (.map #[] 0)) 65 [.pointer (some ⟨gt, 0, none⟩), .map (some w.heap.size), .map (some (w.heap.size + 1))]
  have b3 := Ext.alloc ((w.alloc (.map #[] 0)).alloc (.map #[] 0)) (.cells #[.pointer (some ⟨gt, 0, none⟩), .map (some w.heap.size), .map (some (w.heap.size + 1))] 65)
  have M2 := m2.out
  rw [HZ2.out] at M2
  have z3 : ((w.alloc (.map #[] 0)).alloc (.map #[] 0)).heap.size = w.heap.size + 2 := by simp
  rw [z3] at o3
  refine ⟨w.heap.size + 2, _, by first | rfl | simp, ⟨⟨w.heap.size + 2, gt, w.heap.size, w.heap.size + 1, K, kc, fun _ => (none, 0)⟩, rfl, rfl, ⟨o3, HO.out.keep (Ext.trans b12 b3), HR.out.keep (Ext.trans b12 b3), h6, ⟨[], m1.out.keep b3, fun t => rfl, Nat.le_refl _⟩, ⟨[], M2.keep b3, fun t => rfl, Nat.le_refl _⟩, fun t xs h => (by cases h), fun t u xs ys _ h => (by cases h), fun t xs h => (by cases h), (by simp only; omega), ⟨by simp only; omega, hB, hBw, by simp only; omega⟩⟩, rfl⟩, Ext.trans b12 b3⟩

theorem k_new (B gt : Nat) (K : Option Addr) (kc : Nat) (ms : List (Int × Int)) (w : World) (ho : Own w gt 61 [.slice K ms.length kc]) (hr : Row w B 29 2 K ms.length kc (pairs ms)) (h6 : ms.length ≤ 6) (hB : B ≤ gt) (hBw : B ≤ w.heap.size) :
    Calls Try.prog 10 #[.pointer (some ⟨gt, 0, none⟩)] w fun e w' => ∃ g P, e = .returned (.pointer (some ⟨g, 0, none⟩)) ∧ KW w' B g (ls0 ms) 0 P ∧ Below w.heap.size w w' := by
  refine (kx_new B gt K kc ms w ho hr h6 hB hBw).mono ?_
  rintro e w1 ⟨g, P, rfl, h, b⟩
  exact ⟨g, P, rfl, h.kw, b⟩

theorem k_waits (B : Nat) (a : LA) (s : LS) (N : Nat) (t : Int) (w : World) (h : LW w B a s N) (ht : I64 t) :
    Calls Try.prog 15 #[.pointer (some ⟨a.g, 0, none⟩), .int .i64 t] w fun e w' => e = .returned (.int .i64 (s.wl t)) ∧ w = w' := by
  have v2 := h.w_
  have hlk := h.wlook ht
  have HW := Lib.hid (show s.wl t = (s.W t).getD (-1) from rfl)
  clear h
  cases hw : s.W t with
  | none =>
    rw [hw] at HW hlk
    simp only [Option.map_none, Option.getD_none, Option.isSome_none] at hlk
    clear hw
    go_enter Try.func15, Try.ntmps15
    go_wp2
    go_ret
    exact ⟨by rw [HW.out]; rfl, rfl⟩
  | some m =>
    rw [hw] at HW hlk
    simp only [Option.map_some, Option.getD_some, Option.isSome_some] at hlk
    clear hw
    go_enter Try.func15, Try.ntmps15
    go_wp2
    go_ret
    exact ⟨by rw [HW.out]; rfl, rfl⟩

theorem info_held : (Try.prog.info? 46).map (fun i => (i.zero, i.size, i.bytes)) = some (some (.agg #[.int .i64 0, .int .i64 0]), 2, 16) := by kernel_rfl
set_option maxRecDepth 100000 in
set_option maxHeartbeats 1000000 in
theorem clone_helds (A : Option Addr) (n c : Nat) (ps : List (Int × Int)) (w : World) (hn : n ≤ 65536) (hr : Rd w A (pairs ps)) (hl : ps.length = n) :
    Calls Try.prog 35 #[.slice A n c] w fun e w' => ∃ A' c', e = .returned (.slice A' n c') ∧ Row w' w.heap.size 46 2 A' n c' (pairs ps) ∧ Below w.heap.size w w' := by
  subst hl
  obtain ⟨ip, hi, hz0, hz1, hz2⟩ := info_parts info_held
  cases A with
  | none =>
    have h0 : ps = [] := by
      cases ps with
      | nil => rfl
      | cons p ps => obtain ⟨b, off, h, _⟩ := hr.pair (k := 0) (by simp); cases h
    subst h0
    have hq : ∀ w, (binOp .eql 42 (.slice none 0 c) (.slice none 0 0)).run Try.prog w = .ok (.bool true) w := fun w => Lib.run_eql_slice_nil (P := Try.prog) w 42 46 none 0 c 0 0 Try.underlying42
    go_enter Try.func35, Try.ntmps35
    go_wp2
    go_ret
    exact ⟨none, 0, rfl, Row.nil _ _ _ _, Below.refl _ _⟩
  | some a =>
    have LP := Lib.hid (by rw [pairs_len]; omega : (pairs ps).length = ps.length * 2)
    have hrow : Row (w.alloc (.cells #[] 46)) w.heap.size 46 2 (some ⟨w.heap.size, 0, none⟩) 0 0 [] := Row.ofOwn (Own.new w 46 []) (Nat.le_refl _) rfl (by omega)
    have hrA : Rd (w.alloc (.cells #[] 46)) (some a) (pairs ps) := hr.keep (Ext.alloc _ _)
    have HI := Lib.hid hi
    clear hi
    have hq : ∀ w, (binOp .eql 42 (.slice (some a) ps.length c) (.slice none 0 0)).run Try.prog w = .ok (.bool false) w := fun w => Lib.run_eql_slice_nil (P := Try.prog) w 42 46 (some a) ps.length c 0 0 Try.underlying42
    go_enter Try.func35, Try.ntmps35
    go_wp2_with (at_builtin; refine wpl_append _ rfl (.tmp 5) (.tmp 6) 42 rfl 46 ip _ 2 16 Try.underlying42 HI.out hz0 hz1 hz2 rfl (by omega) w.heap.size _ 0 0 [] rfl hrow (some a) ps.length c (pairs ps) rfl LP.out hrA (pairs_one ps) ps.length (pairs ps) (by omega) rfl (by omega) (by omega) (by simp) ?_; intro A2 c2 w2 o2 g2 e2)
    have b2 := below_grown (Ext.alloc w (.cells #[] 46)) g2 (by simp) (by simp [blk])
    go_ret
    exact ⟨A2, c2, rfl, o2, b2⟩
theorem k_held (B : Nat) (a : LA) (s : LS) (N : Nat) (t : Int) (w : World) (h : LW w B a s N) (ht : I64 t) (hN : N ≤ 60000) :
    Calls Try.prog 18 #[.pointer (some ⟨a.g, 0, none⟩), .int .i64 t] w fun e w' => ∃ A' c', e = .returned (.slice A' (s.hl t).length c') ∧ Row w' w.heap.size 46 2 A' (s.hl t).length c' (pairs (s.hl t)) ∧ Below w.heap.size w w' := by
  have v1 := h.h_
  have hlk := h.hlook ht
  have hlen := h.hlen t
  have HC := Lib.hid (clone_helds (hA a s t) (s.hl t).length (hC a s t) (s.hl t) w (by omega) (h.hrow t).rd rfl)
  clear h hlen
  go_enter Try.func18, Try.ntmps18
  go_wp2_with ((with_reducible go_at_call 35); (with_reducible refine HC.out.mono ?_); rintro e w1 ⟨A1, c1, rfl, r1, b1⟩)
  go_ret
  exact ⟨A1, c1, rfl, r1, b1⟩

theorem take_fst (xs : List (Int × Int)) (k : Nat) (h : k < xs.length) : (xs.take k).map Prod.fst ++ [xs[k].1] = (xs.take (k + 1)).map Prod.fst := by
  rw [List.take_succ_eq_append_getElem h, List.map_append]; rfl
set_option maxRecDepth 100000 in
set_option maxHeartbeats 2000000 in
theorem k_numbers (B : Nat) (a : LA) (s : LS) (N : Nat) (t : Int) (w : World) (h : LW w B a s N) (ht : I64 t) (hN : N ≤ 60000) :
    Calls Try.prog 30 #[.pointer (some ⟨a.g, 0, none⟩), .int .i64 t] w fun e w' => ∃ A' c', e = .returned (.slice A' (s.hl t).length c') ∧ Row w' w.heap.size 3 1 A' (s.hl t).length c' (ints (s.mu t)) ∧ Below w.heap.size w w' := by
  have v1 := h.h_
  have hlk := h.hlook ht
  have hlen := h.hlen t
  have HRD := Lib.hid (h.hrow t).rd
  have HM := Lib.hid (show s.mu t = (s.hl t).map Prod.fst from rfl)
  obtain ⟨i0, hi0, hz0, hz1, hz2⟩ := info_parts info_int
  have HI := Lib.hid hi0
  clear h hi0
  generalize s.hl t = xs at *
  generalize hA a s t = A at *
  generalize hC a s t = c at *
  generalize s.mu t = mm at *
  go_enter Try.func30, Try.ntmps30
  go_wp2
  go_loopw [5, 15] (fun v q wr => ∃ (k : Nat) (S : Option Addr) (c1 : Nat), v = .slice S k c1 ∧ q = .int .i64 (k : Int) ∧ k ≤ xs.length ∧ Row wr w.heap.size 3 1 S k c1 (ints ((xs.take k).map Prod.fst)) ∧ Below w.heap.size w wr) (fun _ q _ => xs.length - (intOf q).toNat)
  case atStart => exact ⟨0, none, 0, rfl, rfl, by omega, Row.nil _ _ _ _, Below.refl _ _⟩
  case round =>
    obtain ⟨k, S, c1, rfl, rfl, hk, hR, hb⟩ := hrel
    have k0' : (0 : Int) ≤ (k : Int) := by omega
    by_cases hlt : k < xs.length
    · have k1' : (k : Int) < (xs.length : Int) := by omega
      obtain ⟨bn, on, rfl, n0, n1⟩ := (HRD.out.keep hb).pair hlt
      have HTF := Lib.hid (take_fst xs k hlt)
      have HR := Lib.hid hR
      have hsz := hb.size
      generalize xs[k].1 = x1 at *
      generalize xs[k].2 = x2 at *
      clear hR
      go_upto_region 5 with fail
      have RA := Lib.hid ((HR.out.alloc (.cells #[.int .i64 x1, .int .i64 x2] 46)).alloc (.cells #[.int .i64 x1] 3))
      have OX := Own.new wr 46 [.int .i64 x1, .int .i64 x2]
      have o0 := OX.cell 0
      simp only [List.getElem?_cons_zero] at o0
      have bA := Ext.alloc wr (.cells #[.int .i64 x1, .int .i64 x2] 46)
      have bb := Ext.trans hb bA
      clear OX
      generalize (wr.alloc (.cells #[.int .i64 x1, .int .i64 x2] 46)) = w3 at *
      go_wp2_with (at_builtin; refine wpl_append _ rfl (.tmp 19) (.tmp 22) 22 rfl 3 i0 _ 1 8 Try.underlying22 HI.out hz0 hz1 hz2 rfl (by omega) w.heap.size S k c1 _ rfl RA.out _ 1 1 (ints [x1]) rfl rfl (Own.new w3 3 (ints [x1])).rd0 (ints_one _) (k + 1) _ rfl rfl (by omega) (by omega) (by have := bb.size; simp; omega) ?_; intro A6 c6 w6 o6 g6 k6; have e6 := below_grown (Ext.trans bb (Ext.alloc w3 (.cells #[.int .i64 x1] 3))) g6 (by have := bb.size; simp; omega) (fun gg hg => (RA.out.at_ gg hg).1))
      go_roundw
      case rel => exact ⟨k + 1, A6, c6, rfl, by go_num, by omega, by rw [← HTF.out]; simpa [ints] using o6, e6⟩
      case measure => simp [intOf]; omega
    · obtain rfl : k = xs.length := by omega
      rw [List.take_length, ← HM.out] at hR
      have HR := Lib.hid hR
      clear hR
      go_wp2
      go_ret
      exact ⟨S, c1, rfl, HR.out, hb⟩

end Go.Proofs.Ytfdpipjkckbgdaa
