/-
  WALKS of package frames (where no byte is ever written): its words; Take, known, Give, Free, Has. What a call leaves: Tr.
-/
import Derived.Test.YtebkknkgkjblnaaAppG
import Derived.Test.YtebkknkgkjblnaaOver
import Derived.Test.YtebkknkgkjblnaaOpn
import Derived.BigQuiet
import Derived.Deep.CutRange
import Derived.Deep.CutBlock
import Derived.Laws.IdiomCopy
namespace Go.Proofs.Ytebkknkgkjblnaa
open Go.RowKit
attribute [local go_sem] depUpon Sp.ok

theorem setCell_grown (w : World) (p : Addr) (v : Value) : w.grownBy (w.setCell p v) (some p.block) := ⟨rfl, rfl, rfl, by simp, fun j _ hj => heap_setCell_other w p j v (fun q => hj (by rw [q]))⟩
theorem row_ne {w : World} {B g n c size : Nat} {e t : TypeId} {A : Option Addr} {xs ys : List Value} (h : Row w B e size A n c xs) (ho : Own w g t ys) (ht : e ≠ t) : ∀ b, blk A = some b → b ≠ g := by
  intro b hb e'
  subst e'
  rcases h.2 with ⟨hv, _⟩ | ⟨g', cap, cur, hv, _, hc, _⟩
  · injection hv with e1 e2 e3
    subst e1; cases hb
  · injection hv with e1 e2 e3
    subst e1
    have : g' = b := by simpa [blk] using hb
    subst this
    have := hc.symm.trans ho
    injection this with this
    injection this with _ e2 _
    exact ht e2
theorem own_ne {w : World} {g g' : Nat} {t t' : TypeId} {xs ys : List Value} (h : Own w g t xs) (h' : Own w g' t' ys) (ht : t ≠ t') : g ≠ g' := by
  intro e
  subst e
  have := Option.some.inj (h.symm.trans h')
  injection this with _ e2 _
  exact ht e2
/-- What a call leaves: nothing but the blocks P has turned; what it has then is P'. -/
structure Tr (w w' : World) (P P' : Nat → Prop) : Prop where
  base : Below 0 w w'
  block : ∀ i, i < w.heap.size → ¬ P i → w'.heap[i]? = w.heap[i]?
  fr : ∀ i, P' i → P i ∨ w.heap.size ≤ i
section
variable {w w' w'' : World} {P P' P'' : Nat → Prop}
theorem Tr.ext (h : Ext w w') : Tr w w' P P := ⟨h.mono (Nat.zero_le _), fun i hi _ => h.block i hi, fun _ hk => .inl hk⟩
theorem Tr.refl : Tr w w P P := Tr.ext (Ext.refl w)
theorem Tr.trans (a : Tr w w' P P') (b : Tr w' w'' P' P'') : Tr w w'' P P'' := by
  refine ⟨Below.trans a.base b.base, fun i hi hP => ?_, fun i hi => ?_⟩
  · rw [b.block i (Nat.lt_of_lt_of_le hi a.base.size) (fun q => ?_), a.block i hi hP]
    rcases a.fr i q with q | q
    · exact hP q
    · omega
  · rcases b.fr i hi with q | q
    · exact a.fr i q
    · exact .inr (Nat.le_trans a.base.size q)
theorem Tr.grown {row : Option Nat} (h : w.grownBy w' row) (hr : ∀ g, row = some g → P g ∨ w.heap.size ≤ g) : Tr w w' P P := by
  refine ⟨⟨h.os, h.tape, h.output, h.size, fun i hi => by omega⟩, fun i hi hP => h.block i hi (fun q => ?_), fun _ hk => .inl hk⟩
  rcases hr i q.symm with q | q
  · exact hP q
  · omega
theorem Tr.set (p : Addr) (v : Value) (hp : P p.block) : Tr w (w.setCell p v) P P := Tr.grown (setCell_grown w p v) (fun g q => .inl (by injection q with q; rw [← q]; exact hp))
theorem Tr.mono (a : Tr w w' P P') {Q Q' : Nat → Prop} (h1 : ∀ i, P i → Q i) (h2 : ∀ i, Q' i → P' i ∨ Q i ∨ w.heap.size ≤ i) : Tr w w' Q Q' :=
  ⟨a.base, fun i hi hQ => a.block i hi (fun q => hQ (h1 i q)), fun i hi => by
    rcases h2 i hi with q | q | q
    · rcases a.fr i q with q | q
      · exact .inl (h1 i q)
      · exact .inr q
    · exact .inl q
    · exact .inr q⟩
theorem Tr.own (a : Tr w w' P P') {i : Nat} {t : TypeId} {xs : List Value} (h : Own w i t xs) (hP : ¬ P i) : Own w' i t xs := (a.block i h.lt hP).trans h
theorem Tr.row (a : Tr w w' P P') {b m c size : Nat} {e : TypeId} {A : Option Addr} {xs : List Value} (h : Row w b e size A m c xs) (hP : ∀ i, blk A = some i → ¬ P i) : Row w' b e size A m c xs := by
  refine ⟨h.1, ?_⟩
  rcases h.2 with hn | ⟨g', cap, cur, hv, hb, hc, rest⟩
  · exact .inl hn
  · refine .inr ⟨g', cap, cur, hv, hb, ?_, rest⟩
    injection hv with e1 e2 e3
    rw [a.block g' (Array.getElem?_eq_some_iff.1 hc).1 (hP g' (by rw [e1]; rfl))]
    exact hc
theorem Tr.below (a : Tr w w' P P') {B : Nat} (hB : B ≤ w.heap.size) (hP : ∀ i, P i → B ≤ i) : Below B w w' :=
  ⟨a.base.os, a.base.tape, a.base.output, a.base.size, fun i hi => a.block i (by omega) (fun q => by have := hP i q; omega)⟩
theorem Tr.lo (a : Tr w w' P P') {B : Nat} (hB : B ≤ w.heap.size) (hP : ∀ i, P i → B ≤ i) : ∀ i, P' i → B ≤ i := fun i hi => by
  rcases a.fr i hi with q | q
  · exact hP i q
  · omega
theorem Tr.apart (a : Tr w w' P P') {Q : Nat → Prop} (hQ : ∀ i, Q i → ¬ P i) (hl : ∀ i, Q i → i < w.heap.size) : ∀ i, Q i → ¬ P' i := fun i hi q => by
  rcases a.fr i q with q | q
  · exact hQ i hi q
  · have := hl i hi; omega
end

/-- Frames: how many; which are taken; which were given back; how many were ever taken. -/
structure FP where
  n : Nat
  tk : List Bool
  fr : List Nat
  fs : Nat
def tki (b : Bool) : Int := if b then 1 else 0
def cntT (l : List Bool) : Nat := (l.filter id).length
theorem cntT_set : ∀ (l : List Bool) (i : Nat) (h : i < l.length) (b : Bool), cntT (l.set i b) + (if l[i] then 1 else 0) = cntT l + (if b then 1 else 0)
  | [], _, h, _ => by cases h
  | x :: l, 0, _, b => by
    simp only [cntT, List.set_cons_zero, List.getElem_cons_zero]
    cases x <;> cases b <;> simp
  | x :: l, i + 1, h, b => by
    have ih := cntT_set l i (by simpa using h) b
    simp only [cntT, List.set_cons_succ, List.getElem_cons_succ] at *
    cases x <;> simp <;> omega
structure FP.ok (p : FP) : Prop where
  len : p.tk.length = p.n
  n64 : p.n ≤ 64
  fsl : p.fs ≤ p.n
  nd : p.fr.Nodup
  fri : ∀ j ∈ p.fr, j < p.fs ∧ p.tk[j]? = some false
  ffs : ∀ j, p.fs ≤ j → j < p.n → p.tk[j]? = some false
  cnt : cntT p.tk + p.fr.length = p.fs
/-- The frame that is taken next. -/
def FP.top (p : FP) : Option Nat := match p.fr.getLast? with
  | some i => some i
  | none => if p.fs < p.n then some p.fs else none
def FP.tkd (p : FP) (i : Nat) : FP := if p.fr = [] then { p with tk := p.tk.set i true, fs := p.fs + 1 } else { p with tk := p.tk.set i true, fr := p.fr.dropLast }
def FP.gvn (p : FP) (i : Nat) : FP := { p with tk := p.tk.set i false, fr := p.fr ++ [i] }
def FP.known (p : FP) (i : Int) : Int := if i < 0 ∨ (p.n : Int) ≤ i then 2 else if p.tk[i.toNat]? = some true then 0 else 4
/-- Memory that bears the frames. -/
structure FS (w : World) (B gf gb gt : Nat) (A : Option Addr) (c : Nat) (p : FP) : Prop where
  own : Own w gf 98 [.slice (some ⟨gb, 0, none⟩) p.n p.n, .slice (some ⟨gt, 0, none⟩) p.n p.n, .slice A p.fr.length c, .int .i64 (p.fs : Int)]
  byt : Own w gb 125 (List.replicate (p.n * 64) (.int .u8 0))
  tak : Own w gt 3 (ints (p.tk.map tki))
  row : Row w B 3 1 A p.fr.length c (ints (p.fr.map fun j : Nat => (j : Int)))
  sep : blk A ≠ some gt
  lo : B ≤ gf ∧ B ≤ gb ∧ B ≤ gt
  ok : p.ok
/-- The blocks of the frames. -/
def FB (gf gb gt : Nat) (A : Option Addr) (i : Nat) : Prop := i = gf ∨ i = gb ∨ i = gt ∨ blk A = some i
section
variable {w w' : World} {B gf gb gt : Nat} {A : Option Addr} {c : Nat} {p : FP}
theorem FS.keep (h : FS w B gf gb gt A c p) (hb : Ext w w') : FS w' B gf gb gt A c p := ⟨h.own.keep hb, h.byt.keep hb, h.tak.keep hb, h.row.keep hb, h.sep, h.lo, h.ok⟩
theorem FS.other (h : FS w B gf gb gt A c p) {P P' : Nat → Prop} (a : Tr w w' P P') (hP : ∀ i, FB gf gb gt A i → ¬ P i) : FS w' B gf gb gt A c p :=
  ⟨a.own h.own (hP _ (.inl rfl)), a.own h.byt (hP _ (.inr (.inl rfl))), a.own h.tak (hP _ (.inr (.inr (.inl rfl)))), a.row h.row (fun i hi => hP i (.inr (.inr (.inr hi)))), h.sep, h.lo, h.ok⟩
theorem FS.lt (h : FS w B gf gb gt A c p) : ∀ i, FB gf gb gt A i → i < w.heap.size := fun i hi => by
  rcases hi with rfl | rfl | rfl | hi
  · exact h.own.lt
  · exact h.byt.lt
  · exact h.tak.lt
  · exact (h.row.at_ i hi).2
theorem FS.ge (h : FS w B gf gb gt A c p) : ∀ i, FB gf gb gt A i → B ≤ i := fun i hi => by
  rcases hi with rfl | rfl | rfl | hi
  · exact h.lo.1
  · exact h.lo.2.1
  · exact h.lo.2.2
  · exact (h.row.at_ i hi).1
theorem FS.bytes (h : FS w B gf gb gt A c p) : w.cell? ⟨gf, 0, none⟩ = some (.slice (some ⟨gb, 0, none⟩) p.n p.n) := h.own.cell 0
theorem FS.taken (h : FS w B gf gb gt A c p) : w.cell? ⟨gf, 1, none⟩ = some (.slice (some ⟨gt, 0, none⟩) p.n p.n) := h.own.cell 1
theorem FS.free (h : FS w B gf gb gt A c p) : w.cell? ⟨gf, 2, none⟩ = some (.slice A p.fr.length c) := h.own.cell 2
theorem FS.fresh (h : FS w B gf gb gt A c p) : w.cell? ⟨gf, 3, none⟩ = some (.int .i64 (p.fs : Int)) := h.own.cell 3
theorem FS.at_ (h : FS w B gf gb gt A c p) {i : Nat} (hi : i < p.n) : ∃ b, p.tk[i]? = some b ∧ w.cell? ⟨gt, i, none⟩ = some (.int .i64 (tki b)) := by
  have hl : i < p.tk.length := by rw [h.ok.len]; exact hi
  refine ⟨p.tk[i], List.getElem?_eq_getElem hl, ?_⟩
  rw [h.tak.cell]
  simp [ints, hl]
end
theorem FP.frb {p : FP} (h : p.ok) : p.fr.length ≤ p.n := by have := h.cnt; have := h.fsl; omega

theorem f_known (B gf gb gt : Nat) (A : Option Addr) (c : Nat) (p : FP) (i : Int) (w : World) (h : FS w B gf gb gt A c p) :
    Calls Try.prog 59 #[.pointer (some ⟨gf, 0, none⟩), .int .i64 i] w fun e w' => e = .returned (.int .i64 (p.known i)) ∧ w = w' := by
  have v0 := h.bytes
  have v1 := h.taken
  have hn := h.ok.n64
  by_cases h0 : i < 0
  · rw [show p.known i = 2 by unfold FP.known; rw [if_pos (.inl h0)]]
    have t0 : decide (i < 0) = true := by simp [h0]
    clear h
    go_enter Try.func59, Try.ntmps59
    go_wp2
    go_ret
    exact ⟨rfl, rfl⟩
  have t0 : decide (i < 0) = false := by simp [h0]
  have t00 : 0 ≤ i := by omega
  by_cases h1 : (p.n : Int) ≤ i
  · rw [show p.known i = 2 by unfold FP.known; rw [if_pos (.inr h1)]]
    have t1 : decide ((p.n : Int) ≤ i) = true := by simp [h1]
    clear h h0
    go_enter Try.func59, Try.ntmps59
    go_wp2
    go_ret
    exact ⟨rfl, rfl⟩
  obtain ⟨j, rfl⟩ : ∃ j : Nat, i = (j : Int) := ⟨i.toNat, by omega⟩
  have t1 : decide ((p.n : Int) ≤ (j : Int)) = false := decide_eq_false h1
  have t10 : (j : Int) < (p.n : Int) := by omega
  have hjn : j < p.n := by omega
  have t11 : ¬ p.n ≤ j := by omega
  obtain ⟨b, hb, hc⟩ := h.at_ hjn
  cases b
  · rw [show p.known (j : Int) = 4 by unfold FP.known; rw [if_neg (by omega), if_neg (by rw [Int.toNat_natCast, hb]; simp)]]
    rw [show tki false = 0 from rfl] at hc
    clear h h0 h1 hb
    go_enter Try.func59, Try.ntmps59
    go_wp2
    go_ret
    exact ⟨rfl, rfl⟩
  · rw [show p.known (j : Int) = 0 by unfold FP.known; rw [if_neg (by omega), if_pos (by rw [Int.toNat_natCast, hb])]]
    rw [show tki true = 1 from rfl] at hc
    clear h h0 h1 hb
    go_enter Try.func59, Try.ntmps59
    go_wp2
    go_ret
    exact ⟨rfl, rfl⟩

theorem f_free (B gf gb gt : Nat) (A : Option Addr) (c : Nat) (p : FP) (w : World) (h : FS w B gf gb gt A c p) :
    Calls Try.prog 18 #[.pointer (some ⟨gf, 0, none⟩)] w fun e w' => e = .returned (.int .i64 ((p.fr.length : Int) + (p.n : Int) - (p.fs : Int))) ∧ Ext w w' := by
  have v0 := h.bytes
  have v2 := h.free
  have v3 := h.fresh
  have hn := h.ok.n64
  have hl := FP.frb h.ok
  have hs := h.ok.fsl
  clear h
  generalize p.fr.length = l at *
  generalize p.fs = s at *
  generalize p.n = n at *
  have k1 : IntKind.i64.wrap ((l : Int) + (n : Int)) = (l : Int) + (n : Int) := IntWalk.i64_in _ ⟨by omega, by omega⟩
  have k2 : IntKind.i64.wrap ((l : Int) + (n : Int) - (s : Int)) = (l : Int) + (n : Int) - (s : Int) := IntWalk.i64_in _ ⟨by omega, by omega⟩
  go_enter Try.func18, Try.ntmps18
  go_upto_region 3 with fail
  refine wp_region_dep (S := Ext) (C := Ext (w)) (by kernel_rfl) (by kernel_rfl) rfl Ext.refl (Ext.drew _) ?_
  repeat (refine dep_det (by rfl) (fun K hK => ?_); go_simp; first
    | ((with_reducible refine hK _ ?_); clear hK K)
    | (rw [if_neg (by decide)]; (with_reducible refine hK _ ?_); clear hK K)
    | (refine ⟨_, fun w1 hw1 => ⟨Ext.refl w1, hw1, rfl⟩, hK _ ?_⟩; clear hK K)
    | (apply Exists.intro; refine ⟨fun w1 hw1 => ?_, hK _ ?_⟩
       first
         | (have c_v0 := cell_keep hw1 v0; have c_v2 := cell_keep hw1 v2; have c_v3 := cell_keep hw1 v3; go_simp; first | exact ⟨Ext.refl _, hw1, rfl⟩ | exact ⟨Ext.refl _, rfl⟩)
       clear hK K))
  refine dep_nil ?_
  intro a' w' hC hE
  obtain rfl := atEnd_nil hE
  clear hE
  go_wp2
  go_ret
  exact ⟨rfl, hC⟩

end Go.Proofs.Ytebkknkgkjblnaa
