/-
  WALKS of package prio and of chapter 7's reference: the greatest of some.
-/
import Derived.Test.YtpaoolcnoflhiaaPrioB
namespace Go.Proofs.Ytpaoolcnoflhiaa
open Go.RowKit
attribute [local go_sem] depUpon Sp.ok

def pmaxStep (f p : Int × Int × Int) : Int × Int × Int := if 0 < pcmp p.1 p.2.1 p.2.2 f.1 f.2.1 f.2.2 then p else f
/-- The first of those that none is greater than. -/
def pmax (f : Int × Int × Int) (l : List (Int × Int × Int)) : Int × Int × Int := l.foldl pmaxStep f
theorem pmax_snoc (f : Int × Int × Int) (l : List (Int × Int × Int)) (p : Int × Int × Int) : pmax f (l ++ [p]) = pmaxStep (pmax f l) p := by simp [pmax]

/-- A priority as cells. -/
def pv (p : Int × Int × Int) : List Value := [.int .i64 p.1, .int .i64 p.2.1, .int .i64 p.2.2]
theorem ret_agg3 {x y : Int × Int × Int} (h : x = y) : Ending.returned (.agg #[.int .i64 x.1, .int .i64 x.2.1, .int .i64 x.2.2]) = .returned (.agg #[.int .i64 y.1, .int .i64 y.2.1, .int .i64 y.2.2]) := by rw [h]

theorem Own.pv3 {w : World} {g : Nat} {t : TypeId} {p : Int × Int × Int} (h : Own w g t (pv p)) :
    w.cell? ⟨g, 0, none⟩ = some (.int .i64 p.1) ∧ w.cell? ⟨g, 1, none⟩ = some (.int .i64 p.2.1) ∧ w.cell? ⟨g, 2, none⟩ = some (.int .i64 p.2.2) ∧
    w.frozen? ⟨g, 0, none⟩ = false ∧ w.frozen? ⟨g, 1, none⟩ = false ∧ w.frozen? ⟨g, 2, none⟩ = false := by
  refine ⟨?_, ?_, ?_, h.frozen 0, h.frozen 1, h.frozen 2⟩
  · rw [h.cell]; rfl
  · rw [h.cell]; rfl
  · rw [h.cell]; rfl
theorem Own.put3 {w : World} {g : Nat} {t : TypeId} {p q : Int × Int × Int} (h : Own w g t (pv p)) :
    Own (((w.setCell ⟨g, 0, none⟩ (.int .i64 q.1)).setCell ⟨g, 1, none⟩ (.int .i64 q.2.1)).setCell ⟨g, 2, none⟩ (.int .i64 q.2.2)) g t (pv q) :=
  ((h.set 0 _).set 1 _).set 2 _

set_option maxRecDepth 100000 in
set_option maxHeartbeats 1000000 in
theorem prio_most (f : Int × Int × Int) (A : Option Addr) (n c : Nat) (ps : List (Int × Int × Int)) (w : World) (hn : n ≤ 4611686018427387904) (hr : Rd w A (trips ps)) (hl : ps.length = n) :
    Calls Try.prog 28 #[.func (.func 11) #[] #[], .agg #[.int .i64 f.1, .int .i64 f.2.1, .int .i64 f.2.2], .slice A n c] w fun e w' =>
      e = .returned (.agg #[.int .i64 (pmax f ps).1, .int .i64 (pmax f ps).2.1, .int .i64 (pmax f ps).2.2]) ∧ Below w.heap.size w w' := by
  subst hl
  have oF : Own ((w.alloc (.cells #[.int .i64 f.1, .int .i64 f.2.1, .int .i64 f.2.2] 38)).alloc (.cells #[.int .i64 0, .int .i64 0, .int .i64 0] 38)) w.heap.size 38 (pv f) := (Own.new w 38 (pv f)).alloc _
  have oR : Own ((w.alloc (.cells #[.int .i64 f.1, .int .i64 f.2.1, .int .i64 f.2.2] 38)).alloc (.cells #[.int .i64 0, .int .i64 0, .int .i64 0] 38)) (w.heap.size + 1) 38 (pv (0, 0, 0)) := by
    have := Own.new (w.alloc (.cells #[.int .i64 f.1, .int .i64 f.2.1, .int .i64 f.2.2] 38)) 38 (pv (0, 0, 0))
    rw [World.size_alloc] at this; exact this
  have bW : Below w.heap.size w ((w.alloc (.cells #[.int .i64 f.1, .int .i64 f.2.1, .int .i64 f.2.2] 38)).alloc (.cells #[.int .i64 0, .int .i64 0, .int .i64 0] 38)) := Ext.trans (Ext.alloc _ _) (Ext.alloc _ _)
  go_enter Try.func28, Try.ntmps28
  go_wp2
  go_loopw [8, 11] (fun _ i wr => ∃ k : Nat, k ≤ ps.length ∧ i = .int .i64 k ∧ Own wr w.heap.size 38 (pv (pmax f (ps.take k))) ∧ Own wr (w.heap.size + 1) 38 (pv (0, 0, 0)) ∧ Below w.heap.size w wr) (fun _ i _ => ps.length - (intOf i).toNat)
  case atStart => exact ⟨0, Nat.zero_le _, rfl, oF, oR, bW⟩
  case round =>
    obtain ⟨k, hk, rfl, o4, o6, hb⟩ := hrel
    clear oF oR bW
    generalize hcur : pmax f (ps.take k) = cur at *
    have HCU := Lib.hid hcur
    clear hcur
    obtain ⟨c0, c1, c2, f0, f1, f2⟩ := o4.pv3
    by_cases hlt : k < ps.length
    · obtain ⟨b, off, rfl, h1, h2, h3⟩ := (hr.keep hb).trip hlt
      have HT := Lib.hid (take_succ' ps k hlt)
      generalize hp : ps[k] = p at *
      clear hp
      obtain ⟨p1, p2, p3⟩ := p
      obtain ⟨q1, q2, q3⟩ := cur
      simp only at h1 h2 h3 c0 c1 c2
      have o8 := Own.new wr 38 (pv (p1, p2, p3))
      have s1 := o6.lt
      have oa := o4.alloc (.cells #[.int .i64 p1, .int .i64 p2, .int .i64 p3] 38)
      obtain ⟨x0, x1, x2, _, _, _⟩ := oa.pv3
      simp only at x0 x1 x2
      by_cases hgt : 0 < pcmp p1 p2 p3 q1 q2 q3
      · have HS := Lib.hid (by rw [HT.out, pmax_snoc, HCU.out]; simp [pmaxStep, hgt] : pmax f (ps.take (k + 1)) = (p1, p2, p3))
        go_wp2_with fail
        refine (prio_compare _ _ _ _ _ _ _).mono ?_
        rintro e w1 ⟨rfl, k1⟩
        have o4' := (o4.alloc (.cells #[.int .i64 p1, .int .i64 p2, .int .i64 p3] 38)).keep k1
        have o6' := (o6.alloc (.cells #[.int .i64 p1, .int .i64 p2, .int .i64 p3] 38)).keep k1
        have o8' := o8.keep k1
        have k2 : Ext wr w1 := Ext.trans (Ext.alloc _ _) k1
        clear c0 c1 c2 f0 f1 f2 h1 h2 h3
        obtain ⟨c0, c1, c2, f0, f1, f2⟩ := o4'.pv3
        obtain ⟨d0, d1, d2, _, _, _⟩ := o8'.pv3
        simp only at c0 c1 c2 d0 d1 d2
        go_wp2
        go_roundw
        case rel => exact ⟨k + 1, by omega, by go_num, by rw [HS.out]; exact o4'.put3 (q := (p1, p2, p3)), ((o6'.far (by simp) _).far (by simp) _).far (by simp) _, (((hb.trans (k2.mono hb.size)).setCell (p := ⟨w.heap.size, 0, none⟩) (Nat.le_refl _) _).setCell (p := ⟨w.heap.size, 1, none⟩) (Nat.le_refl _) _).setCell (p := ⟨w.heap.size, 2, none⟩) (Nat.le_refl _) _⟩
        case measure => simp [intOf]; omega
      · have HS := Lib.hid (by rw [HT.out, pmax_snoc, HCU.out]; simp [pmaxStep, hgt] : pmax f (ps.take (k + 1)) = (q1, q2, q3))
        go_wp2_with fail
        refine (prio_compare _ _ _ _ _ _ _).mono ?_
        rintro e w1 ⟨rfl, k1⟩
        have o4' := (o4.alloc (.cells #[.int .i64 p1, .int .i64 p2, .int .i64 p3] 38)).keep k1
        have o6' := (o6.alloc (.cells #[.int .i64 p1, .int .i64 p2, .int .i64 p3] 38)).keep k1
        have k2 : Ext wr w1 := Ext.trans (Ext.alloc _ _) k1
        go_wp2
        go_roundw
        case rel => exact ⟨k + 1, by omega, by go_num, by rw [HS.out]; exact o4', o6', hb.trans (k2.mono hb.size)⟩
        case measure => simp [intOf]; omega
    · obtain rfl : k = ps.length := by omega
      have HS : Hid (pmax f ps = cur) := by have := HCU.out; rw [List.take_of_length_le (by omega)] at this; exact this
      obtain ⟨d0, d1, d2, g0, g1, g2⟩ := o6.pv3
      obtain ⟨q1, q2, q3⟩ := cur
      simp only at c0 c1 c2 d0 d1 d2
      go_wp2
      have bF := ((hb.setCell (p := ⟨w.heap.size + 1, 0, none⟩) (by simp) (.int .i64 q1)).setCell (p := ⟨w.heap.size + 1, 1, none⟩) (by simp) (.int .i64 q2)).setCell (p := ⟨w.heap.size + 1, 2, none⟩) (by simp) (.int .i64 q3)
      obtain ⟨y0, y1, y2, _, _, _⟩ := (o6.put3 (q := (q1, q2, q3))).pv3
      simp only at y0 y1 y2
      exact bodyPost_ret (v := .agg #[.int .i64 q1, .int .i64 q2, .int .i64 q3]) (by simp [results, Try.results28, go_sem, y0, y1, y2]) rfl ⟨by rw [HS.out], bF⟩

set_option maxRecDepth 100000 in
set_option maxHeartbeats 1000000 in
theorem prio_max (f : Int × Int × Int) (A : Option Addr) (n c : Nat) (ps : List (Int × Int × Int)) (w : World) (hn : n ≤ 4611686018427387904) (hr : Rd w A (trips ps)) (hl : ps.length = n) :
    Calls Try.prog 23 #[.agg #[.int .i64 f.1, .int .i64 f.2.1, .int .i64 f.2.2], .slice A n c] w fun e w' =>
      e = .returned (.agg #[.int .i64 (pmax f ps).1, .int .i64 (pmax f ps).2.1, .int .i64 (pmax f ps).2.2]) ∧ Below w.heap.size w w' := by
  have bW : Ext w ((w.alloc (.cells #[.int .i64 f.1, .int .i64 f.2.1, .int .i64 f.2.2] 38)).alloc (.cells #[.int .i64 0, .int .i64 0, .int .i64 0] 38)) := Ext.trans (Ext.alloc _ _) (Ext.alloc _ _)
  have oR : Own ((w.alloc (.cells #[.int .i64 f.1, .int .i64 f.2.1, .int .i64 f.2.2] 38)).alloc (.cells #[.int .i64 0, .int .i64 0, .int .i64 0] 38)) (w.heap.size + 1) 38 (pv (0, 0, 0)) := by
    have := Own.new (w.alloc (.cells #[.int .i64 f.1, .int .i64 f.2.1, .int .i64 f.2.2] 38)) 38 (pv (0, 0, 0))
    rw [World.size_alloc] at this; exact this
  have hr2 := hr.keep bW
  have HL := Lib.hid hl
  clear hl
  go_enter Try.func23, Try.ntmps23
  go_wp2_with fail
  refine (prio_most f A n c ps _ hn hr2 HL.out).mono ?_
  rintro e w1 ⟨rfl, b1⟩
  generalize hm : pmax f ps = m
  have HM := Lib.hid hm
  clear hm
  obtain ⟨m1, m2, m3⟩ := m
  have o1 := oR.keep b1
  have bX : Below w.heap.size w w1 := Ext.trans bW b1
  obtain ⟨d0, d1, d2, g0, g1, g2⟩ := o1.pv3
  simp only at d0 d1 d2
  have bF := ((bX.setCell (p := ⟨w.heap.size + 1, 0, none⟩) (by simp) (.int .i64 m1)).setCell (p := ⟨w.heap.size + 1, 1, none⟩) (by simp) (.int .i64 m2)).setCell (p := ⟨w.heap.size + 1, 2, none⟩) (by simp) (.int .i64 m3)
  obtain ⟨y0, y1, y2, _, _, _⟩ := (o1.put3 (q := (m1, m2, m3))).pv3
  simp only at y0 y1 y2
  go_wp2
  exact bodyPost_ret (v := .agg #[.int .i64 m1, .int .i64 m2, .int .i64 m3]) (by simp [results, Try.results23, go_sem, y0, y1, y2]) rfl ⟨by rw [HM.out], bF⟩

/-- The greatest of a list that is not empty. -/
theorem ref_maxstep (q p : Int × Int × Int) : pmaxStep q p = if pgreater p.1 p.2.1 p.2.2 q.1 q.2.1 q.2.2 = true then p else q := by
  unfold pmaxStep
  rw [pcmp_greater]
  by_cases h : pgreater p.1 p.2.1 p.2.2 q.1 q.2.1 q.2.2 = true
  · simp [h]
  · simp [h]
    split <;> simp

end Go.Proofs.Ytpaoolcnoflhiaa
