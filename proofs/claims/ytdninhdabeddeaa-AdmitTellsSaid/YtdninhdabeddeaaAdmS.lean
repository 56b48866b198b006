/-
  WALKS of the statement AdmitAhead: has; the plain law: what comes ahead of a lower one is a part of what comes ahead of the higher one's.
-/
import Derived.Test.YtdninhdabeddeaaAdmR
namespace Go.Proofs.Ytdninhdabeddeaa
open Go.RowKit
attribute [local go_sem] depUpon Sp.ok

/-- The place behind the first element that is p, from a place on. -/
def hasF (l : List (Int × Int)) (p : Int × Int) : Nat → Nat → Int × Bool
  | 0, _ => (0, false)
  | m + 1, from_ => if l[from_]? = some p then ((from_ : Int) + 1, true) else hasF l p m (from_ + 1)
def hasP (l : List (Int × Int)) (from_ : Nat) (p : Int × Int) : Int × Bool := hasF l p (l.length - from_) from_
theorem hasP_yes {l : List (Int × Int)} {i : Nat} {p : Int × Int} (hi : i < l.length) (h : l[i] = p) : hasP l i p = ((i : Int) + 1, true) := by
  unfold hasP
  obtain ⟨m, hm⟩ : ∃ m, l.length - i = m + 1 := ⟨l.length - i - 1, by omega⟩
  rw [hm, hasF, if_pos (by rw [List.getElem?_eq_getElem hi, h])]
theorem hasP_no {l : List (Int × Int)} {i : Nat} {p : Int × Int} (hi : i < l.length) (h : l[i] ≠ p) : hasP l i p = hasP l (i + 1) p := by
  unfold hasP
  obtain ⟨m, hm⟩ : ∃ m, l.length - i = m + 1 := ⟨l.length - i - 1, by omega⟩
  have e : l.length - (i + 1) = m := by omega
  rw [hm, e, hasF, if_neg (by rw [List.getElem?_eq_getElem hi]; simpa using h)]
theorem hasP_end {l : List (Int × Int)} {i : Nat} {p : Int × Int} (hi : l.length ≤ i) : hasP l i p = (0, false) := by
  unfold hasP
  have e : l.length - i = 0 := by omega
  rw [e, hasF]
/-- A part of the rest: the place is found, and what follows is a part of what follows. -/
theorem hasP_sub {p : Int × Int} {b : List (Int × Int)} : ∀ (m : Nat) (l : List (Int × Int)) (i : Nat), l.length - i = m → List.Sublist (p :: b) (l.drop i) → ∃ j : Nat, hasP l i p = ((j : Int), true) ∧ j ≤ l.length ∧ List.Sublist b (l.drop j)
  | 0, l, i, hm, h => by
    rw [List.drop_eq_nil_of_le (by omega)] at h
    cases h
  | m + 1, l, i, hm, h => by
    have hi : i < l.length := by omega
    rw [List.drop_eq_getElem_cons hi] at h
    by_cases he : l[i] = p
    · refine ⟨i + 1, by rw [hasP_yes hi he]; simp, by omega, ?_⟩
      cases h with
      | cons _ h => exact (List.sublist_cons_self _ _).trans h
      | cons_cons _ h => exact h
    · rw [hasP_no hi he]
      refine hasP_sub m l (i + 1) (by omega) ?_
      cases h with
      | cons _ h => exact h
      | cons_cons _ h => exact absurd rfl he

set_option maxRecDepth 100000 in
theorem size_prt : (Try.prog.info? 36).map (·.size) = some 2 := by kernel_rfl

theorem eql_part (a1 a2 b1 b2 : Int) (w : World) : (binOp .eql 36 (.agg #[.int .i64 a1, .int .i64 a2]) (.agg #[.int .i64 b1, .int .i64 b2])).run Try.prog w = .ok (.bool (decide ((a1, a2) = (b1, b2)))) w := by
  by_cases h1 : a1 = b1
  · subst h1
    by_cases h2 : a2 = b2
    · subst h2; go_simp
    · have h4 : (a2 == b2) = false := by simp [h2]
      go_simp
  · have h4 : (a1 == b1) = false := by simp [h1]
    go_simp

set_option maxRecDepth 100000 in
set_option maxHeartbeats 2000000 in
theorem l_has (A : Option Addr) (n c : Nat) (l : List (Int × Int)) (f : Nat) (a b : Int) (w : World) (hn : n ≤ 65536) (hf : f ≤ 65536) (hr : Rd w A (pairs l)) (hl : l.length = n) :
    Calls Try.prog 23 #[.slice A n c, .int .i64 (f : Int), .agg #[.int .i64 a, .int .i64 b]] w fun e w' => e = .returned (.tuple #[.int .i64 (hasP l f (a, b)).1, .bool (hasP l f (a, b)).2]) ∧ Below w.heap.size w w' := by
  subst hl
  have oP := Own.new w 36 [.int .i64 a, .int .i64 b]
  have HR := Lib.hid (hr.keep (Ext.alloc w (.cells #[.int .i64 a, .int .i64 b] 36)))
  have hb0 : Ext w (w.alloc (.cells #[.int .i64 a, .int .i64 b] 36)) := Ext.alloc _ _
  clear hr
  generalize hQ : hasP l f (a, b) = q
  have HQ := Lib.hid hQ
  clear hQ
  go_enter Try.func23, Try.ntmps23
  go_wp2
  go_loopw [8] (fun i wr => ∃ k : Nat, i = .int .i64 k ∧ Hid (hasP l k (a, b) = q) ∧ k ≤ 65536 + l.length ∧ Ext (w.alloc (.cells #[.int .i64 a, .int .i64 b] 36)) wr) (fun i _ => l.length - (intOf i).toNat)
  case atStart => exact ⟨f, rfl, HQ, by omega, Ext.refl _⟩
  case round =>
    obtain ⟨k, rfl, HK, hk, hb⟩ := hrel
    by_cases hlt : k < l.length
    · obtain ⟨bb, off, rfl, h1, h2⟩ := (HR.out.keep hb).pair hlt
      have hy := @hasP_yes l k (a, b) hlt
      have hno := @hasP_no l k (a, b) hlt
      have oPr := Lib.hid (oP.keep hb)
      generalize l[k] = x at *
      obtain ⟨xa, xb⟩ := x
      have HC := Lib.hid (show ∀ j v, ([.int .i64 xa, .int .i64 xb] : List Value)[j]? = some v → wr.cell? ⟨bb, off + k * 2 + j, none⟩ = some v by
        intro j v hv
        match j with
        | 0 => simpa using hv ▸ h1
        | 1 => simpa using hv ▸ h2
        | j + 2 => simp at hv)
      have i0' : (0 : Int) ≤ (k : Int) := by omega
      have i1' : (k : Int) < (l.length : Int) := by omega
      have hq2 := fun w => eql_part xa xb a b w
      generalize hqq : decide ((xa, xb) = (a, b)) = qq at *
      have HQQ := Lib.hid hqq
      clear hqq
      have HY := Lib.hid hy
      have HNO := Lib.hid hno
      clear hy hno h1 h2 oP
      go_wp2
      refine wp_region_dep (S := Ext) (C := Ext (wr)) (by kernel_rfl) (by kernel_rfl) rfl Ext.refl (Ext.drew _) ?_
      repeat (refine dep_det (by rfl) (fun K hK => ?_); go_simp; first
        | ((with_reducible refine hK _ ?_); clear hK K)
        | (rw [if_neg (by decide)]; (with_reducible refine hK _ ?_); clear hK K)
        | (refine ⟨_, fun w1 hw1 => ⟨Ext.refl w1, hw1, rfl⟩, hK _ ?_⟩; clear hK K)
        | (apply Exists.intro; refine ⟨fun w1 hw1 => ?_, hK _ ?_⟩
           first
             | (go_simp; first | exact ⟨Ext.refl _, hw1, rfl⟩ | exact ⟨Ext.refl _, rfl⟩)
           clear hK K))
      refine dep_load_rd (by rfl) 36 _ rfl (by kernel_rfl) 2 size_prt bb (off + k * 2) (by rfl) [.int .i64 xa, .int .i64 xb] rfl (by go_simp) Ext.refl (fun w1 hw1 j v hv => cell_keep hw1 (HC.out j v hv)) ?_
      refine dep_load_rd (by rfl) 36 _ rfl (by kernel_rfl) 2 size_prt w.heap.size 0 (by rfl) [.int .i64 a, .int .i64 b] rfl (by go_simp) Ext.refl (fun w1 hw1 j v hv => by rw [Nat.zero_add, (oPr.out.keep hw1).cell j]; exact hv) ?_
      repeat (refine dep_det (by rfl) (fun K hK => ?_); go_simp; first
        | ((with_reducible refine hK _ ?_); clear hK K)
        | (rw [if_neg (by decide)]; (with_reducible refine hK _ ?_); clear hK K)
        | (refine ⟨_, fun w1 hw1 => ⟨Ext.refl w1, hw1, rfl⟩, hK _ ?_⟩; clear hK K))
      refine dep_nil ?_
      intro a' w' hC hE
      obtain rfl := atEnd_nil hE
      clear hE
      have e2 := Ext.trans hb hC
      clear hC
      cases qq
      · have HV : Hid (hasP l (k + 1) (a, b) = q) := Lib.hid (by rw [← HK.out]; exact (HNO.out (of_decide_eq_false HQQ.out)).symm)
        clear hq2
        go_wp2
        go_roundw
        case rel => exact ⟨k + 1, by go_num, HV, by omega, e2⟩
        case measure => simp [intOf]; omega
      · have HV : Hid (q = ((k : Int) + 1, true)) := Lib.hid (by rw [← HK.out]; exact HY.out (of_decide_eq_true HQQ.out))
        clear hq2
        go_wp2
        go_ret2
        exact ⟨by rw [HV.out]; rfl, Ext.trans hb0 e2⟩
    · have HV : Hid (q = (0, false)) := Lib.hid (by rw [← HK.out]; exact hasP_end (by omega))
      clear oP
      go_wp2
      go_ret2
      exact ⟨by rw [HV.out]; rfl, Ext.trans hb0 hb⟩

end Go.Proofs.Ytdninhdabeddeaa
