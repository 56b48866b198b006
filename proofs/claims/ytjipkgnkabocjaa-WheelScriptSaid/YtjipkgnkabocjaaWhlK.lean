/-
  WALKS of package wheel: take (slices.DeleteFunc), turn with take.
-/
import Derived.Test.YtjipkgnkabocjaaWhlJ
import Derived.Test.YtjipkgnkabocjaaDel
namespace Go.Proofs.Ytjipkgnkabocjaa
open Go.RowKit
attribute [local go_sem] depUpon Sp.ok

theorem pairs_set (ps : List (Int × Int)) (k : Nat) (q : Int × Int) : ((pairs ps).set (k * 2) (.int .i64 q.1)).set (k * 2 + 1) (.int .i64 q.2) = pairs (ps.set k q) := by
  induction ps generalizing k with
  | nil => simp [pairs]
  | cons p ps ih =>
    rcases k with _ | k
    · rfl
    · have e : ∀ (xs : List Value) (j : Nat) (v : Value), (([Value.int .i64 p.1, .int .i64 p.2] ++ xs).set (j + 2) v) = [Value.int .i64 p.1, .int .i64 p.2] ++ xs.set j v := fun xs j v => rfl
      have h : pairs (p :: ps) = [Value.int .i64 p.1, .int .i64 p.2] ++ pairs ps := rfl
      have h2 : pairs ((p :: ps).set (k + 1) q) = [Value.int .i64 p.1, .int .i64 p.2] ++ pairs (ps.set k q) := rfl
      rw [h, h2, ← ih k, show (k + 1) * 2 = k * 2 + 2 by omega, show k * 2 + 2 + 1 = (k * 2 + 1) + 2 by omega, e, e]
theorem Row.set2 {w : World} {base : Nat} {e : TypeId} {g n c : Nat} {ps : List (Int × Int)} (h : Row w base e 2 (some ⟨g, 0, none⟩) n c (pairs ps)) (k : Nat) (hk : k < n) (q : Int × Int) :
    (∃ u0 u1, w.cell? ⟨g, k * 2, none⟩ = some u0 ∧ w.cell? ⟨g, k * 2 + 1, none⟩ = some u1) ∧ w.frozen? ⟨g, k * 2, none⟩ = false ∧ w.frozen? ⟨g, k * 2 + 1, none⟩ = false ∧
    Row ((w.setCell ⟨g, k * 2, none⟩ (.int .i64 q.1)).setCell ⟨g, k * 2 + 1, none⟩ (.int .i64 q.2)) base e 2 (some ⟨g, 0, none⟩) n c (pairs (ps.set k q)) := by
  have hl := h.len
  obtain ⟨a0, b0, r0⟩ := h.setAt (k * 2) (by omega) (.int .i64 q.1)
  obtain ⟨a1, b1, _⟩ := h.setAt (k * 2 + 1) (by omega) (.int .i64 q.2)
  obtain ⟨_, _, r1⟩ := r0.setAt (k * 2 + 1) (by omega) (.int .i64 q.2)
  rw [pairs_set] at r1
  exact ⟨⟨_, _, a0.trans (List.getElem?_eq_getElem (by omega)), a1.trans (List.getElem?_eq_getElem (by omega))⟩, b0, b1, r1⟩
theorem pairs_take (ps : List (Int × Int)) (m : Nat) : pairs (ps.take m) = (pairs ps).take (m * 2) := by
  induction ps generalizing m with
  | nil => simp [pairs]
  | cons p ps ih =>
    rcases m with _ | m
    · simp [pairs]
    · have h : pairs (p :: ps) = .int .i64 p.1 :: .int .i64 p.2 :: pairs ps := rfl
      have h2 : pairs ((p :: ps).take (m + 1)) = .int .i64 p.1 :: .int .i64 p.2 :: pairs (ps.take m) := rfl
      rw [h, h2, ih, show (m + 1) * 2 = m * 2 + 1 + 1 by omega, List.take_succ_cons, List.take_succ_cons]
theorem Row.pre2 {w : World} {base : Nat} {e : TypeId} {g n c : Nat} {ps : List (Int × Int)} (h : Row w base e 2 (some ⟨g, 0, none⟩) n c (pairs ps)) {m : Nat} (hm : m ≤ n) : Row w base e 2 (some ⟨g, 0, none⟩) m c (pairs (ps.take m)) := by
  have hl := h.len
  rw [pairs_take]
  rcases h.2 with ⟨hv, _⟩ | ⟨g', cap, cur, hv, hb, hc, hn, hmx, hsz, ht⟩
  · cases hv
  · exact ⟨by rw [List.length_take]; omega, .inr ⟨g', cap, cur, by injection hv with e1 e2 e3; rw [e1, e3], hb, hc, by omega, hmx, hsz, by rw [← ht, List.take_take]; congr 1; omega⟩⟩

theorem run_clear1 (w : World) (g o c : Nat) (ty : TypeId) (u0 u1 : Value) (h0 : w.cell? ⟨g, o, none⟩ = some u0) (h1 : w.cell? ⟨g, o + 1, none⟩ = some u1) (f0 : w.frozen? ⟨g, o, none⟩ = false) (f1 : w.frozen? ⟨g, o + 1, none⟩ = false) :
    (Builtin.clear_ #[ 56 ] ty #[.slice (some ⟨g, o, none⟩) 1 c]).run Try.prog w = .ok (.tuple #[]) ((w.setCell ⟨g, o, none⟩ (.int .i64 0)).setCell ⟨g, o + 1, none⟩ (.int .i64 0)) := by
  have e0 : (⟨g, o, none⟩ : Addr).add 0 = ⟨g, o, none⟩ := by unfold Addr.add; split <;> simp_all
  have e1 : (⟨g, o, none⟩ : Addr).add 1 = ⟨g, o + 1, none⟩ := by unfold Addr.add; split <;> simp_all
  have hz : (Builtin.zeroCells #[.int .i64 0, .int .i64 0] 1).toList = [.int .i64 0, .int .i64 0] := by kernel_rfl
  simp [Builtin.clear_, run_underlying und_slot, hz, storeCells, e0, e1, h0, h1, f0, f1, go_sem]
theorem w_pred (x a id : Int) (h : Nat) (w : World) (hc : w.cell? ⟨h, 0, none⟩ = some (.int .i64 id)) :
    Calls Try.prog 41 #[.agg #[.int .i64 x, .int .i64 a], .pointer (some ⟨h, 0, none⟩)] w fun e w' => e = .returned (.bool (x == id)) ∧ Below w.heap.size w w' := by
  have v0 := cell_keep (Ext.alloc w (.cells #[.int .i64 x, .int .i64 a] 62)) hc
  clear hc
  go_enter Try.func41, Try.ntmps41
  go_wp2
  go_ret
  exact ⟨rfl, Ext.alloc _ _⟩

/-- One of the list has the number, at place k0. -/
structure One (xs : TL) (id : Int) (k0 : Nat) : Prop where
  lt : k0 < xs.length
  hit : (xs[k0]'lt).1 = id
  ne : ∀ k (h : k < xs.length), k ≠ k0 → (xs[k]'h).1 ≠ id

set_option maxRecDepth 100000 in
set_option maxHeartbeats 1000000 in
theorem w_index (A : Option Addr) (n c : Nat) (xs : TL) (id : Int) (h k0 : Nat) (w : World) (hr : Rd w A (pairs xs)) (hn : n ≤ 65536) (hl : xs.length = n) (hO : One xs id k0) (hc : w.cell? ⟨h, 0, none⟩ = some (.int .i64 id)) :
    Calls Try.prog 54 #[.slice A n c, .func (.func 41) #[] #[.pointer (some ⟨h, 0, none⟩)]] w fun e w' => e = .returned (.int .i64 (k0 : Int)) ∧ Below w.heap.size w w' := by
  subst hl
  have HP := Lib.hid (fun x a w' (hb : Ext w w') => w_pred x a id h w' (cell_keep hb hc))
  have HR := Lib.hid hr
  have HO := Lib.hid hO
  have hk0 := hO.lt
  clear hr hO hc
  go_enter Try.func54, Try.ntmps54
  go_wp2
  go_loopw [8] (fun q wr => ∃ i : Nat, q = .int .i64 (i : Int) ∧ i ≤ k0 ∧ Ext w wr) (fun q _ => k0 + 1 - (intOf q).toNat)
  case atStart => exact ⟨0, rfl, by omega, Ext.refl _⟩
  case round =>
    obtain ⟨i, rfl, hi, q2⟩ := hrel
    have hil : i < xs.length := by omega
    obtain ⟨b, o, rfl, d0, d1⟩ := (HR.out.keep q2).pair hil
    have hhit := HO.out.hit
    have hne := HO.out.ne i hil
    have i0' : (0 : Int) ≤ (i : Int) := by omega
    have i1' : (i : Int) < (xs.length : Int) := by omega
    by_cases e : i = k0
    · subst e
      generalize xs[i] = y at *
      obtain ⟨yi, ya⟩ := y
      simp only at d0 d1 hhit
      subst hhit
      have ty : (yi == yi) = true := by simp
      clear hne
      go_wp2_with ((with_reducible go_at_call 41); (with_reducible refine (HP.out _ _ _ q2).mono ?_); rintro e w1 ⟨rfl, b1⟩)
      go_ret
      exact ⟨rfl, Ext.trans q2 b1⟩
    · have hne' := hne e
      generalize xs[i] = y at *
      obtain ⟨yi, ya⟩ := y
      simp only at d0 d1 hne'
      have ty : (yi == id) = false := by simp [hne']
      clear hne hne' hhit
      go_wp2_with ((with_reducible go_at_call 41); (with_reducible refine (HP.out _ _ _ q2).mono ?_); rintro e w1 ⟨rfl, b1⟩)
      go_roundw
      case rel => exact ⟨i + 1, by go_num, by omega, Ext.trans q2 b1⟩
      case measure => simp [intOf]; omega

/-- The list while it moves down: j elements have been looked at. -/
structure Dn (xs D : TL) (k0 j : Nat) : Prop where
  len : D.length = xs.length
  lo : ∀ k, k + 1 < j → D[k]? = (xs.eraseIdx k0)[k]?
  hi : ∀ k, j ≤ k → D[k]? = xs[k]?
theorem Dn.start (xs : TL) (k0 : Nat) : Dn xs xs k0 (k0 + 1) := by
  refine ⟨rfl, fun k hk => ?_, fun _ _ => rfl⟩
  rw [List.getElem?_eraseIdx, if_pos (by omega)]
theorem Dn.step {xs D : TL} {k0 j : Nat} (h : Dn xs D k0 (j + 1)) (hj : j + 1 < xs.length) (hk : k0 ≤ j) (q : Int × Int) (hq : xs[j + 1] = q) : Dn xs (D.set j q) k0 (j + 1 + 1) := by
  refine ⟨by rw [List.length_set]; exact h.len, fun k hk2 => ?_, fun k hk2 => ?_⟩
  · by_cases e : k = j
    · subst e
      rw [List.getElem?_set_self (by rw [h.len]; omega), List.getElem?_eraseIdx, if_neg (by omega), List.getElem?_eq_getElem hj, hq]
    · rw [List.getElem?_set_ne (fun e' => e e'.symm)]
      exact h.lo k (by omega)
  · rw [List.getElem?_set_ne (by omega)]
    exact h.hi k (by omega)
theorem Dn.done {xs D : TL} {k0 m : Nat} (h : Dn xs D k0 (m + 1)) (hk : k0 < xs.length) (hl : xs.length = m + 1) : D.take m = xs.eraseIdx k0 := by
  apply List.ext_getElem?
  intro k
  rw [List.getElem?_take]
  by_cases e : k < m
  · rw [if_pos e]; exact h.lo k (by omega)
  · rw [if_neg e, List.getElem?_eq_none]
    rw [List.length_eraseIdx, if_pos hk]; omega

set_option maxRecDepth 100000 in
set_option maxHeartbeats 4000000 in
theorem w_del (B g m c : Nat) (xs : TL) (id : Int) (h k0 : Nat) (w : World) (hr : Row w B 62 2 (some ⟨g, 0, none⟩) (m + 1) c (pairs xs)) (hn : m < 65536) (hl : xs.length = m + 1) (hO : One xs id k0) (hc : w.cell? ⟨h, 0, none⟩ = some (.int .i64 id)) (hgh : g ≠ h) :
    Calls Try.prog 40 #[.slice (some ⟨g, 0, none⟩) (m + 1) c, .func (.func 41) #[] #[.pointer (some ⟨h, 0, none⟩)]] w fun e w' =>
      e = .returned (.slice (some ⟨g, 0, none⟩) m c) ∧ Row w' B 62 2 (some ⟨g, 0, none⟩) m c (pairs (xs.eraseIdx k0)) ∧ w.grownBy w' (some g) := by
  have HIX := Lib.hid (w_index (some ⟨g, 0, none⟩) (m + 1) c xs id h k0 w hr.rd (by omega) hl hO hc)
  have HP := Lib.hid (fun x a w' (hb : w'.cell? ⟨h, 0, none⟩ = some (.int .i64 id)) => w_pred x a id h w' hb)
  have HO := Lib.hid hO
  have HC := Lib.hid hc
  have HR := Lib.hid hr
  have hk0 := hO.lt
  have hcap := Row.le hr
  have hne1 : ((k0 : Int) == -1) = false := beq_eq_false_iff_ne.2 (by omega)
  clear hr hO hc
  go_enter Try.func40, Try.ntmps40
  go_wp2_with ((with_reducible go_at_call 54); (with_reducible refine (HIX.out).mono ?_); rintro e w1 ⟨rfl, b1⟩)
  have g1 : w.grownBy w1 (some g) := ⟨b1.os, b1.tape, b1.output, b1.size, fun i hi _ => b1.block i hi⟩
  go_loopw [5, 6] (fun v q wr => ∃ (j : Nat) (D : TL), v = .int .i64 (j : Int) ∧ q = .int .i64 ((j : Int) + 1) ∧ k0 ≤ j ∧ j ≤ m ∧ Row wr B 62 2 (some ⟨g, 0, none⟩) (m + 1) c (pairs D) ∧ Dn xs D k0 (j + 1) ∧ w.grownBy wr (some g)) (fun _ q _ => m + 2 - (intOf q).toNat)
  case atStart => exact ⟨k0, xs, rfl, rfl, Nat.le_refl _, by omega, HR.out.keep b1, Dn.start xs k0, g1⟩
  case round =>
    clear g1 b1
    obtain ⟨j, D, rfl, rfl, hkj, hjm, hrow, hD, hg⟩ := hrel
    by_cases hlt : j < m
    · have hDl := hD.len
      have hjl : j + 1 < D.length := by omega
      have hjx : j + 1 < xs.length := by omega
      obtain ⟨b, o, e, d0, d1⟩ := hrow.rd.pair hjl
      injection e with e; injection e with e1 e2
      subst e1; subst e2
      have hsame : D[j + 1] = xs[j + 1] := by
        have := hD.hi (j + 1) (Nat.le_refl _)
        rw [List.getElem?_eq_getElem hjl, List.getElem?_eq_getElem hjx] at this
        injection this
      rw [hsame] at d0 d1
      simp only [Nat.zero_add] at d0 d1
      have hne := HO.out.ne (j + 1) hjx (by omega)
      have hX := fun q hq => hD.step hjx hkj q hq
      generalize xs[j + 1] = y at *
      obtain ⟨yi, ya⟩ := y
      have HD := Lib.hid (hX (yi, ya) rfl)
      simp only at d0 d1 hne
      have ty : (yi == id) = false := by simp [hne]
      have i1' : (j : Int) + 1 < (m : Int) + 1 := by omega
      have i0' : (0 : Int) ≤ (j : Int) := by omega
      have i2' : (j : Int) < (m : Int) + 1 := by omega
      have HG := Lib.hid hg
      have HRO := Lib.hid hrow
      have hcl := hg.cell HC.out (fun e => hgh (by injection e with e; exact e.symm))
      have HV := Lib.hid hcl
      clear hne hX hD hsame hg hrow hcl hjl hjx
      go_upto_region 9 with (((with_reducible go_at_call 41); (with_reducible refine (HP.out _ _ _ (cell_keep (Ext.alloc wr (.cells #[.int .i64 yi, .int .i64 ya] 62)) HV.out)).mono ?_); rintro e w4 ⟨rfl, b4⟩))
      have oX := (Own.new wr 62 [.int .i64 yi, .int .i64 ya]).keep b4
      have b5 := Ext.trans (Ext.alloc wr (.cells #[.int .i64 yi, .int .i64 ya] 62)) b4
      obtain ⟨⟨u0, u1, hc0, hc1⟩, hf0, hf1, q3⟩ := (HRO.out.keep b5).set2 j (by omega) (yi, ya)
      have x0 := oX.cell 0
      have x1 := oX.cell 1
      simp only [List.getElem?_cons_zero, List.getElem?_cons_succ] at x0 x1 q3
      have hg5 : w.grownBy ((w4.setCell ⟨g, j * 2, none⟩ (.int .i64 yi)).setCell ⟨g, j * 2 + 1, none⟩ (.int .i64 ya)) (some g) :=
        (HG.out.trans ⟨b5.os, b5.tape, b5.output, b5.size, fun i hi _ => b5.block i hi⟩).trans ((setCell_grown w4 ⟨g, j * 2, none⟩ (.int .i64 yi)).trans (setCell_grown _ ⟨g, j * 2 + 1, none⟩ (.int .i64 ya)))
      have HQ := Lib.hid (And.intro q3 hg5)
      clear q3 hg5 oX b5 b4 d0 d1
      go_wp2
      go_roundw
      case rel => exact ⟨j + 1, D.set j (yi, ya), by go_num, by go_num, by omega, by omega, HQ.out.1, HD.out, HQ.out.2⟩
      case measure => simp [intOf]; omega
    · obtain rfl : j = m := by omega
      have hDl := hD.len
      obtain ⟨⟨u0, u1, hc0, hc1⟩, hf0, hf1, q3⟩ := hrow.set2 j (by omega) (0, 0)
      have hdone := hD.done hk0 hl
      have hX : Row ((wr.setCell ⟨g, j * 2, none⟩ (.int .i64 0)).setCell ⟨g, j * 2 + 1, none⟩ (.int .i64 0)) B 62 2 (some ⟨g, 0, none⟩) j c (pairs (xs.eraseIdx k0)) := by
        have := q3.pre2 (m := j) (by omega)
        rwa [List.take_set_of_le (Nat.le_refl _), hdone] at this
      have hg5 : w.grownBy ((wr.setCell ⟨g, j * 2, none⟩ (.int .i64 0)).setCell ⟨g, j * 2 + 1, none⟩ (.int .i64 0)) (some g) :=
        hg.trans ((setCell_grown wr ⟨g, j * 2, none⟩ (.int .i64 0)).trans (setCell_grown _ ⟨g, j * 2 + 1, none⟩ (.int .i64 0)))
      have HQ := Lib.hid (And.intro hX hg5)
      have k1' : (j : Int) ≤ (j : Int) + 1 := by omega
      have k2' : (j : Int) + 1 ≤ (c : Int) := by omega
      have k3' : (j : Int) ≤ (c : Int) := by omega
      have k4' : ¬ c - j = 0 := by omega
      have k5' : (0 : Int) ≤ (j : Int) := by omega
      clear hX hg5 q3 hdone hD hg hrow
      have hclr := run_clear1 wr g (j * 2) (c - j) 0 u0 u1 hc0 hc1 hf0 hf1
      go_wp2
      go_ret
      exact ⟨rfl, HQ.out.1, HQ.out.2⟩

end Go.Proofs.Ytjipkgnkabocjaa
