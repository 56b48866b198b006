/-
  WHEEL: the walk of the statement WheelMoves.
-/
import Derived.Test.YtjipkgnkabocjaaWhlP
namespace Go.Proofs.Ytjipkgnkabocjaa
open Go.RowKit
attribute [local go_sem] depUpon Sp.ok

/-- A timer never moves to a higher ring. -/
theorem tick_less {now a : Int} (h0 : 0 ≤ now) (h1 : now < a) (h2 : a < 16777216) : rg (now + 1) a ≤ rg now a := by
  have h3 := rg_hi now a
  have h4 := rg_hi (now + 1) a
  have hc : rg now a = 0 ∨ rg now a = 1 ∨ rg now a = 2 ∨ rg now a = 3 := by omega
  rcases hc with e | e | e | e
  · rw [e]
    have e' := rg_0.1 e
    refine Nat.le_of_eq (rg_0.2 ?_)
    simp only [dg] at *
    omega
  · rw [e]
    have e' := rg_1.1 e
    have n3 : rg (now + 1) a ≠ 3 := fun q => by
      have := rg_3.1 q
      simp only [dg] at *
      omega
    have n2 : rg (now + 1) a ≠ 2 := fun q => by
      have := rg_2.1 q
      simp only [dg] at *
      omega
    omega
  · rw [e]
    have e' := rg_2.1 e
    have n3 : rg (now + 1) a ≠ 3 := fun q => by
      have := rg_3.1 q
      simp only [dg] at *
      omega
    omega
  · omega
/-- How far all have to go. -/
def pot (now : Int) (L : TL) : Nat := (L.map fun x => rg now x.2).sum
theorem pot_cons (now : Int) (x : Int × Int) (L : TL) : pot now (x :: L) = rg now x.2 + pot now L := by simp [pot]
theorem pot_step {now : Int} (h0 : 0 ≤ now) : ∀ {L : TL}, (∀ x ∈ L, now < x.2 ∧ x.2 < 16777216) → movA now L + pot (now + 1) (stayF now L) ≤ pot now L
  | [], _ => Nat.le_refl _
  | x :: L, h => by
    have ih := pot_step h0 fun y hy => h y (List.mem_cons_of_mem _ hy)
    have hx := h x (by simp)
    rw [pot_cons]
    unfold movA stayF at *
    by_cases e : x.2 = now + 1
    · rw [List.filter_cons_of_neg (by simp [e]), List.filter_cons_of_neg (by simp [e])]
      omega
    · have hle := tick_less h0 hx.1 hx.2
      by_cases e2 : rg (now + 1) x.2 = rg now x.2
      · rw [List.filter_cons_of_neg (by simp [e2]), List.filter_cons_of_pos (by simp [e]), pot_cons]
        omega
      · rw [List.filter_cons_of_pos (by simp [e, e2]), List.filter_cons_of_pos (by simp [e]), pot_cons, List.length_cons]
        omega
theorem pot_le (now : Int) : ∀ L : TL, pot now L ≤ 3 * L.length
  | [] => Nat.le_refl _
  | x :: L => by
    have ih := pot_le now L
    have := rg_hi now x.2
    rw [pot_cons, List.length_cons]
    omega
theorem filter_one {x : Int × Int} : ∀ {L : TL}, TS L → x ∈ L → L.filter (fun y => decide (y.1 = x.1)) = [x]
  | [], _, h => by cases h
  | y :: L, hs, h => by
    obtain ⟨h1, h2⟩ := List.pairwise_cons.1 hs
    rcases List.mem_cons.1 h with rfl | hx
    · rw [List.filter_cons_of_pos (by simp), List.filter_eq_nil_iff.2 fun z hz => by have := h1 z hz; simp; omega]
    · have := h1 x hx
      rw [List.filter_cons_of_neg (by simp; omega), filter_one h2 hx]
/-- How many of those below i have moved. -/
def cnt (now : Int) (L : TL) (i : Nat) : Nat := (L.filter fun x => decide (x.1 < (i : Int) ∧ rg (now + 1) x.2 ≠ rg now x.2)).length
theorem cnt_zero (now : Int) {L : TL} (h : ∀ x ∈ L, ∃ j : Nat, x.1 = (j : Int)) : cnt now L 0 = 0 := by
  unfold cnt
  rw [List.filter_eq_nil_iff.2 fun x hx => by obtain ⟨j, e⟩ := h x hx; simp; omega]; rfl
theorem cnt_none (now : Int) {L : TL} {i : Nat} (h : tget L (i : Int) = none) : cnt now L (i + 1) = cnt now L i := by
  unfold cnt
  rw [filter_eq fun x hx => ?_]
  have := tget_none.1 h x hx
  rw [decide_eq_decide]
  constructor
  · rintro ⟨q1, q2⟩; exact ⟨by omega, q2⟩
  · rintro ⟨q1, q2⟩; exact ⟨by omega, q2⟩
theorem cnt_some (now : Int) {L : TL} (hs : TS L) {i : Nat} {x : Int × Int} (h : tget L (i : Int) = some x) : cnt now L (i + 1) = cnt now L i + (if rg (now + 1) x.2 ≠ rg now x.2 then 1 else 0) := by
  obtain ⟨hx, he⟩ := tget_some h
  have h1 := filter_or (fun y : Int × Int => decide (y.1 < (i : Int) ∧ rg (now + 1) y.2 ≠ rg now y.2)) (fun y => decide (y.1 = x.1) && decide (rg (now + 1) y.2 ≠ rg now y.2)) L (fun y _ q => by
    simp only [decide_eq_true_eq, Bool.and_eq_true] at q; omega)
  have h2 := h1.length_eq
  rw [List.length_append] at h2
  have h3 : (L.filter fun y => decide (y.1 = x.1) && decide (rg (now + 1) y.2 ≠ rg now y.2)).length = if rg (now + 1) x.2 ≠ rg now x.2 then 1 else 0 := by
    have e1 : L.filter (fun y : Int × Int => decide (y.1 = x.1) && decide (rg (now + 1) y.2 ≠ rg now y.2)) = (L.filter fun y : Int × Int => decide (y.1 = x.1)).filter fun y : Int × Int => decide (rg (now + 1) y.2 ≠ rg now y.2) := by
      rw [List.filter_filter]
      exact filter_eq fun y _ => Bool.and_comm _ _
    rw [e1, filter_one hs hx]
    by_cases q : rg (now + 1) x.2 = rg now x.2
    · rw [List.filter_cons_of_neg (by simp [q]), if_neg (by simp [q])]; rfl
    · rw [List.filter_cons_of_pos (by simp [q]), if_pos q]; rfl
  rw [h3] at h2
  unfold cnt
  rw [h2]
  rw [filter_eq fun y _ => ?_]
  rw [← Bool.decide_and, ← Bool.decide_or, decide_eq_decide]
  constructor
  · rintro ⟨q1, q2⟩
    by_cases q : y.1 = x.1
    · exact .inr ⟨q, q2⟩
    · exact .inl ⟨by omega, q2⟩
  · rintro (⟨q1, q2⟩ | ⟨q1, q2⟩)
    · exact ⟨by omega, q2⟩
    · exact ⟨by omega, q2⟩
theorem cnt_all (now : Int) {L : TL} {m : Nat} (h : ∀ x ∈ L, x.1 < (m : Int)) : cnt now (stayF now L) m = movA now L := by
  unfold cnt movA stayF
  rw [List.filter_filter]
  rw [filter_eq fun x hx => ?_]
  have := h x hx
  rw [← Bool.decide_and, decide_eq_decide]
  constructor
  · rintro ⟨⟨_, q2⟩, q3⟩; exact ⟨q3, q2⟩
  · rintro ⟨q3, q2⟩; exact ⟨⟨this, q2⟩, q3⟩

set_option maxRecDepth 100000 in
set_option maxHeartbeats 4000000 in
theorem law_whlmoves (now : Int) (A : Option Addr) (m c : Nat) (zs : List Int) (w : World) (_ : I64 now) (ga : IntsArg w A m zs) :
    Calls Try.prog 4 #[.int .i64 now, .slice A m c] w fun e w' => e = .returned (.bool true) ∧ Below w.heap.size w w' := by
  have HAW := Lib.hid (fun w => whl_awake w)
  by_cases h40 : 40 < m
  · have h1 : (40 : Int) < (m : Int) := by omega
    clear ga
    go_enter Try.func4, Try.ntmps4
    go_wp2_with ((with_reducible go_at_call 9); (with_reducible refine (HAW.out _).mono ?_); rintro e w1 ⟨rfl, b1⟩)
    go_ret
    exact ⟨rfl, b1⟩
  have m1 : (m : Int) ≤ 40 := by omega
  have HZ := Lib.hid ga
  have hzl := ga.len
  have HL1 := Lib.hid (fun w => low_any now 16776916 w (by omega) (by omega))
  have n0 := low_lo now 16776916 (by omega)
  have n1 := low_hi now 16776916 (by omega)
  generalize low now 16776916 = n at *
  have HN1 := Lib.hid (l_new n w (by omega) (by omega))
  clear ga
  go_enter Try.func4, Try.ntmps4
  go_wp2_with (first
    | ((with_reducible go_at_call 10); (with_reducible refine (HL1.out _).mono ?_); rintro e w' ⟨rfl, rfl⟩)
    | ((with_reducible go_at_call 11); (with_reducible refine HN1.out.mono ?_); rintro e w1 ⟨rfl, s1, b1⟩; have S1 := Lib.hid s1; clear s1)
    | (refine wpl_alloc_agg _ rfl 29 rfl (ints (List.replicate 40 0)) zero_forty ?_; intro w2 o2 b2 z2; clear z2; have O2 := Lib.hid o2; clear o2))
  have S2 := Lib.hid (S1.out.keep b2)
  have hgl := S1.out.gl
  have b12 := Ext.trans b1 b2
  have hB := b1.size
  generalize w1.heap.size = h7 at *
  have HG := Lib.hid (show h7 ≠ w.heap.size by omega)
  go_loopw [10] (fun q wr => ∃ (i : Nat) (F5 : FW) (L : TL) (rl : List Int), q = .int .i64 (i : Int) ∧ i ≤ m ∧ L.length ≤ i ∧ WL wr w.heap.size w.heap.size n F5 L ∧ Own wr h7 29 (ints rl) ∧ rl.length = 40 ∧ (∀ x ∈ L, ∃ j : Nat, x.1 = (j : Int) ∧ j < i ∧ rl[j]? = some ((rg n x.2 : Nat) : Int)) ∧ Ext w wr) (fun q _ => m - (intOf q).toNat)
  case atStart => exact ⟨0, F0, [], List.replicate 40 0, rfl, by omega, Nat.le_refl _, S2.out, O2.out, rfl, by simp, b12⟩
  case round =>
    clear S1 S2 b1 b2 b12 O2 hgl
    obtain ⟨i, F5, L, rl, rfl, hi, hll, h1, hO, hal, hat, h4⟩ := hrel
    by_cases hlt : i < m
    · have i1' : (i : Int) < (m : Int) := by omega
      have i0' : (0 : Int) ≤ (i : Int) := by omega
      have i2' : (i : Int) < 40 := by omega
      obtain ⟨b, off, rfl, hc⟩ := (HZ.out.rd.keep h4).int (k := i) (by omega)
      generalize zs[i]'(by omega) = z at *
      have HL3 := Lib.hid (fun w => low_any z 100000 w (by omega) (by omega))
      have a0 := low_lo z 100000 (by omega)
      have a1 := low_hi z 100000 (by omega)
      generalize low z 100000 = d at *
      have hA := l_arm _ _ n F5 L (i : Int) (n + 1 + d) wr h1
      have HA := Lib.hid h1
      have HO := Lib.hid hO
      by_cases hbig : 16777216 ≤ n + 1 + d
      · have e2 : armE L n (i : Int) (n + 1 + d) = 2 := by unfold armE; rw [if_pos (by omega)]
        have e3 : armL L n (i : Int) (n + 1 + d) = L := by unfold armL; rw [if_neg (by rw [e2]; omega)]
        rw [e2, e3] at hA
        have HAA := Lib.hid hA
        clear h1 hO hA e2 e3
        go_wp2_with (first
          | ((with_reducible go_at_call 10); (with_reducible refine (HL3.out _).mono ?_); rintro e w' ⟨rfl, rfl⟩)
          | ((with_reducible go_at_call 12); (with_reducible refine HAA.out.mono ?_); rintro e w4 ⟨rfl, F7, s4, t4⟩; have o4 := HA.out.own t4 HO.out HG.out (by decide); have c4 := (o4.cell i).trans (ints_get rl i (by omega)); have f4 := o4.frozen i; have S4 := Lib.hid (And.intro s4 o4); clear s4 o4))
        go_roundw
        case rel =>
          have hs := S4.out.2.set i (.int .i64 (-1))
          rw [ints_set] at hs
          refine ⟨i + 1, F7, L, rl.set i (-1), by go_num, by omega, by omega, S4.out.1.set S4.out.2 HG.out (by decide) _ _, hs, by rw [List.length_set]; exact hal, fun x hx => ?_, (Below.trans h4 (HA.out.below t4)).setCell (p := ⟨h7, i, none⟩) hB _⟩
          obtain ⟨j, q1, q2, q3⟩ := hat x hx
          exact ⟨j, q1, by omega, by rw [List.getElem?_set_ne (by omega)]; exact q3⟩
        case measure => simp [intOf]; omega
      · obtain ⟨e2, e3⟩ := arm_last (L := L) (n := n) (id := (i : Int)) (at_ := n + 1 + d) (fun y hy => by obtain ⟨j, q1, q2, _⟩ := hat y hy; omega) (by omega) (by omega) (by omega) (by omega)
        rw [e2, e3] at hA
        have HAA := Lib.hid hA
        have HPL := Lib.hid (fun F w (h : WL w w.heap.size w.heap.size n F (L ++ [((i : Int), n + 1 + d)])) => h)
        have HP := Lib.hid (fun B g F w (h : WL w B g n F (L ++ [((i : Int), n + 1 + d)])) => show Calls Try.prog 15 #[.pointer (some ⟨g, 0, none⟩), .int .i64 (i : Int)] w fun e w' => e = .returned (.tuple #[.int .i64 ((rg n (n + 1 + d) : Nat) : Int), .int .i64 (dg (n + 1 + d) (rg n (n + 1 + d))), .bool true]) ∧ Below w.heap.size w w' from by
          have hp := l_place B g n F (L ++ [((i : Int), n + 1 + d)]) (i : Int) w h
          have hg := tget_of h.srt (x := ((i : Int), n + 1 + d)) (by simp)
          rwa [show placeV (L ++ [((i : Int), n + 1 + d)]) n (i : Int) = (((rg n (n + 1 + d) : Nat) : Int), dg (n + 1 + d) (rg n (n + 1 + d)), true) by unfold placeV; rw [hg]] at hp)
        clear h1 hO hA e2 e3 HPL hbig
        go_wp2_with (first
          | ((with_reducible go_at_call 10); (with_reducible refine (HL3.out _).mono ?_); rintro e w' ⟨rfl, rfl⟩)
          | ((with_reducible go_at_call 12); (with_reducible refine HAA.out.mono ?_); rintro e w4 ⟨rfl, F7, s4, t4⟩; have o4 := HA.out.own t4 HO.out HG.out (by decide); have S4 := Lib.hid s4; have O4 := Lib.hid o4; clear s4 o4)
          | ((with_reducible go_at_call 15); (with_reducible refine (HP.out _ _ _ _ S4.out).mono ?_); rintro e w5 ⟨rfl, b5⟩; have o5 := O4.out.keep b5; have c5 := (o5.cell i).trans (ints_get rl i (by omega)); have f5 := o5.frozen i; have O5 := Lib.hid o5; clear o5))
        go_roundw
        case rel =>
          have hs := O5.out.set i (.int .i64 ((rg n (n + 1 + d) : Nat) : Int))
          rw [ints_set] at hs
          refine ⟨i + 1, F7, _, rl.set i ((rg n (n + 1 + d) : Nat) : Int), by go_num, by omega, by simp; omega, (S4.out.keep b5).set O5.out HG.out (by decide) _ _, hs, by rw [List.length_set]; exact hal, fun x hx => ?_, (Below.trans (Below.trans h4 (HA.out.below t4)) (Below.mono b5 S4.out.size)).setCell (p := ⟨h7, i, none⟩) hB _⟩
          rcases List.mem_append.1 hx with hx | hx
          · obtain ⟨j, q1, q2, q3⟩ := hat x hx
            exact ⟨j, q1, by omega, by rw [List.getElem?_set_ne (by omega)]; exact q3⟩
          · rw [List.mem_singleton] at hx
            subst hx
            exact ⟨i, rfl, by omega, by rw [List.getElem?_set_self (by omega)]⟩
        case measure => simp [intOf]; omega
    · obtain rfl : i = m := by omega
      have HP0 := Lib.hid (show pot n L ≤ 3 * i by have := pot_le n L; omega)
      have HAT := Lib.hid hat
      have HO := Lib.hid hO
      have HW := Lib.hid h1
      clear h1 hO hat hll
      go_wp2
      go_loopw [8, 9, 11] (fun v u q wr => ∃ (t T : Nat) (F5 : FW) (L : TL) (rl : List Int), v = .int .i64 (T : Int) ∧ u = .int .i64 (T : Int) ∧ q = .int .i64 (t : Int) ∧ t ≤ 299 ∧ WL wr w.heap.size w.heap.size (n + (t : Int)) F5 L ∧ Own wr h7 29 (ints rl) ∧ rl.length = 40 ∧ (∀ x ∈ L, ∃ j : Nat, x.1 = (j : Int) ∧ j < i ∧ rl[j]? = some ((rg (n + (t : Int)) x.2 : Nat) : Int)) ∧ T + pot (n + (t : Int)) L ≤ 3 * i ∧ Ext w wr) (fun _ _ q _ => 299 - (intOf q).toNat)
      case atStart => exact ⟨0, 0, F5, L, rl, rfl, rfl, rfl, by omega, by rw [show n + ((0 : Nat) : Int) = n by omega]; exact HW.out, HO.out, hal, by rw [show n + ((0 : Nat) : Int) = n by omega]; exact HAT.out, by rw [show n + ((0 : Nat) : Int) = n by omega]; have := HP0.out; omega, h4⟩
      case round =>
        clear HW HO HAT HP0 h4 hlt hi hal
        obtain ⟨t, T, F6, L, rl, rfl, rfl, rfl, ht, h1, hO, hal, hat, hpt, h4⟩ := hrel
        have T1 : (T : Int) ≤ 120 := by omega
        have T0 : (0 : Int) ≤ (T : Int) := by omega
        by_cases hlt : t < 299
        · have i1' : (t : Int) < 299 := by omega
          have hnow : 0 ≤ n + (t : Int) := by omega
          have HNW := Lib.hid hnow
          have HW := Lib.hid h1
          have HT := Lib.hid (l_tick _ _ _ F6 _ wr h1 (by omega))
          have HO := Lib.hid hO
          have hst := pot_step hnow h1.fut
          have HST := Lib.hid (show T + movA (n + (t : Int)) L + pot (n + (t : Int) + 1) (stayF (n + (t : Int)) L) ≤ 3 * i by omega)
          have HCA := Lib.hid (cnt_all (n + (t : Int)) (L := L) (m := i) (fun x hx => by obtain ⟨j, q1, q2, _⟩ := hat x hx; omega))
          have HAT := Lib.hid (show ∀ x ∈ stayF (n + (t : Int)) L, ∃ j : Nat, x.1 = (j : Int) ∧ j < i ∧ rl[j]? = some ((rg (n + (t : Int)) x.2 : Nat) : Int) from fun x hx => hat x (List.mem_filter.1 hx).1)
          have HLE := Lib.hid (show ∀ x ∈ stayF (n + (t : Int)) L, rg (n + (t : Int) + 1) x.2 ≤ rg (n + (t : Int)) x.2 from fun x hx => by
            have := h1.fut x (List.mem_filter.1 hx).1
            exact tick_less hnow this.1 this.2)
          have mb : ((movA (n + (t : Int)) L : Nat) : Int) ≤ 120 := by omega
          have mb0 : (0 : Int) ≤ ((movA (n + (t : Int)) L : Nat) : Int) := by omega
          clear h1 hO hat hst
          go_upto_region 20 with ((with_reducible go_at_call 13); (with_reducible refine HT.out.mono ?_); rintro e w5 ⟨A5, c5, F7, rfl, r5, s5, t5⟩)
          have S5 := Lib.hid s5
          have O5 := Lib.hid (HW.out.own t5 HO.out HG.out (by decide))
          have b5 := Below.trans h4 (HW.out.below t5)
          have HC0 := Lib.hid (cnt_zero (n + (t : Int)) (L := stayF (n + (t : Int)) L) (fun x hx => by obtain ⟨j, q, _⟩ := HAT.out x hx; exact ⟨j, q⟩))
          clear s5 r5 t5 HW HT HO
          generalize stayF (n + (t : Int)) L = L2 at *
          generalize movA (n + (t : Int)) L = M at *
          generalize hnw : n + (t : Int) = nw at *
          have HNE := Lib.hid (show nw + 1 = n + ((t + 1 : Nat) : Int) by omega)
          clear hnw
          go_wp2
          go_loopw [9, 14] (fun u q wr => ∃ (k : Nat) (F8 : FW) (r2 : List Int), u = .int .i64 ((T + cnt nw L2 k : Nat) : Int) ∧ q = .int .i64 (k : Int) ∧ k ≤ i ∧ WL wr w.heap.size w.heap.size (nw + 1) F8 L2 ∧ Own wr h7 29 (ints r2) ∧ r2.length = 40 ∧ (∀ x ∈ L2, ∃ j : Nat, x.1 = (j : Int) ∧ j < i ∧ r2[j]? = some (((if j < k then rg (nw + 1) x.2 else rg nw x.2) : Nat) : Int)) ∧ Ext w wr) (fun _ q _ => i - (intOf q).toNat)
          case atStart => exact ⟨0, F7, rl, by rw [HC0.out]; rfl, rfl, by omega, S5.out, O5.out, hal, fun x hx => by
            obtain ⟨j, q1, q2, q3⟩ := HAT.out x hx
            exact ⟨j, q1, q2, by rw [if_neg (by omega)]; exact q3⟩, b5⟩
          case round =>
            clear S5 O5 HC0 HAT b5 hal
            obtain ⟨k, F8, r2, rfl, rfl, hk, h1, hO, hal, hat, h5⟩ := hrel
            have hcl : cnt nw L2 k ≤ 64 := Nat.le_trans (List.length_filter_le _ _) h1.len64
            by_cases hkl : k < i
            · have k1' : (k : Int) < (i : Int) := by omega
              have k0' : (0 : Int) ≤ (k : Int) := by omega
              have k2' : (k : Int) < 40 := by omega
              have hp := l_place _ _ (nw + 1) F8 L2 (k : Int) wr h1
              have HW := Lib.hid h1
              have HO := Lib.hid hO
              cases htg : tget L2 (k : Int) with
              | none =>
                rw [show placeV L2 (nw + 1) (k : Int) = (0, 0, false) by unfold placeV; rw [htg]] at hp
                have HP := Lib.hid hp
                have HCN := Lib.hid (cnt_none nw htg)
                have HNO := Lib.hid (tget_none.1 htg)
                clear hp htg h1 hO
                go_wp2_with ((with_reducible go_at_call 15); (with_reducible refine (HP.out).mono ?_); rintro e w6 ⟨rfl, b6⟩)
                go_roundw
                case rel => exact ⟨k + 1, F8, r2, by rw [HCN.out, Int.natCast_add], by go_num, by omega, HW.out.keep b6, HO.out.keep b6, hal, fun x hx => by
                  obtain ⟨j, q1, q2, q3⟩ := hat x hx
                  have hne : j ≠ k := fun q => HNO.out x hx (by rw [q1, q])
                  refine ⟨j, q1, q2, ?_⟩
                  rw [q3]
                  by_cases hj : j < k
                  · rw [if_pos hj, if_pos (by omega)]
                  · rw [if_neg hj, if_neg (by omega)], Ext.trans h5 b6⟩
                case measure => simp [intOf]; omega
              | some x =>
                have hsr := h1.srt
                obtain ⟨hx, he⟩ := tget_some htg
                rw [show placeV L2 (nw + 1) (k : Int) = (((rg (nw + 1) x.2 : Nat) : Int), dg x.2 (rg (nw + 1) x.2), true) by unfold placeV; rw [htg]] at hp
                have d0 := dg_lo x.2 (rg (nw + 1) x.2)
                have d1 := dg_hi x.2 (rg (nw + 1) x.2)
                have HP := Lib.hid hp
                have hcs := cnt_some nw hsr htg
                have hle := HLE.out x hx
                obtain ⟨j, q1, q2, q3⟩ := hat x hx
                obtain rfl : j = k := by omega
                rw [if_neg (Nat.lt_irrefl _)] at q3
                have hjl : j < r2.length := by omega
                have hjv := (List.getElem?_eq_some_iff.1 q3).2
                have x0 := (hO.cell j).trans (ints_get r2 j hjl)
                rw [hjv] at x0
                have HAT2 := Lib.hid (show ∀ y ∈ L2, ∃ q : Nat, y.1 = (q : Int) ∧ q < i ∧ (r2.set j ((rg (nw + 1) x.2 : Nat) : Int))[q]? = some (((if q < j + 1 then rg (nw + 1) y.2 else rg nw y.2) : Nat) : Int) from fun y hy => by
                  obtain ⟨q, p1, p2, p3⟩ := hat y hy
                  refine ⟨q, p1, p2, ?_⟩
                  by_cases e : q = j
                  · subst e
                    have := hsr.inj hy hx (by rw [p1, q1])
                    subst this
                    rw [List.getElem?_set_self hjl, if_pos (by omega)]
                  · rw [List.getElem?_set_ne (fun e' => e e'.symm), p3]
                    by_cases hq : q < j
                    · rw [if_pos hq, if_pos (by omega)]
                    · rw [if_neg hq, if_neg (by omega)])
                generalize dg x.2 (rg (nw + 1) x.2) = dv at *
                generalize rg (nw + 1) x.2 = ρ' at *
                generalize rg nw x.2 = ρ at *
                have td0 : decide (dv < 0) = false := decide_eq_false (by omega)
                have td1 : decide (63 < dv) = false := decide_eq_false (by omega)
                have td2 : decide ((ρ : Int) < (ρ' : Int)) = false := decide_eq_false (by omega)
                have td3 : ¬ ρ < ρ' := by omega
                have td4 : decide ((ρ' : Int) < 0) = false := decide_eq_false (by omega)
                clear hp htg h1 hO hx he q1 q3 hjv hsr
                by_cases hmv : ρ' = ρ
                · subst hmv
                  have HCS := Lib.hid (show cnt nw L2 (j + 1) = cnt nw L2 j by rw [hcs]; simp)
                  clear hcs hle
                  go_wp2_with (((with_reducible go_at_call 15); (with_reducible refine HP.out.mono ?_); rintro e w6 ⟨rfl, b6⟩; replace x0 := cell_keep b6 x0; have f6 := (HO.out.keep b6).frozen j))
                  go_roundw
                  case rel =>
                    have hs := (HO.out.keep b6).set j (.int .i64 (ρ' : Int))
                    rw [ints_set] at hs
                    exact ⟨j + 1, F8, _, by rw [HCS.out, Int.natCast_add], by go_num, by omega, (HW.out.keep b6).set (HO.out.keep b6) HG.out (by decide) _ _, hs, by rw [List.length_set]; exact hal, HAT2.out, (Ext.trans h5 b6).setCell (p := ⟨h7, j, none⟩) hB _⟩
                  case measure => simp [intOf]; omega
                · have hlt3 : (ρ' : Int) < (ρ : Int) := by omega
                  have hlt4 : ρ' < ρ := by omega
                  have HCS := Lib.hid (show cnt nw L2 (j + 1) = cnt nw L2 j + 1 by rw [hcs, if_pos hmv])
                  have cb : ((cnt nw L2 j : Nat) : Int) ≤ 64 := by omega
                  have cb0 : (0 : Int) ≤ ((cnt nw L2 j : Nat) : Int) := by omega
                  clear hcs hle hmv
                  go_wp2_with (((with_reducible go_at_call 15); (with_reducible refine HP.out.mono ?_); rintro e w6 ⟨rfl, b6⟩; replace x0 := cell_keep b6 x0; have f6 := (HO.out.keep b6).frozen j))
                  go_roundw
                  case rel =>
                    have hs := (HO.out.keep b6).set j (.int .i64 (ρ' : Int))
                    rw [ints_set] at hs
                    exact ⟨j + 1, F8, _, by rw [HCS.out]; go_num, by go_num, by omega, (HW.out.keep b6).set (HO.out.keep b6) HG.out (by decide) _ _, hs, by rw [List.length_set]; exact hal, HAT2.out, (Ext.trans h5 b6).setCell (p := ⟨h7, j, none⟩) hB _⟩
                  case measure => simp [intOf]; omega
            · obtain rfl : k = i := by omega
              have HW := Lib.hid h1
              have HO := Lib.hid hO
              rw [HCA.out]
              have HAT2 := Lib.hid (show ∀ x ∈ L2, ∃ j : Nat, x.1 = (j : Int) ∧ j < k ∧ r2[j]? = some ((rg (nw + 1) x.2 : Nat) : Int) from fun x hx => by
                obtain ⟨j, q1, q2, q3⟩ := hat x hx
                rw [if_pos q2] at q3
                exact ⟨j, q1, q2, q3⟩)
              clear h1 hO hat hkl
              go_wp2
              go_roundw
              case rel => exact ⟨t + 1, T + M, F8, L2, r2, by go_num, by go_num, by go_num, by omega, by rw [← HNE.out]; exact HW.out, HO.out, hal, by rw [← HNE.out]; exact HAT2.out, by rw [← HNE.out]; exact HST.out, h5⟩
              case measure => simp [intOf]; omega
        · obtain rfl : t = 299 := by omega
          have h3 : (T : Int) ≤ 3 * (i : Int) := by omega
          clear h1 hO hat hpt
          rw [show ((299 : Nat) : Int) = 299 from rfl]
          go_wp2_with ((with_reducible go_at_call 9); (with_reducible refine (HAW.out _).mono ?_); rintro e w8 ⟨rfl, b8⟩)
          go_ret
          exact ⟨rfl, Ext.trans h4 b8⟩

end Go.Proofs.Ytjipkgnkabocjaa
