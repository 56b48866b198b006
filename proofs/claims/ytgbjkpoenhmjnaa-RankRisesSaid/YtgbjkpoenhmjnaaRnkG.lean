/-
  WALK of the statement RankRises, chapter 10; its plain laws.
-/
import Derived.Test.YtgbjkpoenhmjnaaRnkE
namespace Go.Proofs.Ytgbjkpoenhmjnaa
open Go.RowKit
attribute [local go_sem] depUpon Sp.ok

theorem nsum2_mono' {a b c d : Int} (h : a ≤ c) (k : b ≤ d) : nsum [a, b] ≤ nsum [c, d] := by simp [nsum]; unfold clip; omega
theorem nsum_more {z y : Int} (z0 : 0 ≤ z) (z1 : z ≤ 1099511627776) : z ≤ nsum [z, y] := by simp [nsum]; unfold clip; omega
theorem nsum_most {z y v : Int} (v0 : 0 ≤ v) (v1 : v ≤ 100000000) (y0 : 0 ≤ y) (y1 : y ≤ 1000) (h : v ≤ z) : v + y ≤ nsum [z, y] := by simp [nsum]; unfold clip; omega

theorem may_less {ms : List (Int × Int)} {us : List Int} {q : Int} {i : Nat} (h : mmay ms us q = 0) : mmay ms (us.take i) q = 0 := by
  unfold mmay at h ⊢
  by_cases h0 : (mget ms q).1 = 0
  · rw [if_pos h0] at h; cases h
  · rw [if_neg h0] at h ⊢
    cases hm : manyB ms (mget ms q).1 us
    · have : manyB ms (mget ms q).1 (us.take i) = false := by
        unfold manyB at hm ⊢
        rw [List.any_eq_false] at hm ⊢
        exact fun x hx => hm x (List.mem_of_mem_take hx)
      rw [this]; rfl
    · rw [hm] at h; simp at h
theorem rsum_bd (r : Int) : ∀ (n : Nat) (ms : List (Int × Int)), ms.length = n → 0 ≤ rsum r ms ∧ rsum r ms ≤ 1099511627776
  | 0, ms, h => by
    have : ms = [] := List.eq_nil_of_length_eq_zero h
    subst this; simp [rsum]
  | n + 1, ms, h => by
    rcases List.eq_nil_or_concat ms with rfl | ⟨l', x, rfl⟩
    · simp at h
    · rw [List.concat_eq_append] at h ⊢
      rw [rsum_snoc]
      unfold rsumStep
      split
      · exact ⟨nsum_lo _, nsum_hi _⟩
      · exact rsum_bd r n l' (by simpa using h)
theorem rsum_mono (r : Int) : ∀ (n : Nat) (ms : List (Int × Int)), ms.length = n → rsum (r + 1) ms ≤ rsum r ms
  | 0, ms, h => by
    have : ms = [] := List.eq_nil_of_length_eq_zero h
    subst this; simp [rsum]
  | n + 1, ms, h => by
    rcases List.eq_nil_or_concat ms with rfl | ⟨l', x, rfl⟩
    · simp at h
    · rw [List.concat_eq_append] at h ⊢
      rw [rsum_snoc, rsum_snoc]
      have hl : l'.length = n := by simpa using h
      have ih := rsum_mono r n l' hl
      obtain ⟨b0, b1⟩ := rsum_bd r n l' hl
      obtain ⟨b2, b3⟩ := rsum_bd (r + 1) n l' hl
      unfold rsumStep
      by_cases h1 : r + 1 ≤ x.1
      · rw [if_pos h1, if_pos (by omega)]
        exact nsum2_mono' ih (Int.le_refl _)
      · rw [if_neg h1]
        split
        · have := nsum_more (y := x.2) b0 b1
          omega
        · exact ih
theorem mmay_ways' (ms : List (Int × Int)) (hs : List Int) (m : Int) : 0 ≤ mmay ms hs m ∧ mmay ms hs m ≤ 19 := by
  unfold mmay; split
  · omega
  · split <;> omega
/-- The limits of what is used. -/
def usum (ms : List (Int × Int)) (us : List Int) : Nat → Int
  | 0 => 0
  | i + 1 => usum ms us i + if (i : Int) ∈ us then (mget ms i).2 else 0
theorem least_law (ms : List (Int × Int)) : ∀ (n : Nat) (us : List Int), us.length = n → ((rleast ms us).2 = false → ∀ u ∈ us, (mget ms u).1 ≤ 0) ∧ ((rleast ms us).2 = true → ∀ u ∈ us, 0 < (mget ms u).1 → (rleast ms us).1 ≤ (mget ms u).1)
  | 0, us, h => by
    have : us = [] := List.eq_nil_of_length_eq_zero h
    subst this; simp
  | n + 1, us, h => by
    rcases List.eq_nil_or_concat us with rfl | ⟨l', x, rfl⟩
    · simp at h
    · rw [List.concat_eq_append] at h ⊢
      rw [rleast_snoc]
      obtain ⟨i1, i2⟩ := least_law ms n l' (by simpa using h)
      generalize rleast ms l' = b at *
      obtain ⟨b, q⟩ := b
      simp only at i1 i2
      unfold rleastStep
      by_cases hc : 0 < (mget ms x).1 ∧ (q = false ∨ (mget ms x).1 < b)
      · rw [if_pos hc]
        refine ⟨(fun h => by cases h), fun _ u hu hpos => ?_⟩
        rcases List.mem_append.1 hu with hu | hu
        · cases q with
          | false => have := i1 rfl u hu; omega
          | true =>
            have := i2 rfl u hu hpos
            rcases hc.2 with h | h
            · cases h
            · show (mget ms x).1 ≤ _; omega
        · simp at hu; subst hu; exact Int.le_refl _
      · rw [if_neg hc]
        refine ⟨fun h u hu => ?_, fun h u hu hpos => ?_⟩
        · simp only at h; subst h
          rcases List.mem_append.1 hu with hu | hu
          · exact i1 rfl u hu
          · simp at hu; subst hu
            refine Int.not_lt.1 fun h => hc ⟨h, .inl rfl⟩
        · simp only at h; subst h
          rcases List.mem_append.1 hu with hu | hu
          · exact i2 rfl u hu hpos
          · simp at hu; subst hu
            exact Int.not_lt.1 fun h => hc ⟨hpos, .inr h⟩
theorem ok_limit {ms : List (Int × Int)} (h : okM ms = true) {k : Nat} (hk : k < ms.length) : 1 ≤ ms[k].2 ∧ ms[k].2 ≤ 1000 := by
  unfold okM at h
  rw [Bool.and_eq_true] at h
  have := List.all_eq_true.1 h.2 ms[k] (List.getElem_mem hk)
  simp [goodM] at this
  omega
theorem ok_len {ms : List (Int × Int)} (h : okM ms = true) : ms.length ≤ 6 := by
  unfold okM at h
  rw [Bool.and_eq_true] at h
  simpa using h.1
theorem usum_law {ms : List (Int × Int)} {us : List Int} (hok : okM ms = true) : ∀ i : Nat, i ≤ ms.length → 0 ≤ usum ms us i ∧ usum ms us i ≤ 1000 * i ∧ ((rleast ms us).2 = false → usum ms us i = 0) ∧ ((rleast ms us).2 = true → usum ms us i ≤ rsum (rleast ms us).1 (ms.take i))
  | 0, _ => by simp [usum, rsum]
  | i + 1, h => by
    obtain ⟨h1, h2, h3, h4⟩ := usum_law hok (us := us) i (by omega)
    have hi : i < ms.length := by omega
    have h6 := ok_len hok
    obtain ⟨l1, l2⟩ := ok_limit hok hi
    have r1 := ok_rank hok hi
    have hmg := mget_in hi
    obtain ⟨i1, i2⟩ := least_law ms us.length us rfl
    have hb := (rsum_bd (rleast ms us).1 _ (ms.take i) rfl)
    rw [take_succ' ms i hi, rsum_snoc, usum]
    unfold rsumStep
    by_cases hu : (i : Int) ∈ us
    · rw [if_pos hu, hmg]
      refine ⟨by omega, by omega, fun h => ?_, fun h => ?_⟩
      · have := i1 h _ hu; rw [hmg] at this; omega
      · have := i2 h _ hu (by rw [hmg]; omega)
        rw [hmg] at this
        rw [if_pos this]
        have := h4 h
        exact nsum_most h1 (by omega) (by omega) (by omega) this
    · rw [if_neg hu]
      refine ⟨by omega, by omega, fun h => by rw [h3 h]; rfl, fun h => ?_⟩
      have := h4 h
      split
      · have := nsum_more (y := ms[i].2) hb.1 hb.2
        omega
      · omega

theorem mem_take_succ {us : List Int} {k : Nat} {x : Int} (hk : k < us.length) : x ∈ us.take (k + 1) ↔ x ∈ us.take k ∨ x = us[k] := by
  rw [take_succ' us k hk, List.mem_append, List.mem_singleton]

set_option maxRecDepth 100000 in
set_option maxHeartbeats 4000000 in
theorem law_rankrises (A : Option Addr) (n c : Nat) (ms : List (Int × Int)) (B : Option Addr) (m d : Nat) (us : List Int) (q r : Int) (w : World) (ga : PairsArg w A n ms) (gb : IntsArg w B m us) (kb : m ≤ d) (_ : I64 q) (_ : I64 r) :
    Calls Try.prog 4 #[.slice A n c, .slice B m d, .int .i64 q, .int .i64 r] w fun e w' => e = .returned (.bool true) ∧ Below w.heap.size w w' := by
  obtain ⟨hl, hn, hr, _⟩ := ga
  obtain ⟨hl2, hn2, hr2, _⟩ := gb
  by_cases h9 : 30 < m
  · go_enter Try.func4, Try.ntmps4
    go_wp2_with (go_at_call 6; refine (rnk_awake _).mono ?_; rintro e w1 ⟨rfl, b1⟩)
    go_ret
    exact ⟨rfl, b1⟩
  · by_cases hm0 : m = 0
    · subst hm0
      go_enter Try.func4, Try.ntmps4
      go_wp2_with (go_at_call 6; refine (rnk_awake _).mono ?_; rintro e w1 ⟨rfl, b1⟩)
      go_ret
      exact ⟨rfl, b1⟩
    · obtain ⟨m', rfl⟩ : ∃ m', m = m' + 1 := ⟨m - 1, by omega⟩
      have hne : (((m' : Int) + 1) == 0) = false := by simp; omega
      have hne2 : ¬ (m' : Int) + 1 = 0 := by omega
      clear hm0
      by_cases h8 : 6 < n
      · go_enter Try.func4, Try.ntmps4
        go_wp2_with (go_at_call 6; refine (rnk_awake _).mono ?_; rintro e w1 ⟨rfl, b1⟩)
        go_ret
        exact ⟨rfl, b1⟩
      · have HL := Lib.hid hl
        have HL2 := Lib.hid hl2
        have HR := Lib.hid hr
        have HR2 := Lib.hid hr2
        clear hl hl2 hr hr2 hn hn2
        cases hok : okM ms with
        | false =>
          have HOK := Lib.hid hok
          clear hok
          go_enter Try.func4, Try.ntmps4
          go_wp2_with fail
          refine (t_new_no A n c ms w (by omega) HR.out HL.out HOK.out).mono ?_
          rintro e w1 ⟨rfl, b1⟩
          go_wp2_with fail
          refine (rnk_awake _).mono ?_
          rintro e w3 ⟨rfl, b3⟩
          go_wp2
          go_ret
          exact ⟨rfl, Ext.trans b1 b3⟩
        | true =>
          have HOK := Lib.hid hok
          clear hok
          have l1 := low_lo r 110 (by omega)
          have l2 := low_hi r 110 (by omega)
          have c1 := fun w => low_any r 110 w (by omega) (by omega)
          generalize low r 110 = s at *
          have C1 := Lib.hid c1
          clear c1
          have hw1 : IntKind.i64.wrap ((m' : Int) + 1 - 1) = (m' : Int) := by rw [show ((m' : Int) + 1 - 1) = (m' : Int) by omega]; exact IntWalk.i64_in _ ⟨by omega, by omega⟩
          go_enter Try.func4, Try.ntmps4
          go_wp2_with fail
          refine (t_new A n c ms w (by omega) HR.out HL.out HOK.out).mono ?_
          rintro e w1 ⟨g, rfl, tab1, b1⟩
          have TB := Lib.hid tab1
          have L2 := Lib.hid (HR2.out.keep b1)
          have bW := Ext.refl w1
          have t1 := fun w (h : Ext w1 w) => t_may g ms B (m' + 1) d us q w (TB.out.keep h) (by omega) (L2.out.keep h) HL2.out
          have hrt : ∀ w, Ext w1 w → Rd w B (ints (us.take m')) := fun w h => by
            have h2 := L2.out.keep h
            rw [← List.take_append_drop m' us, ← ints_app'] at h2
            exact h2.pre
          have t2 := fun w (h : Ext w1 w) => t_may g ms B m' d (us.take m') q w (TB.out.keep h) (by omega) (hrt w h) (by rw [List.length_take, HL2.out]; omega)
          have t3 := fun w (h : Ext w1 w) => t_sum _ ms (s + 1) w (TB.out.keep h)
          have t4 := fun w (h : Ext w1 w) => t_sum _ ms s w (TB.out.keep h)
          have hsm := rsum_mono s _ ms rfl
          obtain ⟨sb0, sb1⟩ := rsum_bd s _ ms rfl
          obtain ⟨sb2, sb3⟩ := rsum_bd (s + 1) _ ms rfl
          have hsm' : ¬ rsum s ms < rsum (s + 1) ms := by omega
          have hmay : mmay ms us q = 0 → mmay ms (us.take m') q = 0 := may_less
          have m0 := mmay_ways' ms us q
          have t5 := fun w (h : Ext w1 w) => t_least _ ms B (m' + 1) d us w (TB.out.keep h) (by omega) (L2.out.keep h) HL2.out
          have t6 := fun w (h : Ext w1 w) => t_len _ ms w (TB.out.keep h)
          rw [HL.out] at t6
          have t8 := fun i w (h : Ext w1 w) => t_limit _ ms i w (TB.out.keep h)
          have t9 := fun x w (h : Ext w1 w) => t_sum _ ms x w (TB.out.keep h)
          have HU := Lib.hid (fun i (hi : i ≤ ms.length) => usum_law (us := us) HOK.out i hi)
          generalize rsum s ms = sa at *
          generalize rsum (s + 1) ms = sb at *
          generalize rleast ms us = rl at *
          obtain ⟨rl, rb⟩ := rl
          have T1 := Lib.hid t1
          have T3 := Lib.hid t3
          have T4 := Lib.hid t4
          have T5 := Lib.hid t5
          have T6 := Lib.hid t6
          have T8 := Lib.hid t8
          have T9 := Lib.hid t9
          clear tab1 hsm hrt t1 t3 t4 t5 t6 t8 t9
          have HUS : ∀ k, usum ms us (k + 1) = usum ms us k + if (k : Int) ∈ us then (mget ms k).2 else 0 := fun k => rfl
          have HLM := Lib.hid (fun k (hk : k < ms.length) => ok_limit HOK.out hk)
          have HS := Lib.hid HUS
          clear HUS
          have hqq := Classical.em (mmay ms us q = 0)
          rcases hqq with hq | hq
          all_goals
            first
              | (rw [hmay hq] at t2; rw [hq] at T1; clear m0)
              | (have hq' : ¬ mmay ms us q = 0 := hq; obtain ⟨m0, m1⟩ := m0)
            have T2 := Lib.hid t2
            clear hmay t2
            first
              | clear hq
              | skip
            go_wp2_with (first
              | ((with_reducible go_at_call 14); (with_reducible refine (T1.out _ bW).mono ?_); rintro e w4 ⟨rfl, b4⟩; replace bW := Ext.trans bW b4; clear b4)
              | ((with_reducible go_at_call 14); (with_reducible refine (T2.out _ bW).mono ?_); rintro e w4 ⟨rfl, b4⟩; replace bW := Ext.trans bW b4; clear b4)
              | ((with_reducible go_at_call 22); (with_reducible refine (C1.out _).mono ?_); rintro e w' ⟨rfl, rfl⟩)
              | ((with_reducible go_at_call 16); (with_reducible refine (T3.out _ bW).mono ?_); rintro e w4 ⟨rfl, b4⟩; replace bW := Ext.trans bW b4; clear b4)
              | ((with_reducible go_at_call 16); (with_reducible refine (T4.out _ bW).mono ?_); rintro e w4 ⟨rfl, b4⟩; replace bW := Ext.trans bW b4; clear b4)
              | ((with_reducible go_at_call 10); (with_reducible refine (T5.out _ bW).mono ?_); rintro e w4 ⟨rfl, b4⟩; replace bW := Ext.trans bW b4; clear b4))
            go_loopw [13, 14] (fun v i wr => ∃ k : Nat, k ≤ n ∧ i = .int .i64 k ∧ v = .int .i64 (usum ms us k) ∧ Ext w1 wr) (fun _ i _ => n - (intOf i).toNat)
            case atStart => exact ⟨0, by omega, rfl, rfl, bW⟩
            case round =>
              obtain ⟨k, hk, rfl, rfl, hb⟩ := hrel
              clear bW
              by_cases hlt : k < n
              · have hk6 : k ≤ 6 := by omega
                obtain ⟨u0, u1, _, _⟩ := HU.out k (by rw [HL.out]; omega)
                have u2 : usum ms us k ≤ 6000 := by omega
                go_wp2_with ((with_reducible go_at_call 18); (with_reducible refine (T6.out _ hb).mono ?_); rintro e w' ⟨rfl, rfl⟩)
                go_loopw [13, 15] (fun v j wr2 => ∃ l : Nat, l ≤ m' + 1 ∧ j = .int .i64 l ∧ v = .int .i64 (usum ms us k) ∧ Hid (¬ (k : Int) ∈ us.take l) ∧ Ext w1 wr2) (fun _ j _ => m' + 1 - (intOf j).toNat)
                case atStart => exact ⟨0, by omega, rfl, rfl, Lib.hid (by simp), hb⟩
                case round =>
                  obtain ⟨l, hl, rfl, rfl, HN, hb2⟩ := hrel
                  clear hb
                  by_cases hll : l < m' + 1
                  · obtain ⟨bb, off, eB, hc⟩ := (L2.out.keep hb2).int (k := l) (by rw [HL2.out]; exact hll)
                    subst eB
                    have HM := Lib.hid (mem_take_succ (us := us) (x := (k : Int)) (k := l) (by rw [HL2.out]; exact hll))
                    have HM2 := Lib.hid (List.getElem_mem (l := us) (n := l) (by rw [HL2.out]; exact hll))
                    have hll1 : (l : Int) < (m' : Int) + 1 := by omega
                    generalize us[l]'(by rw [HL2.out]; exact hll) = u at *
                    by_cases hu : u = (k : Int)
                    · subst hu
                      have hkl : k < ms.length := by rw [HL.out]; omega
                      have hlim := HLM.out k hkl
                      have t8 := T8.out (k : Int) _ hb2
                      have hsu := HS.out k
                      rw [mget_in hkl] at t8 hsu
                      rw [if_pos HM2.out] at hsu
                      generalize ms[k].2 = y at *
                      have HSU := Lib.hid hsu
                      have T8' := Lib.hid t8
                      obtain ⟨y0, y1⟩ := hlim
                      clear hsu t8
                      go_wp2_with ((with_reducible go_at_call 20); (with_reducible refine (T8'.out).mono ?_); rintro e w5 ⟨rfl, b5⟩)
                      go_roundw
                      case rel => exact ⟨k + 1, by omega, by go_num, by rw [HSU.out], Ext.trans hb2 b5⟩
                      case measure => simp [intOf]; omega
                    · have hne3 : (u == (k : Int)) = false := by simp [hu]
                      have HN2 : Hid (¬ (k : Int) ∈ us.take (l + 1)) := Lib.hid (by
                        rw [HM.out]; intro h; rcases h with h | h
                        · exact HN.out h
                        · exact hu h.symm)
                      go_wp2
                      go_roundw
                      case rel => exact ⟨l + 1, by omega, by go_num, rfl, HN2, hb2⟩
                      case measure => simp [intOf]; omega
                  · have HSU : Hid (usum ms us (k + 1) = usum ms us k) := Lib.hid (by
                      have := HN.out
                      rw [List.take_of_length_le (by rw [HL2.out]; omega)] at this
                      rw [HS.out k, if_neg this]; omega)
                    go_wp2
                    go_roundw
                    case rel => exact ⟨k + 1, by omega, by go_num, by rw [HSU.out], hb2⟩
                    case measure => simp [intOf]; omega
              · obtain rfl : k = n := by omega
                obtain ⟨u0, u1, u3, u4⟩ := HU.out k (by rw [HL.out]; omega)
                rw [List.take_of_length_le (by rw [HL.out]; omega)] at u4
                have t9 := T9.out rl
                generalize usum ms us k = su at *
                generalize rsum rl ms = sx at *
                have T9' := Lib.hid t9
                clear t9
                cases rb with
                | false =>
                  obtain rfl := u3 rfl
                  clear u3 u4
                  go_wp2_with (first
                    | ((with_reducible go_at_call 18); (with_reducible refine (T6.out _ hb).mono ?_); rintro e w' ⟨rfl, rfl⟩)
                    | ((with_reducible go_at_call 16); (with_reducible refine (T9'.out _ hb).mono ?_); rintro e w5 ⟨rfl, b5⟩)
                    | (go_at_call 6; refine (rnk_awake _).mono ?_; rintro e w6 ⟨rfl, b6⟩))
                  go_ret
                  exact ⟨rfl, Ext.trans b1 (Ext.trans hb b6)⟩
                | true =>
                  have u5 := u4 rfl
                  clear u3 u4
                  go_wp2_with (first
                    | ((with_reducible go_at_call 18); (with_reducible refine (T6.out _ hb).mono ?_); rintro e w' ⟨rfl, rfl⟩)
                    | ((with_reducible go_at_call 16); (with_reducible refine (T9'.out _ hb).mono ?_); rintro e w5 ⟨rfl, b5⟩)
                    | (go_at_call 6; refine (rnk_awake _).mono ?_; rintro e w6 ⟨rfl, b6⟩))
                  go_ret
                  exact ⟨rfl, Ext.trans b1 (Ext.trans hb (Ext.trans b5 b6))⟩

end Go.Proofs.Ytgbjkpoenhmjnaa
