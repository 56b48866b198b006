/-
  WHEEL: the walk of the statement WheelCancel.
-/
import Derived.Test.YtjipkgnkabocjaaWhlN
namespace Go.Proofs.Ytjipkgnkabocjaa
open Go.RowKit
attribute [local go_sem] depUpon Sp.ok

theorem tins_last {x : Int × Int} : ∀ {L : TL}, (∀ y ∈ L, y.1 < x.1) → tins x L = L ++ [x]
  | [], _ => rfl
  | y :: r, h => by
    have h1 := h y (by simp)
    unfold tins
    rw [if_neg (by omega), tins_last fun z hz => h z (by simp [hz])]
    rfl
theorem arm_last {L : TL} {n id at_ : Int} (h : ∀ y ∈ L, y.1 < id) (h0 : 0 ≤ id) (h1 : n < at_) (h2 : at_ < 16777216) (hl : L.length < 64) : armE L n id at_ = 0 ∧ armL L n id at_ = L ++ [(id, at_)] := by
  have hg : tget L id = none := tget_none.2 fun x hx => by have := h x hx; omega
  have he : armE L n id at_ = 0 := by
    unfold armE
    rw [if_neg (by omega), hg, if_neg (by simp), if_neg (by omega)]
  exact ⟨he, by unfold armL; rw [if_pos he]; exact tins_last h⟩
/-- The timers 0 to below i, none later than d from now. -/
structure Seq (n d : Int) (L : TL) (i : Nat) : Prop where
  ids : L.map Prod.fst = (List.range i).map fun j : Nat => (j : Int)
  at_ : ∀ x ∈ L, n < x.2 ∧ x.2 ≤ n + d
theorem Seq.nil (n d : Int) : Seq n d [] 0 := ⟨rfl, by simp⟩
theorem Seq.len {n d : Int} {L : TL} {i : Nat} (h : Seq n d L i) : L.length = i := by
  have := congrArg List.length h.ids
  simpa using this
theorem Seq.lt {n d : Int} {L : TL} {i : Nat} (h : Seq n d L i) : ∀ y ∈ L, ∃ j : Nat, y.1 = (j : Int) ∧ j < i := fun y hy => by
  have h1 : y.1 ∈ L.map Prod.fst := List.mem_map.2 ⟨y, hy, rfl⟩
  rw [h.ids, List.mem_map] at h1
  obtain ⟨j, hj, e⟩ := h1
  exact ⟨j, e.symm, List.mem_range.1 hj⟩
theorem Seq.has {n d : Int} {L : TL} {i : Nat} (h : Seq n d L i) {j : Nat} (hj : j < i) : ∃ y ∈ L, y.1 = (j : Int) := by
  have h1 : (j : Int) ∈ L.map Prod.fst := by
    rw [h.ids]; exact List.mem_map.2 ⟨j, List.mem_range.2 hj, rfl⟩
  obtain ⟨y, hy, e⟩ := List.mem_map.1 h1
  exact ⟨y, hy, e⟩
theorem Seq.next {n d : Int} {L : TL} {i : Nat} (h : Seq n d L i) (hi : i < 64) {a : Int} (a1 : n < a) (a2 : a ≤ n + d) (hd : n + d < 16777216) :
    armE L n (i : Int) a = 0 ∧ armL L n (i : Int) a = L ++ [((i : Int), a)] ∧ Seq n d (L ++ [((i : Int), a)]) (i + 1) := by
  have hlt : ∀ y ∈ L, y.1 < (i : Int) := fun y hy => by
    obtain ⟨j, e, hj⟩ := h.lt y hy
    omega
  obtain ⟨h1, h2⟩ := arm_last hlt (by omega) a1 (by omega) (by rw [h.len]; exact hi)
  refine ⟨h1, h2, ?_, fun x hx => ?_⟩
  · rw [List.map_append, h.ids, List.range_succ, List.map_append]; rfl
  · rcases List.mem_append.1 hx with hx | hx
    · exact h.at_ x hx
    · rw [List.mem_singleton] at hx; subst hx; exact ⟨a1, a2⟩
theorem del_same (L : TL) (k : Nat) (a : Int) : tdel (L ++ [((k : Int), a)]) (k : Int) = tdel L (k : Int) := by
  unfold tdel
  rw [List.filter_append, List.filter_cons_of_neg (by simp)]; simp
theorem Seq.del_next {n d : Int} {L : TL} {i k : Nat} (h : Seq n d L i) (hi : i < 64) (hk : i ≠ k) {a : Int} (a1 : n < a) (a2 : a ≤ n + d) (hd : n + d < 16777216) :
    armE (tdel L (k : Int)) n (i : Int) a = 0 ∧ armL (tdel L (k : Int)) n (i : Int) a = tdel (L ++ [((i : Int), a)]) (k : Int) := by
  have hlt : ∀ y ∈ tdel L (k : Int), y.1 < (i : Int) := fun y hy => by
    obtain ⟨j, e, hj⟩ := h.lt y (List.mem_filter.1 hy).1
    omega
  obtain ⟨h1, h2⟩ := arm_last hlt (by omega) a1 (by omega) (Nat.lt_of_le_of_lt (List.length_filter_le _ _) (by rw [h.len]; exact hi))
  refine ⟨h1, h2.trans ?_⟩
  unfold tdel
  rw [List.filter_append]
  congr 1
  rw [List.filter_cons_of_pos (by simp; omega)]; rfl
theorem tget_del (L : TL) (k : Int) : tget (tdel L k) k = none := tget_none.2 fun x hx => by
  have := (List.mem_filter.1 hx).2
  simpa using this
theorem WL.fut {w : World} {B g : Nat} {now : Int} {F : FW} {L : TL} (h : WL w B g now F L) : ∀ x ∈ L, now < x.2 ∧ x.2 < 16777216 := by
  obtain ⟨R, _, h2, _⟩ := h
  exact h2.fut
theorem WL.srt {w : World} {B g : Nat} {now : Int} {F : FW} {L : TL} (h : WL w B g now F L) : TS L := by
  obtain ⟨R, _, h2, _⟩ := h
  exact h2.srt

set_option maxRecDepth 100000 in
set_option maxHeartbeats 4000000 in
theorem law_whlcancel (now : Int) (A : Option Addr) (m c : Nat) (zs : List Int) (gone : Int) (w : World) (_ : I64 now) (ga : IntsArg w A m zs) (_ : I64 gone) :
    Calls Try.prog 6 #[.int .i64 now, .slice A m c, .int .i64 gone] w fun e w' => e = .returned (.bool true) ∧ Below w.heap.size w w' := by
  have HAW := Lib.hid (fun w => whl_awake w)
  by_cases h30 : 30 < m
  · have h1 : (30 : Int) < (m : Int) := by omega
    clear ga
    go_enter Try.func6, Try.ntmps6
    go_wp2_with ((with_reducible go_at_call 9); (with_reducible refine (HAW.out _).mono ?_); rintro e w1 ⟨rfl, b1⟩)
    go_ret
    exact ⟨rfl, b1⟩
  by_cases hz : m = 0
  · subst hz
    clear ga
    go_enter Try.func6, Try.ntmps6
    go_wp2_with ((with_reducible go_at_call 9); (with_reducible refine (HAW.out _).mono ?_); rintro e w1 ⟨rfl, b1⟩)
    go_ret
    exact ⟨rfl, b1⟩
  have m1 : (m : Int) ≤ 30 := by omega
  have m0 : (0 : Int) < (m : Int) := by omega
  have tm : ((m : Int) == 0) = false := by simp; omega
  have HZ := Lib.hid ga
  have hzl := ga.len
  have HL1 := Lib.hid (fun w => low_any now 16776916 w (by omega) (by omega))
  have HL2 := Lib.hid (fun w => low_any gone (m : Int) w (by omega) (by omega))
  have n0 := low_lo now 16776916 (by omega)
  have n1 := low_hi now 16776916 (by omega)
  have k0 := low_lo gone (m : Int) (by omega)
  have k1 := low_hi gone (m : Int) (by omega)
  generalize low now 16776916 = n at *
  generalize low gone (m : Int) = kz at *
  obtain ⟨k, rfl⟩ : ∃ k : Nat, kz = (k : Int) := ⟨kz.toNat, by omega⟩
  have HN1 := Lib.hid (l_new n w (by omega) (by omega))
  have HN2 := Lib.hid (fun w => l_new n w (by omega) (by omega))
  have HN := Lib.hid n1
  clear ga
  go_enter Try.func6, Try.ntmps6
  go_wp2_with (first
    | ((with_reducible go_at_call 10); (with_reducible refine (HL1.out _).mono ?_); rintro e w' ⟨rfl, rfl⟩)
    | ((with_reducible go_at_call 10); (with_reducible refine (HL2.out _).mono ?_); rintro e w' ⟨rfl, rfl⟩)
    | ((with_reducible go_at_call 11); (with_reducible refine HN1.out.mono ?_); rintro e w1 ⟨rfl, s1, b1⟩; have S1 := Lib.hid s1; clear s1)
    | ((with_reducible go_at_call 11); (with_reducible refine (HN2.out _).mono ?_); rintro e w2 ⟨rfl, s2, b2⟩; have S2 := Lib.hid s2; have S1' := Lib.hid (S1.out.keep b2); have AP := Lib.hid (Apart.start (F2 := F0) (g1 := w.heap.size) (g2 := w1.heap.size) (by have := S1.out.gl; omega)); clear s2))
  have c1 := b1.size
  go_loopw [12] (fun q wr => ∃ (i : Nat) (F5 F6 : FW) (L : TL), q = .int .i64 (i : Int) ∧ i ≤ m ∧ Seq n 190 L i ∧ WL wr w.heap.size w.heap.size n F5 L ∧ WL wr w1.heap.size w1.heap.size n F6 (tdel L (k : Int)) ∧ Apart F5 w.heap.size F6 w1.heap.size ∧ Ext w wr) (fun q _ => m - (intOf q).toNat)
  case atStart => exact ⟨0, F0, F0, [], rfl, by omega, Seq.nil _ _, S1'.out, S2.out, AP.out, Ext.trans b1 b2⟩
  case round =>
    clear b2 b1 S1 S2 S1' AP
    obtain ⟨i, F5, F6, L, rfl, hi, hS, h1, h2, h3, h4⟩ := hrel
    have HA := Lib.hid h1
    have HB := Lib.hid h2
    have HC := Lib.hid h3
    have HS := Lib.hid hS
    by_cases hlt : i < m
    · have i1' : (i : Int) < (m : Int) := by omega
      have i0' : (0 : Int) ≤ (i : Int) := by omega
      obtain ⟨b, off, rfl, hc⟩ := (HZ.out.rd.keep h4).int (k := i) (by omega)
      generalize zs[i]'(by omega) = z at *
      have HL3 := Lib.hid (fun w => low_any z 190 w (by omega) (by omega))
      have a0 := low_lo z 190 (by omega)
      have a1 := low_hi z 190 (by omega)
      generalize low z 190 = d at *
      obtain ⟨p1, p2, p3⟩ := hS.next (a := n + 1 + d) (by omega) (by omega) (by omega) (by omega)
      have HS1 := Lib.hid p3
      have hA := l_arm _ _ n F5 L (i : Int) (n + 1 + d) wr h1
      rw [p1, p2] at hA
      have HAA := Lib.hid hA
      by_cases e : i = k
      · subst e
        have HD := Lib.hid (del_same L i (n + 1 + d))
        have te : ((i : Int) != (i : Int)) = false := by simp
        clear h1 h2 h3 hS p1 p2 p3 hA
        go_wp2_with (first
          | ((with_reducible go_at_call 10); (with_reducible refine (HL3.out _).mono ?_); rintro e w' ⟨rfl, rfl⟩)
          | ((with_reducible go_at_call 12); (with_reducible refine HAA.out.mono ?_); rintro e w3 ⟨rfl, F7, s3, t3⟩))
        go_roundw
        case rel =>
          obtain ⟨o1, o2⟩ := HA.out.other HB.out HC.out t3
          exact ⟨i + 1, F7, F6, _, by go_num, by omega, HS1.out, s3, by rw [HD.out]; exact o1, o2, Below.trans h4 (HA.out.below t3)⟩
        case measure => simp [intOf]; omega
      · obtain ⟨q1, q2⟩ := hS.del_next (k := k) (a := n + 1 + d) (by omega) e (by omega) (by omega) (by omega)
        have HBA := Lib.hid (fun w (h : WL w w1.heap.size w1.heap.size n F6 (tdel L (k : Int))) => l_arm _ _ n F6 _ (i : Int) (n + 1 + d) w h)
        rw [q1, q2] at HBA
        have te : ((i : Int) != (k : Int)) = true := by simp; omega
        clear h1 h2 h3 hS p1 p2 p3 hA q1 q2
        go_wp2_with (first
          | ((with_reducible go_at_call 10); (with_reducible refine (HL3.out _).mono ?_); rintro e w' ⟨rfl, rfl⟩)
          | ((with_reducible go_at_call 12); (with_reducible refine HAA.out.mono ?_); rintro e w3 ⟨rfl, F7, s3, t3⟩; have S3 := Lib.hid s3; have O3 := Lib.hid (HA.out.other HB.out HC.out t3); have b3 := Below.trans h4 (HA.out.below t3); clear s3)
          | ((with_reducible go_at_call 12); (with_reducible refine (HBA.out _ O3.out.1).mono ?_); rintro e w4 ⟨rfl, F8, s4, t4⟩))
        go_roundw
        case rel =>
          obtain ⟨o1, o2⟩ := O3.out.1.other S3.out O3.out.2.symm t4
          exact ⟨i + 1, F7, F8, _, by go_num, by omega, HS1.out, o1, s4, o2.symm, Below.trans b3 (Below.mono (O3.out.1.below t4) c1)⟩
        case measure => simp [intOf]; omega
    · obtain rfl : i = m := by omega
      obtain ⟨y, hy, hyk⟩ := hS.has (j := k) (by omega)
      have hgy := tget_of h1.srt hy
      rw [hyk] at hgy
      have hC1 := l_cancel _ _ n F5 L (k : Int) wr h1
      rw [hgy] at hC1
      have HC1 := Lib.hid hC1
      have HC2 := Lib.hid (fun B g F w (h : WL w B g n F (tdel L (k : Int))) => l_cancel B g n F _ (k : Int) w h)
      rw [tget_del, tdel_none (tget_del L (k : Int))] at HC2
      have HAT := Lib.hid (show ∀ x ∈ tdel L (k : Int), x.2 ≤ n + 190 from fun x hx => (hS.at_ x (List.mem_filter.1 hx).1).2)
      clear h1 h2 h3 hS hy hyk hgy hC1 HS
      generalize tdel L (k : Int) = L2 at *
      simp only [Option.isSome_some] at HC1
      simp only [Option.isSome_none] at HC2
      go_wp2_with (first
        | ((with_reducible go_at_call 17); (with_reducible refine HC1.out.mono ?_); rintro e w3 ⟨rfl, F7, s3, t3⟩; have S3 := Lib.hid s3; have O3 := Lib.hid (HA.out.other HB.out HC.out t3); have b3 := Below.trans h4 (HA.out.below t3); clear s3)
        | ((with_reducible go_at_call 17); (with_reducible refine (HC2.out _ _ _ _ S3.out).mono ?_); rintro e w4 ⟨rfl, F8, s4, t4⟩; have S4 := Lib.hid s4; have O4 := Lib.hid (S3.out.other O3.out.1 O3.out.2 t4); have b4 := Below.trans b3 (S3.out.below t4); clear s4))
      go_loopw [14] (fun q wr => ∃ (t : Nat) (F5 F6 : FW) (L : TL), q = .int .i64 (t : Int) ∧ t ≤ 200 ∧ (∀ x ∈ L, x.2 ≤ n + 190) ∧ WL wr w.heap.size w.heap.size (n + (t : Int)) F5 L ∧ WL wr w1.heap.size w1.heap.size (n + (t : Int)) F6 L ∧ Apart F5 w.heap.size F6 w1.heap.size ∧ Ext w wr) (fun q _ => 200 - (intOf q).toNat)
      case atStart => exact ⟨0, F8, F6, L2, rfl, by omega, HAT.out, by rw [show n + ((0 : Nat) : Int) = n by omega]; exact S4.out, by rw [show n + ((0 : Nat) : Int) = n by omega]; exact O4.out.1, O4.out.2, b4⟩
      case round =>
        clear HA HB HC HC1 HC2 HAT h4 b3 b4 S3 S4 O3 O4 t3 t4 hlt hi
        obtain ⟨t, F5, F6, L, rfl, hi, hat, h1, h2, h3, h4⟩ := hrel
        have HA := Lib.hid h1
        have HB := Lib.hid h2
        have HC := Lib.hid h3
        have HAT := Lib.hid hat
        have hll : L.length ≤ 64 := by obtain ⟨R, _, q, _⟩ := h1; exact q.len
        have hgl := goneF_le (n + (t : Int)) L
        by_cases hlt : t < 200
        · have i1' : (t : Int) < 200 := by omega
          have HT := Lib.hid (l_tick _ _ _ F5 _ wr h1 (by have := HN.out; omega))
          have HT2 := Lib.hid (fun w (h : WL w w1.heap.size w1.heap.size (n + (t : Int)) F6 L) => l_tick _ _ _ F6 _ w h (by have := HN.out; omega))
          have HSI := Lib.hid (fun A B c d w (ra : Rd w A (ints (goneF (n + (t : Int)) L))) (rb : Rd w B (ints (goneF (n + (t : Int)) L))) => same_ints A B (goneF (n + (t : Int)) L).length (goneF (n + (t : Int)) L).length c d _ _ w (by omega) (by omega) ra rb rfl rfl)
          simp only [decide_true] at HSI
          clear h1 h2 h3 hat
          have tz : (((movA (n + (t : Int)) L : Nat) : Int) != ((movA (n + (t : Int)) L : Nat) : Int)) = false := by simp
          go_wp2_with (first
            | ((with_reducible go_at_call 13); (with_reducible refine HT.out.mono ?_); rintro e w5 ⟨A5, c5, F7, rfl, r5, s5, t5⟩; have S5 := Lib.hid s5; have R5 := Lib.hid r5; have O5 := Lib.hid (HA.out.other HB.out HC.out t5); have b5 := Below.trans h4 (HA.out.below t5); clear s5 r5)
            | ((with_reducible go_at_call 13); (with_reducible refine (HT2.out _ O5.out.1).mono ?_); rintro e w6 ⟨A6, c6, F8, rfl, r6, s6, t6⟩; have S6 := Lib.hid s6; have R6 := Lib.hid r6; have R5' := Lib.hid (t6.row R5.out (fun q => by have h1 := (R5.out.at_ _ q).1; have h2 := HB.out.gl; omega) (fun k hk i hi q => by obtain ⟨Rz, sz, _, _⟩ := O5.out.1; exact row_row R5.out (sz.row k hk) (by decide) i hi q)); have O6 := Lib.hid (O5.out.1.other S5.out O5.out.2.symm t6); have b6 := Below.trans b5 (Below.mono (O5.out.1.below t6) c1); clear s6 r6)
            | ((with_reducible go_at_call 18); (with_reducible refine (HSI.out _ _ _ _ _ R5'.out.rd R6.out.rd).mono ?_); rintro e w7 ⟨rfl, qd, rfl⟩))
          go_roundw
          case rel =>
            refine ⟨t + 1, F7, F8, stayF (n + (t : Int)) L, by go_num, by omega, fun x hx => HAT.out x (List.mem_filter.1 hx).1, ?_, ?_, O6.out.2.symm, Below.trans b6 (Below.mono (Ext.drewN w6 qd) b6.size)⟩
            · rw [show n + ((t + 1 : Nat) : Int) = n + (t : Int) + 1 by omega]
              exact O6.out.1.keep (Ext.drewN _ _)
            · rw [show n + ((t + 1 : Nat) : Int) = n + (t : Int) + 1 by omega]
              exact S6.out.keep (Ext.drewN _ _)
          case measure => simp [intOf]; omega
        · obtain rfl : t = 200 := by omega
          obtain rfl : L = [] := List.eq_nil_iff_forall_not_mem.2 fun x hx => by
            have q1 := (h1.fut x hx).1
            have q2 := hat x hx
            omega
          have HLN := Lib.hid (l_len _ _ _ _ _ _ h1)
          rw [show (([] : TL).length : Int) = 0 from rfl] at HLN
          clear h1 h2 h3 hat
          rw [show ((200 : Nat) : Int) = 200 from rfl]
          go_wp2_with (first
            | ((with_reducible go_at_call 14); (with_reducible refine (HLN.out).mono ?_); rintro e w' ⟨rfl, rfl⟩)
            | ((with_reducible go_at_call 9); (with_reducible refine (HAW.out _).mono ?_); rintro e w8 ⟨rfl, b8⟩))
          go_ret
          exact ⟨rfl, Ext.trans h4 b8⟩

end Go.Proofs.Ytjipkgnkabocjaa
