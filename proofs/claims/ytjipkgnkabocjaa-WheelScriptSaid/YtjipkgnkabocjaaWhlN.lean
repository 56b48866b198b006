/-
  WHEEL: two wheels side by side; the walk of the statement WheelAnew.
-/
import Derived.Test.YtjipkgnkabocjaaWhlM
import Derived.Test.YtjipkgnkabocjaaLend
namespace Go.Proofs.Ytjipkgnkabocjaa
open Go.RowKit
attribute [local go_sem] depUpon Sp.ok

/-- Two wheels have no block in common. -/
structure Apart (F1 : FW) (g1 : Nat) (F2 : FW) (g2 : Nat) : Prop where
  g : g1 ≠ g2
  f : ∀ j k, j < 256 → k < 256 → ∀ b, blk (F1 j).1 = some b → blk (F2 k).1 ≠ some b
theorem Apart.symm {F1 F2 : FW} {g1 g2 : Nat} (h : Apart F1 g1 F2 g2) : Apart F2 g2 F1 g1 := ⟨fun e => h.g e.symm, fun j k hj hk b hb q => h.f k j hk hj b q hb⟩
theorem Apart.start {F2 : FW} {g1 g2 : Nat} (h : g1 ≠ g2) : Apart F0 g1 F2 g2 := ⟨h, fun j _ _ _ b hb => absurd hb (sep0 j b)⟩
theorem WL.gl {w : World} {B g : Nat} {now : Int} {F : FW} {L : TL} (h : WL w B g now F L) : g < w.heap.size := by
  obtain ⟨R, h1, _, _⟩ := h
  exact h1.own.lt
theorem WL.other {w w' : World} {B1 g1 B2 g2 : Nat} {n1 n2 : Int} {F1 F1' F2 : FW} {L1 L2 : TL} (h1 : WL w B1 g1 n1 F1 L1) (h2 : WL w B2 g2 n2 F2 L2) (hA : Apart F1 g1 F2 g2) (a : WT w w' g1 F1 F1') :
    WL w' B2 g2 n2 F2 L2 ∧ Apart F1' g1 F2 g2 := by
  obtain ⟨R1, s1, _, _⟩ := h1
  obtain ⟨R2, s2, f2, z2⟩ := h2
  refine ⟨⟨R2, ⟨a.own s2.own (fun e => hA.g e.symm) (fun k hk q => row_ne (s1.row k hk) s2.own (by decide) _ q rfl), fun k hk => a.row (s2.row k hk) (fun q => row_ne (s2.row k hk) s1.own (by decide) _ q rfl) (fun j hj i hi q => hA.f j k hj hk i q hi), s2.sep, s2.lo⟩, f2, Nat.le_trans z2 a.base.size⟩, hA.g, fun j k hj hk b hb q => ?_⟩
  rcases a.fr j hj b hb with ⟨i, hi, hb'⟩ | hb'
  · exact hA.f i k hi hk b hb' q
  · have := ((s2.row k hk).at_ b q).2; omega
/-- Something else of the law's own stays. -/
theorem WL.own {w w' : World} {B g : Nat} {now : Int} {F F' : FW} {L : TL} (h : WL w B g now F L) (a : WT w w' g F F') {i : Nat} {t : TypeId} {xs : List Value} (ho : Own w i t xs) (hg : i ≠ g) (ht : 62 ≠ t) : Own w' i t xs := by
  obtain ⟨R, h1, _, _⟩ := h
  exact a.own ho hg (fun k hk q => row_ne (h1.row k hk) ho ht _ q rfl)
theorem arm_one {n m : Int} (h1 : n < m) (h2 : m < 16777216) : armE [] n 5 m = 0 ∧ armL [] n 5 m = [(5, m)] := by
  have : armE [] n 5 m = 0 := by
    unfold armE
    rw [if_neg (by omega)]; rfl
  exact ⟨this, by unfold armL; rw [if_pos this]; rfl⟩
theorem stay_one {n m : Int} (h : n + 1 ≠ m) : stayF n [(5, m)] = [(5, m)] := by
  unfold stayF
  rw [List.filter_cons_of_pos (by simp; omega)]; rfl
theorem place_one (n m : Int) : placeV [(5, m)] n 5 = (((rg n m : Nat) : Int), dg m (rg n m), true) := rfl

set_option maxRecDepth 100000 in
set_option maxHeartbeats 2000000 in
theorem law_whlanew (now ticks at_ : Int) (w : World) (_ : I64 now) (_ : I64 ticks) (_ : I64 at_) :
    Calls Try.prog 5 #[.int .i64 now, .int .i64 ticks, .int .i64 at_] w fun e w' => e = .returned (.bool true) ∧ Below w.heap.size w w' := by
  have HAW := Lib.hid (fun w => whl_awake w)
  have HL1 := Lib.hid (fun w => low_any now 16677216 w (by omega) (by omega))
  have HL2 := Lib.hid (fun w => low_any ticks 200 w (by omega) (by omega))
  have HL3 := Lib.hid (fun w => low_any at_ 90000 w (by omega) (by omega))
  have n0 := low_lo now 16677216 (by omega)
  have n1 := low_hi now 16677216 (by omega)
  have k0 := low_lo ticks 200 (by omega)
  have k1 := low_hi ticks 200 (by omega)
  have a0 := low_lo at_ 90000 (by omega)
  have a1 := low_hi at_ 90000 (by omega)
  generalize low now 16677216 = n at *
  generalize low ticks 200 = kz at *
  generalize low at_ 90000 = d at *
  obtain ⟨k, rfl⟩ : ∃ k : Nat, kz = (k : Int) := ⟨kz.toNat, by omega⟩
  have HN1 := Lib.hid (l_new n w (by omega) (by omega))
  have HN2 := Lib.hid (fun w => l_new (n + (k : Int)) w (by omega) (by omega))
  have HA1 := Lib.hid (fun B g w (h : WL w B g n F0 []) => l_arm B g n F0 [] 5 (n + (k : Int) + 1 + d) w h)
  rw [(arm_one (n := n) (m := n + (k : Int) + 1 + d) (by omega) (by omega)).1, (arm_one (n := n) (m := n + (k : Int) + 1 + d) (by omega) (by omega)).2] at HA1
  have HA2 := Lib.hid (fun B g w (h : WL w B g (n + (k : Int)) F0 []) => l_arm B g (n + (k : Int)) F0 [] 5 (n + (k : Int) + 1 + d) w h)
  rw [(arm_one (n := n + (k : Int)) (m := n + (k : Int) + 1 + d) (by omega) (by omega)).1, (arm_one (n := n + (k : Int)) (m := n + (k : Int) + 1 + d) (by omega) (by omega)).2] at HA2
  have HST := Lib.hid (fun (i : Nat) (hi : i < k) => stay_one (n := n + (i : Int)) (m := n + (k : Int) + 1 + d) (by omega))
  have HP := Lib.hid (fun B g F w (h : WL w B g (n + (k : Int)) F [(5, n + (k : Int) + 1 + d)]) => l_place B g (n + (k : Int)) F [(5, n + (k : Int) + 1 + d)] 5 w h)
  rw [place_one] at HP
  generalize hm : n + (k : Int) + 1 + d = m at *
  have m1 : m < 16777216 := by omega
  go_enter Try.func5, Try.ntmps5
  go_wp2_with (first
    | ((with_reducible go_at_call 10); (with_reducible refine (HL1.out _).mono ?_); rintro e w' ⟨rfl, rfl⟩)
    | ((with_reducible go_at_call 10); (with_reducible refine (HL2.out _).mono ?_); rintro e w' ⟨rfl, rfl⟩)
    | ((with_reducible go_at_call 10); (with_reducible refine (HL3.out _).mono ?_); rintro e w' ⟨rfl, rfl⟩)
    | ((with_reducible go_at_call 11); (with_reducible refine HN1.out.mono ?_); rintro e w1 ⟨rfl, s1, b1⟩; have S1 := Lib.hid s1; clear s1)
    | ((with_reducible go_at_call 11); (with_reducible refine (HN2.out _).mono ?_); rintro e w2 ⟨rfl, s2, b2⟩; have S2 := Lib.hid s2; have S1' := Lib.hid (S1.out.keep b2); have AP := Lib.hid (Apart.start (F2 := F0) (g1 := w.heap.size) (g2 := w1.heap.size) (by have := S1.out.gl; omega)); clear s2)
    | ((with_reducible go_at_call 12); (with_reducible refine (HA1.out _ _ _ S1'.out).mono ?_); rintro e w3 ⟨rfl, F3, s3, t3⟩; have S3 := Lib.hid s3; have O3 := Lib.hid (S1'.out.other S2.out AP.out t3); have b3 := Below.trans (Ext.trans b1 b2) (S1'.out.below t3); clear s3)
    | ((with_reducible go_at_call 12); (with_reducible refine (HA2.out _ _ _ O3.out.1).mono ?_); rintro e w4 ⟨rfl, F4, s4, t4⟩; have S4 := Lib.hid s4; have O4 := Lib.hid (O3.out.1.other S3.out O3.out.2.symm t4); have b4 := Below.trans b3 (Below.mono (O3.out.1.below t4) b1.size); clear s4))
  go_loopw [14] (fun q wr => ∃ (i : Nat) (F5 F6 : FW), q = .int .i64 (i : Int) ∧ i ≤ k ∧ WL wr w.heap.size w.heap.size (n + (i : Int)) F5 [(5, m)] ∧ WL wr w1.heap.size w1.heap.size (n + (k : Int)) F6 [(5, m)] ∧ Apart F5 w.heap.size F6 w1.heap.size ∧ Ext w wr) (fun q _ => k - (intOf q).toNat)
  case atStart => exact ⟨0, F3, F4, rfl, by omega, by rw [show n + ((0 : Nat) : Int) = n by omega]; exact O4.out.1, S4.out, O4.out.2.symm, b4⟩
  case round =>
    have c1 := b1.size
    clear b4 b3 b2 b1 S1 S2 S1' AP S3 O3 S4 O4 t3 t4
    obtain ⟨i, F5, F6, rfl, hi, h1, h2, h3, h4⟩ := hrel
    by_cases hlt : i < k
    · have i1' : (i : Int) < (k : Int) := by omega
      have HT := Lib.hid (l_tick _ _ _ F5 _ wr h1 (by omega))
      have H1 := Lib.hid h1
      have H2 := Lib.hid h2
      have H3 := Lib.hid h3
      clear h1 h2 h3
      go_wp2_with ((with_reducible go_at_call 13); (with_reducible refine HT.out.mono ?_); rintro e w5 ⟨A5, c5, F7, rfl, r5, s5, t5⟩)
      go_roundw
      case rel =>
        rw [HST.out i hlt] at s5
        obtain ⟨o1, o2⟩ := H1.out.other H2.out H3.out t5
        exact ⟨i + 1, F7, F6, by go_num, by omega, by rw [show n + ((i + 1 : Nat) : Int) = n + (i : Int) + 1 by omega]; exact s5, o1, o2, Below.trans h4 (H1.out.below t5)⟩
      case measure => simp [intOf]; omega
    · obtain rfl : i = k := by omega
      have H1 := Lib.hid h1
      have H2 := Lib.hid h2
      clear h1 h2 h3 hlt
      generalize rg (n + (i : Int)) m = rv at *
      generalize dg m rv = dv at *
      go_wp2_with (first
        | ((with_reducible go_at_call 15); (with_reducible refine (HP.out _ _ _ _ H1.out).mono ?_); rintro e w5 ⟨rfl, b5⟩)
        | ((with_reducible go_at_call 15); (with_reducible refine (HP.out _ _ _ _ (H2.out.keep b5)).mono ?_); rintro e w6 ⟨rfl, b6⟩)
        | ((with_reducible go_at_call 16); (with_reducible refine (l_now _ _ _ _ _ _ (H1.out.keep (Ext.trans b5 b6))).mono ?_); rintro e w7 ⟨rfl, rfl⟩)
        | ((with_reducible go_at_call 16); (with_reducible refine (l_now _ _ _ _ _ _ (H2.out.keep (Ext.trans b5 b6))).mono ?_); rintro e w7 ⟨rfl, rfl⟩)
        | ((with_reducible go_at_call 9); (with_reducible refine (HAW.out _).mono ?_); rintro e w8 ⟨rfl, b8⟩))
      go_ret
      exact ⟨rfl, Ext.trans (Ext.trans h4 b5) (Ext.trans b6 b8)⟩

end Go.Proofs.Ytjipkgnkabocjaa
