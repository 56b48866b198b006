/-
  WALK of the statement GraphMore, chapter 11.
-/
import Derived.Test.YtlmpmlhmndegdaaGphI
namespace Go.Proofs.Ytlmpmlhmndegdaa
open Go.RowKit
attribute [local go_sem] depUpon Sp.ok

set_option maxRecDepth 100000 in
set_option maxHeartbeats 4000000 in
theorem law_graphmore (D : Option Addr) (n cd : Nat) (base : List P3) (A : Option Addr) (na ca : Nat) (ws : List Int) (B : Option Addr) (nb cb : Nat) (os : List Int) (who mm : Int) (w : World) (gd : TripsArg w D n base) (ga : IntsArg w A na ws) (gb : IntsArg w B nb os) (_ : I64 who) (_ : I64 mm) :
    Calls Try.prog 5 #[.slice D n cd, .slice A na ca, .slice B nb cb, .int .i64 who, .int .i64 mm] w fun e w' => e = .returned (.bool true) ∧ Below w.heap.size w w' := by
  obtain ⟨hl, _, hr, _⟩ := gd
  have hwo : WO w A na ws B nb os := ⟨ga.rd, ga.len, gb.rd, gb.len⟩
  clear ga gb
  cases hg : decide (25 < na ∨ 25 < nb ∨ 25 < (n : Int))
  · have hG := Lib.hid (l_great A na ca B nb cb (n : Int) w false hg)
    have hn : na ≤ 25 ∧ nb ≤ 25 ∧ n ≤ 25 := by simp at hg; omega
    obtain ⟨hna, hnb, hn⟩ := hn
    clear hg
    by_cases hn0 : n = 0
    · subst hn0
      clear hl hr hwo
      go_enter Try.func5, Try.ntmps5
      go_wp2_with (first | ((with_reducible go_at_call 8); refine hG.out.mono ?_; rintro e w' ⟨rfl, rfl⟩) | (go_at_call 9; refine (gph_awake _).mono ?_; rintro e w1 ⟨rfl, b1⟩))
      go_ret
      exact ⟨rfl, b1⟩
    · have e1 : (((n : Nat) : Int) == 0) = false := by simp; omega
      have e1' : ¬ ((n : Nat) : Int) = 0 := by omega
      by_cases hnan : na = n
      · subst hnan
        by_cases hb0 : nb = 0
        · subst hb0
          clear hl hr hwo
          go_enter Try.func5, Try.ntmps5
          go_wp2_with (first | ((with_reducible go_at_call 8); refine hG.out.mono ?_; rintro e w' ⟨rfl, rfl⟩) | (go_at_call 9; refine (gph_awake _).mono ?_; rintro e w1 ⟨rfl, b1⟩))
          go_ret
          exact ⟨rfl, b1⟩
        · have e2 : (((nb : Nat) : Int) == 0) = false := by simp; omega
          have e2' : ¬ ((nb : Nat) : Int) = 0 := by omega
          have hn1 : 1 ≤ na := by omega
          have hb1 : 1 ≤ nb := by omega
          have l1 := low_lo who (na : Int) (by omega)
          have l2 := low_hi who (na : Int) (by omega)
          have l3 := low_lo mm (nb : Int) (by omega)
          have l4 := low_hi mm (nb : Int) (by omega)
          have c1 := fun w => low_any who (na : Int) w (by omega) (by omega)
          have c2 := fun w => low_any mm (nb : Int) w (by omega) (by omega)
          generalize low mm (nb : Int) = v at *
          obtain ⟨s, hs⟩ : ∃ s : Nat, low who (na : Int) = (s : Int) := ⟨(low who (na : Int)).toNat, by omega⟩
          rw [hs] at c1 l1 l2
          have C1 := Lib.hid c1
          have C2 := Lib.hid c2
          have HR := Lib.hid hr
          have HL := Lib.hid hl
          have HW := Lib.hid hwo
          have c3 := fun w' (h : Ext w w') => g_on A na ca ws B nb cb os (na : Int) (s : Int) w' (HW.out.keep h)
          have hrng := gon_rng ws os (na : Int) (s : Int)
          have hch : gon ws os (na : Int) (s : Int) < 0 → ∀ i, pge (effAt base (chs (ws.set s v) os na) base.length i) (effAt base (chs ws os na) base.length i) := fun h i => eff_more base _ _ (fun j => chain_more ws os (na : Int) s v (j : Int) h) i
          generalize gon ws os (na : Int) (s : Int) = k at *
          have C3 := Lib.hid c3
          have HCH := Lib.hid hch
          clear c1 c2 c3 hs hr hl hwo hch hn0 hb0
          by_cases hk : 0 ≤ k
          · go_enter Try.func5, Try.ntmps5
            go_wp2_with (first
              | ((with_reducible go_at_call 8); refine hG.out.mono ?_; rintro e w' ⟨rfl, rfl⟩)
              | ((with_reducible go_at_call 19); (with_reducible refine (C1.out _).mono ?_); rintro e w' ⟨rfl, rfl⟩)
              | ((with_reducible go_at_call 17); (with_reducible refine (C3.out _ (Ext.refl _)).mono ?_); rintro e w' ⟨rfl, rfl⟩)
              | (go_at_call 9; refine (gph_awake _).mono ?_; rintro e w1 ⟨rfl, b1⟩))
            go_ret
            exact ⟨rfl, b1⟩
          · have HGE := Lib.hid (HCH.out (by omega))
            obtain ⟨i0, hi, hz0, hz1, hz2⟩ := info_parts info_int
            have HI := Lib.hid hi
            clear hi hrng
            have hE : ∀ w', Ext w w' → ∀ X cx ws', WO w' X na ws' B nb os → Calls Try.prog 11 #[.slice D na cd, .slice X na cx, .slice B nb cb] w' fun e w'' => ∃ O c, e = .returned (.slice O na c) ∧ Row w'' w'.heap.size 33 3 O na c (trips (geff base (chs ws' os na))) ∧ Below w'.heap.size w' w'' := fun w' h X cx ws' hx =>
              g_effective D na cd base X na cx ws' B nb cb os w' hx (HR.out.keep h) HL.out (by omega)
            have HE := Lib.hid hE
            clear hE
            have hsn : s < na := by omega
            go_enter Try.func5, Try.ntmps5
            go_wp2_with (first
              | ((with_reducible go_at_call 8); refine hG.out.mono ?_; rintro e w' ⟨rfl, rfl⟩)
              | ((with_reducible go_at_call 19); (with_reducible refine (C1.out _).mono ?_); rintro e w' ⟨rfl, rfl⟩)
              | ((with_reducible go_at_call 17); (with_reducible refine (C3.out _ (Ext.refl _)).mono ?_); rintro e w' ⟨rfl, rfl⟩)
              | (at_builtin; refine wpl_append _ rfl (.const (.slice none 0 0)) (.tmp 50) 23 rfl 3 i0 _ 1 8 Try.underlying23 HI.out hz0 hz1 hz2 rfl (by omega) w.heap.size none 0 0 [] rfl (Row.nil _ _ _ _) A na ca (ints ws) rfl (by rw [ints_len, HW.out.la]; omega) HW.out.ra (ints_one _) na (ints ws) (by omega) rfl (by omega) (by omega) (Nat.le_refl _) ?_; intro A2 d2 w2 o2 g2 x2; obtain ⟨ga, rfl⟩ := o2.addr (by omega); obtain ⟨⟨u, hc⟩, hf, o3⟩ := o2.set1 s hsn (.int .i64 v); have b2 := below_grown (Ext.refl w) g2 (Nat.le_refl _) (by simp [blk]))
              | ((with_reducible go_at_call 19); (with_reducible refine (C2.out _).mono ?_); rintro e w' ⟨rfl, rfl⟩))
            have hga := (o2.at_ ga rfl).1
            have o4 : Row (w2.setCell ⟨ga, s, none⟩ (.int .i64 v)) w.heap.size 3 1 (some ⟨ga, 0, none⟩) na d2 (ints (ws.set s v)) := by
              have : (ints ws).set s (.int .i64 v) = ints (ws.set s v) := by simp [ints, List.map_set]
              rw [← this]; exact o3
            have b3 : Ext w (w2.setCell ⟨ga, s, none⟩ (.int .i64 v)) := b2.setCell (p := ⟨ga, s, none⟩) hga _
            clear o2 o3 hc hf b2 g2 x2
            generalize w2.setCell ⟨ga, s, none⟩ (.int .i64 v) = w3 at *
            refine (HE.out _ b3 A ca ws (HW.out.keep b3)).mono ?_
            rintro e w4 ⟨O1, d1, rfl, r1, b4⟩
            have k4 := Ext.trans b3 b4
            go_wp2_with fail
            refine (HE.out _ k4 (some ⟨ga, 0, none⟩) d2 (ws.set s v) ⟨(o4.keep b4).rd, by rw [List.length_set]; exact HW.out.la, (HW.out.keep k4).rb, HW.out.lb⟩).mono ?_
            rintro e w5 ⟨O2, e2, rfl, r2, b5⟩
            have k5 := Ext.trans k4 b5
            have rd1 := (r1.keep b5).rd
            have rd2 := r2.rd
            clear r1 r2 b4 b5 k4 o4 b3
            have gl1 := geff_len base (chs ws os na)
            have gl2 := geff_len base (chs (ws.set s v) os na)
            rw [HL.out] at gl1 gl2
            have HG : Hid (∀ i (h1 : i < (geff base (chs ws os na)).length) (h2 : i < (geff base (chs (ws.set s v) os na)).length), pge (geff base (chs (ws.set s v) os na))[i] (geff base (chs ws os na))[i]) := Lib.hid fun i h1 h2 => by
              rw [geff_get _ _ _ (by rw [HL.out]; omega), geff_get _ _ _ (by rw [HL.out]; omega)]
              exact HGE.out i
            generalize geff base (chs ws os na) = G1 at *
            generalize geff base (chs (ws.set s v) os na) = G2 at *
            have GL1 := Lib.hid gl1
            have GL2 := Lib.hid gl2
            clear gl1 gl2
            go_wp2
            go_loopw [14] (fun i wr => ∃ j : Nat, j ≤ na ∧ i = .int .i64 j ∧ Ext w5 wr) (fun i _ => na - (intOf i).toNat)
            case atStart => exact ⟨0, by omega, rfl, Ext.refl _⟩
            case round =>
              obtain ⟨j, hj, rfl, q1⟩ := hrel
              by_cases hlt : j < na
              · obtain ⟨x1, y1, eO1, a1, a2, a3⟩ := (rd1.keep q1).trip (k := j) (by rw [GL1.out]; exact hlt)
                obtain ⟨x2, y2, eO2, d1', d2', d3'⟩ := (rd2.keep q1).trip (k := j) (by rw [GL2.out]; exact hlt)
                subst eO1; subst eO2
                have hpg := HG.out j (by rw [GL1.out]; exact hlt) (by rw [GL2.out]; exact hlt)
                generalize G1[j]'(by rw [GL1.out]; exact hlt) = p at *
                generalize G2[j]'(by rw [GL2.out]; exact hlt) = q at *
                obtain ⟨p1, p2, p3⟩ := p
                obtain ⟨q1', q2', q3'⟩ := q
                unfold pge at hpg
                simp only at a1 a2 a3 d1' d2' d3' hpg
                have cC := fun w' => prio_compare q1' q2' q3' p1 p2 p3 w'
                generalize pcmp q1' q2' q3' p1 p2 p3 = pc at *
                have CC := Lib.hid cC
                have k0 : (0 : Int) ≤ (j : Int) := by omega
                have k1 : (j : Int) < (na : Int) := by omega
                have hd : decide (pc < 0) = false := by simp; omega
                clear cC
                go_wp2
                refine wp_region_dep (S := Ext) (C := Ext (wr)) (by kernel_rfl) (by kernel_rfl) rfl Ext.refl (Ext.drew _) ?_
                repeat (refine dep_det (by rfl) (fun K hK => ?_); go_simp; first
                  | ((with_reducible refine hK _ ?_); clear hK K)
                  | (refine ⟨_, fun w1 hw1 => ⟨Ext.refl w1, hw1, rfl⟩, hK _ ?_⟩; clear hK K)
                  | (apply Exists.intro; refine ⟨fun w1 hw1 => ?_, hK _ ?_⟩
                     first
                       | (go_at_call 16; refine (CC.out _).mono ?_; rintro e w' ⟨rfl, hb'⟩; exact ⟨_, rfl, hb', Ext.trans hw1 hb', rfl⟩)
                       | (have c_a1 := cell_keep hw1 a1; have c_a2 := cell_keep hw1 a2; have c_a3 := cell_keep hw1 a3; have c_d1' := cell_keep hw1 d1'; have c_d2' := cell_keep hw1 d2'; have c_d3' := cell_keep hw1 d3'; go_simp; first | exact ⟨Ext.refl _, hw1, rfl⟩ | exact ⟨Ext.refl _, rfl⟩)
                     clear hK K))
                refine dep_nil ?_
                intro a' w' hC hE
                obtain rfl := atEnd_nil hE
                clear hE
                go_wp2
                go_roundw
                case rel => exact ⟨j + 1, by omega, by go_num, Ext.trans q1 hC⟩
                case measure => simp [intOf]; omega
              · go_wp2_with (go_at_call 9; refine (gph_awake _).mono ?_; rintro e w10 ⟨rfl, b10⟩)
                go_ret
                exact ⟨rfl, Ext.trans (Ext.trans k5 q1) b10⟩
      · have e2 : (((na : Nat) : Int) != ((n : Nat) : Int)) = true := by simp; omega
        clear hl hr hwo
        go_enter Try.func5, Try.ntmps5
        go_wp2_with (first | ((with_reducible go_at_call 8); refine hG.out.mono ?_; rintro e w' ⟨rfl, rfl⟩) | (go_at_call 9; refine (gph_awake _).mono ?_; rintro e w1 ⟨rfl, b1⟩))
        go_ret
        exact ⟨rfl, b1⟩
  · have hG := Lib.hid (l_great A na ca B nb cb (n : Int) w true hg)
    clear hg hl hr hwo
    go_enter Try.func5, Try.ntmps5
    go_wp2_with fail
    refine hG.out.mono ?_
    rintro e w' ⟨rfl, rfl⟩
    go_wp2_with (go_at_call 9; refine (gph_awake _).mono ?_; rintro e w1 ⟨rfl, b1⟩)
    go_ret
    exact ⟨rfl, b1⟩

end Go.Proofs.Ytlmpmlhmndegdaa
