/-
  WALKS of the statements on package ideal: IdealAlone.
-/
import Derived.Test.YtpaoolcnoflhiaaIdlG
namespace Go.Proofs.Ytpaoolcnoflhiaa
open Go.RowKit
attribute [local go_sem] depUpon Sp.ok

theorem gon_neg {ws os : List Int} {n : Int} (h : ∀ x ∈ ws, x < 0) (i : Int) : gon ws os n i = -1 := by
  unfold gon
  by_cases h1 : i < 0 ∨ n ≤ i ∨ (ws.length : Int) ≤ i
  · rw [if_pos h1]
  · have h2 : i.toNat < ws.length := by omega
    have h3 : ws.getD i.toNat 0 = ws[i.toNat] := by simp [h2]
    rw [if_neg h1, if_pos (.inl (by rw [h3]; exact h _ (List.getElem_mem h2)))]
theorem gchain_neg {ws os : List Int} {n : Int} (h : ∀ x ∈ ws, x < 0) (i : Int) : gchain ws os n i = [] := by
  unfold gchain
  rw [gon_neg h i]
  exact chainGo_stop (.inl (by omega))
theorem geff_alone {base : List P3} {ch : Nat → List Int} (h : ∀ j, ch j = []) : geff base ch = base := by
  have e : ∀ j i, effAt base ch j i = base.getD i (0, 0, 0) := by
    intro j
    induction j with
    | zero => intro i; rfl
    | succ j ih => intro i; rw [effAt, h j]; simp [ih]
  refine List.ext_getElem (by simp [geff]) fun i h1 h2 => ?_
  simp [geff, e, h2]
/-- Where nobody waits for a mutex. -/
theorem wait_neg {ths : List TH} (h : ∀ k, k < ths.length → stOf ths k ≠ 2) : ∀ x ∈ ths.map waitOf, x < 0 := by
  intro x hx
  simp only [List.mem_map] at hx
  obtain ⟨y, hy, rfl⟩ := hx
  obtain ⟨k, hk, rfl⟩ := List.getElem_of_mem hy
  have := h k hk
  rw [show stOf ths k = ths[k].st by simp [stOf, hk]] at this
  unfold waitOf
  rw [if_neg this]; decide
theorem ieff_alone {ths : List TH} (os : List Int) (h : ∀ k, k < ths.length → stOf ths k ≠ 2) : ieff ths os = ths.map (·.b) := geff_alone fun _ => gchain_neg (wait_neg h) _
theorem iacy_alone {ths : List TH} (os : List Int) (h : ∀ k, k < ths.length → stOf ths k ≠ 2) : iacy ths os = true := by
  unfold iacy gacyclic gacy
  rw [List.all_eq_true]
  intro i _
  rw [gchain_neg (wait_neg h)]; rfl
theorem neq_prio (a b c : Int) (w : World) : (binOp .neq 38 (.agg #[.int .i64 a, .int .i64 b, .int .i64 c]) (.agg #[.int .i64 a, .int .i64 b, .int .i64 c])).run Try.prog w = .ok (.bool false) w := by
  go_simp

set_option maxRecDepth 100000 in
set_option maxHeartbeats 4000000 in
theorem law_idealalone (tick : Int) (A : Option Addr) (n c : Nat) (ths : List TH) (B : Option Addr) (nb cb : Nat) (os : List Int) (P : Option Addr) (np cp : Nat) (F : Option Addr) (nf cf : Nat) (w : World) (h : ViewArg w A n ths B nb os) :
    Calls Try.prog 4 #[.agg #[.int .i64 tick, .slice A n c, .slice B nb cb, .slice P np cp, .slice F nf cf]] w fun e w' => e = .returned (.bool true) ∧ Below w.heap.size w w' := by
  have HV := Lib.hid h
  have HL := Lib.hid h.len
  have oV := Own.new w 26 [.int .i64 tick, .slice A n c, .slice B nb cb, .slice P np cp, .slice F nf cf]
  have hb0 : Ext w (w.alloc (.cells #[.int .i64 tick, .slice A n c, .slice B nb cb, .slice P np cp, .slice F nf cf] 26)) := Ext.alloc _ _
  clear h
  go_enter Try.func4, Try.ntmps4
  go_wp2_with fail
  refine (l_igreat tick A n c B nb cb P np cp F nf cf ths os _ (HV.out.keep hb0)).mono ?_
  rintro e w1 ⟨⟨b, rfl, h25⟩, bW⟩
  replace oV := oV.keep bW
  replace bW := Ext.trans hb0 bW
  clear hb0
  cases b with
  | true =>
    clear oV
    go_wp2_with ((with_reducible go_at_call 6); (with_reducible refine (ideal_awake _).mono ?_); rintro e w2 ⟨rfl, b1⟩; replace bW := Ext.trans bW b1; clear b1)
    go_ret
    exact ⟨rfl, bW⟩
  | false =>
    have hn25 := h25 rfl
    have hn : n ≤ 60000 := by omega
    clear h25
    go_wp2
    go_loopw [3, 4] (fun v q wr => ∃ (k : Nat) (bst : Int), v = .int .i64 bst ∧ q = .int .i64 k ∧ k ≤ n ∧ Hid (bst = ibest ths (ths.map (·.b)) k) ∧ Hid (∀ j, j < k → stOf ths j ≠ 2) ∧ Own wr w.heap.size 26 [.int .i64 tick, .slice A n c, .slice B nb cb, .slice P np cp, .slice F nf cf] ∧ Ext w wr) (fun _ q _ => n - (intOf q).toNat)
    case atStart => exact ⟨0, -1, rfl, rfl, by omega, Lib.hid rfl, Lib.hid (fun j hj => by omega), oV, bW⟩
    case round =>
      obtain ⟨k, bst, rfl, rfl, hk, HB, HN, oV1, q2⟩ := hrel
      clear oV bW
      have v0 := oV1.cell 0
      have v1 := oV1.cell 1
      have v2 := oV1.cell 2
      have v3 := oV1.cell 3
      have v4 := oV1.cell 4
      simp only [List.getElem?_cons_zero, List.getElem?_cons_succ] at v0 v1 v2 v3 v4
      by_cases hlt : k < n
      · have hkl : k < ths.length := by rw [HL.out]; exact hlt
        obtain ⟨b, off, rfl, he⟩ := (HV.out.keep q2).thread hkl
        have hX := HV.out.ok _ (List.getElem_mem hkl)
        have d5 := he 5 _ hX.s
        have k0 := he 2 _ hX.b0
        have k1 := he 3 _ hX.b1
        have k2 := he 4 _ hX.b2
        have hsv : stOf ths k = ths[k].st := by simp [stOf, hkl]
        rw [← hsv] at d5
        clear he hX hsv
        have i0' : (0 : Int) ≤ (k : Int) := by omega
        have i1' : (k : Int) < (n : Int) := by omega
        have hrg := ibest_rng ths (ths.map (·.b)) k
        rw [← HB.out] at hrg
        have hnx : ibest ths (ths.map (·.b)) (k + 1) = if ibetter ths (ths.map (·.b)) k bst then (k : Int) else bst := by rw [HB.out]; rfl
        have HX := Lib.hid hnx
        clear hnx
        by_cases h2 : stOf ths k = 2
        · rw [h2] at d5
          clear h2 oV1
          go_wp2_with ((with_reducible go_at_call 6); (with_reducible refine (ideal_awake _).mono ?_); rintro e w2 ⟨rfl, b1⟩)
          go_ret
          exact ⟨rfl, Ext.trans q2 b1⟩
        have t2 : (stOf ths k == 2) = false := by simp [h2]
        have HN2 : Hid (∀ j, j < k + 1 → stOf ths j ≠ 2) := Lib.hid (fun j hj => by
          by_cases hjk : j = k
          · subst hjk; exact h2
          · exact HN.out j (by omega))
        by_cases h1 : stOf ths k = 1
        · have t1 : (stOf ths k == 1) = true := by simp [h1]
          by_cases hneg : bst < 0
          · obtain rfl : bst = -1 := by omega
            have HB2 : Hid ((k : Int) = ibest ths (ths.map (·.b)) (k + 1)) := Lib.hid (by rw [HX.out, if_pos ⟨h1, .inl (by omega)⟩])
            clear h1 h2 hneg hrg k0 k1 k2
            go_wp2
            refine wp_region_dep (S := Ext) (C := Ext (wr)) (by kernel_rfl) (by kernel_rfl) rfl Ext.refl (Ext.drew _) ?_
            repeat (refine dep_det (by rfl) (fun K hK => ?_); go_simp; first
              | ((with_reducible refine hK _ ?_); clear hK K)
              | (rw [if_neg (by decide)]; (with_reducible refine hK _ ?_); clear hK K)
              | (refine ⟨_, fun w1 hw1 => ⟨Ext.refl w1, hw1, rfl⟩, hK _ ?_⟩; clear hK K)
              | (apply Exists.intro; refine ⟨fun w1 hw1 => ?_, hK _ ?_⟩
                 first
                   | (have c_v1 := cell_keep hw1 v1; have c_d5 := cell_keep hw1 d5; go_simp; first | exact ⟨Ext.refl _, hw1, rfl⟩ | exact ⟨Ext.refl _, rfl⟩)
                 clear hK K))
            refine dep_nil ?_
            intro a' w' hC hE
            obtain rfl := atEnd_nil hE
            clear hE
            go_wp2
            go_roundw
            case rel => exact ⟨k + 1, _, rfl, by go_num, by omega, HB2, HN2, oV1.keep hC, Ext.trans q2 hC⟩
            case measure => simp [intOf]; omega
          · obtain ⟨m, rfl⟩ : ∃ m : Nat, bst = (m : Int) := ⟨bst.toNat, by omega⟩
            have hml : m < ths.length := by omega
            have j0 : (0 : Int) ≤ (m : Int) := by omega
            have j1 : (m : Int) < (n : Int) := by omega
            have tn : ((m : Int) < 0) = False := by simp
            obtain ⟨_, _, eS, he⟩ := (HV.out.keep q2).thread hml
            injection eS with eS; injection eS with x1 x2
            subst x1; subst x2
            have hX := HV.out.ok _ (List.getElem_mem hml)
            have m0 := he 2 _ hX.b0
            have m1 := he 3 _ hX.b1
            have m2 := he 4 _ hX.b2
            clear he hX
            have hg1 : (ths.map (·.b)).getD k (0, 0, 0) = ths[k].b := by simp [hkl]
            have hg2 : (ths.map (·.b)).getD (m : Int).toNat (0, 0, 0) = ths[m].b := by simp [hml]
            have hbt : ibetter ths (ths.map (·.b)) k (m : Int) ↔ 0 < pc ths[k].b ths[m].b := by
              unfold ibetter; rw [hg1, hg2]
              constructor
              · rintro ⟨_, h | h⟩
                · omega
                · exact h
              · exact fun h => ⟨h1, .inr h⟩
            clear hg1 hg2
            generalize ths[k].b = p at *
            generalize ths[m].b = q at *
            obtain ⟨p1, p2, p3⟩ := p
            obtain ⟨r1, r2, r3⟩ := q
            simp only at k0 k1 k2 m0 m1 m2
            have k1' : wr.cell? ⟨b, off + k * 21 + 2 + 1, none⟩ = some (.int .i64 p2) := k1
            have k2' : wr.cell? ⟨b, off + k * 21 + 2 + 2, none⟩ = some (.int .i64 p3) := k2
            have m1' : wr.cell? ⟨b, off + m * 21 + 2 + 1, none⟩ = some (.int .i64 r2) := m1
            have m2' : wr.cell? ⟨b, off + m * 21 + 2 + 2, none⟩ = some (.int .i64 r3) := m2
            by_cases hpos : 0 < pcmp p1 p2 p3 r1 r2 r3
            · have HB2 : Hid ((k : Int) = ibest ths (ths.map (·.b)) (k + 1)) := Lib.hid (by rw [HX.out, if_pos (hbt.2 hpos)])
              clear h1 h2 hneg hbt hrg hml hkl
              go_wp2
              refine wp_region_dep (S := Ext) (C := Ext (wr)) (by kernel_rfl) (by kernel_rfl) rfl Ext.refl (Ext.drew _) ?_
              repeat (refine dep_det (by rfl) (fun K hK => ?_); go_simp; first
                | ((with_reducible refine hK _ ?_); clear hK K)
                | (rw [if_neg (by decide)]; (with_reducible refine hK _ ?_); clear hK K)
                | (refine ⟨_, fun w1 hw1 => ⟨Ext.refl w1, hw1, rfl⟩, hK _ ?_⟩; clear hK K)
                | (apply Exists.intro; refine ⟨fun w1 hw1 => ?_, hK _ ?_⟩
                   first
                     | (go_at_call 11; refine (prio_compare _ _ _ _ _ _ _).mono ?_; rintro e w' ⟨rfl, hb'⟩; exact ⟨_, rfl, hb', Ext.trans hw1 hb', rfl⟩)
                     | (have c_v1 := cell_keep hw1 v1; have c_d5 := cell_keep hw1 d5; have c_k0 := cell_keep hw1 k0; have c_k1 := cell_keep hw1 k1; have c_k2 := cell_keep hw1 k2; have c_m0 := cell_keep hw1 m0; have c_m1 := cell_keep hw1 m1; have c_m2 := cell_keep hw1 m2; have c_k1' := cell_keep hw1 k1'; have c_k2' := cell_keep hw1 k2'; have c_m1' := cell_keep hw1 m1'; have c_m2' := cell_keep hw1 m2'; go_simp; first | exact ⟨Ext.refl _, hw1, rfl⟩ | exact ⟨Ext.refl _, rfl⟩)
                   clear hK K))
              refine dep_nil ?_
              intro a' w' hC hE
              obtain rfl := atEnd_nil hE
              clear hE
              go_wp2
              go_roundw
              case rel => exact ⟨k + 1, _, rfl, by go_num, by omega, HB2, HN2, oV1.keep hC, Ext.trans q2 hC⟩
              case measure => simp [intOf]; omega
            · have HB2 : Hid ((m : Int) = ibest ths (ths.map (·.b)) (k + 1)) := Lib.hid (by rw [HX.out, if_neg (fun h => hpos (hbt.1 h))])
              clear h1 h2 hneg hbt hrg hml hkl
              go_wp2
              refine wp_region_dep (S := Ext) (C := Ext (wr)) (by kernel_rfl) (by kernel_rfl) rfl Ext.refl (Ext.drew _) ?_
              repeat (refine dep_det (by rfl) (fun K hK => ?_); go_simp; first
                | ((with_reducible refine hK _ ?_); clear hK K)
                | (rw [if_neg (by decide)]; (with_reducible refine hK _ ?_); clear hK K)
                | (refine ⟨_, fun w1 hw1 => ⟨Ext.refl w1, hw1, rfl⟩, hK _ ?_⟩; clear hK K)
                | (apply Exists.intro; refine ⟨fun w1 hw1 => ?_, hK _ ?_⟩
                   first
                     | (go_at_call 11; refine (prio_compare _ _ _ _ _ _ _).mono ?_; rintro e w' ⟨rfl, hb'⟩; exact ⟨_, rfl, hb', Ext.trans hw1 hb', rfl⟩)
                     | (have c_v1 := cell_keep hw1 v1; have c_d5 := cell_keep hw1 d5; have c_k0 := cell_keep hw1 k0; have c_k1 := cell_keep hw1 k1; have c_k2 := cell_keep hw1 k2; have c_m0 := cell_keep hw1 m0; have c_m1 := cell_keep hw1 m1; have c_m2 := cell_keep hw1 m2; have c_k1' := cell_keep hw1 k1'; have c_k2' := cell_keep hw1 k2'; have c_m1' := cell_keep hw1 m1'; have c_m2' := cell_keep hw1 m2'; go_simp; first | exact ⟨Ext.refl _, hw1, rfl⟩ | exact ⟨Ext.refl _, rfl⟩)
                   clear hK K))
              refine dep_nil ?_
              intro a' w' hC hE
              obtain rfl := atEnd_nil hE
              clear hE
              go_wp2
              go_roundw
              case rel => exact ⟨k + 1, _, rfl, by go_num, by omega, HB2, HN2, oV1.keep hC, Ext.trans q2 hC⟩
              case measure => simp [intOf]; omega
        · have t1 : (stOf ths k == 1) = false := by simp [h1]
          have HB2 : Hid (bst = ibest ths (ths.map (·.b)) (k + 1)) := Lib.hid (by rw [HX.out, if_neg (fun h => h1 h.1)])
          clear h1 h2 k0 k1 k2
          go_wp2
          refine wp_region_dep (S := Ext) (C := Ext (wr)) (by kernel_rfl) (by kernel_rfl) rfl Ext.refl (Ext.drew _) ?_
          repeat (refine dep_det (by rfl) (fun K hK => ?_); go_simp; first
            | ((with_reducible refine hK _ ?_); clear hK K)
            | (rw [if_neg (by decide)]; (with_reducible refine hK _ ?_); clear hK K)
            | (refine ⟨_, fun w1 hw1 => ⟨Ext.refl w1, hw1, rfl⟩, hK _ ?_⟩; clear hK K)
            | (apply Exists.intro; refine ⟨fun w1 hw1 => ?_, hK _ ?_⟩
               first
                 | (have c_v1 := cell_keep hw1 v1; have c_d5 := cell_keep hw1 d5; go_simp; first | exact ⟨Ext.refl _, hw1, rfl⟩ | exact ⟨Ext.refl _, rfl⟩)
               clear hK K))
          refine dep_nil ?_
          intro a' w' hC hE
          obtain rfl := atEnd_nil hE
          clear hE
          go_wp2
          go_roundw
          case rel => exact ⟨k + 1, _, rfl, by go_num, by omega, HB2, HN2, oV1.keep hC, Ext.trans q2 hC⟩
          case measure => simp [intOf]; omega
      · obtain rfl : k = n := by omega
        have hall : ∀ j, j < ths.length → stOf ths j ≠ 2 := fun j hj => HN.out j (by rw [← HL.out]; exact hj)
        have HIE := ieff_alone os hall
        have HIA := iacy_alone os hall
        have hbe : ifirst ths os = bst := by rw [HB.out, ← HL.out]; unfold ifirst; rw [HIE]
        have c1 := fun w' h' => i_effective tick A k c B nb cb P np cp F nf cf ths os w' h' hn
        have c2 := fun w' h' => i_first tick A k c B nb cb P np cp F nf cf ths os w' h' hn
        have c3 := fun w' h' => i_acyclic tick A k c B nb cb P np cp F nf cf ths os w' h' hn
        rw [HIE] at c1
        rw [hbe] at c2
        rw [HIA] at c3
        have C1 := Lib.hid c1
        have C2 := Lib.hid c2
        have C3 := Lib.hid c3
        clear c1 c2 c3 HIE HIA hbe hall HN HB
        go_wp2_with fail
        refine (C1.out _ (HV.out.keep q2)).mono ?_
        rintro e w3 ⟨S, c', rfl, hr, b1⟩
        replace oV1 := oV1.keep b1
        replace v1 := cell_keep b1 v1
        replace q2 := Ext.trans q2 b1
        have HR := Lib.hid hr
        clear b1 v0 v2 v3 v4 hr
        go_wp2
        go_loopw [6] (fun q wr2 => ∃ (j : Nat), q = .int .i64 j ∧ j ≤ k ∧ Ext w3 wr2) (fun q _ => k - (intOf q).toNat)
        case atStart => exact ⟨0, rfl, by omega, Ext.refl _⟩
        case round =>
          obtain ⟨j, rfl, hj, b3⟩ := hrel
          replace oV1 := oV1.keep b3
          have v0 := oV1.cell 0
          have v1 := oV1.cell 1
          have v2 := oV1.cell 2
          have v3 := oV1.cell 3
          have v4 := oV1.cell 4
          simp only [List.getElem?_cons_zero, List.getElem?_cons_succ] at v0 v1 v2 v3 v4
          clear oV1
          by_cases hlt2 : j < k
          · have hjl : j < ths.length := by rw [HL.out]; exact hlt2
            obtain ⟨b, off, rfl, he⟩ := (HV.out.keep (Ext.trans q2 b3)).thread hjl
            have hX := HV.out.ok _ (List.getElem_mem hjl)
            have k0 := he 2 _ hX.b0
            have k1 := he 3 _ hX.b1
            have k2 := he 4 _ hX.b2
            clear he hX
            obtain ⟨eb, eo, rfl, m0, m1, m2⟩ := (HR.out.keep b3).trip (k := j) (by simpa using hjl)
            simp only [List.getElem_map] at m0 m1 m2
            generalize ths[j].b = p at *
            obtain ⟨p1, p2, p3⟩ := p
            simp only at k0 k1 k2 m0 m1 m2
            have k1' := k1
            have k2' := k2
            rw [show off + j * 21 + 3 = off + j * 21 + 2 + 1 from rfl] at k1'
            rw [show off + j * 21 + 4 = off + j * 21 + 2 + 2 from rfl] at k2'
            have i0' : (0 : Int) ≤ (j : Int) := by omega
            have i1' : (j : Int) < (k : Int) := by omega
            have hq := neq_prio p1 p2 p3
            clear hjl
            go_wp2
            refine wp_region_dep (S := Ext) (C := Ext (wr)) (by kernel_rfl) (by kernel_rfl) rfl Ext.refl (Ext.drew _) ?_
            repeat (refine dep_det (by rfl) (fun K hK => ?_); go_simp; first
              | ((with_reducible refine hK _ ?_); clear hK K)
              | (rw [if_neg (by decide)]; (with_reducible refine hK _ ?_); clear hK K)
              | (refine ⟨_, fun w1 hw1 => ⟨Ext.refl w1, hw1, rfl⟩, hK _ ?_⟩; clear hK K)
              | (apply Exists.intro; refine ⟨fun w1 hw1 => ?_, hK _ ?_⟩
                 first
                   | (have c_v1 := cell_keep hw1 v1; have c_k0 := cell_keep hw1 k0; have c_k1 := cell_keep hw1 k1; have c_k2 := cell_keep hw1 k2; have c_m0 := cell_keep hw1 m0; have c_m1 := cell_keep hw1 m1; have c_m2 := cell_keep hw1 m2; have c_k1' := cell_keep hw1 k1'; have c_k2' := cell_keep hw1 k2'; go_simp; first | exact ⟨Ext.refl _, hw1, rfl⟩ | exact ⟨Ext.refl _, rfl⟩)
                 clear hK K))
            refine dep_nil ?_
            intro a' w' hC hE
            obtain rfl := atEnd_nil hE
            clear hE
            go_wp2
            go_roundw
            case rel => exact ⟨j + 1, by go_num, by omega, Ext.trans b3 hC⟩
            case measure => simp [intOf]; omega
          · obtain rfl : j = k := by omega
            have bW := Ext.trans q2 b3
            clear b3 q2
            go_wp2_with (first | ((with_reducible go_at_call 7); (with_reducible refine (C2.out _ (HV.out.keep bW)).mono ?_); rintro e w1 ⟨rfl, b1⟩; replace v0 := cell_keep b1 v0; replace v1 := cell_keep b1 v1; replace v2 := cell_keep b1 v2; replace v3 := cell_keep b1 v3; replace v4 := cell_keep b1 v4; replace bW := Ext.trans bW b1; clear b1) | ((with_reducible go_at_call 12); (with_reducible refine (C3.out _ (HV.out.keep bW)).mono ?_); rintro e w1 ⟨rfl, b1⟩; replace v0 := cell_keep b1 v0; replace v1 := cell_keep b1 v1; replace v2 := cell_keep b1 v2; replace v3 := cell_keep b1 v3; replace v4 := cell_keep b1 v4; replace bW := Ext.trans bW b1; clear b1) | ((with_reducible go_at_call 6); (with_reducible refine (ideal_awake _).mono ?_); rintro e w1 ⟨rfl, b1⟩; replace v0 := cell_keep b1 v0; replace v1 := cell_keep b1 v1; replace v2 := cell_keep b1 v2; replace v3 := cell_keep b1 v3; replace v4 := cell_keep b1 v4; replace bW := Ext.trans bW b1; clear b1))
            go_ret
            exact ⟨rfl, bW⟩

end Go.Proofs.Ytpaoolcnoflhiaa
