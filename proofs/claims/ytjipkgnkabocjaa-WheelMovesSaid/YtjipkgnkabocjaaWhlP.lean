/-
  WHEEL: the walk of the statement WheelOnce.
-/
import Derived.Test.YtjipkgnkabocjaaWhlO
namespace Go.Proofs.Ytjipkgnkabocjaa
open Go.RowKit
attribute [local go_sem] depUpon Sp.ok

set_option maxRecDepth 100000 in
theorem zero_forty : (Try.prog.info? 29).map (·.zero) = some (some (.agg (ints (List.replicate 40 0)).toArray)) := by kernel_rfl
theorem ints_set (zs : List Int) (k : Nat) (v : Int) : (ints zs).set k (.int .i64 v) = ints (zs.set k v) := by simp [ints, List.map_set]
theorem WL.set {w : World} {B g : Nat} {now : Int} {F : FW} {L : TL} (h : WL w B g now F L) {i : Nat} {t : TypeId} {xs : List Value} (ho : Own w i t xs) (hg : i ≠ g) (ht : 62 ≠ t) (k : Nat) (v : Value) : WL (w.setCell ⟨i, k, none⟩ v) B g now F L := by
  obtain ⟨R, h1, h2, h3⟩ := h
  have hs := setCell_grown w ⟨i, k, none⟩ v
  refine ⟨R, ⟨h1.own.grown hs (fun q => hg (by injection q with q; exact q.symm)), fun j hj => (h1.row j hj).grown hs (.inr fun q => row_ne (h1.row j hj) ho ht _ q rfl), h1.sep, h1.lo⟩, h2, Nat.le_trans h3 hs.size⟩
theorem WL.len64 {w : World} {B g : Nat} {now : Int} {F : FW} {L : TL} (h : WL w B g now F L) : L.length ≤ 64 := by
  obtain ⟨R, _, q, _⟩ := h
  exact q.len
theorem gone_mem {n : Int} {L : TL} {z : Int} (h : z ∈ goneF n L) : ∃ x ∈ L, x.1 = z ∧ x.2 = n + 1 := by
  obtain ⟨x, hx, e⟩ := List.mem_map.1 h
  obtain ⟨h1, h2⟩ := List.mem_filter.1 hx
  exact ⟨x, h1, e, by simpa using h2⟩
theorem seq_put {L : TL} {i : Nat} (atl : List Int) (hl : i < atl.length) (hm : ∀ x ∈ L, ∃ j : Nat, x.1 = (j : Int) ∧ j < i ∧ atl[j]? = some x.2) (a : Int) :
    ∀ x ∈ L ++ [((i : Int), a)], ∃ j : Nat, x.1 = (j : Int) ∧ j < i + 1 ∧ (atl.set i a)[j]? = some x.2 := fun x hx => by
  rcases List.mem_append.1 hx with hx | hx
  · obtain ⟨j, e, hj, hv⟩ := hm x hx
    exact ⟨j, e, by omega, by rw [List.getElem?_set_ne (by omega)]; exact hv⟩
  · rw [List.mem_singleton] at hx
    subst hx
    exact ⟨i, rfl, by omega, by rw [List.getElem?_set_self hl]⟩

set_option maxRecDepth 100000 in
set_option maxHeartbeats 4000000 in
theorem law_whlonce (now : Int) (A : Option Addr) (m c : Nat) (zs : List Int) (w : World) (_ : I64 now) (ga : IntsArg w A m zs) :
    Calls Try.prog 3 #[.int .i64 now, .slice A m c] w fun e w' => e = .returned (.bool true) ∧ Below w.heap.size w w' := by
  have HAW := Lib.hid (fun w => whl_awake w)
  by_cases h40 : 40 < m
  · have h1 : (40 : Int) < (m : Int) := by omega
    clear ga
    go_enter Try.func3, Try.ntmps3
    go_wp2_with ((with_reducible go_at_call 9); (with_reducible refine (HAW.out _).mono ?_); rintro e w1 ⟨rfl, b1⟩)
    go_ret
    exact ⟨rfl, b1⟩
  have m1 : (m : Int) ≤ 40 := by omega
  have HZ := Lib.hid ga
  have hzl := ga.len
  have HL1 := Lib.hid (fun w => low_any now 16776916 w (by omega) (by omega))
  have n0 := low_lo now 16776916 (by omega)
  have n1 := low_hi now 16776916 (by omega)
  generalize low now 16776916 = n at *
  have HN1 := Lib.hid (l_new n w (by omega) (by omega))
  clear ga
  go_enter Try.func3, Try.ntmps3
  go_wp2_with (first
    | ((with_reducible go_at_call 10); (with_reducible refine (HL1.out _).mono ?_); rintro e w' ⟨rfl, rfl⟩)
    | ((with_reducible go_at_call 11); (with_reducible refine HN1.out.mono ?_); rintro e w1 ⟨rfl, s1, b1⟩; have S1 := Lib.hid s1; clear s1)
    | (refine wpl_alloc_agg _ rfl 29 rfl (ints (List.replicate 40 0)) zero_forty ?_; intro w2 o2 b2 z2; clear z2; have O2 := Lib.hid o2; clear o2))
  have S2 := Lib.hid (S1.out.keep b2)
  have hgl := S1.out.gl
  have b12 := Ext.trans b1 b2
  have hB := b1.size
  generalize w1.heap.size = h7 at *
  have HG := Lib.hid (show h7 ≠ w.heap.size by omega)
  go_loopw [8] (fun q wr => ∃ (i : Nat) (F5 : FW) (L : TL) (atl : List Int), q = .int .i64 (i : Int) ∧ i ≤ m ∧ Seq n 290 L i ∧ WL wr w.heap.size w.heap.size n F5 L ∧ Own wr h7 29 (ints atl) ∧ atl.length = 40 ∧ (∀ x ∈ L, ∃ j : Nat, x.1 = (j : Int) ∧ j < i ∧ atl[j]? = some x.2) ∧ Ext w wr) (fun q _ => m - (intOf q).toNat)
  case atStart => exact ⟨0, F0, [], List.replicate 40 0, rfl, by omega, Seq.nil _ _, S2.out, O2.out, rfl, by simp, b12⟩
  case round =>
    clear S1 S2 b1 b2 b12 O2 hgl
    obtain ⟨i, F5, L, atl, rfl, hi, hS, h1, hO, hal, hat, h4⟩ := hrel
    by_cases hlt : i < m
    · have i1' : (i : Int) < (m : Int) := by omega
      have i0' : (0 : Int) ≤ (i : Int) := by omega
      have i2' : (i : Int) < 40 := by omega
      obtain ⟨b, off, rfl, hc⟩ := (HZ.out.rd.keep h4).int (k := i) (by omega)
      generalize zs[i]'(by omega) = z at *
      have HL3 := Lib.hid (fun w => low_any z 290 w (by omega) (by omega))
      have a0 := low_lo z 290 (by omega)
      have a1 := low_hi z 290 (by omega)
      generalize low z 290 = d at *
      obtain ⟨p1, p2, p3⟩ := hS.next (a := n + 1 + d) (by omega) (by omega) (by omega) (by omega)
      have HS1 := Lib.hid p3
      have HAT := Lib.hid (seq_put atl (by omega) hat (n + 1 + d))
      have c0 := (hO.cell i).trans (ints_get atl i (by omega))
      have f0 := hO.frozen i
      have hO3 := hO.set i (.int .i64 (n + 1 + d))
      rw [ints_set] at hO3
      have h13 := h1.set hO HG.out (by decide) i (.int .i64 (n + 1 + d))
      have h43 := h4.setCell (p := ⟨h7, i, none⟩) hB (.int .i64 (n + 1 + d))
      clear hO h1 h4
      go_upto_region 12 with ((with_reducible go_at_call 10); (with_reducible refine (HL3.out _).mono ?_); rintro e w' ⟨rfl, rfl⟩)
      generalize wr.setCell ⟨h7, i, none⟩ (.int .i64 (n + 1 + d)) = w3 at *
      have hx3 := (hO3.cell i).trans (ints_get (atl.set i (n + 1 + d)) i (by rw [List.length_set]; omega))
      rw [List.getElem_set_self] at hx3
      have hA := l_arm _ _ n F5 L (i : Int) (n + 1 + d) w3 h13
      rw [p1, p2] at hA
      have HAA := Lib.hid hA
      have HA := Lib.hid h13
      have HO3 := Lib.hid hO3
      clear h13 hS p1 p2 p3 hA hO3 c0 f0 hc
      go_wp2_with ((with_reducible go_at_call 12); (with_reducible refine HAA.out.mono ?_); rintro e w4 ⟨rfl, F7, s4, t4⟩)
      go_roundw
      case rel => exact ⟨i + 1, F7, _, atl.set i (n + 1 + d), by go_num, by omega, HS1.out, s4, HA.out.own t4 HO3.out HG.out (by decide), by rw [List.length_set]; exact hal, HAT.out, Below.trans h43 (HA.out.below t4)⟩
      case measure => simp [intOf]; omega
    · obtain rfl : i = m := by omega
      have HLE := Lib.hid hS.len
      have HTI := Lib.hid (show ∀ x ∈ L, x.2 ≤ n + 290 from fun x hx => (hS.at_ x hx).2)
      have HAT := Lib.hid hat
      have HO := Lib.hid hO
      have HW := Lib.hid h1
      clear hS h1 hO hat
      go_wp2
      go_loopw [9, 10] (fun v q wr => ∃ (s : Nat) (F5 : FW) (L : TL) (tt : Int), v = .int .i64 (L.length : Int) ∧ q = .int .i64 tt ∧ tt = n + (s : Int) + 1 ∧ s ≤ 299 ∧ WL wr w.heap.size w.heap.size (n + (s : Int)) F5 L ∧ Own wr h7 29 (ints atl) ∧ (∀ x ∈ L, ∃ j : Nat, x.1 = (j : Int) ∧ j < i ∧ atl[j]? = some x.2) ∧ (∀ x ∈ L, x.2 ≤ n + 290) ∧ Ext w wr) (fun _ q _ => (n + 400 - intOf q).toNat)
      case atStart => exact ⟨0, F5, L, n + 1, by rw [HLE.out], rfl, by omega, by omega, by rw [show n + ((0 : Nat) : Int) = n by omega]; exact HW.out, HO.out, HAT.out, HTI.out, h4⟩
      case round =>
        clear HW HO HAT HTI HLE h4 hlt hi
        obtain ⟨s, F6, L, tt, rfl, rfl, ht, hs, h1, hO, hat, hti, h4⟩ := hrel
        have hll := h1.len64
        by_cases hlt : s < 299
        · have HW := Lib.hid h1
          have HT := Lib.hid (l_tick _ _ _ F6 _ wr h1 (by omega))
          have HO := Lib.hid hO
          have HSL := Lib.hid (stay_len (n + (s : Int)) L)
          have hgl := goneF_le (n + (s : Int)) L
          have hte : tt ≤ n + 299 := by omega
          have HGM := Lib.hid (show ∀ z ∈ goneF (n + (s : Int)) L, ∃ j : Nat, z = (j : Int) ∧ j < i ∧ atl[j]? = some tt from fun z hz => by
            obtain ⟨x, hx, e1, e2⟩ := gone_mem hz
            obtain ⟨j, q1, q2, q3⟩ := hat x hx
            exact ⟨j, by rw [← e1, q1], q2, by rw [q3, e2, ht]⟩)
          have HGS := Lib.hid (gone_srt (n + (s : Int)) h1.srt)
          have HAT := Lib.hid (show ∀ x ∈ stayF (n + (s : Int)) L, ∃ j : Nat, x.1 = (j : Int) ∧ j < i ∧ atl[j]? = some x.2 from fun x hx => hat x (List.mem_filter.1 hx).1)
          have HTI := Lib.hid (show ∀ x ∈ stayF (n + (s : Int)) L, x.2 ≤ n + 290 from fun x hx => hti x (List.mem_filter.1 hx).1)
          have htb : tt ≤ 16777300 := by omega
          have htc : 0 ≤ tt := by omega
          have HTT := Lib.hid ht
          have HSL' := Lib.hid (show (L.length : Int) - ((goneF (n + (s : Int)) L).length : Int) = ((stayF (n + (s : Int)) L).length : Int) by have := HSL.out; omega)
          clear h1 hO hat hti HSL ht
          go_upto_region 20 with ((with_reducible go_at_call 13); (with_reducible refine HT.out.mono ?_); rintro e w5 ⟨A5, c5, F7, rfl, r5, s5, t5⟩)
          have S5 := Lib.hid s5
          have R5 := Lib.hid r5.rd
          have O5 := Lib.hid (HW.out.own t5 HO.out HG.out (by decide))
          have b5 := Below.trans h4 (HW.out.below t5)
          clear s5 r5 t5 HW HT HO
          rw [HSL'.out]
          have hgb : (goneF (n + (s : Int)) L).length ≤ 64 := by omega
          generalize goneF (n + (s : Int)) L = G at *
          generalize stayF (n + (s : Int)) L = L2 at *
          clear HSL' hll
          go_wp2
          go_loopw [13] (fun q wr => ∃ k : Nat, q = .int .i64 (k : Int) ∧ k ≤ G.length ∧ Ext w5 wr) (fun q _ => G.length - (intOf q).toNat)
          case atStart => exact ⟨0, rfl, by omega, Ext.refl _⟩
          case round =>
            obtain ⟨k, rfl, hk, q2⟩ := hrel
            by_cases hkl : k < G.length
            · obtain ⟨b, off, rfl, d0⟩ := (R5.out.keep q2).int hkl
              obtain ⟨j, e0, hj, hja⟩ := HGM.out _ (List.getElem_mem hkl)
              have hjl : j < atl.length := (List.getElem?_eq_some_iff.1 hja).1
              have x0 := ((O5.out.keep q2).cell j).trans (ints_get atl j hjl)
              have hjv : atl[j] = tt := (List.getElem?_eq_some_iff.1 hja).2
              rw [hjv] at x0
              have hsm := fun (h : k - 1 < G.length) (h0 : 0 < k) => List.pairwise_iff_getElem.1 HGS.out (k - 1) k h hkl (by omega)
              have dm := fun (h : k - 1 < G.length) => (R5.out.keep q2).int h
              rw [e0] at d0 hsm
              have j0 : (0 : Int) ≤ (j : Int) := by omega
              have j1 : (j : Int) < (i : Int) := by omega
              have j2 : (j : Int) < 40 := by omega
              have k0' : (0 : Int) ≤ (k : Int) := by omega
              have k1' : (k : Int) < (G.length : Int) := by omega
              have td0 : decide ((j : Int) < 0) = false := decide_eq_false (by omega)
              have td1 : decide ((i : Int) ≤ (j : Int)) = false := decide_eq_false (by omega)
              have tt0 : (tt != tt) = false := by simp
              clear hja hjv e0 hjl
              by_cases hk0 : k = 0
              · subst hk0
                clear hsm dm
                rw [show ((0 : Nat) : Int) = 0 from rfl] at *
                simp only [Nat.add_zero] at d0
                go_upto_region 23 with fail
                refine wp_region_dep (S := Ext) (C := Ext (wr)) (by kernel_rfl) (by kernel_rfl) rfl Ext.refl (Ext.drew _) ?_
                repeat (refine dep_det (by rfl) (fun K hK => ?_); go_simp; first
                  | ((with_reducible refine hK _ ?_); clear hK K)
                  | (rw [if_neg (by decide)]; (with_reducible refine hK _ ?_); clear hK K)
                  | (refine ⟨_, fun w1 hw1 => ⟨Ext.refl w1, hw1, rfl⟩, hK _ ?_⟩; clear hK K)
                  | (apply Exists.intro; refine ⟨fun w1 hw1 => ?_, hK _ ?_⟩
                     first
                       | (have c_d0 := cell_keep hw1 d0; have c_x0 := cell_keep hw1 x0; go_simp; first | exact ⟨Ext.refl _, hw1, rfl⟩ | exact ⟨Ext.refl _, rfl⟩)
                     clear hK K))
                refine dep_nil ?_
                intro a' w' hC hE
                obtain rfl := atEnd_nil hE
                clear hE
                go_wp2
                go_roundw
                case rel => exact ⟨1, by go_num, by omega, Ext.trans q2 hC⟩
                case measure => simp [intOf]; omega
              · obtain ⟨k', rfl⟩ : ∃ k', k = k' + 1 := ⟨k - 1, by omega⟩
                have hk' : k' < G.length := by omega
                obtain ⟨b', off', e, dm'⟩ := dm (by omega)
                injection e with e; injection e with e1 e2
                subst e1; subst e2
                have hlt2 := hsm (by omega) (by omega)
                simp only [Nat.add_sub_cancel] at dm' hlt2
                obtain ⟨j', e0', _, _⟩ := HGM.out _ (List.getElem_mem hk')
                rw [e0'] at dm' hlt2
                have td2 : decide ((j : Int) ≤ (j' : Int)) = false := decide_eq_false (by omega)
                have td3 : (0 : Int) < ((k' : Nat) : Int) + 1 := by omega
                have tn1 : ¬ i ≤ j := by omega
                have tn2 : ¬ j ≤ j' := by omega
                have k0'' : (0 : Int) ≤ (k' : Int) := by omega
                have k1'' : (k' : Int) < (G.length : Int) := by omega
                have k2'' : (k' : Int) + 1 < (G.length : Int) := by omega
                have k3'' : (k' : Int) ≤ 64 := by omega
                have kw : IntKind.i64.wrap (k' : Int) = (k' : Int) := IntWalk.i64_in _ ⟨by omega, by omega⟩
                clear hsm dm hlt2 e0'
                go_upto_region 23 with fail
                refine wp_region_dep (S := Ext) (C := Ext (wr)) (by kernel_rfl) (by kernel_rfl) rfl Ext.refl (Ext.drew _) ?_
                repeat (refine dep_det (by rfl) (fun K hK => ?_); go_simp; first
                  | ((with_reducible refine hK _ ?_); clear hK K)
                  | (rw [if_neg (by decide)]; (with_reducible refine hK _ ?_); clear hK K)
                  | (refine ⟨_, fun w1 hw1 => ⟨Ext.refl w1, hw1, rfl⟩, hK _ ?_⟩; clear hK K)
                  | (apply Exists.intro; refine ⟨fun w1 hw1 => ?_, hK _ ?_⟩
                     first
                       | (have c_d0 := cell_keep hw1 d0; have c_x0 := cell_keep hw1 x0; have c_dm' := cell_keep hw1 dm'; go_simp; first | exact ⟨Ext.refl _, hw1, rfl⟩ | exact ⟨Ext.refl _, rfl⟩)
                     clear hK K))
                refine dep_nil ?_
                intro a' w' hC hE
                obtain rfl := atEnd_nil hE
                clear hE
                go_wp2
                go_roundw
                case rel => exact ⟨k' + 2, by go_num, by omega, Ext.trans q2 hC⟩
                case measure => simp [intOf]; omega
            · obtain rfl : k = G.length := by omega
              have HLN := Lib.hid (l_len _ _ _ _ _ _ (S5.out.keep q2))
              have tz : ((L2.length : Int) != (L2.length : Int)) = false := by simp
              go_wp2_with ((with_reducible go_at_call 14); (with_reducible refine (HLN.out).mono ?_); rintro e w' ⟨rfl, rfl⟩)
              go_roundw
              case rel =>
                have hS := S5.out.keep q2
                rw [show n + (s : Int) + 1 = n + ((s + 1 : Nat) : Int) by omega] at hS
                exact ⟨s + 1, F7, L2, tt + 1, rfl, by go_num, by have := HTT.out; omega, by omega, hS, O5.out.keep q2, HAT.out, HTI.out, Ext.trans b5 q2⟩
              case measure => simp [intOf]; omega
        · obtain rfl : s = 299 := by omega
          obtain rfl : L = [] := List.eq_nil_iff_forall_not_mem.2 fun x hx => by
            have q1 := (h1.fut x hx).1
            have q2 := hti x hx
            omega
          have hte : n + 299 < tt := by omega
          clear h1 hO hat hti ht
          rw [show (([] : TL).length : Int) = 0 from rfl]
          go_wp2_with ((with_reducible go_at_call 9); (with_reducible refine (HAW.out _).mono ?_); rintro e w8 ⟨rfl, b8⟩)
          go_ret
          exact ⟨rfl, Ext.trans h4 b8⟩

end Go.Proofs.Ytjipkgnkabocjaa
