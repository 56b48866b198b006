/-
  WALKS of chapter 6's reference: Arm, Cancel, Tick.
-/
import Derived.Test.YtjipkgnkabocjaaWhlR
namespace Go.Proofs.Ytjipkgnkabocjaa
open Go.RowKit
attribute [local go_sem] depUpon Sp.ok

theorem info_one : (Try.prog.info? 76).map (fun i => (i.zero, i.size, i.bytes)) = some (some (.agg #[.int .i64 0, .int .i64 0]), 2, 16) := by kernel_rfl
theorem zero_one : (Try.prog.info? 76).map (·.zero) = some (some (.agg #[.int .i64 0, .int .i64 0])) := by kernel_rfl
theorem size_one : (Try.prog.info? 76).map (·.size) = some 2 := by kernel_rfl
/-- What a call leaves of the reference. -/
def VTo (w0 : World) (B gr : Nat) (now : Int) (L : TL) (w' : World) : Prop := ∃ A n c, VS w' B gr now A n c L ∧ w0.grownBy w' (some gr)
theorem VTo.of {w w' : World} {B gr : Nat} {now : Int} {A : Option Addr} {n c : Nat} {L : TL} (h : VS w B gr now A n c L) (hb : Ext w w') : VTo w B gr now L w' := ⟨A, n, c, h.keep hb, ⟨hb.os, hb.tape, hb.output, hb.size, fun i hi _ => hb.block i hi⟩⟩
theorem VTo.store {w w1 : World} {B gr : Nat} {now : Int} {A0 A : Option Addr} {n0 c0 n c : Nat} {L0 L : TL} (h : VS w B gr now A0 n0 c0 L0) (hb : Ext w w1) (hB : B ≤ w.heap.size) (r : Row w1 w.heap.size 76 2 A n c (pairs L)) :
    VTo w B gr now L (w1.setCell ⟨gr, 1, none⟩ (.slice A n c)) := by
  have hlt := Own.lt h.own
  refine ⟨A, n, c, ⟨(h.own.keep hb).set 1 _, ?_⟩, ?_⟩
  · exact (r.grown (setCell_grown w1 ⟨gr, 1, none⟩ (.slice A n c)) (.inr (fun q => by have h1 := (r.at_ _ q).1; simp only at h1; omega))).mono hB
  · exact World.grownBy.trans ⟨hb.os, hb.tape, hb.output, hb.size, fun i hi _ => hb.block i hi⟩ (setCell_grown w1 ⟨gr, 1, none⟩ (.slice A n c))

set_option maxRecDepth 100000 in
set_option maxHeartbeats 4000000 in
theorem r_arm (B gr : Nat) (now : Int) (A : Option Addr) (n c : Nat) (L : TL) (id at_ : Int) (w : World) (h : VS w B gr now A n c L) (hn : n ≤ 64) (hB : B ≤ w.heap.size) :
    Calls Try.prog 21 #[.pointer (some ⟨gr, 0, none⟩), .int .i64 id, .int .i64 at_] w fun e w' => e = .returned (.int .i64 (armE L now id at_)) ∧ VTo w B gr now (armL L now id at_) w' := by
  have HA := Lib.hid (r_atw B gr now A n c L id w h (by omega))
  have HR := Lib.hid h
  have HAE := Lib.hid (show armE L now id at_ = if id < 0 ∨ at_ ≤ now ∨ 16777216 ≤ at_ then 2 else if (tget L id).isSome = true then 5 else if L.length = 64 then 3 else 0 from rfl)
  have HAL := Lib.hid (show armL L now id at_ = if armE L now id at_ = 0 then tins (id, at_) L else L from rfl)
  have HNO := Lib.hid (fun (he : armE L now id at_ ≠ 0) => show VTo w B gr now (armL L now id at_) w from by rw [HAL.out, if_neg he]; exact VTo.of h (Ext.refl _))
  have v0 := h.now_
  have v1 := h.l_
  have hl := h.len
  by_cases hb : id < 0 ∨ at_ ≤ now ∨ 16777216 ≤ at_
  · have HE := Lib.hid (show armE L now id at_ = 2 by rw [HAE.out, if_pos hb])
    clear h
    by_cases hi0 : id < 0
    · have t0 : decide (id < 0) = true := by simp [hi0]
      clear hb
      go_enter Try.func21, Try.ntmps21
      go_wp2
      go_ret
      exact ⟨by rw [HE.out]; rfl, HNO.out (by rw [HE.out]; omega)⟩
    · have t0 : decide (id < 0) = false := by simp [hi0]
      have t00 : 0 ≤ id := by omega
      by_cases ha : at_ ≤ now
      · have t1 : decide (at_ ≤ now) = true := by simp [ha]
        clear hb hi0
        go_enter Try.func21, Try.ntmps21
        go_wp2
        go_ret
        exact ⟨by rw [HE.out]; rfl, HNO.out (by rw [HE.out]; omega)⟩
      · have t1 : decide (at_ ≤ now) = false := by simp [ha]
        have t10 : now < at_ := by omega
        have t2 : 16777216 ≤ at_ := by omega
        clear hb hi0 ha
        go_enter Try.func21, Try.ntmps21
        go_wp2
        go_ret
        exact ⟨by rw [HE.out]; rfl, HNO.out (by rw [HE.out]; omega)⟩
  have t0 : decide (id < 0) = false := by simp; omega
  have t00 : 0 ≤ id := by omega
  have t1 : decide (at_ ≤ now) = false := by simp; omega
  have t10 : now < at_ := by omega
  have t2 : at_ < 16777216 := by omega
  rcases @atT_get L id with ⟨h1, h2⟩ | ⟨i, hi, h1, h2, h3, h4⟩
  rotate_left
  · have HE := Lib.hid (show armE L now id at_ = 5 by rw [HAE.out, if_neg hb, h1]; rfl)
    rw [h2] at HA
    have i0' : (0 : Int) ≤ (i : Int) := by omega
    clear h h1 h2 h3 h4 hb hi
    go_enter Try.func21, Try.ntmps21
    go_wp2_with ((with_reducible go_at_call 34); (with_reducible refine (HA.out).mono ?_); rintro e w' ⟨rfl, rfl⟩)
    go_ret
    exact ⟨by rw [HE.out]; rfl, HNO.out (by rw [HE.out]; omega)⟩
  rw [h2] at HA
  have hE2 : armE L now id at_ = if L.length = 64 then 3 else 0 := by rw [HAE.out, if_neg hb, h1]; rfl
  by_cases h64 : L.length = 64
  · have HE := Lib.hid (show armE L now id at_ = 3 by rw [hE2, if_pos h64])
    have tn : ((n : Int) == 64) = true := by simp; omega
    clear h h1 h2 hb hE2
    go_enter Try.func21, Try.ntmps21
    go_wp2_with ((with_reducible go_at_call 34); (with_reducible refine (HA.out).mono ?_); rintro e w' ⟨rfl, rfl⟩)
    go_ret
    exact ⟨by rw [HE.out]; rfl, HNO.out (by rw [HE.out]; omega)⟩
  have hE : armE L now id at_ = 0 := by rw [hE2, if_neg h64]
  have HE := Lib.hid hE
  have HL := Lib.hid (show armL L now id at_ = tins (id, at_) L by rw [HAL.out, if_pos hE])
  have tn : ((n : Int) == 64) = false := by simp; omega
  have HSN := Lib.hid (fun y l => insF_snoc (id, at_) y l)
  have HEN := Lib.hid (insF_end (id, at_) L)
  have HLE := Lib.hid (fun l => insF_len (id, at_) l)
  obtain ⟨i0, hi, hz0, hz1, hz2⟩ := info_parts info_one
  have HI := Lib.hid hi
  have hgr := Own.lt h.own
  clear h h1 h2 hb hE2 hE h64 HNO HAL HAE hi
  go_enter Try.func21, Try.ntmps21
  go_wp2_with ((with_reducible go_at_call 34); (with_reducible refine (HA.out).mono ?_); rintro e w' ⟨rfl, rfl⟩)
  go_loopw [7, 8, 9] (fun v u q wr => ∃ (i : Nat) (S : Option Addr) (c1 : Nat), v = .slice S (insF (id, at_) (L.take i)).1.length c1 ∧ u = .bool (insF (id, at_) (L.take i)).2 ∧ q = .int .i64 (i : Int) ∧ i ≤ n ∧ Row wr w.heap.size 76 2 S (insF (id, at_) (L.take i)).1.length c1 (pairs (insF (id, at_) (L.take i)).1) ∧ Ext w wr) (fun _ _ q _ => n - (intOf q).toNat)
  case atStart => exact ⟨0, none, 0, rfl, rfl, rfl, by omega, Row.nil _ _ _ _, Ext.refl _⟩
  case round =>
    clear v0 v1 HA
    obtain ⟨i, S, c1, rfl, rfl, rfl, hi, q1, q2⟩ := hrel
    have v1 := (HR.out.keep q2).l_
    have hws := q2.size
    have hle := HLE.out (L.take i)
    rw [List.length_take] at hle
    by_cases hlt : i < n
    · have hil : i < L.length := by omega
      obtain ⟨b, off, rfl, _⟩ := HR.out.row.rd.pair hil
      have HEL := Lib.hid (fun wz (hz : Ext w wz) => show wz.cell? ⟨b, off + i * 2, none⟩ = some (.int .i64 L[i].1) ∧ wz.cell? ⟨b, off + i * 2 + 1, none⟩ = some (.int .i64 L[i].2) from by
        obtain ⟨b', o', e, d0, d1⟩ := (HR.out.keep hz).row.rd.pair hil
        injection e with e; injection e with e1 e2
        subst e1; subst e2
        exact ⟨d0, d1⟩)
      have HVL := Lib.hid (fun wz (hz : Ext w wz) => (HR.out.keep hz).l_)
      obtain ⟨d0, d1⟩ := HEL.out _ q2
      have hsn := HSN.out L[i] (L.take i)
      rw [← take_succ' L i hil] at hsn
      have i0' : (0 : Int) ≤ (i : Int) := by omega
      have i1' : (i : Int) < (n : Int) := by omega
      generalize hN : insF (id, at_) (L.take (i + 1)) = N1 at *
      have HN := Lib.hid hN
      generalize insF (id, at_) (L.take i) = N0 at *
      generalize L[i] = y at *
      obtain ⟨yi, ya⟩ := y
      simp only at d0 d1 HEL hsn
      obtain ⟨xs, bb⟩ := N0
      simp only at hsn q1 hle
      clear hN
      have HAP := Lib.hid (fun (zs : TL) (z : Int × Int) => pairs_app zs [z])
      cases bb
      · by_cases hgt : id < yi
        · have tg : decide (id < yi) = true := by simp [hgt]
          have HX := Lib.hid (show N1 = (xs ++ [(id, at_)] ++ [(yi, ya)], true) by rw [hsn, if_neg (by simp), if_pos hgt])
          clear hsn
          go_wp2_with (first
            | (at_builtin; have r7 := (q1.alloc (.cells #[.int .i64 id, .int .i64 at_] 76)); refine wpl_append _ rfl (.tmp 57) (.tmp 61) 71 rfl 76 i0 _ 2 16 Try.underlying71 HI.out hz0 hz1 hz2 rfl (by omega) w.heap.size S xs.length c1 _ rfl r7 _ 1 1 (pairs [(id, at_)]) rfl rfl (Own.new wr 76 (pairs [(id, at_)])).rd0 (pairs_one _) (xs.length + 1) _ rfl (HAP.out xs (id, at_)) (by omega) (by omega) (by simp; omega) ?_; intro A2 c2 w5 o5 g5 k5; have e5 : Ext w w5 := below_grown (Ext.trans q2 (Ext.alloc wr (.cells #[.int .i64 id, .int .i64 at_] 76))) g5 (by simp; omega) (fun gg hg => (r7.at_ gg hg).1); have se5 := e5.size; have v5 := HVL.out _ e5; obtain ⟨x50, x51⟩ := HEL.out _ e5; clear r7)
            | (at_builtin; have r7 := (o5.alloc (.cells #[.int .i64 yi, .int .i64 ya] 76)); refine wpl_append _ rfl (.tmp 63) (.tmp 71) 71 rfl 76 i0 _ 2 16 Try.underlying71 HI.out hz0 hz1 hz2 rfl (by omega) w.heap.size A2 (xs.length + 1) c2 _ rfl r7 _ 1 1 (pairs [(yi, ya)]) rfl rfl (Own.new w5 76 (pairs [(yi, ya)])).rd0 (pairs_one _) (xs.length + 1 + 1) _ rfl (HAP.out (xs ++ [(id, at_)]) (yi, ya)) (by omega) (by omega) (by simp; omega) ?_; intro A3 c3 w6 o6 g6 k6; have e6 : Ext w w6 := below_grown (Ext.trans e5 (Ext.alloc w5 (.cells #[.int .i64 yi, .int .i64 ya] 76))) g6 (by simp; omega) (fun gg hg => (r7.at_ gg hg).1); have se6 := e6.size; clear r7))
          go_roundw
          case rel => exact ⟨i + 1, A3, c3, by rw [HN.out, HX.out]; simp, by rw [HN.out, HX.out], by go_num, by omega, by rw [HN.out, HX.out]; simpa using o6, e6⟩
          case measure => simp [intOf]; omega
        · have tg : decide (id < yi) = false := by simp [hgt]
          have HX := Lib.hid (show N1 = (xs ++ [(yi, ya)], false) by rw [hsn, if_neg (by simp), if_neg hgt])
          clear hsn
          go_wp2_with (at_builtin; have r7 := (q1.alloc (.cells #[.int .i64 yi, .int .i64 ya] 76)); refine wpl_append _ rfl (.tmp 63) (.tmp 71) 71 rfl 76 i0 _ 2 16 Try.underlying71 HI.out hz0 hz1 hz2 rfl (by omega) w.heap.size S xs.length c1 _ rfl r7 _ 1 1 (pairs [(yi, ya)]) rfl rfl (Own.new wr 76 (pairs [(yi, ya)])).rd0 (pairs_one _) (xs.length + 1) _ rfl (HAP.out xs (yi, ya)) (by omega) (by omega) (by simp; omega) ?_; intro A3 c3 w6 o6 g6 k6; have e6 : Ext w w6 := below_grown (Ext.trans q2 (Ext.alloc wr (.cells #[.int .i64 yi, .int .i64 ya] 76))) g6 (by simp; omega) (fun gg hg => (r7.at_ gg hg).1); have se6 := e6.size; clear r7)
          go_roundw
          case rel => exact ⟨i + 1, A3, c3, by rw [HN.out, HX.out]; simp, by rw [HN.out, HX.out], by go_num, by omega, by rw [HN.out, HX.out]; simpa using o6, e6⟩
          case measure => simp [intOf]; omega
      · have HX := Lib.hid (show N1 = (xs ++ [(yi, ya)], true) by rw [hsn, if_pos rfl])
        clear hsn
        go_wp2_with (at_builtin; have r7 := (q1.alloc (.cells #[.int .i64 yi, .int .i64 ya] 76)); refine wpl_append _ rfl (.tmp 63) (.tmp 71) 71 rfl 76 i0 _ 2 16 Try.underlying71 HI.out hz0 hz1 hz2 rfl (by omega) w.heap.size S xs.length c1 _ rfl r7 _ 1 1 (pairs [(yi, ya)]) rfl rfl (Own.new wr 76 (pairs [(yi, ya)])).rd0 (pairs_one _) (xs.length + 1) _ rfl (HAP.out xs (yi, ya)) (by omega) (by omega) (by simp; omega) ?_; intro A3 c3 w6 o6 g6 k6; have e6 : Ext w w6 := below_grown (Ext.trans q2 (Ext.alloc wr (.cells #[.int .i64 yi, .int .i64 ya] 76))) g6 (by simp; omega) (fun gg hg => (r7.at_ gg hg).1); have se6 := e6.size; clear r7)
        go_roundw
        case rel => exact ⟨i + 1, A3, c3, by rw [HN.out, HX.out]; simp, by rw [HN.out, HX.out], by go_num, by omega, by rw [HN.out, HX.out]; simpa using o6, e6⟩
        case measure => simp [intOf]; omega
    · obtain rfl : i = n := by omega
      rw [List.take_of_length_le (by omega)] at q1 hle ⊢
      generalize insF (id, at_) L = N0 at *
      obtain ⟨xs, bb⟩ := N0
      simp only at HEN q1 hle
      have HAP := Lib.hid (fun (zs : TL) (z : Int × Int) => pairs_app zs [z])
      have HVL := Lib.hid (fun wz (hz : Ext w wz) => (HR.out.keep hz).own.frozen 1)
      have HVM := Lib.hid (fun wz (hz : Ext w wz) => (HR.out.keep hz).l_)
      cases bb
      · have HX := Lib.hid (show tins (id, at_) L = xs ++ [(id, at_)] by rw [HEN.out, if_neg (by simp)])
        go_wp2_with (at_builtin; have r7 := (q1.alloc (.cells #[.int .i64 id, .int .i64 at_] 76)); refine wpl_append _ rfl (.tmp 75) (.tmp 79) 71 rfl 76 i0 _ 2 16 Try.underlying71 HI.out hz0 hz1 hz2 rfl (by omega) w.heap.size S xs.length c1 _ rfl r7 _ 1 1 (pairs [(id, at_)]) rfl rfl (Own.new wr 76 (pairs [(id, at_)])).rd0 (pairs_one _) (xs.length + 1) _ rfl (HAP.out xs (id, at_)) (by omega) (by omega) (by simp; omega) ?_; intro A3 c3 w6 o6 g6 k6; have e6 : Ext w w6 := below_grown (Ext.trans q2 (Ext.alloc wr (.cells #[.int .i64 id, .int .i64 at_] 76))) g6 (by simp; omega) (fun gg hg => (r7.at_ gg hg).1); have se6 := e6.size; have f6 := HVL.out _ e6; have v6 := HVM.out _ e6; clear r7)
        go_ret
        refine ⟨by rw [HE.out]; rfl, ?_⟩
        rw [HL.out, HX.out]
        exact VTo.store HR.out e6 hB (by simpa using o6)
      · have HX := Lib.hid (show tins (id, at_) L = xs by rw [HEN.out, if_pos rfl])
        have f1 := HVL.out _ q2
        go_wp2
        go_ret
        refine ⟨by rw [HE.out]; rfl, ?_⟩
        rw [HL.out, HX.out]
        exact VTo.store HR.out q2 hB q1

theorem Rd.dropAt {w : World} {b off : Nat} {xs : List Value} (h : Rd w (some ⟨b, off, none⟩) xs) (m : Nat) : Rd w (some ⟨b, off + m, none⟩) (xs.drop m) := fun k v hk => by
  rw [List.getElem?_drop] at hk
  obtain ⟨b', o', e, hc⟩ := h (m + k) v hk
  injection e with e; injection e with e1 e2
  subst e1; subst e2
  exact ⟨b, off + m, rfl, by rw [Nat.add_assoc]; exact hc⟩
theorem pairs_drop (ps : List (Int × Int)) (m : Nat) : pairs (ps.drop m) = (pairs ps).drop (m * 2) := by
  have e : pairs ps = pairs (ps.take m) ++ pairs (ps.drop m) := by rw [pairs_app, List.take_append_drop]
  rcases Nat.le_total m ps.length with h | h
  · have hl : (pairs (ps.take m)).length = m * 2 := by rw [pairs_len, List.length_take]; omega
    rw [e, ← hl, List.drop_left]
  · rw [List.drop_eq_nil_of_le h, List.drop_eq_nil_of_le (by rw [pairs_len]; omega)]; rfl

set_option maxRecDepth 100000 in
set_option maxHeartbeats 4000000 in
theorem r_cancel (B gr : Nat) (now : Int) (A : Option Addr) (n c : Nat) (L : TL) (id : Int) (w : World) (h : VS w B gr now A n c L) (hn : n ≤ 64) (hB : B ≤ w.heap.size) (hs : TS L) :
    Calls Try.prog 22 #[.pointer (some ⟨gr, 0, none⟩), .int .i64 id] w fun e w' => e = .returned (.bool (tget L id).isSome) ∧ VTo w B gr now (tdel L id) w' := by
  have HA := Lib.hid (r_atw B gr now A n c L id w h (by omega))
  have HR := Lib.hid h
  have v1 := h.l_
  have hl := h.len
  rcases @atT_get L id with ⟨h1, h2⟩ | ⟨i, hi, h1, h2, h3, h4⟩
  · rw [h1, tdel_none h1]
    rw [h2] at HA
    clear h h1 h2 hs
    go_enter Try.func22, Try.ntmps22
    go_wp2_with ((with_reducible go_at_call 34); (with_reducible refine (HA.out).mono ?_); rintro e w' ⟨rfl, rfl⟩)
    go_ret
    exact ⟨rfl, VTo.of HR.out (Ext.refl _)⟩
  · rw [h1]
    rw [h2] at HA
    have hO : One L id i := ⟨hi, h3, fun k hk hne e => by
      rcases Nat.lt_trichotomy k i with q | q | q
      · exact h4 _ (List.mem_take_iff_getElem.2 ⟨k, by omega, rfl⟩) e
      · exact hne q
      · have := List.pairwise_iff_getElem.1 hs i k hi hk q
        omega⟩
    have HDL := Lib.hid (show tdel L id = L.take i ++ L.drop (i + 1) from (erase_filter hO).symm.trans (List.eraseIdx_eq_take_drop_succ ..))
    have hcap := Row.le h.row
    obtain ⟨b, off, rfl, _⟩ := h.row.rd.pair hi
    obtain ⟨i0, hi0, hz0, hz1, hz2⟩ := info_parts info_one
    have HI := Lib.hid hi0
    have hgr := Own.lt h.own
    have hk1 : IntKind.i64.wrap ((i : Int) + 1) = (i : Int) + 1 := IntWalk.i64_in _ ⟨by omega, by omega⟩
    have i0' : (0 : Int) ≤ (i : Int) := by omega
    have k1' : (i : Int) ≤ (c : Int) := by omega
    have k2' : (i : Int) + 1 ≤ (n : Int) := by omega
    have k3' : (n : Int) ≤ (c : Int) := by omega
    have LT := Lib.hid (by rw [pairs_len, List.length_take]; omega : (pairs (L.take i)).length = i * 2)
    have HT := Lib.hid (fun w1 (h1 : Ext w w1) => by
      have := (HR.out.keep h1).row.rd.take (i * 2)
      rwa [← pairs_take] at this)
    clear h h1 h2 h3 h4 hs hO hi0
    by_cases hc : c = i + 1
    · subst hc
      have hq1 : (i : Int) ≤ (i : Int) + 1 := by omega
      have hq2 : (n : Int) ≤ (i : Int) + 1 := by omega
      obtain rfl : n = i + 1 := by omega
      have hd0 : L.drop (i + 1) = [] := List.drop_eq_nil_of_le (by omega)
      have HD := Lib.hid (fun w1 (_ : Ext w w1) => show Rd w1 (some ⟨b, off, none⟩) (pairs (L.drop (i + 1))) by
        rw [hd0]; exact Rd.nil _ _)
      have LD := Lib.hid (by rw [hd0]; rfl : (pairs (L.drop (i + 1))).length = 0 * 2)
      clear hd0
      go_enter Try.func22, Try.ntmps22
      go_upto_region 4 with ((with_reducible go_at_call 34); (with_reducible refine (HA.out).mono ?_); rintro e w' ⟨rfl, rfl⟩)
      refine wp_region_dep_tail 18 (S := Rx w.heap.size 76 2 i 0 (pairs (L.take i)) (pairs (L.take i) ++ pairs (L.drop (i + 1)))) (C := Ext w) (by kernel_rfl) (by kernel_rfl) rfl Rx.refl (Ext.drew _) ?_
      simp only [List.take_succ_cons, List.take_zero]
      repeat (refine dep_det (by rfl) (fun K hK => ?_); go_simp; first
        | ((with_reducible refine hK _ ?_); clear hK K)
        | (rw [if_neg (by decide)]; (with_reducible refine hK _ ?_); clear hK K)
        | (refine ⟨_, fun w1 hw1 => ⟨Rx.refl w1, hw1, rfl⟩, hK _ ?_⟩; clear hK K)
        | (apply Exists.intro; refine ⟨fun w1 hw1 => ?_, hK _ ?_⟩
           first
             | (have c_v1 := cell_keep hw1 v1; go_simp; first | exact ⟨Rx.refl w1, hw1, rfl⟩ | exact ⟨Rx.refl w1, rfl⟩)
           clear hK K))
      refine dep_var (RwV w.heap.size 76 2 i (pairs (L.take i))) 18 rfl (by rfl) RwV.one (by go_simp) (fun w1 hw1 => ?_) ?_
      · obtain ⟨A', c', w', hrun, hh⟩ := rx_first (P := Try.prog) w w1 71 71 76 i0 _ 2 16 Try.underlying71 HI.out hz0 hz1 hz2 rfl (by omega) hw1 (some ⟨b, off, none⟩) i (i + 1) (pairs (L.take i)) (pairs (L.take i) ++ pairs (L.drop (i + 1))) 0 LT.out (HT.out w1 hw1) (pairs_one _) (by omega) (by omega)
        exact dep_append rfl hrun hh
      repeat (refine dep_det (by rfl) (fun K hK => ?_); go_simp; first
        | ((with_reducible refine hK _ ?_); clear hK K)
        | (rw [if_neg (by decide)]; (with_reducible refine hK _ ?_); clear hK K)
        | (refine ⟨_, fun w1 hw1 => ⟨Rx.refl w1, hw1, rfl⟩, hK _ ?_⟩; clear hK K)
        | (apply Exists.intro; refine ⟨fun w1 hw1 => ?_, hK _ ?_⟩
           first
             | (have c_v1 := cell_keep hw1 v1; go_simp; first | exact ⟨Rx.refl w1, hw1, rfl⟩ | exact ⟨Rx.refl w1, rfl⟩)
           clear hK K))
      refine dep_var1 18 _ (RwV w.heap.size 76 2 (i + 0) (pairs (L.take i) ++ pairs (L.drop (i + 1)))) 26 rfl (by rfl) (by intro V' h; simpa using h) (List.mem_cons_self ..) (by first | (simp; done) | simp [Act.put]) RwV.two (fun w1 v hw1 hV => ⟨by go_simp, ?_⟩) ?_
      · obtain ⟨A', c', w', hrun, hh⟩ := rx_second (P := Try.prog) w w1 71 71 76 i0 _ 2 16 Try.underlying71 HI.out hz0 hz1 hz2 rfl (by omega) hw1 _ i 0 _ (pairs (L.take i)) (pairs (L.drop (i + 1))) v hV LD.out (HD.out w1 hw1) (pairs_one _) (by omega) (by omega)
        exact dep_append rfl hrun hh
      repeat (refine dep_det (by rfl) (fun K hK => ?_); go_simp; first
        | ((with_reducible refine hK _ ?_); clear hK K)
        | (rw [if_neg (by decide)]; (with_reducible refine hK _ ?_); clear hK K)
        | (refine ⟨_, fun w1 hw1 => ⟨Rx.refl w1, hw1, rfl⟩, hK _ ?_⟩; clear hK K)
        | (apply Exists.intro; refine ⟨fun w1 hw1 => ?_, hK _ ?_⟩
           first
             | (have c_v1 := cell_keep hw1 v1; go_simp; first | exact ⟨Rx.refl w1, hw1, rfl⟩ | exact ⟨Rx.refl w1, rfl⟩)
           clear hK K))
      refine dep_nil ?_
      intro a' w' hC hE
      obtain ⟨v, ⟨A2, d2, rfl, r2⟩, hE⟩ := atEnd_cons hE (by simp) (by first | (simp; done) | simp [Act.put])
      obtain ⟨v, ⟨A1, d1, rfl, r1⟩, hE⟩ := atEnd_cons hE (by simp) (by first | (simp; done) | simp [Act.put])
      obtain rfl := atEnd_nil hE
      clear hE
      simp only [List.drop_succ_cons, List.drop_zero]
      have v9 := (HR.out.keep hC).l_
      have f9 := (HR.out.own.keep hC).frozen 1
      have hT := VTo.store (L := L.take i ++ L.drop (i + 1)) HR.out hC hB (by rw [← pairs_app]; exact r2)
      clear r1 r2
      go_wp2
      go_ret
      exact ⟨rfl, by rw [HDL.out]; exact hT⟩
    · have hq3 : (i : Int) + 1 < (c : Int) := by omega
      have hc1 : ¬ c - (i + 1) = 0 := by omega
      have HD := Lib.hid (fun w1 (h1 : Ext w w1) => show Rd w1 (some ⟨b, off + (i + 1) * 2, none⟩) (pairs (L.drop (i + 1))) by
        rw [pairs_drop]; exact (HR.out.keep h1).row.rd.dropAt _)
      have LD := Lib.hid (by rw [pairs_len, List.length_drop]; omega : (pairs (L.drop (i + 1))).length = (n - (i + 1)) * 2)
      go_enter Try.func22, Try.ntmps22
      go_upto_region 4 with ((with_reducible go_at_call 34); (with_reducible refine (HA.out).mono ?_); rintro e w' ⟨rfl, rfl⟩)
      refine wp_region_dep_tail 18 (S := Rx w.heap.size 76 2 i (n - (i + 1)) (pairs (L.take i)) (pairs (L.take i) ++ pairs (L.drop (i + 1)))) (C := Ext w) (by kernel_rfl) (by kernel_rfl) rfl Rx.refl (Ext.drew _) ?_
      simp only [List.take_succ_cons, List.take_zero]
      repeat (refine dep_det (by rfl) (fun K hK => ?_); go_simp; first
        | ((with_reducible refine hK _ ?_); clear hK K)
        | (rw [if_neg (by decide)]; (with_reducible refine hK _ ?_); clear hK K)
        | (refine ⟨_, fun w1 hw1 => ⟨Rx.refl w1, hw1, rfl⟩, hK _ ?_⟩; clear hK K)
        | (apply Exists.intro; refine ⟨fun w1 hw1 => ?_, hK _ ?_⟩
           first
             | (have c_v1 := cell_keep hw1 v1; go_simp; first | exact ⟨Rx.refl w1, hw1, rfl⟩ | exact ⟨Rx.refl w1, rfl⟩)
           clear hK K))
      refine dep_var (RwV w.heap.size 76 2 i (pairs (L.take i))) 18 rfl (by rfl) RwV.one (by go_simp) (fun w1 hw1 => ?_) ?_
      · obtain ⟨A', c', w', hrun, hh⟩ := rx_first (P := Try.prog) w w1 71 71 76 i0 _ 2 16 Try.underlying71 HI.out hz0 hz1 hz2 rfl (by omega) hw1 (some ⟨b, off, none⟩) i c (pairs (L.take i)) (pairs (L.take i) ++ pairs (L.drop (i + 1))) (n - (i + 1)) LT.out (HT.out w1 hw1) (pairs_one _) (by omega) (by omega)
        exact dep_append rfl hrun hh
      repeat (refine dep_det (by rfl) (fun K hK => ?_); go_simp; first
        | ((with_reducible refine hK _ ?_); clear hK K)
        | (rw [if_neg (by decide)]; (with_reducible refine hK _ ?_); clear hK K)
        | (refine ⟨_, fun w1 hw1 => ⟨Rx.refl w1, hw1, rfl⟩, hK _ ?_⟩; clear hK K)
        | (apply Exists.intro; refine ⟨fun w1 hw1 => ?_, hK _ ?_⟩
           first
             | (have c_v1 := cell_keep hw1 v1; go_simp; first | exact ⟨Rx.refl w1, hw1, rfl⟩ | exact ⟨Rx.refl w1, rfl⟩)
           clear hK K))
      refine dep_var1 18 _ (RwV w.heap.size 76 2 (i + (n - (i + 1))) (pairs (L.take i) ++ pairs (L.drop (i + 1)))) 26 rfl (by rfl) (by intro V' h; simpa using h) (List.mem_cons_self ..) (by first | (simp; done) | simp [Act.put]) RwV.two (fun w1 v hw1 hV => ⟨by go_simp, ?_⟩) ?_
      · obtain ⟨A', c', w', hrun, hh⟩ := rx_second (P := Try.prog) w w1 71 71 76 i0 _ 2 16 Try.underlying71 HI.out hz0 hz1 hz2 rfl (by omega) hw1 _ i (n - (i + 1)) _ (pairs (L.take i)) (pairs (L.drop (i + 1))) v hV LD.out (HD.out w1 hw1) (pairs_one _) (by omega) (by omega)
        exact dep_append rfl hrun hh
      repeat (refine dep_det (by rfl) (fun K hK => ?_); go_simp; first
        | ((with_reducible refine hK _ ?_); clear hK K)
        | (rw [if_neg (by decide)]; (with_reducible refine hK _ ?_); clear hK K)
        | (refine ⟨_, fun w1 hw1 => ⟨Rx.refl w1, hw1, rfl⟩, hK _ ?_⟩; clear hK K)
        | (apply Exists.intro; refine ⟨fun w1 hw1 => ?_, hK _ ?_⟩
           first
             | (have c_v1 := cell_keep hw1 v1; go_simp; first | exact ⟨Rx.refl w1, hw1, rfl⟩ | exact ⟨Rx.refl w1, rfl⟩)
           clear hK K))
      refine dep_nil ?_
      intro a' w' hC hE
      obtain ⟨v, ⟨A2, d2, rfl, r2⟩, hE⟩ := atEnd_cons hE (by simp) (by first | (simp; done) | simp [Act.put])
      obtain ⟨v, ⟨A1, d1, rfl, r1⟩, hE⟩ := atEnd_cons hE (by simp) (by first | (simp; done) | simp [Act.put])
      obtain rfl := atEnd_nil hE
      clear hE
      simp only [List.drop_succ_cons, List.drop_zero]
      have v9 := (HR.out.keep hC).l_
      have f9 := (HR.out.own.keep hC).frozen 1
      have hT := VTo.store (L := L.take i ++ L.drop (i + 1)) HR.out hC hB (by rw [← pairs_app]; exact r2)
      clear r1 r2
      go_wp2
      go_ret
      exact ⟨rfl, by rw [HDL.out]; exact hT⟩

end Go.Proofs.Ytjipkgnkabocjaa
