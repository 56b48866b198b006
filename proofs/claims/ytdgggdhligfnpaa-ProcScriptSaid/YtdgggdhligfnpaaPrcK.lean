/-
  WALKS of chapter 25's reference: Start.
-/
import Derived.Test.YtdgggdhligfnpaaPrcJ
import Derived.Deep.Cut
namespace Go.Proofs.Ytdgggdhligfnpaa
open Go.RowKit Go.Maps
attribute [local go_sem] depUpon Sp.ok

theorem info_rproc : (Try.prog.info? 67).map (fun i => (i.zero, i.size, i.bytes)) = some (some (.agg #[.int .i64 0, .int .i64 0, .int .i64 0, .bool false]), 4, 32) := by kernel_rfl
theorem size_rproc : (Try.prog.info? 67).map (·.size) = some 4 := by kernel_rfl
theorem lit_one (p a c : Int) (d : Bool) : ∀ u ∈ ([.int .i64 p, .int .i64 a, .int .i64 c, .bool d] : List Value), u.oneCell' = true := by simp [Value.oneCell']
theorem rcells_snoc (L : List PR) (x : PR) : rcells L ++ [.int .i64 x.pid, .int .i64 x.par, .int .i64 x.code, .bool x.dead] = rcells (L ++ [x]) := by rw [rcells_app, rcells_one]; rfl
theorem stF_len (x : PR) (l : List PR) : (stF x l).1.length ≤ 2 * l.length ∧ ((stF x l).2 = false → (stF x l).1.length = l.length) := by
  have : ∀ (l acc : List PR) (b : Bool), (l.foldl (stp x) (acc, b)).1.length ≤ acc.length + 2 * l.length ∧ ((l.foldl (stp x) (acc, b)).2 = false → (l.foldl (stp x) (acc, b)).1.length = acc.length + l.length) := by
    intro l
    induction l with
    | nil => intro acc b; simp
    | cons r l ih =>
      intro acc b
      rw [List.foldl_cons]
      by_cases h : b = false ∧ x.pid < r.pid
      · rw [show stp x (acc, b) r = (acc ++ [x] ++ [r], true) by unfold stp; rw [if_pos h]]
        rw [stp_true]
        simp; omega
      · rw [show stp x (acc, b) r = (acc ++ [r], b) by unfold stp; rw [if_neg h]]
        obtain ⟨h1, h2⟩ := ih (acc ++ [r]) b
        simp only [List.length_append, List.length_cons, List.length_nil] at h1 h2 ⊢
        exact ⟨by omega, fun h => by rw [h2 h]; omega⟩
  have := this l [] false
  simpa [stF] using this
theorem setCell_grown (w : World) (p : Addr) (v : Value) : w.grownBy (w.setCell p v) (some p.block) := ⟨rfl, rfl, rfl, by simp, fun j _ hj => heap_setCell_other w p j v (fun q => hj (by rw [q]))⟩
/-- What a call leaves of the reference. -/
def RTo (w0 : World) (B gr : Nat) (L : List PR) (w' : World) : Prop := ∃ A n c, RS w' B gr A n c L ∧ w0.grownBy w' (some gr)
theorem RTo.of {w w' : World} {B gr : Nat} {A : Option Addr} {n c : Nat} {L : List PR} (h : RS w B gr A n c L) (hb : Ext w w') : RTo w B gr L w' := ⟨A, n, c, h.keep hb, ⟨hb.os, hb.tape, hb.output, hb.size, fun i hi _ => hb.block i hi⟩⟩
theorem RTo.store {w w1 : World} {B gr : Nat} {A0 A : Option Addr} {n0 c0 n c : Nat} {L0 L : List PR} (h : RS w B gr A0 n0 c0 L0) (hb : Ext w w1) (hB : B ≤ w.heap.size) (r : Row w1 w.heap.size 67 4 A n c (rcells L)) :
    RTo w B gr L (w1.setCell ⟨gr, 0, none⟩ (.slice A n c)) := by
  have hlt := Own.lt h.own
  refine ⟨A, n, c, ⟨(h.own.keep hb).set 0 _, ?_⟩, ?_⟩
  · exact (r.grown (setCell_grown w1 ⟨gr, 0, none⟩ (.slice A n c)) (.inr (fun q => by have h1 := (r.at_ _ q).1; simp only at h1; omega))).mono hB
  · exact World.grownBy.trans ⟨hb.os, hb.tape, hb.output, hb.size, fun i hi _ => hb.block i hi⟩ (setCell_grown w1 ⟨gr, 0, none⟩ (.slice A n c))

set_option maxRecDepth 100000 in
set_option maxHeartbeats 4000000 in
theorem r_start (B gr : Nat) (A : Option Addr) (n c : Nat) (L : List PR) (k par : Int) (w : World) (h : RS w B gr A n c L) (hn : n ≤ 65536) (hB : B ≤ w.heap.size) :
    Calls Try.prog 15 #[.pointer (some ⟨gr, 0, none⟩), .int .i64 k, .int .i64 par] w fun e w' => e = .returned (.int .i64 (startE L k par)) ∧ RTo w B gr (startL L k par) w' := by
  have HA := Lib.hid (r_at B gr A n c L k w h hn)
  have HV := Lib.hid (r_alive B gr A n c L par w h hn)
  have HR := Lib.hid h
  have HSE := Lib.hid (show startE L k par = if k < 0 then 2 else if (pget L k).isSome = true then 5 else if par ≠ -1 ∧ aliveB L par = false then 4 else 0 from rfl)
  have HSN := Lib.hid (@start_none L k par)
  have HSF := Lib.hid (@start_fin L k par)
  by_cases hk0 : k < 0
  · have tk : decide (k < 0) = true := by simp [hk0]
    have HE := Lib.hid (show startE L k par = 2 by rw [HSE.out, if_pos hk0])
    clear h
    go_enter Try.func15, Try.ntmps15
    go_wp2
    go_ret
    exact ⟨by rw [HE.out]; rfl, by rw [HSN.out (by rw [HE.out]; omega)]; exact RTo.of HR.out (Ext.refl _)⟩
  have tk : decide (k < 0) = false := by simp [hk0]
  have tk0 : 0 ≤ k := by omega
  rcases @atL_get L k with ⟨h1, h2⟩ | ⟨i, hi, h1, h2⟩
  rotate_left
  · rw [h2] at HA
    have HE := Lib.hid (show startE L k par = 5 by rw [HSE.out, if_neg hk0, if_pos (by rw [h1]; rfl)])
    have i0' : (0 : Int) ≤ (i : Int) := by omega
    clear h h1 h2 hi hk0
    go_enter Try.func15, Try.ntmps15
    go_wp2_with ((with_reducible go_at_call 30); (with_reducible refine (HA.out).mono ?_); rintro e w' ⟨rfl, rfl⟩)
    go_ret
    exact ⟨by rw [HE.out]; rfl, by rw [HSN.out (by rw [HE.out]; omega)]; exact RTo.of HR.out (Ext.refl _)⟩
  rw [h2] at HA
  have hS2 : startE L k par = if par ≠ -1 ∧ aliveB L par = false then 4 else 0 := by rw [HSE.out, if_neg hk0, if_neg (by rw [h1]; simp)]
  have HS2 := Lib.hid hS2
  clear h1 h2 hS2 HSE hk0
  by_cases hbad : par ≠ -1 ∧ aliveB L par = false
  · have HE := Lib.hid (show startE L k par = 4 by rw [HS2.out, if_pos hbad])
    obtain ⟨q1, q2⟩ := hbad
    rw [q2] at HV
    have tp : (par == -1) = false := by simp [q1]
    have tq : (par != -1) = true := by simp [q1]
    clear q1 q2 h
    go_enter Try.func15, Try.ntmps15
    go_wp2_with (first | ((with_reducible go_at_call 30); (with_reducible refine (HA.out).mono ?_); rintro e w' ⟨rfl, rfl⟩) | ((with_reducible go_at_call 21); (with_reducible refine (HV.out).mono ?_); rintro e w' ⟨rfl, rfl⟩))
    go_ret
    exact ⟨by rw [HE.out]; rfl, by rw [HSN.out (by rw [HE.out]; omega)]; exact RTo.of HR.out (Ext.refl _)⟩
  have h00 : startE L k par = 0 := by rw [HS2.out, if_neg hbad]
  have HE := Lib.hid h00
  have HF := Lib.hid (HSF.out h00)
  have hway : par = -1 ∨ (par ≠ -1 ∧ aliveB L par = true) := by
    by_cases q : par = -1
    · exact .inl q
    · right
      refine ⟨q, ?_⟩
      cases ha : aliveB L par
      · exact absurd ⟨q, ha⟩ hbad
      · rfl
  have HLN := h.len
  have HST := Lib.hid (fun l => stF_len ⟨k, par, 0, false⟩ l)
  have HSS := Lib.hid (fun l r => stF_snoc ⟨k, par, 0, false⟩ l r)
  obtain ⟨i0, hi, hz0, hz1, hz2⟩ := info_parts info_rproc
  have HI := Lib.hid hi
  have oX := Own.new w 67 [.int .i64 k, .int .i64 par, .int .i64 0, .bool false]
  have v0 := (h.keep (Ext.alloc w (.cells #[.int .i64 k, .int .i64 par, .int .i64 0, .bool false] 67))).cell
  clear hi hbad h00 h HSF HSN HS2
  go_enter Try.func15, Try.ntmps15
  go_upto_region 5 with ((with_reducible go_at_call 30); (with_reducible refine (HA.out).mono ?_); rintro e w' ⟨rfl, rfl⟩)
  go_cut [24] from 11 (fun v wx => v = .bool false ∧ wx = w)
  case first =>
    rcases hway with rfl | ⟨q, ha⟩
    · go_wp2
      go_meet
      exact ⟨rfl, rfl⟩
    · rw [ha] at HV
      have tp : (par == -1) = false := by simp [q]
      have tq : (par != -1) = true := by simp [q]
      clear q
      go_wp2_with ((with_reducible go_at_call 21); (with_reducible refine (HV.out).mono ?_); rintro e w' ⟨rfl, rfl⟩)
      go_meet
      exact ⟨rfl, rfl⟩
  case rest =>
  obtain ⟨rfl, rfl⟩ := hcut
  clear HA HV hway
  go_wp2
  go_loopw [8, 9, 10] (fun v u q wr => ∃ (i : Nat) (S : Option Addr) (c1 : Nat), v = .slice S (stF ⟨k, par, 0, false⟩ (L.take i)).1.length c1 ∧ u = .bool (stF ⟨k, par, 0, false⟩ (L.take i)).2 ∧ q = .int .i64 i ∧ i ≤ n ∧ Own wr wc.heap.size 67 [.int .i64 k, .int .i64 par, .int .i64 0, .bool false] ∧ Row wr (wc.heap.size + 1) 67 4 S (stF ⟨k, par, 0, false⟩ (L.take i)).1.length c1 (rcells (stF ⟨k, par, 0, false⟩ (L.take i)).1) ∧ Ext wc wr ∧ wc.heap.size + 1 ≤ wr.heap.size) (fun _ _ q _ => n - (intOf q).toNat)
  case atStart => exact ⟨0, none, 0, rfl, rfl, rfl, by omega, oX, Row.nil _ _ _ _, Ext.alloc _ _, by simp⟩
  case round =>
    clear oX v0
    obtain ⟨i, S, c1, rfl, rfl, rfl, hi, oX, q1, q2, q3⟩ := hrel
    have v0 := (HR.out.keep q2).cell
    have hlen := (HST.out (L.take i)).1
    rw [List.length_take] at hlen
    by_cases hlt : i < n
    · have hil : i < L.length := by omega
      obtain ⟨b, off, rfl, he⟩ := HR.out.at_ hil
      have HEL := Lib.hid (fun wz (hz : Ext wc wz) j v hv => cell_keep hz (he j v hv))
      have d0 := HEL.out _ q2 0 _ rfl
      simp only [Nat.add_zero] at d0
      have hsn := HSS.out (L.take i) L[i]
      rw [← take_succ' L i hil] at hsn
      have i0' : (0 : Int) ≤ (i : Int) := by omega
      have i1' : (i : Int) < (n : Int) := by omega
      generalize hN : stF ⟨k, par, 0, false⟩ (L.take (i + 1)) = N1 at *
      have HN := Lib.hid hN
      generalize stF ⟨k, par, 0, false⟩ (L.take i) = N0 at *
      generalize L[i] = y at *
      obtain ⟨yp, ya, yc, yd⟩ := y
      simp only at d0
      obtain ⟨xs, bb⟩ := N0
      simp only at hsn q1 hlen
      have r0 := q1.mono (base' := wc.heap.size) (by omega)
      clear hN he hil
      cases bb
      · by_cases hgt : k < yp
        · have hv : N1 = (xs ++ [⟨k, par, 0, false⟩] ++ [⟨yp, ya, yc, yd⟩], true) := by rw [hsn]; unfold stp; rw [if_pos ⟨rfl, hgt⟩]
          have tg : decide (k < yp) = true := by simp [hgt]
          have HG := Lib.hid hv
          clear hsn hv
          go_wp2_with (first
            | (refine wpl_load_own _ rfl 67 _ rfl (by kernel_rfl) 4 size_rproc _ rfl _ _ oX rfl ?_)
            | (at_builtin; have r7 := ((q1).alloc (.cells #[.int .i64 k, .int .i64 par, .int .i64 0, .bool false] 67)); refine wpl_append _ rfl (.tmp 51) (.tmp 53) 36 rfl 67 i0 _ 4 32 Try.underlying36 HI.out hz0 hz1 hz2 rfl (by omega) (wc.heap.size + 1) S xs.length c1 _ rfl r7 _ 1 1 [.int .i64 k, .int .i64 par, .int .i64 0, .bool false] rfl rfl (Own.new _ _ _).rd0 (lit_one _ _ _ _) (xs.length + 1) (rcells (xs ++ [⟨k, par, 0, false⟩])) rfl (rcells_snoc xs ⟨k, par, 0, false⟩) (by omega) (by omega) (Nat.le_trans q3 (Ext.alloc _ _).size) ?_; intro A3 c3 w3 o3 g3 k3; have e3 := below_grown (Ext.trans q2 (Ext.alloc _ (.cells #[.int .i64 k, .int .i64 par, .int .i64 0, .bool false] 67))) g3 (Nat.le_trans q2.size (Ext.alloc _ (.cells #[.int .i64 k, .int .i64 par, .int .i64 0, .bool false] 67)).size) (fun g' hg' => Nat.le_of_succ_le (q1.at_ g' hg').1); have p3 := (oX.alloc (.cells #[.int .i64 k, .int .i64 par, .int .i64 0, .bool false] 67)).grown g3 (fun q => Nat.not_succ_le_self _ (q1.at_ _ q.symm).1); have s3 : wc.heap.size + 1 ≤ w3.heap.size := Nat.le_trans q3 (Nat.le_trans (Ext.alloc _ (.cells #[.int .i64 k, .int .i64 par, .int .i64 0, .bool false] 67)).size g3.size); clear g3 k3; have v3 := (HR.out.keep e3).cell)
            | (refine wpl_load_rd _ rfl 67 _ rfl (by kernel_rfl) 4 size_rproc b (off + i * 4) rfl [.int .i64 yp, .int .i64 ya, .int .i64 yc, .bool yd] rfl (HEL.out _ e3) ?_)
            | (at_builtin; have r7 := ((o3).alloc (.cells #[.int .i64 yp, .int .i64 ya, .int .i64 yc, .bool yd] 67)); refine wpl_append _ rfl (.tmp 55) (.tmp 63) 36 rfl 67 i0 _ 4 32 Try.underlying36 HI.out hz0 hz1 hz2 rfl (by omega) (wc.heap.size + 1) A3 (xs.length + 1) c3 _ rfl r7 _ 1 1 [.int .i64 yp, .int .i64 ya, .int .i64 yc, .bool yd] rfl rfl (Own.new _ _ _).rd0 (lit_one _ _ _ _) ((xs.length + 1) + 1) (rcells (xs ++ [⟨k, par, 0, false⟩] ++ [⟨yp, ya, yc, yd⟩])) rfl (rcells_snoc (xs ++ [⟨k, par, 0, false⟩]) ⟨yp, ya, yc, yd⟩) (by omega) (by omega) (Nat.le_trans s3 (Ext.alloc _ _).size) ?_; intro A5 c5 w5 o5 g5 k5; have e5 := below_grown (Ext.trans e3 (Ext.alloc _ (.cells #[.int .i64 yp, .int .i64 ya, .int .i64 yc, .bool yd] 67))) g5 (Nat.le_trans e3.size (Ext.alloc _ (.cells #[.int .i64 yp, .int .i64 ya, .int .i64 yc, .bool yd] 67)).size) (fun g' hg' => Nat.le_of_succ_le (o3.at_ g' hg').1); have p5 := (p3.alloc (.cells #[.int .i64 yp, .int .i64 ya, .int .i64 yc, .bool yd] 67)).grown g5 (fun q => Nat.not_succ_le_self _ (o3.at_ _ q.symm).1); have s5 : wc.heap.size + 1 ≤ w5.heap.size := Nat.le_trans s3 (Nat.le_trans (Ext.alloc _ (.cells #[.int .i64 yp, .int .i64 ya, .int .i64 yc, .bool yd] 67)).size g5.size); clear g5 k5))
          go_roundw
          case rel => exact ⟨i + 1, A5, c5, by rw [HN.out, HG.out]; simp, by rw [HN.out, HG.out], by go_num, by omega, p5, by rw [HN.out, HG.out]; simpa using o5, e5, s5⟩
          case measure => simp [intOf]; omega
        · have hv : N1 = (xs ++ [⟨yp, ya, yc, yd⟩], false) := by rw [hsn]; unfold stp; rw [if_neg (fun h => hgt h.2)]
          have tg : decide (k < yp) = false := by simp [hgt]
          have HG := Lib.hid hv
          clear hsn hv hgt
          go_wp2_with (first
            | (refine wpl_load_rd _ rfl 67 _ rfl (by kernel_rfl) 4 size_rproc b (off + i * 4) rfl [.int .i64 yp, .int .i64 ya, .int .i64 yc, .bool yd] rfl (HEL.out _ q2) ?_)
            | (at_builtin; have r7 := ((q1).alloc (.cells #[.int .i64 yp, .int .i64 ya, .int .i64 yc, .bool yd] 67)); refine wpl_append _ rfl (.tmp 55) (.tmp 63) 36 rfl 67 i0 _ 4 32 Try.underlying36 HI.out hz0 hz1 hz2 rfl (by omega) (wc.heap.size + 1) S xs.length c1 _ rfl r7 _ 1 1 [.int .i64 yp, .int .i64 ya, .int .i64 yc, .bool yd] rfl rfl (Own.new _ _ _).rd0 (lit_one _ _ _ _) (xs.length + 1) (rcells (xs ++ [⟨yp, ya, yc, yd⟩])) rfl (rcells_snoc xs ⟨yp, ya, yc, yd⟩) (by omega) (by omega) (Nat.le_trans q3 (Ext.alloc _ _).size) ?_; intro A3 c3 w3 o3 g3 k3; have e3 := below_grown (Ext.trans q2 (Ext.alloc _ (.cells #[.int .i64 yp, .int .i64 ya, .int .i64 yc, .bool yd] 67))) g3 (Nat.le_trans q2.size (Ext.alloc _ (.cells #[.int .i64 yp, .int .i64 ya, .int .i64 yc, .bool yd] 67)).size) (fun g' hg' => Nat.le_of_succ_le (q1.at_ g' hg').1); have p3 := (oX.alloc (.cells #[.int .i64 yp, .int .i64 ya, .int .i64 yc, .bool yd] 67)).grown g3 (fun q => Nat.not_succ_le_self _ (q1.at_ _ q.symm).1); have s3 : wc.heap.size + 1 ≤ w3.heap.size := Nat.le_trans q3 (Nat.le_trans (Ext.alloc _ (.cells #[.int .i64 yp, .int .i64 ya, .int .i64 yc, .bool yd] 67)).size g3.size); clear g3 k3))
          go_roundw
          case rel => exact ⟨i + 1, A3, c3, by rw [HN.out, HG.out]; simp, by rw [HN.out, HG.out], by go_num, by omega, p3, by rw [HN.out, HG.out]; simpa using o3, e3, s3⟩
          case measure => simp [intOf]; omega
      · have hv : N1 = (xs ++ [⟨yp, ya, yc, yd⟩], true) := by rw [hsn]; unfold stp; rw [if_neg (fun h => by cases h.1)]
        have HG := Lib.hid hv
        clear hsn hv
        go_wp2_with (first
          | (refine wpl_load_rd _ rfl 67 _ rfl (by kernel_rfl) 4 size_rproc b (off + i * 4) rfl [.int .i64 yp, .int .i64 ya, .int .i64 yc, .bool yd] rfl (HEL.out _ q2) ?_)
          | (at_builtin; have r7 := ((q1).alloc (.cells #[.int .i64 yp, .int .i64 ya, .int .i64 yc, .bool yd] 67)); refine wpl_append _ rfl (.tmp 55) (.tmp 63) 36 rfl 67 i0 _ 4 32 Try.underlying36 HI.out hz0 hz1 hz2 rfl (by omega) (wc.heap.size + 1) S xs.length c1 _ rfl r7 _ 1 1 [.int .i64 yp, .int .i64 ya, .int .i64 yc, .bool yd] rfl rfl (Own.new _ _ _).rd0 (lit_one _ _ _ _) (xs.length + 1) (rcells (xs ++ [⟨yp, ya, yc, yd⟩])) rfl (rcells_snoc xs ⟨yp, ya, yc, yd⟩) (by omega) (by omega) (Nat.le_trans q3 (Ext.alloc _ _).size) ?_; intro A3 c3 w3 o3 g3 k3; have e3 := below_grown (Ext.trans q2 (Ext.alloc _ (.cells #[.int .i64 yp, .int .i64 ya, .int .i64 yc, .bool yd] 67))) g3 (Nat.le_trans q2.size (Ext.alloc _ (.cells #[.int .i64 yp, .int .i64 ya, .int .i64 yc, .bool yd] 67)).size) (fun g' hg' => Nat.le_of_succ_le (q1.at_ g' hg').1); have p3 := (oX.alloc (.cells #[.int .i64 yp, .int .i64 ya, .int .i64 yc, .bool yd] 67)).grown g3 (fun q => Nat.not_succ_le_self _ (q1.at_ _ q.symm).1); have s3 : wc.heap.size + 1 ≤ w3.heap.size := Nat.le_trans q3 (Nat.le_trans (Ext.alloc _ (.cells #[.int .i64 yp, .int .i64 ya, .int .i64 yc, .bool yd] 67)).size g3.size); clear g3 k3))
        go_roundw
        case rel => exact ⟨i + 1, A3, c3, by rw [HN.out, HG.out]; simp, by rw [HN.out, HG.out], by go_num, by omega, p3, by rw [HN.out, HG.out]; simpa using o3, e3, s3⟩
        case measure => simp [intOf]; omega
    · obtain rfl : i = n := by omega
      rw [List.take_of_length_le (by omega)] at q1 hlen ⊢
      have hE := HE.out
      have hF := HF.out
      have hlt2 := Own.lt HR.out.own
      generalize stF ⟨k, par, 0, false⟩ L = N0 at *
      obtain ⟨xs, bb⟩ := N0
      simp only at hF q1 hlen
      cases bb
      · rw [if_neg (by simp)] at hF
        have HF' := Lib.hid hF
        clear hF hE
        go_wp2_with (first
          | (refine wpl_load_own _ rfl 67 _ rfl (by kernel_rfl) 4 size_rproc _ rfl _ _ oX rfl ?_)
          | (at_builtin; have r7 := ((q1).alloc (.cells #[.int .i64 k, .int .i64 par, .int .i64 0, .bool false] 67)); refine wpl_append _ rfl (.tmp 67) (.tmp 69) 36 rfl 67 i0 _ 4 32 Try.underlying36 HI.out hz0 hz1 hz2 rfl (by omega) (wc.heap.size + 1) S xs.length c1 _ rfl r7 _ 1 1 [.int .i64 k, .int .i64 par, .int .i64 0, .bool false] rfl rfl (Own.new _ _ _).rd0 (lit_one _ _ _ _) (xs.length + 1) (rcells (xs ++ [⟨k, par, 0, false⟩])) rfl (rcells_snoc xs ⟨k, par, 0, false⟩) (by omega) (by omega) (Nat.le_trans q3 (Ext.alloc _ _).size) ?_; intro A3 c3 w3 o3 g3 k3; have e3 := below_grown (Ext.trans q2 (Ext.alloc _ (.cells #[.int .i64 k, .int .i64 par, .int .i64 0, .bool false] 67))) g3 (Nat.le_trans q2.size (Ext.alloc _ (.cells #[.int .i64 k, .int .i64 par, .int .i64 0, .bool false] 67)).size) (fun g' hg' => Nat.le_of_succ_le (q1.at_ g' hg').1); have p3 := (oX.alloc (.cells #[.int .i64 k, .int .i64 par, .int .i64 0, .bool false] 67)).grown g3 (fun q => Nat.not_succ_le_self _ (q1.at_ _ q.symm).1); have s3 : wc.heap.size + 1 ≤ w3.heap.size := Nat.le_trans q3 (Nat.le_trans (Ext.alloc _ (.cells #[.int .i64 k, .int .i64 par, .int .i64 0, .bool false] 67)).size g3.size); clear g3 k3; have v3 := (HR.out.keep e3).cell; have f3 := (HR.out.own.keep e3).frozen 0))
        go_ret
        exact ⟨by rw [HE.out]; rfl, by rw [HF'.out]; exact RTo.store HR.out e3 hB ((by simpa using o3 : Row w3 (wc.heap.size + 1) 67 4 A3 (xs.length + 1) c3 (rcells (xs ++ [⟨k, par, 0, false⟩]))).mono (by omega))⟩
      · rw [if_pos rfl] at hF
        have HF' := Lib.hid hF
        have f0 := (HR.out.own.keep q2).frozen 0
        clear hF hE
        go_wp2
        go_ret
        exact ⟨by rw [HE.out]; rfl, by rw [HF'.out]; exact RTo.store HR.out q2 hB (q1.mono (by omega))⟩

end Go.Proofs.Ytdgggdhligfnpaa
