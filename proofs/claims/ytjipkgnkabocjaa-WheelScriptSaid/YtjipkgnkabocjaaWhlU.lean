/-
  THE WALK of the statement WheelScript.
-/
import Derived.Test.YtjipkgnkabocjaaWhlT
import Derived.Deep.RegionHeld3
namespace Go.Proofs.Ytjipkgnkabocjaa
open Go.RowKit
attribute [local go_sem] depUpon Sp.ok

theorem l_num6 (x : Int) (w : World) : Calls Try.prog 20 #[.int .i64 x] w fun e w' => e = .returned (.int .i64 x) ∧ w = w' := by
  go_enter Try.func20, Try.ntmps20
  go_wp2
  go_ret
  exact ⟨rfl, rfl⟩
section
variable {w w' : World} {B B2 g gr : Nat} {m now : Int} {F F' : FW} {A : Option Addr} {n c : Nat} {L L' : TL}
theorem VS.other (h : VS w B2 gr now A n c L) (hw : WL w B g m F L') (a : WT w w' g F F') (hg : gr ≠ g) : VS w' B2 gr now A n c L := by
  obtain ⟨R, s, _, _⟩ := hw
  exact ⟨a.own h.own hg (fun k hk q => row_ne (s.row k hk) h.own (by decide) _ q rfl), a.row h.row (fun q => row_ne h.row s.own (by decide) _ q rfl) (fun j hj i hi => row_row h.row (s.row j hj) (by decide) i hi)⟩
theorem WL.grownR (h : WL w B g m F L') (hv : VS w B2 gr now A n c L) (hs : w.grownBy w' (some gr)) (hg : gr ≠ g) : WL w' B g m F L' := by
  obtain ⟨R, s, f, z⟩ := h
  exact ⟨R, ⟨s.own.grown hs (fun q => hg (by injection q with q; exact q.symm)), fun j hj => (s.row j hj).grown hs (.inr fun q => row_ne (s.row j hj) hv.own (by decide) _ q rfl), s.sep, s.lo⟩, f, Nat.le_trans z hs.size⟩
theorem WL.grownI (h : WL w B g m F L') {b : Nat} {zs : List Value} (hr : Row w b 3 1 A n c zs) (hs : w.grownBy w' (blk A)) : WL w' B g m F L' := by
  obtain ⟨R, s, f, z⟩ := h
  refine ⟨R, ⟨s.own.grown hs (fun q => row_ne hr s.own (by decide) _ q.symm rfl), fun j hj => (s.row j hj).grown hs ?_, s.sep, s.lo⟩, f, Nat.le_trans z hs.size⟩
  cases hb : blk (F j).1 with
  | none => exact .inl rfl
  | some bb => exact .inr fun q => row_row (s.row j hj) hr (by decide) bb hb q.symm
theorem VS.grownI {n' c' : Nat} {A' : Option Addr} (h : VS w B gr now A n c L) {b : Nat} {zs : List Value} (hr : Row w b 3 1 A' n' c' zs) (hs : w.grownBy w' (blk A')) : VS w' B gr now A n c L := by
  refine ⟨h.own.grown hs (fun q => row_ne hr h.own (by decide) _ q.symm rfl), h.row.grown hs ?_⟩
  cases hb : blk A with
  | none => exact .inl rfl
  | some bb => exact .inr fun q => row_row h.row hr (by decide) bb hb q.symm
end
theorem WL.l64 {w : World} {B g : Nat} {now : Int} {F : FW} {L : TL} (h : WL w B g now F L) : L.length ≤ 64 := by
  obtain ⟨R, _, q, _⟩ := h
  exact q.len
theorem WL.lohi {w : World} {B g : Nat} {now : Int} {F : FW} {L : TL} (h : WL w B g now F L) : 0 ≤ now ∧ now < 16777216 := by
  obtain ⟨R, _, q, _⟩ := h
  exact ⟨q.lo, q.hi⟩
theorem WL.ownA {w w' : World} {B g : Nat} {now : Int} {F F' : FW} {L : TL} (h : WL w B g now F L) (a : WT w w' g F F') {i : Nat} {xs : List Value} (ho : Own w i 47 xs) (hg : i ≠ g) : Own w' i 47 xs := h.own a ho hg (by decide)
/-- Both hold the timers L at the moment nw; and what the law is at. -/
structure BW (w : World) (B g gr hx : Nat) (nw : Int) (L : TL) (xs : List Value) : Prop where
  wl : ∃ F, WL w B g nw F L
  vs : ∃ A c, VS w B gr nw A L.length c L
  ox : Own w hx 47 xs
section
variable {w w' : World} {B g gr hx : Nat} {nw : Int} {L : TL} {xs : List Value}
theorem BW.keep (h : BW w B g gr hx nw L xs) (hb : Ext w w') : BW w' B g gr hx nw L xs := by
  obtain ⟨⟨F, h1⟩, ⟨A, c, h2⟩, h3⟩ := h
  exact ⟨⟨F, h1.keep hb⟩, ⟨A, c, h2.keep hb⟩, h3.keep hb⟩
end

set_option maxRecDepth 100000 in
set_option maxHeartbeats 4000000 in
theorem l_same (B g gr : Nat) (nw : Int) (F : FW) (A : Option Addr) (c : Nat) (L : TL) (k : Int) (w : World) (h : WL w B g nw F L) (hv : VS w B gr nw A L.length c L) :
    Calls Try.prog 25 #[.pointer (some ⟨g, 0, none⟩), .pointer (some ⟨gr, 0, none⟩), .int .i64 k] w fun e w' => e = .returned (.bool true) ∧ Ext w w' := by
  have h64 := h.l64
  have hnw : 0 ≤ nw := by obtain ⟨R, _, f, _⟩ := h; exact f.lo
  have H1 := Lib.hid (l_at B g nw F L k w h)
  have H2 := Lib.hid (fun w' (b : Ext w w') => r_At B gr nw A L.length c L k w' (hv.keep b) (by omega))
  have H3 := Lib.hid (fun w' (b : Ext w w') => l_place B g nw F L k w' (h.keep b))
  have H4 := Lib.hid (fun w' (b : Ext w w') => r_Place B gr nw A L.length c L k w' (hv.keep b) (by omega) hnw h.fut)
  have H5 := Lib.hid (fun w' (b : Ext w w') => l_len B g nw F L w' (h.keep b))
  have H6 := Lib.hid (fun w' (b : Ext w w') => l_now B g nw F L w' (h.keep b))
  have HV := Lib.hid (fun w' (b : Ext w w') => hv.keep b)
  generalize oA (tget L k) = xa at *
  generalize (tget L k).isSome = xb at *
  generalize (placeV L nw k).1 = p1 at *
  generalize (placeV L nw k).2.1 = p2 at *
  generalize (placeV L nw k).2.2 = p3 at *
  clear h hv
  go_enter Try.func25, Try.ntmps25
  go_upto_region 5 with (first
    | ((with_reducible go_at_call 26); (with_reducible refine H1.out.mono ?_); rintro e w1 ⟨rfl, b1⟩)
    | ((with_reducible go_at_call 36); (with_reducible refine (H2.out _ b1).mono ?_); rintro e w2 ⟨rfl, rfl⟩)
    | ((with_reducible go_at_call 15); (with_reducible refine (H3.out _ b1).mono ?_); rintro e w3 ⟨rfl, b3⟩)
    | ((with_reducible go_at_call 37); (with_reducible refine (H4.out _ (Ext.trans b1 b3)).mono ?_); rintro e w4 ⟨rfl, b4⟩))
  have b5 := Ext.trans (Ext.trans b1 b3) b4
  have v0 := (HV.out _ b5).now_
  have v1 := (HV.out _ b5).l_
  have z1 : (xb == xb) = true := by simp
  have z2 : (p3 == p3) = true := by simp
  refine wp_region_dep (S := Ext) (C := Ext (w4)) (by kernel_rfl) (by kernel_rfl) rfl Ext.refl (Ext.drew _) ?_
  repeat (refine dep_det (by rfl) (fun K hK => ?_); go_simp; first
    | ((with_reducible refine hK _ ?_); clear hK K)
    | (rw [if_neg (by decide)]; (with_reducible refine hK _ ?_); clear hK K)
    | (refine ⟨_, fun w1 hw1 => ⟨Ext.refl w1, hw1, rfl⟩, hK _ ?_⟩; clear hK K)
    | (apply Exists.intro; refine ⟨fun w1 hw1 => ?_, hK _ ?_⟩
       first
         | (have c_v0 := cell_keep hw1 v0; have c_v1 := cell_keep hw1 v1; go_simp; first | exact ⟨Ext.refl _, hw1, rfl⟩ | exact ⟨Ext.refl _, rfl⟩)
         | (go_at_call 14; ((with_reducible refine (H5.out _ (Ext.trans b5 hw1)).mono ?_); rintro e w' ⟨rfl, rfl⟩; exact ⟨_, rfl, Ext.refl _, hw1, rfl⟩))
         | (go_at_call 16; ((with_reducible refine (H6.out _ (Ext.trans b5 hw1)).mono ?_); rintro e w' ⟨rfl, rfl⟩; exact ⟨_, rfl, Ext.refl _, hw1, rfl⟩))
       clear hK K))
  refine dep_nil ?_
  intro a' w' hC hE
  obtain rfl := atEnd_nil hE
  clear hE
  go_wp2
  go_ret
  exact ⟨rfl, Ext.trans b5 hC⟩

set_option maxRecDepth 100000 in
set_option maxHeartbeats 8000000 in
theorem law_whlscript (now : Int) (A : Option Addr) (m cA : Nat) (ps : List (Int × Int × Int)) (w : World) (_ : I64 now) (ga : TripsArg w A m ps) :
    Calls Try.prog 7 #[.int .i64 now, .slice A m cA] w fun e w' => e = .returned (.bool true) ∧ Below w.heap.size w w' := by
  have HAW := Lib.hid (fun w => whl_awake w)
  by_cases h60 : 60 < m
  · have h1 : (60 : Int) < (m : Int) := by omega
    clear ga
    go_enter Try.func7, Try.ntmps7
    go_wp2_with ((with_reducible go_at_call 9); (with_reducible refine (HAW.out _).mono ?_); rintro e w1 ⟨rfl, b1⟩)
    go_ret
    exact ⟨rfl, b1⟩
  have h1 : (m : Int) ≤ 60 := by omega
  by_cases hbad : now < 0 ∨ 16777216 ≤ now
  · have HN1 := Lib.hid (w_new_bad now w hbad)
    have HN2 := Lib.hid (r_new_bad now w hbad)
    clear ga hbad
    go_enter Try.func7, Try.ntmps7
    go_wp2_with (first
      | ((with_reducible go_at_call 11); (with_reducible refine (HN1.out).mono ?_); rintro e w' ⟨rfl, rfl⟩)
      | ((with_reducible go_at_call 19); (with_reducible refine (HN2.out).mono ?_); rintro e w' ⟨rfl, rfl⟩)
      | ((with_reducible go_at_call 20); (with_reducible refine (l_num6 _ _).mono ?_); rintro e w' ⟨rfl, rfl⟩)
      | ((with_reducible go_at_call 9); (with_reducible refine (HAW.out _).mono ?_); rintro e w1 ⟨rfl, b1⟩))
    go_ret
    exact ⟨rfl, b1⟩
  have HP := Lib.hid ga
  have hpl := ga.len
  have HN1 := Lib.hid (l_new now w (by omega) (by omega))
  have HN2 := Lib.hid (fun w => r_new now w (by omega) (by omega))
  clear ga hbad
  go_enter Try.func7, Try.ntmps7
  go_wp2_with (first
    | ((with_reducible go_at_call 11); (with_reducible refine HN1.out.mono ?_); rintro e w1 ⟨rfl, s1, b1⟩; have S1 := Lib.hid s1; clear s1)
    | ((with_reducible go_at_call 19); (with_reducible refine (HN2.out _).mono ?_); rintro e w2 ⟨rfl, s2, b2⟩; have S2 := Lib.hid s2; clear s2)
    | ((with_reducible go_at_call 20); (with_reducible refine (l_num6 _ _).mono ?_); rintro e w' ⟨rfl, rfl⟩))
  have hgl := S1.out.gl
  have HB := Lib.hid b1.size
  have hB0 : ∃ (nw : Int) (L : TL), (∃ F, WL w2 w.heap.size w.heap.size nw F L) ∧ (∃ A c, VS w2 w.heap.size w1.heap.size nw A L.length c L) := ⟨now, [], ⟨F0, S1.out.keep b2⟩, none, 0, ⟨S2.out.own, S2.out.row.mono HB.out⟩⟩
  have b12 := Ext.trans b1 b2
  have HNE := Lib.hid (show w1.heap.size ≠ w.heap.size by omega)
  have HGR := Lib.hid (Own.lt S2.out.own)
  have hs2 : w1.heap.size < w2.heap.size := HGR.out
  generalize w1.heap.size = gr at *
  have HB2 := Lib.hid (show w.heap.size ≤ gr from HB.out)
  clear S1 S2 HGR
  go_loopw [9] (fun q wr => ∃ (i : Nat), q = .int .i64 (i : Int) ∧ i ≤ m ∧ (∃ (nw : Int) (L : TL), (∃ F, WL wr w.heap.size w.heap.size nw F L) ∧ (∃ A c, VS wr w.heap.size gr nw A L.length c L)) ∧ Ext w wr ∧ gr < wr.heap.size) (fun q _ => m - (intOf q).toNat)
  case atStart => exact ⟨0, rfl, by omega, hB0, b12, hs2⟩
  case round =>
    clear hB0 b12 hs2 b1 b2
    obtain ⟨i, rfl, hi, ⟨nw, L, ⟨F, hW⟩, A1, c1, hV⟩, h4, hgs⟩ := hrel
    by_cases hlt : i < m
    · have hil : i < ps.length := by omega
      obtain ⟨b, off, rfl, e0, e1, e2⟩ := (HP.out.rd.keep h4).trip hil
      generalize ps[i].1 = d at *
      generalize ps[i].2.1 = k at *
      generalize ps[i].2.2 = x at *
      have i0' : (0 : Int) ≤ (i : Int) := by omega
      have i1' : (i : Int) < (m : Int) := by omega
      have oX : Own (wr.alloc (.cells #[.int .i64 d, .int .i64 k, .int .i64 x] 47)) wr.heap.size 47 [.int .i64 d, .int .i64 k, .int .i64 x] := Own.new wr _ _
      have bX := Ext.alloc wr (.cells #[.int .i64 d, .int .i64 k, .int .i64 x] 47)
      have hwl := hW.gl
      go_upto_block 2 with fail
      have HBW := Lib.hid (show BW (wr.alloc (.cells #[.int .i64 d, .int .i64 k, .int .i64 x] 47)) w.heap.size w.heap.size gr wr.heap.size nw L [.int .i64 d, .int .i64 k, .int .i64 x] from ⟨⟨F, hW.keep bX⟩, ⟨A1, c1, hV.keep bX⟩, oX⟩)
      replace h4 := Ext.trans h4 bX
      have HX := Lib.hid (show wr.heap.size ≠ gr ∧ wr.heap.size ≠ w.heap.size by omega)
      have hgs3 : gr < (wr.alloc (.cells #[.int .i64 d, .int .i64 k, .int .i64 x] 47)).heap.size := by simp; omega
      generalize wr.alloc (.cells #[.int .i64 d, .int .i64 k, .int .i64 x] 47) = w3 at *
      generalize wr.heap.size = hx at *
      clear e0 e1 e2 bX oX hW hV hgs hwl
      go_cut [11] from 55 to 122 (fun s11 wx => ∃ (kk : Nat) (nw' : Int) (L' : TL), s11 = .int .i64 (kk : Int) ∧ kk ≤ 200 ∧ BW wx w.heap.size w.heap.size gr hx nw' L' [.int .i64 d, .int .i64 k, .int .i64 x] ∧ Ext w wx ∧ gr < wx.heap.size)
      case first =>
        obtain ⟨⟨F, hW⟩, ⟨A1, c1, hV⟩, oX⟩ := HBW.out
        have x0 := oX.cell 0
        have x1 := oX.cell 1
        have x2 := oX.cell 2
        simp only [List.getElem?_cons_zero, List.getElem?_cons_succ] at x0 x1 x2
        have hl64 := hW.l64
        have hws := hW.size
        have HW := Lib.hid hW
        have HV := Lib.hid hV
        have HO := Lib.hid oX
        clear hW hV oX HBW
        by_cases hd0 : d = 0
        · subst hd0
          have t0 : ((0 : Int) == 0) = true := by simp
          go_upto_region 16 with fail
          go_region_held3 (fun w' => w'.cell? ⟨hx, 1, none⟩ = some (.int .i64 k) ∧ w'.cell? ⟨hx, 2, none⟩ = some (.int .i64 x)) (first | exact ⟨x1, x2⟩ | exact ⟨k1, k2⟩ | exact ⟨k3, k4⟩)
            (first
              | ((with_reducible go_at_call 12); (with_reducible refine (l_arm _ _ nw F L k x _ (HW.out.keep (Ext.drew w3))).mono ?_); rintro e w4 ⟨rfl, F4, s4, t4⟩; have o4 := (HW.out.keep (Ext.drew w3)).ownA t4 (HO.out.keep (Ext.drew w3)) HX.out.2; have k1 := o4.cell 1; have k2 := o4.cell 2; simp only [List.getElem?_cons_zero, List.getElem?_cons_succ] at k1 k2; have k0 : w3.heap.size ≤ w4.heap.size := t4.base.size; have V4 := Lib.hid ((HV.out.keep (Ext.drew w3)).other (HW.out.keep (Ext.drew w3)) t4 HNE.out); have W4 := Lib.hid s4; have O4 := Lib.hid o4; have b4 : Ext w w4 := Below.trans (Ext.trans h4 (Ext.drew w3)) ((HW.out.keep (Ext.drew w3)).below t4); clear s4 o4)
              | ((with_reducible go_at_call 21); (with_reducible refine (r_arm _ _ nw A1 L.length c1 L k x _ V4.out hl64 (Nat.le_trans hws k0)).mono ?_); rintro e w6 ⟨rfl, A6, n6, c6, r6, g6⟩; have o6 := O4.out.grown g6 (fun q => HX.out.1 (by injection q)); have k3 := o6.cell 1; have k4 := o6.cell 2; simp only [List.getElem?_cons_zero, List.getElem?_cons_succ] at k3 k4; have R6 := Lib.hid r6; have O6 := Lib.hid o6; clear r6 o6)
              | ((with_reducible go_at_call 20); (with_reducible refine (l_num6 _ _).mono ?_); rintro e w5 ⟨rfl, rfl⟩))
          have b6 := below_grown b4 g6 b4.size (fun q hq => by injection hq with hq; have := HB2.out; omega)
          have tz : (armE L nw k x != armE L nw k x) = false := by simp
          have hn6 := R6.out.len
          subst hn6
          go_wp2
          go_meet
          exact ⟨0, nw, armL L nw k x, rfl, by omega, ⟨⟨F4, W4.out.grownR V4.out g6 HNE.out⟩, ⟨A6, c6, R6.out⟩, O6.out⟩, b6, by have := g6.size; omega⟩
        · have t0 : (d == 0) = false := by simp [hd0]
          by_cases hd1 : d = 1
          · subst hd1
            have t1 : ((1 : Int) == 1) = true := by simp
            have HS := Lib.hid HW.out.srt
            clear hd0
            go_upto_region 19 with fail
            go_region_held3 (fun w' => w'.cell? ⟨hx, 1, none⟩ = some (.int .i64 k) ∧ w'.cell? ⟨hx, 2, none⟩ = some (.int .i64 x)) (first | exact ⟨x1, x2⟩ | exact ⟨k1, k2⟩ | exact ⟨k3, k4⟩)
              (first
                | ((with_reducible go_at_call 17); (with_reducible refine (l_cancel _ _ nw F L k _ (HW.out.keep (Ext.drew w3))).mono ?_); rintro e w4 ⟨rfl, F4, s4, t4⟩; have o4 := (HW.out.keep (Ext.drew w3)).ownA t4 (HO.out.keep (Ext.drew w3)) HX.out.2; have k1 := o4.cell 1; have k2 := o4.cell 2; simp only [List.getElem?_cons_zero, List.getElem?_cons_succ] at k1 k2; have k0 : w3.heap.size ≤ w4.heap.size := t4.base.size; have V4 := Lib.hid ((HV.out.keep (Ext.drew w3)).other (HW.out.keep (Ext.drew w3)) t4 HNE.out); have W4 := Lib.hid s4; have O4 := Lib.hid o4; have b4 : Ext w w4 := Below.trans (Ext.trans h4 (Ext.drew w3)) ((HW.out.keep (Ext.drew w3)).below t4); clear s4 o4)
                | ((with_reducible go_at_call 22); (with_reducible refine (r_cancel _ _ nw A1 L.length c1 L k _ V4.out hl64 (Nat.le_trans hws k0) HS.out).mono ?_); rintro e w6 ⟨rfl, A6, n6, c6, r6, g6⟩; have o6 := O4.out.grown g6 (fun q => HX.out.1 (by injection q)); have k3 := o6.cell 1; have k4 := o6.cell 2; simp only [List.getElem?_cons_zero, List.getElem?_cons_succ] at k3 k4; have R6 := Lib.hid r6; have O6 := Lib.hid o6; clear r6 o6))
            have b6 := below_grown b4 g6 b4.size (fun q hq => by injection hq with hq; have := HB2.out; omega)
            have tz : ((tget L k).isSome != (tget L k).isSome) = false := by simp
            have hn6 := R6.out.len
            subst hn6
            go_wp2
            go_meet
            exact ⟨0, nw, tdel L k, rfl, by omega, ⟨⟨F4, W4.out.grownR V4.out g6 HNE.out⟩, ⟨A6, c6, R6.out⟩, O6.out⟩, b6, by have := g6.size; omega⟩
          · have t1 : (d == 1) = false := by simp [hd1]
            by_cases hd2 : d = 2
            · subst hd2
              have t2 : ((2 : Int) == 2) = true := by simp
              clear hd0 hd1
              go_wp2
              go_meet
              exact ⟨1, nw, L, rfl, by omega, ⟨⟨F, HW.out⟩, ⟨A1, c1, HV.out⟩, HO.out⟩, h4, hgs3⟩
            · have t2 : (d == 2) = false := by simp [hd2]
              by_cases hd3 : d = 3
              · subst hd3
                have t3 : ((3 : Int) == 3) = true := by simp
                have HL := Lib.hid (fun w => low_any x 200 w (by omega) (by omega))
                have a0 := low_lo x 200 (by omega)
                have a1 := low_hi x 200 (by omega)
                generalize low x 200 = kz at *
                obtain ⟨kk, rfl⟩ : ∃ kk : Nat, kz = (kk : Int) := ⟨kz.toNat, by omega⟩
                clear hd0 hd1 hd2
                go_wp2_with ((with_reducible go_at_call 10); (with_reducible refine (HL.out _).mono ?_); rintro e w' ⟨rfl, rfl⟩)
                go_meet
                exact ⟨kk, nw, L, rfl, by omega, ⟨⟨F, HW.out⟩, ⟨A1, c1, HV.out⟩, HO.out⟩, h4, hgs3⟩
              · have t3 : (d == 3) = false := by simp [hd3]
                clear hd0 hd1 hd2 hd3
                go_wp2
                go_meet
                exact ⟨0, nw, L, rfl, by omega, ⟨⟨F, HW.out⟩, ⟨A1, c1, HV.out⟩, HO.out⟩, h4, hgs3⟩
      case rest =>
        obtain ⟨kk, nw2, L2, rfl, hkk, hBW, h5, hgs5⟩ := hcut
        clear HBW h4 hgs3
        go_wp2
        go_loopw [12] (fun q wr => ∃ (j : Nat) (nw' : Int) (L' : TL), q = .int .i64 (j : Int) ∧ j ≤ kk ∧ BW wr w.heap.size w.heap.size gr hx nw' L' [.int .i64 d, .int .i64 k, .int .i64 x] ∧ Ext w wr ∧ gr < wr.heap.size) (fun q _ => kk - (intOf q).toNat)
        case atStart => exact ⟨0, nw2, L2, rfl, by omega, hBW, h5, hgs5⟩
        case round =>
          clear hBW h5 hgs5
          obtain ⟨j, nw3, L3, rfl, hj, hBW, h5, hgs5⟩ := hrel
          obtain ⟨⟨F, hW⟩, ⟨A1, c1, hV⟩, oX⟩ := hBW
          have hl64 := hW.l64
          have hws := hW.size
          obtain ⟨hlo, hhi⟩ := hW.lohi
          have HW := Lib.hid hW
          have HV := Lib.hid hV
          have HO := Lib.hid oX
          by_cases hlt2 : j < kk
          · have j1' : (j : Int) < (kk : Int) := by omega
            by_cases hend : nw3 = 16777215
            · subst hend
              have HT1 := Lib.hid (l_tick_end _ _ F L3 _ hW)
              have HT2 := Lib.hid (r_tick_end _ _ A1 _ c1 L3 _ hV)
              have HSI := Lib.hid (fun w => same_ints none none 0 0 0 0 [] [] w (by omega) (by omega) (Rd.nil _ _) (Rd.nil _ _) rfl rfl)
              simp only [decide_true] at HSI
              have HOV := Lib.hid (fun w => over_ints3 none 0 0 0 [] w (Row.nil _ _ _ _) (Nat.zero_le _) (by omega))
              clear hW hV oX
              go_wp2_with (first
                | ((with_reducible go_at_call 13); (with_reducible refine (HT1.out).mono ?_); rintro e w' ⟨rfl, rfl⟩)
                | ((with_reducible go_at_call 23); (with_reducible refine (HT2.out).mono ?_); rintro e w' ⟨rfl, rfl⟩)
                | ((with_reducible go_at_call 18); (with_reducible refine (HSI.out _).mono ?_); rintro e w7 ⟨rfl, qd, rfl⟩)
                | ((with_reducible go_at_call 24); (with_reducible refine (HOV.out _).mono ?_); rintro e w8 ⟨rfl, g8⟩))
              go_roundw
              case rel =>
                have e8 : Ext wr w8 := Ext.trans (Ext.drewN wr qd) ⟨g8.os, g8.tape, g8.output, g8.size, fun i hi => g8.block i hi (by simp [blk])⟩
                exact ⟨j + 1, 16777215, L3, by go_num, by omega, ⟨⟨F, HW.out.keep e8⟩, ⟨A1, c1, HV.out.keep e8⟩, HO.out.keep e8⟩, Ext.trans h5 e8, Nat.lt_of_lt_of_le hgs5 e8.size⟩
              case measure => simp [intOf]; omega
            · have HT1 := Lib.hid (l_tick _ _ nw3 F L3 _ hW (by omega))
              have HT2 := Lib.hid (fun w' (h : VS w' w.heap.size gr nw3 A1 L3.length c1 L3) (hs : w.heap.size ≤ w'.heap.size) => r_tick _ _ nw3 A1 L3.length c1 L3 w' h hl64 hs hlo (by omega) hW.fut)
              have hgl := goneF_le nw3 L3
              have HSI := Lib.hid (fun A B c d w (ra : Rd w A (ints (goneF nw3 L3))) (rb : Rd w B (ints (goneF nw3 L3))) => same_ints A B (goneF nw3 L3).length (goneF nw3 L3).length c d _ _ w (by omega) (by omega) ra rb rfl rfl)
              simp only [decide_true] at HSI
              have tz : (((movA nw3 L3 : Nat) : Int) != ((movA nw3 L3 : Nat) : Int)) = false := by simp
              have HOV := Lib.hid (fun A c w (hr : Row w wr.heap.size 3 1 A (goneF nw3 L3).length c (ints (goneF nw3 L3))) (hB : wr.heap.size ≤ w.heap.size) => over_ints3 A (goneF nw3 L3).length c wr.heap.size (goneF nw3 L3) w hr hB (by omega))
              clear hW hV oX
              go_wp2_with (first
                | ((with_reducible go_at_call 13); (with_reducible refine HT1.out.mono ?_); rintro e w5 ⟨A5, c5, F5, rfl, r5, s5, t5⟩; have S5 := Lib.hid s5; have R5 := Lib.hid r5; have V5 := Lib.hid (HV.out.other HW.out t5 HNE.out); have O5 := Lib.hid (HW.out.ownA t5 HO.out HX.out.2); have b5 : Ext w w5 := Below.trans h5 (HW.out.below t5); have z5 := t5.base.size; clear s5 r5)
                | ((with_reducible go_at_call 23); (with_reducible refine (HT2.out _ V5.out (Nat.le_trans hws z5)).mono ?_); rintro e w6 ⟨G6, cG6, A6, c6, rfl, r6, v6, g6⟩; have V6 := Lib.hid v6; have R6 := Lib.hid r6; have R5' := Lib.hid (R5.out.grown g6 (.inr fun q => row_ne R5.out V5.out.own (by decide) _ q rfl)); have W6 := Lib.hid (S5.out.grownR V5.out g6 HNE.out); have O6 := Lib.hid (O5.out.grown g6 (fun q => HX.out.1 (by injection q))); have b6 : Ext w w6 := below_grown b5 g6 b5.size (fun q hq => by injection hq with hq; have := HB2.out; omega); have z6 := g6.size; clear v6 r6)
                | ((with_reducible go_at_call 18); (with_reducible refine (HSI.out _ _ _ _ _ R5'.out.rd R6.out.rd).mono ?_); rintro e w7 ⟨rfl, qd, rfl⟩; have R7 := Lib.hid (R5'.out.drewN qd); have z7 : wr.heap.size ≤ (w6.drewN qd).heap.size := Nat.le_trans z5 z6)
                | ((with_reducible go_at_call 24); (with_reducible refine (HOV.out _ _ _ R7.out z7).mono ?_); rintro e w8 ⟨rfl, g8⟩))
              go_roundw
              case rel =>
                have e7 := Ext.drewN w6 qd
                have R7 := R7.out
                have b8 := below_grown (Ext.trans b6 e7) g8 (Ext.trans b6 e7).size (fun q hq => by have h1 := (R7.at_ q hq).1; have h2 := h5.size; omega)
                exact ⟨j + 1, nw3 + 1, stayF nw3 L3, by go_num, by omega, ⟨⟨F5, (W6.out.keep e7).grownI R7 g8⟩, ⟨A6, c6, (V6.out.keep e7).grownI R7 g8⟩, (O6.out.keep e7).grown g8 (fun q => row_ne R7 (O6.out.keep e7) (by decide) _ q.symm rfl)⟩, b8, by have := g8.size; have := e7.size; omega⟩
              case measure => simp [intOf]; omega
          · obtain rfl : j = kk := by omega
            have x1 := oX.cell 1
            simp only [List.getElem?_cons_zero, List.getElem?_cons_succ] at x1
            have HSA := Lib.hid (l_same _ _ gr nw3 F A1 c1 L3 k wr hW hV)
            clear hW hV oX
            go_wp2_with ((with_reducible go_at_call 25); (with_reducible refine (HSA.out).mono ?_); rintro e w5 ⟨rfl, b5⟩)
            go_roundw
            case rel => exact ⟨i + 1, by go_num, by omega, ⟨nw3, L3, ⟨F, HW.out.keep b5⟩, A1, c1, HV.out.keep b5⟩, Ext.trans h5 b5, Nat.lt_of_lt_of_le hgs5 b5.size⟩
            case measure => simp [intOf]; omega
    · obtain rfl : i = m := by omega
      go_wp2_with ((with_reducible go_at_call 9); (with_reducible refine (HAW.out _).mono ?_); rintro e w9 ⟨rfl, b9⟩)
      go_ret
      exact ⟨rfl, Ext.trans h4 b9⟩

end Go.Proofs.Ytjipkgnkabocjaa
