/-
  WALKS of chapter 6's reference: New, at, At, digit, Where, Place, Arm.
-/
import Derived.Test.YtjipkgnkabocjaaWhlO
namespace Go.Proofs.Ytjipkgnkabocjaa
open Go.RowKit
attribute [local go_sem] depUpon Sp.ok

/-- The reference's wheel: in block gr, its list from block B on. -/
structure VS (w : World) (B gr : Nat) (now : Int) (A : Option Addr) (n c : Nat) (L : TL) : Prop where
  own : Own w gr 73 [.int .i64 now, .slice A n c]
  row : Row w B 76 2 A n c (pairs L)
section
variable {w w' : World} {B gr : Nat} {now : Int} {A : Option Addr} {n c : Nat} {L : TL}
theorem VS.keep (h : VS w B gr now A n c L) (hb : Ext w w') : VS w' B gr now A n c L := ⟨h.own.keep hb, h.row.keep hb⟩
theorem VS.len (h : VS w B gr now A n c L) : L.length = n := by
  have := h.row.len
  rw [pairs_len] at this; omega
theorem VS.now_ (h : VS w B gr now A n c L) : w.cell? ⟨gr, 0, none⟩ = some (.int .i64 now) := h.own.cell 0
theorem VS.l_ (h : VS w B gr now A n c L) : w.cell? ⟨gr, 1, none⟩ = some (.slice A n c) := h.own.cell 1
end
/-- Where a timer stands in the list; -1. -/
def atT (L : TL) (k : Int) : Int := if L.findIdx (fun r => decide (r.1 = k)) < L.length then (L.findIdx (fun r => decide (r.1 = k)) : Nat) else -1
theorem atT_none {L : TL} {k : Int} (h : ∀ r ∈ L, r.1 ≠ k) : atT L k = -1 := by
  unfold atT
  rw [if_neg]
  intro hl
  have := List.findIdx_getElem (w := hl)
  simp only [decide_eq_true_eq] at this
  exact h _ (List.getElem_mem _) this
theorem atT_some {L : TL} {k : Int} {i : Nat} (hi : i < L.length) (h : ∀ r ∈ L.take i, r.1 ≠ k) (hk : L[i].1 = k) : atT L k = (i : Int) := by
  have e : L.findIdx (fun r => decide (r.1 = k)) = i := by
    refine (List.findIdx_eq hi).2 ⟨by simpa using hk, fun j hj => ?_⟩
    have := h L[j] (List.mem_take_iff_getElem.2 ⟨j, by omega, rfl⟩)
    simpa using this
  unfold atT
  rw [e, if_pos hi]
theorem atT_get {L : TL} {k : Int} : (tget L k = none ∧ atT L k = -1) ∨ ∃ (i : Nat) (hi : i < L.length), tget L k = some L[i] ∧ atT L k = (i : Int) ∧ L[i].1 = k ∧ ∀ r ∈ L.take i, r.1 ≠ k := by
  by_cases h : ∃ r ∈ L, r.1 = k
  · right
    have hf : L.findIdx (fun r => decide (r.1 = k)) < L.length := by
      rw [List.findIdx_lt_length]
      obtain ⟨r, hr, e⟩ := h
      exact ⟨r, hr, by simpa using e⟩
    have hk := List.findIdx_getElem (w := hf)
    simp only [decide_eq_true_eq] at hk
    refine ⟨_, hf, ?_, ?_, hk, fun r hr e => ?_⟩
    · unfold tget
      rw [List.find?_eq_some_iff_getElem]
      refine ⟨by simpa using hk, _, hf, rfl, fun j hj => ?_⟩
      have := List.not_of_lt_findIdx hj
      simpa using this
    · unfold atT; rw [if_pos hf]
    · obtain ⟨j, hj, rfl⟩ := List.mem_take_iff_getElem.1 hr
      have := List.not_of_lt_findIdx (show j < L.findIdx (fun r => decide (r.1 = k)) by omega)
      simp only [decide_eq_false_iff_not] at this
      exact this e
  · left
    have h' : ∀ r ∈ L, r.1 ≠ k := fun r hr e => h ⟨r, hr, e⟩
    exact ⟨tget_none.2 h', atT_none h'⟩

theorem run_newR (now : Int) (w : World) : (Instr.build 73 #[(0, .int .i64 now)]).run Try.prog w = .ok (.agg #[.int .i64 now, .slice none 0 0]) w := by kernel_rfl
theorem r_new (now : Int) (w : World) (h0 : 0 ≤ now) (h1 : now < 16777216) :
    Calls Try.prog 19 #[.int .i64 now] w fun e w' => e = .returned (.tuple #[.pointer (some ⟨w.heap.size, 0, none⟩), .int .i64 0]) ∧ VS w' w.heap.size w.heap.size now none 0 0 [] ∧ Below w.heap.size w w' := by
  have HN := Lib.hid (run_newR now)
  go_enter Try.func19, Try.ntmps19
  go_wp2_with (first
    | (refine wpl_build1 _ rfl 73 0 _ rfl (.int .i64 now) rfl _ (HN.out _) ?_)
    | (refine wpl_box_own _ rfl _ _ rfl [.int .i64 now, .slice none 0 0] rfl ?_; intro w1 o1 b1 s1))
  go_ret2
  exact ⟨rfl, ⟨o1, Row.nil _ _ _ _⟩, b1⟩
theorem r_new_bad (now : Int) (w : World) (h : now < 0 ∨ 16777216 ≤ now) :
    Calls Try.prog 19 #[.int .i64 now] w fun e w' => e = .returned (.tuple #[.pointer none, .int .i64 2]) ∧ w = w' := by
  by_cases h0 : now < 0
  · have t0 : decide (now < 0) = true := by simp [h0]
    clear h
    go_enter Try.func19, Try.ntmps19
    go_wp2
    go_ret2
    exact ⟨rfl, rfl⟩
  · have t0 : decide (now < 0) = false := by simp [h0]
    have h1 : 16777216 ≤ now := by omega
    have h2 : 0 ≤ now := by omega
    clear h
    go_enter Try.func19, Try.ntmps19
    go_wp2
    go_ret2
    exact ⟨rfl, rfl⟩

theorem r_atw (B gr : Nat) (now : Int) (A : Option Addr) (n c : Nat) (L : TL) (k : Int) (w : World) (h : VS w B gr now A n c L) (hn : n ≤ 65536) :
    Calls Try.prog 34 #[.pointer (some ⟨gr, 0, none⟩), .int .i64 k] w fun e w' => e = .returned (.int .i64 (atT L k)) ∧ w = w' := by
  have HL := h.len
  have HR := Lib.hid h
  have v0 := h.l_
  have HY := Lib.hid (fun i (hi : i < L.length) => @atT_some L k i hi)
  have HZ := Lib.hid (fun h => @atT_none L k h)
  generalize atT L k = z at *
  clear h
  go_enter Try.func34, Try.ntmps34
  go_wp2
  go_loop [5] (fun q => ∃ i : Nat, q = .int .i64 i ∧ i ≤ n ∧ ∀ r ∈ L.take i, r.1 ≠ k) (fun q => n - (intOf q).toNat)
  case atStart => exact ⟨0, rfl, by omega, by simp⟩
  case round =>
    obtain ⟨i, rfl, hi, hno⟩ := hrel
    by_cases hlt : i < n
    · have hil : i < L.length := by omega
      obtain ⟨b, off, rfl, d0, d1⟩ := HR.out.row.rd.pair hil
      have i0' : (0 : Int) ≤ (i : Int) := by omega
      have i1' : (i : Int) < (n : Int) := by omega
      have hy := HY.out i hil hno
      have hs : L[i].1 ≠ k → ∀ r ∈ L.take (i + 1), r.1 ≠ k := fun hx r hr => by
        rw [take_succ' L i hil, List.mem_append, List.mem_singleton] at hr
        rcases hr with hr | rfl
        · exact hno r hr
        · exact hx
      have HS := Lib.hid hs
      generalize L[i].1 = p at *
      clear hno hs d1
      by_cases hp : p = k
      · have tp : (p == k) = true := by simp [hp]
        have HE := Lib.hid (hy hp)
        clear hy hp
        go_wp2
        go_ret
        exact ⟨by rw [HE.out]; rfl, rfl⟩
      · have tp : (p == k) = false := by simp [hp]
        have HE := Lib.hid (HS.out hp)
        clear hy hp
        go_wp2
        go_round
        case rel => exact ⟨i + 1, by go_num, by omega, HE.out⟩
        case measure => simp [intOf]; omega
    · have HE := Lib.hid (HZ.out (by rw [List.take_of_length_le (by omega)] at hno; exact hno))
      obtain rfl : i = n := by omega
      clear hno
      go_wp2
      go_ret
      exact ⟨by rw [HE.out]; rfl, rfl⟩
theorem r_At (B gr : Nat) (now : Int) (A : Option Addr) (n c : Nat) (L : TL) (k : Int) (w : World) (h : VS w B gr now A n c L) (hn : n ≤ 65536) :
    Calls Try.prog 36 #[.pointer (some ⟨gr, 0, none⟩), .int .i64 k] w fun e w' => e = .returned (.tuple #[.int .i64 (oA (tget L k)), .bool (tget L k).isSome]) ∧ w = w' := by
  have HA := Lib.hid (r_atw B gr now A n c L k w h hn)
  have v0 := h.l_
  have hl := h.len
  rcases @atT_get L k with ⟨h1, h2⟩ | ⟨i, hi, h1, h2, h3, _⟩
  · rw [h1]
    rw [h2] at HA
    clear h h1 h2
    go_enter Try.func36, Try.ntmps36
    go_wp2_with ((with_reducible go_at_call 34); (with_reducible refine (HA.out).mono ?_); rintro e w' ⟨rfl, rfl⟩)
    go_ret2
    exact ⟨rfl, rfl⟩
  · rw [h1]
    rw [h2] at HA
    obtain ⟨b, off, rfl, d0, d1⟩ := h.row.rd.pair hi
    have i0' : (0 : Int) ≤ (i : Int) := by omega
    have i1' : (i : Int) < (n : Int) := by omega
    generalize L[i] = y at *
    clear h h1 h2
    go_enter Try.func36, Try.ntmps36
    go_wp2_with ((with_reducible go_at_call 34); (with_reducible refine (HA.out).mono ?_); rintro e w' ⟨rfl, rfl⟩)
    go_ret2
    exact ⟨rfl, rfl⟩

theorem pw_next {x : Int} (h0 : 0 ≤ x) (i : Nat) (hi : i ≤ 2) : (x / pw i).tdiv 64 = x / pw (i + 1) ∧ 0 ≤ x / pw i := by
  have hc : i = 0 ∨ i = 1 ∨ i = 2 := by omega
  rcases hc with rfl | rfl | rfl <;> simp only [pw] <;> rw [Int.tdiv_eq_ediv_of_nonneg (by omega)] <;> omega
theorem pw_dg {x : Int} (h0 : 0 ≤ x) (i : Nat) (hi : i ≤ 3) : (x / pw i).tmod 64 = dg x i ∧ 0 ≤ x / pw i := by
  have hc : i = 0 ∨ i = 1 ∨ i = 2 ∨ i = 3 := by omega
  rcases hc with rfl | rfl | rfl | rfl <;> simp only [pw, dg] <;> rw [Int.tmod_eq_emod_of_nonneg (by omega)] <;> omega
theorem r_digit (x : Int) (k : Nat) (w : World) (h0 : 0 ≤ x) (h1 : x ≤ 16777216) (hk : k ≤ 3) :
    Calls Try.prog 42 #[.int .i64 x, .int .i64 (k : Int)] w fun e w' => e = .returned (.int .i64 (dg x k)) ∧ w = w' := by
  have HN := Lib.hid (fun i hi => pw_next h0 i hi)
  have HD := Lib.hid (pw_dg h0 k hk)
  have hle : ∀ i, i ≤ 3 → x / pw i ≤ 16777216 := fun i hi => by
    have hc : i = 0 ∨ i = 1 ∨ i = 2 ∨ i = 3 := by omega
    rcases hc with rfl | rfl | rfl | rfl <;> simp only [pw] <;> omega
  have HLE := Lib.hid hle
  clear hle
  have hs : Value.int .i64 x = .int .i64 (x / pw 0) := by simp [pw]
  rw [hs]
  go_enter Try.func42, Try.ntmps42
  go_wp2
  go_loop [0, 5] (fun v q => ∃ i : Nat, v = .int .i64 (x / pw i) ∧ q = .int .i64 (i : Int) ∧ i ≤ k) (fun _ q => k - (intOf q).toNat)
  case atStart => exact ⟨0, rfl, rfl, by omega⟩
  case round =>
    obtain ⟨i, rfl, rfl, hi⟩ := hrel
    have hb := HLE.out i (by omega)
    by_cases hlt : i < k
    · obtain ⟨q1, q2⟩ := HN.out i (by omega)
      have i1' : (i : Int) < (k : Int) := by omega
      have hb1 := HLE.out (i + 1) (by omega)
      have hb2 : 0 ≤ x / pw (i + 1) := by rw [← q1]; exact Int.tdiv_nonneg q2 (by omega)
      generalize hy : x / pw (i + 1) = y at *
      have HY := Lib.hid hy
      clear hy
      generalize hz : x / pw i = z at *
      have HQ := Lib.hid q1
      clear hs
      go_wp2
      go_round
      case rel => exact ⟨i + 1, by rw [HY.out], by go_num, by omega⟩
      case measure => simp [intOf]; omega
    · obtain rfl : i = k := by omega
      obtain ⟨q1, q2⟩ := HD.out
      generalize x / pw i = z at *
      go_wp2
      go_ret
      exact ⟨rfl, rfl⟩

set_option maxRecDepth 100000 in
set_option maxHeartbeats 1000000 in
theorem r_where (now a : Int) (w : World) (n0 : 0 ≤ now) (n1 : now ≤ 16777216) (h0 : 0 ≤ a) (h1 : a ≤ 16777216) :
    Calls Try.prog 35 #[.int .i64 now, .int .i64 a] w fun e w' => e = .returned (.tuple #[.int .i64 (rg now a : Int), .int .i64 (dg a (rg now a))]) ∧ w = w' := by
  have HA := Lib.hid (fun r (hr : r ≤ 3) => r_digit a r w h0 h1 hr)
  have HN := Lib.hid (fun r (hr : r ≤ 3) => r_digit now r w n0 n1 hr)
  have HR := Lib.hid (show rg now a = if dg a 3 ≠ dg now 3 then 3 else if dg a 2 ≠ dg now 2 then 2 else if dg a 1 ≠ dg now 1 then 1 else 0 from rfl)
  clear h0 h1 n0 n1
  go_enter Try.func35, Try.ntmps35
  go_wp2
  go_loop [6] (fun q => ∃ r : Nat, q = .int .i64 (r : Int) ∧ r ≤ 3 ∧ (∀ j, r < j → j ≤ 3 → dg a j = dg now j)) (fun q => (intOf q).toNat)
  case atStart => exact ⟨3, rfl, by omega, fun j h1 h2 => by omega⟩
  case round =>
    obtain ⟨r, rfl, hr, hj⟩ := hrel
    by_cases h0 : 0 < r
    · have h0' : (0 : Int) < (r : Int) := by omega
      have hA := HA.out r hr
      have hN := HN.out r hr
      by_cases hd : dg a r = dg now r
      · have hn : ∀ j, r - 1 < j → j ≤ 3 → dg a j = dg now j := fun j h1 h2 => by
          by_cases e : j = r
          · rw [e]; exact hd
          · exact hj j (by omega) h2
        rw [hd] at hA
        have HA' := Lib.hid hA
        have HN' := Lib.hid hN
        have HNN := Lib.hid hn
        clear hA hN hj hd hn h0
        generalize dg now r = x at *
        go_wp2_with (first | ((with_reducible go_at_call 42); (with_reducible refine (HN'.out).mono ?_); rintro e w' ⟨rfl, rfl⟩) | ((with_reducible go_at_call 42); (with_reducible refine (HA'.out).mono ?_); rintro e w' ⟨rfl, rfl⟩))
        go_round
        case rel => exact ⟨r - 1, by go_num, by omega, HNN.out⟩
        case measure => simp [intOf]; omega
      · have HE := Lib.hid (show rg now a = r by
          have h1 : r = 1 ∨ r = 2 ∨ r = 3 := by omega
          unfold rg
          rcases h1 with rfl | rfl | rfl
          · rw [if_neg (by rw [hj 3 (by omega) (by omega)]; simp), if_neg (by rw [hj 2 (by omega) (by omega)]; simp), if_pos hd]
          · rw [if_neg (by rw [hj 3 (by omega) (by omega)]; simp), if_pos hd]
          · rw [if_pos hd])
        have HA' := Lib.hid hA
        have HN' := Lib.hid hN
        have td : (dg now r != dg a r) = true := by rw [bne_iff_ne]; exact fun q => hd q.symm
        clear hA hN hj hd h0 HR
        generalize hx : dg a r = x at *
        have HX := Lib.hid hx
        generalize dg now r = y at *
        clear hx
        go_wp2_with (first | ((with_reducible go_at_call 42); (with_reducible refine (HN'.out).mono ?_); rintro e w' ⟨rfl, rfl⟩) | ((with_reducible go_at_call 42); (with_reducible refine (HA'.out).mono ?_); rintro e w' ⟨rfl, rfl⟩))
        go_ret2
        exact ⟨by rw [HE.out, HX.out]; rfl, rfl⟩
    · obtain rfl : r = 0 := by omega
      have HE := Lib.hid (show rg now a = 0 by
        unfold rg
        rw [if_neg (by rw [hj 3 (by omega) (by omega)]; simp), if_neg (by rw [hj 2 (by omega) (by omega)]; simp), if_neg (by rw [hj 1 (by omega) (by omega)]; simp)])
      have HA' := Lib.hid (HA.out 0 (by omega))
      clear hj HR h0
      rw [show ((0 : Nat) : Int) = 0 from rfl] at HA' ⊢
      go_wp2_with ((with_reducible go_at_call 42); (with_reducible refine (HA'.out).mono ?_); rintro e w' ⟨rfl, rfl⟩)
      go_ret2
      exact ⟨by rw [HE.out]; rfl, rfl⟩

set_option maxRecDepth 100000 in
set_option maxHeartbeats 1000000 in
theorem r_Place (B gr : Nat) (now : Int) (A : Option Addr) (n c : Nat) (L : TL) (k : Int) (w : World) (h : VS w B gr now A n c L) (hn : n ≤ 65536) (n0 : 0 ≤ now) (hfu : ∀ x ∈ L, now < x.2 ∧ x.2 < 16777216) :
    Calls Try.prog 37 #[.pointer (some ⟨gr, 0, none⟩), .int .i64 k] w fun e w' => e = .returned (.tuple #[.int .i64 (placeV L now k).1, .int .i64 (placeV L now k).2.1, .bool (placeV L now k).2.2]) ∧ Ext w w' := by
  have HA := Lib.hid (r_atw B gr now A n c L k w h hn)
  have v0 := h.now_
  have v1 := h.l_
  have hl := h.len
  rcases @atT_get L k with ⟨h1, h2⟩ | ⟨i, hi, h1, h2, h3, _⟩
  · rw [show placeV L now k = (0, 0, false) by unfold placeV; rw [h1]]
    rw [h2] at HA
    clear h h1 h2
    go_enter Try.func37, Try.ntmps37
    go_wp2_with ((with_reducible go_at_call 34); (with_reducible refine (HA.out).mono ?_); rintro e w' ⟨rfl, rfl⟩)
    go_ret3
    exact ⟨rfl, Ext.refl _⟩
  · rw [show placeV L now k = (((rg now L[i].2 : Nat) : Int), dg L[i].2 (rg now L[i].2), true) by unfold placeV; rw [h1]]
    rw [h2] at HA
    have hf := hfu _ (List.getElem_mem hi)
    obtain ⟨b, off, rfl, d0, d1⟩ := h.row.rd.pair hi
    have i0' : (0 : Int) ≤ (i : Int) := by omega
    have i1' : (i : Int) < (n : Int) := by omega
    generalize L[i] = y at *
    obtain ⟨yi, ya⟩ := y
    simp only at hf d0 d1 ⊢
    have HW := Lib.hid (fun w => r_where now ya w n0 (by omega) (by omega) (by omega))
    generalize rg now ya = rv at *
    generalize dg ya rv = dv at *
    clear h h1 h2 hfu d0
    go_enter Try.func37, Try.ntmps37
    go_upto_region 4 with ((with_reducible go_at_call 34); (with_reducible refine (HA.out).mono ?_); rintro e w' ⟨rfl, rfl⟩)
    refine wp_region_dep (S := Ext) (C := Ext (w)) (by kernel_rfl) (by kernel_rfl) rfl Ext.refl (Ext.drew _) ?_
    repeat (refine dep_det (by rfl) (fun K hK => ?_); go_simp; first
      | ((with_reducible refine hK _ ?_); clear hK K)
      | (rw [if_neg (by decide)]; (with_reducible refine hK _ ?_); clear hK K)
      | (refine ⟨_, fun w1 hw1 => ⟨Ext.refl w1, hw1, rfl⟩, hK _ ?_⟩; clear hK K)
      | (apply Exists.intro; refine ⟨fun w1 hw1 => ?_, hK _ ?_⟩
         first
           | (have c_v0 := cell_keep hw1 v0; have c_v1 := cell_keep hw1 v1; have c_d1 := cell_keep hw1 d1; go_simp; first | exact ⟨Ext.refl _, hw1, rfl⟩ | exact ⟨Ext.refl _, rfl⟩)
           | (go_at_call 35; ((with_reducible refine (HW.out _).mono ?_); rintro e w' ⟨rfl, rfl⟩; exact ⟨_, rfl, Ext.refl _, hw1, rfl⟩))
         clear hK K))
    refine dep_nil ?_
    intro a' w' hC hE
    obtain rfl := atEnd_nil hE
    clear hE
    go_wp2
    go_ret3
    exact ⟨rfl, hC⟩

theorem tins_in {x : Int × Int} : ∀ {l : TL} (r : TL), (∃ y ∈ l, x.1 < y.1) → tins x (l ++ r) = tins x l ++ r
  | [], _, h => by obtain ⟨y, hy, _⟩ := h; cases hy
  | z :: l, r, h => by
    rw [List.cons_append]
    unfold tins
    by_cases e : x.1 < z.1
    · rw [if_pos e, if_pos e]; rfl
    · rw [if_neg e, if_neg e, tins_in r (by
        obtain ⟨y, hy, hl⟩ := h
        rcases List.mem_cons.1 hy with rfl | hy
        · exact absurd hl e
        · exact ⟨y, hy, hl⟩)]
      rfl
theorem tins_out {x : Int × Int} : ∀ {l : TL} (r : TL), (∀ y ∈ l, ¬ x.1 < y.1) → tins x (l ++ r) = l ++ tins x r
  | [], _, _ => rfl
  | z :: l, r, h => by
    rw [List.cons_append, List.cons_append]
    rw [show tins x (z :: (l ++ r)) = if x.1 < z.1 then x :: z :: (l ++ r) else z :: tins x (l ++ r) from rfl, if_neg (h z (by simp)), tins_out r fun y hy => h y (by simp [hy])]
/-- The list so far, and is it in? -/
def insF (x : Int × Int) (l : TL) : TL × Bool := if l.any (fun y => decide (x.1 < y.1)) = true then (tins x l, true) else (l, false)
theorem insF_no {x : Int × Int} {l : TL} (h : ¬ l.any (fun y => decide (x.1 < y.1)) = true) : ∀ z ∈ l, ¬ x.1 < z.1 := fun z hz hl => h (List.any_eq_true.2 ⟨z, hz, by simpa using hl⟩)
theorem insF_snoc (x y : Int × Int) (l : TL) : insF x (l ++ [y]) = if (insF x l).2 = true then ((insF x l).1 ++ [y], true) else if x.1 < y.1 then ((insF x l).1 ++ [x] ++ [y], true) else ((insF x l).1 ++ [y], false) := by
  by_cases h : l.any (fun y => decide (x.1 < y.1)) = true
  · have e1 : insF x l = (tins x l, true) := by unfold insF; rw [if_pos h]
    have e2 : insF x (l ++ [y]) = (tins x (l ++ [y]), true) := by unfold insF; rw [if_pos (by rw [List.any_append, h]; rfl)]
    obtain ⟨z, hz, hl⟩ := List.any_eq_true.1 h
    rw [e1, e2, if_pos rfl, tins_in [y] ⟨z, hz, by simpa using hl⟩]
  · have e1 : insF x l = (l, false) := by unfold insF; rw [if_neg h]
    have hno := insF_no h
    by_cases e : x.1 < y.1
    · have e2 : insF x (l ++ [y]) = (tins x (l ++ [y]), true) := by unfold insF; rw [if_pos (by rw [List.any_append]; simp [e])]
      have e3 : tins x [y] = [x, y] := by unfold tins; rw [if_pos e]
      rw [e1, e2, if_neg (by simp), if_pos e, tins_out [y] hno, e3]
      simp
    · have e2 : insF x (l ++ [y]) = (l ++ [y], false) := by
        unfold insF
        rw [if_neg]
        rw [List.any_append]
        simp only [Bool.not_eq_true] at h
        rw [h]
        simp; omega
      rw [e1, e2, if_neg (by simp), if_neg e]
theorem insF_end (x : Int × Int) (l : TL) : tins x l = if (insF x l).2 = true then (insF x l).1 else (insF x l).1 ++ [x] := by
  by_cases h : l.any (fun y => decide (x.1 < y.1)) = true
  · have e1 : insF x l = (tins x l, true) := by unfold insF; rw [if_pos h]
    rw [e1, if_pos rfl]
  · have e1 : insF x l = (l, false) := by unfold insF; rw [if_neg h]
    rw [e1, if_neg (by simp)]
    have := tins_out (x := x) [] (insF_no h)
    rw [List.append_nil] at this
    exact this
theorem insF_len (x : Int × Int) (l : TL) : (insF x l).1.length ≤ l.length + 1 := by
  by_cases h : l.any (fun y => decide (x.1 < y.1)) = true
  · have e1 : insF x l = (tins x l, true) := by unfold insF; rw [if_pos h]
    rw [e1]
    show (tins x l).length ≤ _
    rw [(tins_perm x l).length_eq]; simp
  · have e1 : insF x l = (l, false) := by unfold insF; rw [if_neg h]
    rw [e1]
    show l.length ≤ _
    omega

end Go.Proofs.Ytjipkgnkabocjaa
