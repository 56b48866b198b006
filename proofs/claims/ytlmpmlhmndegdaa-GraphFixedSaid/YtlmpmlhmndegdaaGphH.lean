/-
  WALKS of the statements on graph, chapter 11: GraphCounts, GraphTells, GraphAlone.
-/
import Derived.Test.YtlmpmlhmndegdaaGphG
namespace Go.Proofs.Ytlmpmlhmndegdaa
open Go.RowKit
attribute [local go_sem] depUpon Sp.ok

theorem geff_len (base : List P3) (ch : Nat → List Int) : (geff base ch).length = base.length := by simp [geff]

set_option maxRecDepth 100000 in
set_option maxHeartbeats 2000000 in
theorem law_graphcounts (D : Option Addr) (n cd : Nat) (base : List P3) (A : Option Addr) (na ca : Nat) (ws : List Int) (B : Option Addr) (nb cb : Nat) (os : List Int) (w : World) (gd : TripsArg w D n base) (ga : IntsArg w A na ws) (gb : IntsArg w B nb os) :
    Calls Try.prog 3 #[.slice D n cd, .slice A na ca, .slice B nb cb] w fun e w' => e = .returned (.bool true) ∧ Below w.heap.size w w' := by
  obtain ⟨hl, _, hr, _⟩ := gd
  have hwo : WO w A na ws B nb os := ⟨ga.rd, ga.len, gb.rd, gb.len⟩
  cases hg : decide (25 < na ∨ 25 < nb ∨ 25 < (n : Int))
  · have hG := Lib.hid (l_great A na ca B nb cb (n : Int) w false hg)
    have hn : n ≤ 25 := by simp at hg; omega
    have HL := Lib.hid hl
    have HR := Lib.hid hr
    have HW := Lib.hid hwo
    have gl := geff_len base (chs ws os n)
    rw [hl] at gl
    have t1 := fun X cx w' (h : Ext w w') hx => g_effective X n cx base A na ca ws B nb cb os w' (HW.out.keep h) hx HL.out (by omega)
    have t2 := fun w' (h : Ext w w') => r_effective D n cd base A na ca ws B nb cb os w' (HW.out.keep h) (HR.out.keep h) HL.out (by omega)
    generalize geff base (chs ws os n) = G at *
    have t3 : ∀ X Y (cx cy : Nat) w', Rd w' X (trips G) → Rd w' Y (trips G) → Calls Try.prog 12 #[.slice X n cx, .slice Y n cy] w' fun e w'' => e = .returned (.bool true) ∧ Below w'.heap.size w' w'' := fun X Y cx cy w' h1 h2 =>
      (same_prios X Y n n cx cy G G w' (by omega) (by omega) h1 h2 gl gl).mono fun e w'' h => by simpa using h
    have t4 : ∀ g w', Ext w w' → Own w' g 33 (lentTrips base) → Calls Try.prog 14 #[.slice (some ⟨g, 0, none⟩) n (n + 3), .slice D n cd] w' fun e w'' => e = .returned (.bool true) ∧ Below w'.heap.size w' w'' := fun g w' h ho =>
      (kept_prios D g n n cd base base w' (by omega) (by omega) ho (HR.out.keep h) HL.out HL.out).mono fun e w'' h => by simpa using h
    have T1 := Lib.hid t1
    have T2 := Lib.hid t2
    have T3 := Lib.hid t3
    have T4 := Lib.hid t4
    clear hl hr hwo t1 t2 t3 t4 hg gl ga gb
    go_enter Try.func3, Try.ntmps3
    go_wp2_with fail
    refine hG.out.mono ?_
    rintro e w' ⟨rfl, rfl⟩
    go_wp2_with fail
    refine (lend_prios D n cd base _ (by omega) HR.out HL.out).mono ?_
    rintro e w1 ⟨g, rfl, og, _, b1⟩
    have hrg : Rd w1 (some ⟨g, 0, none⟩) (trips base) := by
      have h1 := og.rd0
      unfold lentTrips at h1
      rw [← trips_app] at h1
      exact h1.pre
    go_wp2_with fail
    refine (T1.out _ _ _ b1 hrg).mono ?_
    rintro e w2 ⟨O2, c2, rfl, r2, b2⟩
    replace r2 := r2.mono b1.size
    have k2 := Ext.trans b1 b2
    have og2 := og.keep b2
    clear og hrg b2
    go_wp2_with fail
    refine (T2.out _ k2).mono ?_
    rintro e w3 ⟨O3, c3, rfl, r3, b3⟩
    have k3 := Ext.trans k2 b3
    have og3 := og2.keep b3
    have r2' := r2.keep b3
    clear og2 r2 b3
    go_wp2_with fail
    refine (T3.out _ _ _ _ _ r2'.rd r3.rd).mono ?_
    rintro e w4 ⟨rfl, b4⟩
    have k4 := Ext.trans k3 b4
    have og4 := og3.keep b4
    have r4 := r2'.keep b4
    clear og3 r2' r3 b4
    go_wp2_with fail
    refine (T4.out _ _ k4 og4).mono ?_
    rintro e w5 ⟨rfl, b5⟩
    have k5 := Ext.trans k4 b5
    have r5 := r4.keep b5
    clear og4 r4 b5
    go_wp2_with fail
    refine (over_prios _ _ _ _ _ _ r5 k5.size (by omega)).mono ?_
    rintro e w6 ⟨rfl, b6⟩
    have k6 : Ext w w6 := Below.trans k5 b6
    clear k2 k3 k4 k5 r5 b6
    go_wp2_with fail
    refine (T1.out _ _ _ k6 (HR.out.keep k6)).mono ?_
    rintro e w7 ⟨O2, c2, rfl, r2, b7⟩
    have k7 := Ext.trans k6 b7
    go_wp2_with fail
    refine (T2.out _ k7).mono ?_
    rintro e w8 ⟨O3, c3, rfl, r3, b8⟩
    have k8 := Ext.trans k7 b8
    go_wp2_with fail
    refine (T3.out _ _ _ _ _ (r2.keep b8).rd r3.rd).mono ?_
    rintro e w9 ⟨rfl, b9⟩
    have k9 := Ext.trans k8 b9
    clear r2 r3 b7 b8 b9 k6 k7 k8
    go_wp2_with (go_at_call 9; refine (gph_awake _).mono ?_; rintro e w10 ⟨rfl, b10⟩)
    go_ret
    exact ⟨rfl, Ext.trans k9 b10⟩
  · have hG := Lib.hid (l_great A na ca B nb cb (n : Int) w true hg)
    clear hg hl hr hwo ga gb
    go_enter Try.func3, Try.ntmps3
    go_wp2_with fail
    refine hG.out.mono ?_
    rintro e w' ⟨rfl, rfl⟩
    go_wp2_with (go_at_call 9; refine (gph_awake _).mono ?_; rintro e w1 ⟨rfl, b1⟩)
    go_ret
    exact ⟨rfl, b1⟩

set_option maxRecDepth 100000 in
set_option maxHeartbeats 4000000 in
theorem law_graphtells (A : Option Addr) (na ca : Nat) (ws : List Int) (B : Option Addr) (nb cb : Nat) (os : List Int) (n i : Int) (w : World) (ga : IntsArg w A na ws) (gb : IntsArg w B nb os) (_ : I64 n) (_ : I64 i) :
    Calls Try.prog 6 #[.slice A na ca, .slice B nb cb, .int .i64 n, .int .i64 i] w fun e w' => e = .returned (.bool true) ∧ Below w.heap.size w w' := by
  have hwo : WO w A na ws B nb os := ⟨ga.rd, ga.len, gb.rd, gb.len⟩
  cases hg : decide (25 < na ∨ 25 < nb ∨ 25 < n)
  · have hG := Lib.hid (l_great A na ca B nb cb n w false hg)
    have hn : na ≤ 25 ∧ nb ≤ 25 ∧ n ≤ 25 := by simp at hg; omega
    obtain ⟨hna, hnb, hn⟩ := hn
    have HW := Lib.hid hwo
    have hlen := gchain_len ws os n i
    have t1 := fun w' (h : Ext w w') => g_chain A na ca ws B nb cb os n i w' (HW.out.keep h) (by omega)
    have t2 := fun w' (h : Ext w w') => r_chain A na ca ws B nb cb os n i w' (HW.out.keep h) (by omega)
    have u1 := fun X cx Y cy w' (h : WO w' X na ws Y nb os) => g_chain X na cx ws Y nb cy os n i w' h (by omega)
    have u2 := fun X cx Y cy w' (h : WO w' X na ws Y nb os) => g_on X na cx ws Y nb cy os n i w' h
    have u3 := fun w' (h : Ext w w') => r_on A na ca ws B nb cb os n i w' (HW.out.keep h)
    have u4 := fun X cx Y cy w' (h : WO w' X na ws Y nb os) => g_acyclic X na cx ws Y nb cy os n w' h (by omega)
    have u5 := fun w' (h : Ext w w') => r_acyclic A na ca ws B nb cb os n w' (HW.out.keep h) (by omega)
    have hrng := gon_rng ws os n i
    generalize gchain ws os n i = G at *
    generalize gon ws os n i = go at *
    generalize gacyclic ws os n = ac at *
    have t3 : ∀ X Y (cx cy : Nat) w', Rd w' X (ints G) → Rd w' Y (ints G) → Calls Try.prog 21 #[.slice X G.length cx, .slice Y G.length cy] w' fun e w'' => e = .returned (.bool true) ∧ Below w'.heap.size w' w'' := fun X Y cx cy w' h1 h2 =>
      (same_ints X Y _ _ cx cy G G w' (by omega) (by omega) h1 h2 rfl rfl).mono fun e w'' ⟨h3, q, h4⟩ => ⟨by simpa using h3, by rw [h4]; exact Ext.drewN _ _⟩
    have t4 : ∀ g w', Ext w w' → Own w' g 3 (lentInts ws) → Calls Try.prog 27 #[.slice (some ⟨g, 0, none⟩) na (na + 3), .slice A na ca] w' fun e w'' => e = .returned (.bool true) ∧ Below w'.heap.size w' w'' := fun g w' h ho =>
      (kept_ints A g na na ca ws ws w' (by omega) (by omega) ho (HW.out.keep h).ra HW.out.la HW.out.la).mono fun e w'' ⟨h3, q, h4⟩ => ⟨by simpa using h3, by rw [h4]; exact Ext.drewN _ _⟩
    have t5 : ∀ g w', Ext w w' → Own w' g 3 (lentInts os) → Calls Try.prog 27 #[.slice (some ⟨g, 0, none⟩) nb (nb + 3), .slice B nb cb] w' fun e w'' => e = .returned (.bool true) ∧ Below w'.heap.size w' w'' := fun g w' h ho =>
      (kept_ints B g nb nb cb os os w' (by omega) (by omega) ho (HW.out.keep h).rb HW.out.lb HW.out.lb).mono fun e w'' ⟨h3, q, h4⟩ => ⟨by simpa using h3, by rw [h4]; exact Ext.drewN _ _⟩
    have T1 := Lib.hid t1
    have T2 := Lib.hid t2
    have T3 := Lib.hid t3
    have T4 := Lib.hid t4
    have T5 := Lib.hid t5
    have U1 := Lib.hid u1
    have U2 := Lib.hid u2
    have U3 := Lib.hid u3
    have U4 := Lib.hid u4
    have U5 := Lib.hid u5
    clear hwo t1 t2 t3 t4 t5 u1 u2 u3 u4 u5 hg ga gb
    go_enter Try.func6, Try.ntmps6
    go_wp2_with fail
    refine hG.out.mono ?_
    rintro e w' ⟨rfl, rfl⟩
    go_wp2_with fail
    refine (lend_ints A na ca ws _ (by omega) HW.out.ra HW.out.la).mono ?_
    rintro e w1 ⟨g1, rfl, o1, _, b1⟩
    go_wp2_with fail
    refine (lend_ints B nb cb os _ (by omega) (HW.out.keep b1).rb HW.out.lb).mono ?_
    rintro e w2 ⟨g2, rfl, o2, _, b2⟩
    have o1' := o1.keep b2
    have bW : Ext w w2 := Ext.trans b1 b2
    clear o1 b1 b2
    have hx1 : Rd w2 (some ⟨g1, 0, none⟩) (ints ws) := by have := o1'.rd0; unfold lentInts at this; exact this.pre
    have hx2 : Rd w2 (some ⟨g2, 0, none⟩) (ints os) := by have := o2.rd0; unfold lentInts at this; exact this.pre
    have HX : Hid (WO w2 (some ⟨g1, 0, none⟩) na ws (some ⟨g2, 0, none⟩) nb os) := Lib.hid ⟨hx1, HW.out.la, hx2, HW.out.lb⟩
    clear hx1 hx2
    go_wp2_with fail
    refine (U1.out _ _ _ _ _ HX.out).mono ?_
    rintro e w3 ⟨A3, c3, rfl, r3, b3⟩
    have n1 : blk A3 ≠ some g1 := fun q => by have h1 := (r3.at_ g1 q).1; have h2 := o1'.lt; omega
    have n2 : blk A3 ≠ some g2 := fun q => by have h1 := (r3.at_ g2 q).1; have h2 := o2.lt; omega
    replace r3 := r3.mono bW.size
    have o1 := o1'.keep b3
    have o2' := o2.keep b3
    have HX3 := Lib.hid (HX.out.keep b3)
    replace bW := Ext.trans bW b3
    clear o1' o2 b3 HX
    go_wp2_with fail
    refine (T2.out _ bW).mono ?_
    rintro e w4 ⟨A4, c4, rfl, r4, b4⟩
    have r3' := r3.keep b4
    have o1' := o1.keep b4
    have o2 := o2'.keep b4
    have HX4 := Lib.hid (HX3.out.keep b4)
    replace bW := Ext.trans bW b4
    clear o1 o2' b4 HX3 r3
    go_wp2_with fail
    refine (T3.out _ _ _ _ _ r3'.rd r4.rd).mono ?_
    rintro e w5 ⟨rfl, b5⟩
    have r5 := r3'.keep b5
    have o1 := o1'.keep b5
    have o2' := o2.keep b5
    have HX5 := Lib.hid (HX4.out.keep b5)
    replace bW := Ext.trans bW b5
    clear o1' o2 b5 HX4 r3' r4
    go_wp2_with (first
      | ((with_reducible go_at_call 17); refine (U2.out _ _ _ _ _ HX5.out).mono ?_; rintro e w' ⟨rfl, rfl⟩)
      | ((with_reducible go_at_call 23); refine (U3.out _ bW).mono ?_; rintro e w' ⟨rfl, rfl⟩))
    refine (U4.out _ _ _ _ _ HX5.out).mono ?_
    rintro e w6 ⟨rfl, b6⟩
    have r6 := r5.keep b6
    have o1' := o1.keep b6
    have o2 := o2'.keep b6
    replace bW := Ext.trans bW b6
    clear o1 o2' b6 HX5 r5
    go_wp2_with fail
    refine (U5.out _ bW).mono ?_
    rintro e w7 ⟨rfl, b7⟩
    have r7 := r6.keep b7
    have o1 := o1'.keep b7
    have o2' := o2.keep b7
    replace bW := Ext.trans bW b7
    clear o1' o2 b7 r6
    go_wp2_with fail
    refine (over_ints2 _ _ _ _ _ _ r7 bW.size (by omega)).mono ?_
    rintro e w8 ⟨rfl, b8, hk8⟩
    have o1' := hk8 g1 _ _ n1 o1
    have o2 := hk8 g2 _ _ n2 o2'
    replace bW : Ext w w8 := Below.trans bW b8
    clear o1 o2' b8 r7 hk8 n1 n2
    go_wp2_with fail
    refine (T1.out _ bW).mono ?_
    rintro e w3 ⟨A3, c3, rfl, r3, b3⟩
    have o1 := o1'.keep b3
    have o2' := o2.keep b3
    replace bW := Ext.trans bW b3
    clear o1' o2 b3
    go_wp2_with fail
    refine (T2.out _ bW).mono ?_
    rintro e w4 ⟨A4, c4, rfl, r4, b4⟩
    have r3' := r3.keep b4
    have o1' := o1.keep b4
    have o2 := o2'.keep b4
    replace bW := Ext.trans bW b4
    clear o1 o2' b4 r3
    go_wp2_with fail
    refine (T3.out _ _ _ _ _ r3'.rd r4.rd).mono ?_
    rintro e w5 ⟨rfl, b5⟩
    have o1 := o1'.keep b5
    have o2' := o2.keep b5
    replace bW := Ext.trans bW b5
    clear o1' o2 b5 r3' r4
    go_wp2_with fail
    refine (T4.out _ _ bW o1).mono ?_
    rintro e w6 ⟨rfl, b6⟩
    have o2 := o2'.keep b6
    replace bW := Ext.trans bW b6
    clear o1 o2' b6
    go_wp2_with fail
    refine (T5.out _ _ bW o2).mono ?_
    rintro e w7 ⟨rfl, b7⟩
    replace bW := Ext.trans bW b7
    clear o2 b7
    go_wp2_with (go_at_call 9; refine (gph_awake _).mono ?_; rintro e w10 ⟨rfl, b10⟩)
    go_ret
    exact ⟨rfl, Ext.trans bW b10⟩
  · have hG := Lib.hid (l_great A na ca B nb cb n w true hg)
    clear hg hwo ga gb
    go_enter Try.func6, Try.ntmps6
    go_wp2_with fail
    refine hG.out.mono ?_
    rintro e w' ⟨rfl, rfl⟩
    go_wp2_with (go_at_call 9; refine (gph_awake _).mono ?_; rintro e w1 ⟨rfl, b1⟩)
    go_ret
    exact ⟨rfl, b1⟩

theorem gon_none {ws os : List Int} {n : Int} (h : ws = [] ∨ ∀ o ∈ os, o < 0) (i : Int) : gon ws os n i = -1 := by
  rcases onWay ws os n i with ⟨_, v⟩ | ⟨_, _, _, _, _, v⟩ | ⟨_, _, _, _, _, _, _, _, v⟩ | ⟨k, m, e, hn, hk, em, hm, h0, h1, v⟩
  · exact v
  · exact v
  · exact v
  · exfalso
    rcases h with h | h
    · subst h; simp at hk
    · have := h os[m] (List.getElem_mem hm); omega
theorem gchain_none {ws os : List Int} {n : Int} (h : ws = [] ∨ ∀ o ∈ os, o < 0) (i : Int) : gchain ws os n i = [] := by
  unfold gchain
  rw [gon_none h i]
  exact chainGo_stop (.inl (by omega))
theorem geff_none {base : List P3} {ch : Nat → List Int} (h : ∀ j, ch j = []) : geff base ch = base := by
  have e : ∀ j i, effAt base ch j i = base.getD i (0, 0, 0) := by
    intro j
    induction j with
    | zero => intro i; rfl
    | succ j ih => intro i; rw [effAt, h j]; simp [ih]
  refine List.ext_getElem (by simp [geff]) fun i h1 h2 => ?_
  simp [geff, e, h2]
theorem gacyclic_none {ws os : List Int} {n : Int} (h : ws = [] ∨ ∀ o ∈ os, o < 0) : gacyclic ws os n = true := by
  unfold gacyclic gacy
  rw [List.all_eq_true]
  intro i _
  rw [gchain_none h]; rfl

/-- The law's last row. -/
theorem alone_end (D : Option Addr) (n cd : Nat) (base : List P3) (A : Option Addr) (na ca : Nat) (ws : List Int) (B : Option Addr) (nb cb : Nat) (os : List Int) (w : World) (hd : Rd w D (trips base)) (hl : base.length = n) (hn : n ≤ 25) (hwo : WO w A na ws B nb os) (h : ws = [] ∨ ∀ o ∈ os, o < 0) :
    (Calls Try.prog 11 #[.slice D n cd, .slice A na ca, .slice B nb cb] w fun e w' => ∃ O c, e = .returned (.slice O n c) ∧ Row w' w.heap.size 33 3 O n c (trips base) ∧ Below w.heap.size w w') ∧
    (∀ w', Ext w w' → Calls Try.prog 24 #[.slice A na ca, .slice B nb cb, .int .i64 (n : Int)] w' fun e w'' => e = .returned (.bool true) ∧ Below w'.heap.size w' w'') ∧
    (∀ w', Ext w w' → Calls Try.prog 18 #[.slice A na ca, .slice B nb cb, .int .i64 (n : Int), .int .i64 0] w' fun e w'' => (∃ X c, e = .returned (.slice X 0 c)) ∧ Below w'.heap.size w' w'') := by
  refine ⟨?_, fun w' hb => ?_, fun w' hb => ?_⟩
  · have := g_effective D n cd base A na ca ws B nb cb os w hwo hd hl (by omega)
    rwa [geff_none (base := base) (ch := chs ws os n) (fun j => gchain_none h _)] at this
  · have := g_acyclic A na ca ws B nb cb os (n : Int) w' (hwo.keep hb) (by omega)
    rwa [gacyclic_none h] at this
  · have := g_chain A na ca ws B nb cb os (n : Int) 0 w' (hwo.keep hb) (by omega)
    rw [gchain_none h] at this
    exact this.mono fun e w'' ⟨X, c, h1, _, h3⟩ => ⟨⟨X, c, h1⟩, h3⟩

set_option maxRecDepth 100000 in
set_option maxHeartbeats 4000000 in
theorem law_graphalone (D : Option Addr) (n cd : Nat) (base : List P3) (A : Option Addr) (na ca : Nat) (ws : List Int) (B : Option Addr) (nb cb : Nat) (os : List Int) (free : Bool) (w : World) (gd : TripsArg w D n base) (ga : IntsArg w A na ws) (gb : IntsArg w B nb os) :
    Calls Try.prog 7 #[.slice D n cd, .slice A na ca, .slice B nb cb, .bool free] w fun e w' => e = .returned (.bool true) ∧ Below w.heap.size w w' := by
  obtain ⟨hl, _, hr, _⟩ := gd
  have hra := ga.rd
  have hla := ga.len
  have hrb := gb.rd
  cases hg : decide (25 < na ∨ 25 < nb ∨ 25 < (n : Int))
  · have hG := Lib.hid (l_great A na ca B nb cb (n : Int) w false hg)
    have hn : na ≤ 25 ∧ nb ≤ 25 ∧ n ≤ 25 := by simp at hg; omega
    obtain ⟨hna, hnb, hn⟩ := hn
    have HL := Lib.hid hl
    have HR := Lib.hid hr
    have HLB := Lib.hid gb.len
    have t3 : ∀ X (cx : Nat) w', Rd w' X (trips base) → Ext w w' → Calls Try.prog 12 #[.slice X n cx, .slice D n cd] w' fun e w'' => e = .returned (.bool true) ∧ Below w'.heap.size w' w'' := fun X cx w' h1 h =>
      (same_prios X D n n cx cd base base w' (by omega) (by omega) h1 (HR.out.keep h) HL.out HL.out).mono fun e w'' h => by simpa using h
    have T3 := Lib.hid t3
    clear t3 hl hr
    cases free
    · obtain ⟨t1, t2, t4⟩ := alone_end D n cd base none 0 0 [] B nb cb os w HR.out HL.out hn ⟨Rd.nil _ _, rfl, hrb, HLB.out⟩ (.inl rfl)
      have T1 := Lib.hid t1
      have T2 := Lib.hid t2
      have T4 := Lib.hid t4
      clear hra hla hrb ga gb t1 t2 t4 hg
      go_enter Try.func7, Try.ntmps7
      go_wp2_with fail
      refine hG.out.mono ?_
      rintro e w' ⟨rfl, rfl⟩
      go_wp2_with fail
      refine T1.out.mono ?_
      rintro e w1 ⟨O, c, rfl, r1, b1⟩
      go_wp2_with fail
      refine (T3.out _ _ _ r1.rd b1).mono ?_
      rintro e w2 ⟨rfl, b2⟩
      have k2 := Ext.trans b1 b2
      go_wp2_with fail
      refine (T2.out _ k2).mono ?_
      rintro e w3 ⟨rfl, b3⟩
      have k3 := Ext.trans k2 b3
      go_wp2_with fail
      refine (T4.out _ k3).mono ?_
      rintro e w4 ⟨⟨X, cx, rfl⟩, b4⟩
      have k4 := Ext.trans k3 b4
      go_wp2_with (go_at_call 9; refine (gph_awake _).mono ?_; rintro e w10 ⟨rfl, b10⟩)
      go_ret
      exact ⟨rfl, Ext.trans k4 b10⟩
    · have HA : Hid (IntsArg w A na ws) := Lib.hid ga
      obtain ⟨i0, hi, hz0, hz1, hz2⟩ := info_parts info_int
      have HI := Lib.hid hi
      clear hra hla hrb ga gb hg hi
      go_enter Try.func7, Try.ntmps7
      go_wp2_with fail
      refine hG.out.mono ?_
      rintro e w' ⟨rfl, rfl⟩
      go_wp2
      go_loopw [9, 10] (fun v i wr => ∃ (k c : Nat) (O : Option Addr), k ≤ nb ∧ i = .int .i64 k ∧ v = .slice O k c ∧ Row wr w.heap.size 3 1 O k c (ints (List.replicate k (-1))) ∧ Ext w wr) (fun _ i _ => nb - (intOf i).toNat)
      case atStart => exact ⟨0, 0, none, Nat.zero_le _, rfl, rfl, Row.nil _ _ _ _, Ext.refl _⟩
      case round =>
        obtain ⟨k, c, O, hk, rfl, rfl, q1, q2⟩ := hrel
        by_cases hlt : k < nb
        · have HP : Hid (ints (List.replicate k (-1)) ++ ints [-1] = ints (List.replicate (k + 1) (-1))) := Lib.hid (by rw [ints_app', List.replicate_succ'])
          have r7 := q1.alloc (.cells #[.int .i64 (-1)] 3)
          have b7 := Ext.trans q2 (Ext.alloc wr (.cells #[.int .i64 (-1)] 3))
          go_wp2_with (at_builtin; refine wpl_append _ rfl (.tmp 24) (.tmp 25) 23 rfl 3 i0 _ 1 8 Try.underlying23 HI.out hz0 hz1 hz2 rfl (by omega) w.heap.size O k c _ rfl r7 _ 1 1 (ints [-1]) rfl rfl (rd1i _ _) (ints_one _) (k + 1) _ rfl HP.out (by omega) (by omega) b7.size ?_; intro A2 c2 w2 o2 g2 e2)
          have b2 := below_grown b7 g2 b7.size (fun g' hg' => (r7.at_ g' hg').1)
          go_roundw
          case rel => exact ⟨k + 1, c2, A2, by omega, by go_num, rfl, o2, b2⟩
          case measure => simp [intOf]; omega
        · obtain rfl : k = nb := by omega
          obtain ⟨t1, t2, t4⟩ := alone_end D n cd base A na ca ws O k c (List.replicate k (-1)) wr (HR.out.keep q2) HL.out hn ⟨HA.out.rd.keep q2, HA.out.len, q1.rd, by simp⟩ (.inr fun o ho => by rw [List.eq_of_mem_replicate ho]; omega)
          have T1 := Lib.hid t1
          have T2 := Lib.hid t2
          have T4 := Lib.hid t4
          clear t1 t2 t4
          go_wp2_with fail
          refine T1.out.mono ?_
          rintro e w1 ⟨O, c, rfl, r1, b1⟩
          go_wp2_with fail
          refine (T3.out _ _ _ r1.rd (Ext.trans q2 b1)).mono ?_
          rintro e w2 ⟨rfl, b2⟩
          have k2 := Ext.trans b1 b2
          go_wp2_with fail
          refine (T2.out _ k2).mono ?_
          rintro e w3 ⟨rfl, b3⟩
          have k3 := Ext.trans k2 b3
          go_wp2_with fail
          refine (T4.out _ k3).mono ?_
          rintro e w4 ⟨⟨X, cx, rfl⟩, b4⟩
          have k4 := Ext.trans k3 b4
          go_wp2_with (go_at_call 9; refine (gph_awake _).mono ?_; rintro e w10 ⟨rfl, b10⟩)
          go_ret
          exact ⟨rfl, Ext.trans q2 (Ext.trans k4 b10)⟩
  · have hG := Lib.hid (l_great A na ca B nb cb (n : Int) w true hg)
    clear hg hl hr hra hla hrb ga gb
    go_enter Try.func7, Try.ntmps7
    go_wp2_with fail
    refine hG.out.mono ?_
    rintro e w' ⟨rfl, rfl⟩
    go_wp2_with (go_at_call 9; refine (gph_awake _).mono ?_; rintro e w1 ⟨rfl, b1⟩)
    go_ret
    exact ⟨rfl, b1⟩

end Go.Proofs.Ytlmpmlhmndegdaa
