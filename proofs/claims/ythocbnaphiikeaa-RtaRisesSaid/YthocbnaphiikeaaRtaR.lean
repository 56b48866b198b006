/-
  WALKS of the statements on rta, chapter 16: RtaRises.
-/
import Derived.Test.YthocbnaphiikeaaRtaE
import Derived.Test.YthocbnaphiikeaaAppB
namespace Go.Proofs.Ythocbnaphiikeaa
open Go.RowKit
attribute [local go_sem] depUpon Sp.ok

theorem need_more (own block by_ : Int) (ps : List (Int × Int)) (p : Int × Int) (x : Int) (h : 0 ≤ by_) : rneed own block ps x ≤ rneed (own + by_) block (ps ++ [p]) x := by
  refine mono_foldl (l := [own, block, rwork x ps]) (m := [own + by_, block, rwork x (ps ++ [p])]) (by simp) fun i h1 h2 => ?_
  rcases i with _ | _ | _ | i
  · simp; omega
  · simp
  · have h3 := rwork_lo x ps
    have h4 := rwork_lo x [p]
    have h5 := rwork_hi x ps
    have : rwork x ps ≤ rwork x (ps ++ [p]) := by rw [rwork_app]; unfold clip; omega
    simpa using this
  · simp at h1; omega
theorem rises_law (own block by_ : Int) (ps : List (Int × Int)) (p : Int × Int) (m : Int) (h : 0 ≤ by_) (j : Nat) (hj : rresp (own + by_) block (ps ++ [p]) m = some j) : ∃ i, i ≤ j ∧ rresp own block ps m = some i := by
  obtain ⟨h1, h2, _⟩ := leastOf_spec hj
  have h3 := need_more own block by_ ps p ((j : Int) + 1) h
  cases hi : rresp own block ps m with
  | none => have := leastOf_nil hi j h1; omega
  | some i =>
    refine ⟨i, ?_, rfl⟩
    obtain ⟨_, _, h5⟩ := leastOf_spec hi
    rcases Nat.lt_or_ge j i with h6 | h6
    · have := h5 j h6; omega
    · exact h6

/-- What an operation of 'append(append(nil, xs..), y)' leaves as it was. -/
structure RS (B : Nat) (T : TypeId) (n : Nat) (xs ys : List Value) (w w' : World) : Prop where
  below : Below B w w'
  own : ∀ g t zs, zs.length = 2 → Own w g t zs → Own w' g t zs
  row : ∀ A c, Row w B T 2 A n c xs → Row w' B T 2 A n c xs
  row1 : ∀ A c, Row w B T 2 A (n + 1) c ys → Row w' B T 2 A (n + 1) c ys
theorem RS.refl {B : Nat} {T : TypeId} {n : Nat} {xs ys : List Value} (w : World) : RS B T n xs ys w w := ⟨Below.refl _ _, fun _ _ _ _ h => h, fun _ _ h => h, fun _ _ h => h⟩
theorem RS.ext {B : Nat} {T : TypeId} {n : Nat} {xs ys : List Value} {w w' : World} (hB : B ≤ w.heap.size) (h : Ext w w') : RS B T n xs ys w w' := ⟨Below.mono h hB, fun _ _ _ _ k => k.keep h, fun _ _ k => k.keep h, fun _ _ k => k.keep h⟩

set_option maxRecDepth 100000 in
set_option maxHeartbeats 2000000 in
theorem law_rtarises (own block : Int) (A : Option Addr) (n c : Nat) (ps : List (Int × Int)) (mp mc by_ : Int) (w : World) (_ : I64 own) (_ : I64 block) (ga : PairsArg w A n ps) (_ : I64 mp) (_ : I64 mc) (_ : I64 by_) :
    Calls Try.prog 5 #[.int .i64 own, .int .i64 block, .slice A n c, .agg #[.int .i64 mp, .int .i64 mc], .int .i64 by_] w fun e w' => e = .returned (.bool true) ∧ Below w.heap.size w w' := by
  obtain ⟨hl, hn, hr, _⟩ := ga
  by_cases h12 : 12 < n
  · go_enter Try.func5, Try.ntmps5
    go_wp2_with (go_at_call 8; refine (rta_awake _).mono ?_; rintro e w1 ⟨rfl, b1⟩)
    go_ret
    exact ⟨rfl, Ext.trans (Ext.alloc _ _) b1⟩
  · have HL := Lib.hid hl
    clear hl
    have l1 := low_lo own 200 (by omega)
    have l2 := low_hi own 200 (by omega)
    have l3 := low_lo block 100 (by omega)
    have l4 := low_hi block 100 (by omega)
    have l5 := low_lo by_ 50 (by omega)
    have l6 := low_hi by_ 50 (by omega)
    obtain ⟨ip, hi, hz0, hz1, hz2⟩ := info_parts info_part
    have hrA : Rd (w.alloc (.cells #[.int .i64 mp, .int .i64 mc] 35)) A (pairs ps) := hr.keep (Ext.alloc _ _)
    have oM := Own.new w 35 [.int .i64 mp, .int .i64 mc]
    have bM := Ext.alloc w (.cells #[.int .i64 mp, .int .i64 mc] 35)
    go_enter Try.func5, Try.ntmps5
    go_wp2_with (go_at_call 14; refine (low_any _ _ _ (by omega) (by omega)).mono ?_; rintro e w' ⟨rfl, rfl⟩)
    generalize low own 200 = o at *
    generalize low block 100 = b at *
    generalize low by_ 50 = y at *
    refine (rta_response o b A n c ps 600 _ (by omega) hrA HL.out).mono ?_
    rintro e w1 ⟨rfl, b1⟩
    have hr1 := hrA.keep b1
    have o1 := oM.keep b1
    go_wp2
    have hk1 : IntKind.i64.wrap (o + y) = o + y := IntWalk.i64_in _ ⟨by omega, by omega⟩
    have hc0 := o1.cell 0
    have hc1 := o1.cell 1
    simp only [List.getElem?_cons_zero, List.getElem?_cons_succ] at hc0 hc1
    clear o1 oM
    obtain ⟨W, hW⟩ : ∃ W, W = w1.heap.size := ⟨_, rfl⟩
    have LP := Lib.hid (by rw [pairs_len, HL.out]; omega : (pairs ps).length = n * 2)
    have HR1 := Lib.hid hr1
    have HI := Lib.hid hi
    clear hr1 hrA hr hi
    refine wp_region_dep (S := RS w1.heap.size 35 n (pairs ps) (pairs ps ++ pairs [(mp, mc)])) (C := Ext w1) (by kernel_rfl) (by kernel_rfl) rfl RS.refl (Ext.drew _) ?_
    repeat (refine dep_det (by rfl) (fun K hK => ?_); go_simp; (try rw [hk1]); (refine ⟨_, fun w1 hw1 => ⟨RS.refl w1, hw1, rfl⟩, hK _ ?_⟩); clear hK K)
    refine dep_var (fun v W => ∃ A' c', v = .slice A' n c' ∧ Row W w1.heap.size 35 2 A' n c' (pairs ps) ∧ (A' = none ∨ 1 ≤ n)) 38 rfl (by rfl) (fun v W W' hS hV => by
        obtain ⟨A', c', e, h1, h2⟩ := hV
        exact ⟨A', c', e, hS.row _ _ h1, h2⟩) (by go_simp) (fun W hW => ?_) ?_
    · obtain ⟨A', c', W', hrun, r1, r2, r3⟩ := run_append (P := Try.prog) W 22 22 35 ip _ 2 16 Try.underlying22 HI.out hz0 hz1 hz2 rfl (by omega) w1.heap.size none 0 0 [] (Row.nil _ _ _ _) A n c (pairs ps) LP.out (HR1.out.keep hW) (pairs_one ps) (by omega) (by omega) hW.size
      have hE : Ext W W' := (Below.refl _ _).grown r2 (Nat.le_refl _) (fun k hk => by cases hk)
      rw [Nat.zero_add] at hrun r1
      refine dep_append rfl hrun ⟨RS.ext hW.size hE, Ext.trans hW hE, A', c', rfl, r1, ?_⟩
      rcases Nat.eq_zero_or_pos n with h0 | h0
      · left
        subst h0
        have h1 := append_nothing (P := Try.prog) W 22 22 35 ip 2 Try.underlying22 HI.out w1.heap.size none 0 0 [] (Row.nil _ _ _ _) A c
        have h2 := hrun.symm.trans h1
        injection h2 with h2; injection h2
      · exact .inr h0
    refine dep_det (by rfl) (fun K hK => ?_)
    go_simp
    apply Exists.intro
    refine ⟨fun w1 hw1 => ?_, hK _ ?_⟩
    · have g0 := cell_keep hw1 hc0
      have g1 := cell_keep hw1 hc1
      go_simp
      first | exact ⟨RS.refl w1, hw1, rfl⟩ | exact ⟨RS.refl w1, rfl⟩
    clear hK K
    refine dep_var (SlAt 35 (pairs [(mp, mc)]) 1 1) 40 rfl (by rfl) (fun v W W' hS hV => by
        obtain ⟨g, e, h1⟩ := hV
        exact ⟨g, e, hS.own _ _ _ rfl h1⟩) (by go_simp) (fun W hW => ?_) ?_
    · go_simp
      exact ⟨RS.ext hW.size (Ext.alloc _ _), Ext.trans hW (Ext.alloc _ _), SlAt.new W 35 (pairs [(mp, mc)]) 1 1⟩
    refine dep_var2 38 40 _ _ (fun v W => ∃ A' c', v = .slice A' (n + 1) c' ∧ Row W w1.heap.size 35 2 A' (n + 1) c' (pairs ps ++ pairs [(mp, mc)])) 41 rfl (by rfl) (by intro V' h; simpa using h) (by simp) (by intro V' h; simpa using h) (by simp) (by first | (simp; done) | simp [Act.put]) (by first | (simp; done) | simp [Act.put]) (fun v W W' hS hV => by
        obtain ⟨A', c', e, h1⟩ := hV
        exact ⟨A', c', e, hS.row1 _ _ h1⟩) (fun W v1 v2 hW hV1 hV2 => ?_) ?_
    · obtain ⟨A', c', rfl, h1, h2⟩ := hV1
      obtain ⟨g, rfl, h3⟩ := hV2
      refine ⟨by go_simp, ?_⟩
      obtain ⟨A2, c2, W', hrun, q1, q2, q3, q4, q5⟩ := append_row (P := Try.prog) W 22 22 35 ip _ 2 16 Try.underlying22 HI.out hz0 hz1 hz2 rfl (by omega) w1.heap.size A' n c' (pairs ps) h1 (some ⟨g, 0, none⟩) 1 1 (pairs [(mp, mc)]) rfl (by omega) h3.rd0 (pairs_one _) (by omega) (by omega) hW.size
      exact dep_append rfl hrun ⟨⟨q2, fun g t zs hz => q3 g t zs (by rcases h2 with h2 | h2; exact .inl h2; right; omega), q4, q5⟩, Below.trans hW q2, A2, c2, rfl, q1⟩
    refine dep_det1 41 _ (by rfl) (by intro V' h; simpa using h) (List.mem_cons_self ..) (by first | (simp; done) | simp [Act.put]) (fun K hK => ?_)
    apply Exists.intro
    refine ⟨fun W v hW hV => ?_, hK _ ?_⟩
    · obtain ⟨B, d, rfl, ho⟩ := hV
      go_simp
      have hrd : Rd W B (pairs (ps ++ [(mp, mc)])) := by rw [← pairs_app]; exact ho.rd
      refine (rta_response (o + y) b B (n + 1) d (ps ++ [(mp, mc)]) 600 W (by omega) hrd (by simp [HL.out])).mono ?_
      rintro e w' ⟨rfl, hb'⟩
      exact ⟨_, rfl, RS.ext hW.size hb', Ext.trans hW hb', rfl⟩
    clear hK K
    repeat (refine dep_det (by rfl) (fun K hK => ?_); go_simp; (try rw [hk1]); (refine ⟨_, fun w1 hw1 => ⟨RS.refl w1, hw1, rfl⟩, hK _ ?_⟩); clear hK K)
    refine dep_nil ?_
    intro a' w' hC hE
    obtain ⟨v, ⟨_, _, rfl, _⟩, hE⟩ := atEnd_cons hE (by simp) (by first | (simp; done) | simp [Act.put])
    obtain ⟨v, ⟨_, rfl, _⟩, hE⟩ := atEnd_cons hE (by simp) (by first | (simp; done) | simp [Act.put])
    obtain ⟨v, ⟨_, _, rfl, _⟩, hE⟩ := atEnd_cons hE (by simp) (by first | (simp; done) | simp [Act.put])
    obtain rfl := atEnd_nil hE
    have hRises := rises_law o b y ps (mp, mc) 600 l5
    have bF : Ext w w' := Ext.trans (Ext.trans bM b1) hC
    clear hE hc0 hc1 LP HR1 HI hk1 hC b1
    generalize rresp (o + y) b (ps ++ [(mp, mc)]) 600 = r2 at *
    generalize rresp o b ps 600 = r1 at *
    rcases r2 with _ | j
    · go_wp2_with (go_at_call 8; refine (rta_awake _).mono ?_; rintro e w2 ⟨rfl, b2⟩)
      go_ret
      exact ⟨rfl, Ext.trans bF b2⟩
    · obtain ⟨i, hij, rfl⟩ := hRises j rfl
      have hle : respOf (some i) ≤ respOf (some j) := by simp [respOf]; omega
      go_wp2_with (go_at_call 8; refine (rta_awake _).mono ?_; rintro e w2 ⟨rfl, b2⟩)
      go_ret
      exact ⟨rfl, Ext.trans bF b2⟩

end Go.Proofs.Ythocbnaphiikeaa
