/-
  WALKS of package rta: what Work and Response answer.
-/
import Derived.Test.YtdninhdabeddeaaNumA
import Derived.Test.YtdninhdabeddeaaDep
namespace Go.Proofs.Ytdninhdabeddeaa
open Go.RowKit
attribute [local go_sem] depUpon Sp.ok

/-- The work of parts in a span. -/
def rwork (span : Int) (ps : List (Int × Int)) : Int := ps.foldl (fun s p => nsum [s, nmul (nup span p.1) p.2]) 0
theorem rwork_snoc (span : Int) (ps : List (Int × Int)) (p : Int × Int) : rwork span (ps ++ [p]) = nsum [rwork span ps, nmul (nup span p.1) p.2] := by simp [rwork]
theorem rwork_lo (span : Int) (ps : List (Int × Int)) : 0 ≤ rwork span ps := by
  rcases List.eq_nil_or_concat ps with rfl | ⟨l', x, rfl⟩
  · simp [rwork]
  · rw [List.concat_eq_append, rwork_snoc]; exact nsum_lo _
theorem rwork_hi (span : Int) (ps : List (Int × Int)) : rwork span ps ≤ 1099511627776 := by
  rcases List.eq_nil_or_concat ps with rfl | ⟨l', x, rfl⟩
  · simp [rwork]
  · rw [List.concat_eq_append, rwork_snoc]; exact nsum_hi _

set_option maxRecDepth 100000 in
set_option maxHeartbeats 1000000 in
theorem rta_work (span : Int) (A : Option Addr) (n c : Nat) (ps : List (Int × Int)) (w : World) (hn : n ≤ 4611686018427387904) (hr : Rd w A (pairs ps)) (hl : ps.length = n) :
    Calls Try.prog 62 #[.int .i64 span, .slice A n c] w fun e w' => e = .returned (.int .i64 (rwork span ps)) ∧ Below w.heap.size w w' := by
  subst hl
  go_enter Try.func62, Try.ntmps62
  go_wp2
  go_loopw [5, 11] (fun s i wr => ∃ k : Nat, k ≤ ps.length ∧ i = .int .i64 k ∧ s = .int .i64 (rwork span (ps.take k)) ∧ Below w.heap.size w wr) (fun _ i _ => ps.length - (intOf i).toNat)
  case atStart => exact ⟨0, Nat.zero_le _, rfl, rfl, Below.refl _ _⟩
  case round =>
    obtain ⟨k, hk, rfl, rfl, hb⟩ := hrel
    by_cases hlt : k < ps.length
    · obtain ⟨b, off, rfl, h1, h2⟩ := (hr.keep hb).pair hlt
      have o1 := Own.new wr 36 [.int .i64 ps[k].1, .int .i64 ps[k].2]
      have hc0 := o1.cell 0
      have hc1 := o1.cell 1
      simp only [List.getElem?_cons_zero, List.getElem?_cons_succ] at hc0 hc1
      have HT := Lib.hid (take_succ' ps k hlt)
      clear o1
      go_wp2
      refine wp_region_dep (S := Ext) (C := Ext (wr.alloc (.cells #[.int .i64 ps[k].1, .int .i64 ps[k].2] 36))) (by kernel_rfl) (by kernel_rfl) rfl Ext.refl (Ext.drew _) ?_
      repeat (refine dep_det (by rfl) (fun K hK => ?_); go_simp; first
        | ((with_reducible refine hK _ ?_); clear hK K)
        | (rw [if_neg (by decide)]; (with_reducible refine hK _ ?_); clear hK K)
        | (refine ⟨_, fun w1 hw1 => ⟨Ext.refl w1, hw1, rfl⟩, hK _ ?_⟩; clear hK K)
        | (apply Exists.intro; refine ⟨fun w1 hw1 => ?_, hK _ ?_⟩
           first
             | (go_at_call 77; refine (num_up _ _ _).mono ?_; rintro e w' ⟨rfl, rfl⟩; exact ⟨_, rfl, Ext.refl _, hw1, rfl⟩)
             | (go_at_call 76; refine (num_mul _ _ _).mono ?_; rintro e w' ⟨rfl, rfl⟩; exact ⟨_, rfl, Ext.refl _, hw1, rfl⟩)
             | (have c_hc0 := cell_keep hw1 hc0; have c_hc1 := cell_keep hw1 hc1; go_simp; first | exact ⟨Ext.refl _, hw1, rfl⟩ | exact ⟨Ext.refl _, rfl⟩)
           clear hK K))
      refine dep_var (SlAt 3 (ints [rwork span (ps.take k), nmul (nup span ps[k].1) ps[k].2]) 2 2) 24 rfl (by rfl) SlAt.keep (by go_simp) (fun w1 hw1 => ?_) ?_
      · go_simp
        exact ⟨Ext.alloc _ _, Ext.trans hw1 (Ext.alloc _ _), SlAt.new w1 3 (ints [rwork span (ps.take k), nmul (nup span ps[k].1) ps[k].2]) 2 2⟩
      refine dep_det1 24 _ (by rfl) (by intro V' h; simpa using h) (List.mem_cons_self ..) (by first | (simp; done) | simp [Act.put]) (fun K hK => ?_)
      apply Exists.intro
      refine ⟨fun w1 v hw1 hV => ?_, hK _ ?_⟩
      · obtain ⟨g, rfl, ho⟩ := hV
        go_simp
        refine (num_add _ 2 _ [rwork span (ps.take k), nmul (nup span ps[k].1) ps[k].2] _ (by omega) ho.rd0 rfl).mono ?_
        rintro e w' ⟨rfl, rfl⟩
        exact ⟨_, rfl, Ext.refl _, hw1, rfl⟩
      clear hK K
      repeat (refine dep_det (by rfl) (fun K hK => ?_); go_simp; first
        | ((with_reducible refine hK _ ?_); clear hK K)
        | (rw [if_neg (by decide)]; (with_reducible refine hK _ ?_); clear hK K)
        | (refine ⟨_, fun w1 hw1 => ⟨Ext.refl w1, hw1, rfl⟩, hK _ ?_⟩; clear hK K))
      refine dep_nil ?_
      intro a' w' hC hE
      obtain ⟨v, ⟨g, rfl, _⟩, hE⟩ := atEnd_cons hE (by simp) (by first | (simp; done) | simp [Act.put])
      obtain rfl := atEnd_nil hE
      clear hE
      go_wp2
      go_roundw
      case rel => exact ⟨k + 1, by omega, by go_num, by rw [HT.out, rwork_snoc], hb.trans ((Ext.trans (Ext.alloc _ _) hC).mono hb.size)⟩
      case measure => simp [intOf]; omega
    · go_wp2
      go_ret
      exact ⟨ret_int (by rw [List.take_of_length_le (by omega)]), hb⟩

/-- What is to be done in a span. -/
def rneed (own block : Int) (ps : List (Int × Int)) (s : Int) : Int := nsum [own, block, rwork s ps]
theorem rneed_lo (own block : Int) (ps : List (Int × Int)) (s : Int) : 0 ≤ rneed own block ps s := nsum_lo _
theorem rneed_hi (own block : Int) (ps : List (Int × Int)) (s : Int) : rneed own block ps s ≤ 1099511627776 := nsum_hi _

/-- The least of 1 .. m that is enough. -/
def leastOf (need : Int → Int) (m : Nat) : Option Nat := (List.range m).find? fun i => decide (need ((i : Int) + 1) ≤ (i : Int) + 1)
theorem leastOf_some {need : Int → Int} {m i : Nat} (hi : i < m) (h : need ((i : Int) + 1) ≤ (i : Int) + 1) (hlt : ∀ j : Nat, j < i → (j : Int) + 1 < need ((j : Int) + 1)) : leastOf need m = some i := by
  unfold leastOf
  rw [List.find?_range_eq_some]
  exact ⟨by simpa using h, List.mem_range.2 hi, fun j hj => by have := hlt j hj; simp; omega⟩
theorem leastOf_none {need : Int → Int} {m : Nat} (h : ∀ j : Nat, j < m → (j : Int) + 1 < need ((j : Int) + 1)) : leastOf need m = none := by
  unfold leastOf
  rw [List.find?_range_eq_none]
  intro j hj
  have := h j hj
  simp; omega
/-- A response and whether there is one. -/
def respOf (o : Option Nat) : Int := match o with | some i => (i : Int) + 1 | none => 0
def rmost (most : Int) : Int := min (clip most) 4096
def rresp (own block : Int) (ps : List (Int × Int)) (most : Int) : Option Nat := leastOf (rneed own block ps) (rmost most).toNat

theorem mono_foldl {l m : List Int} (hl : l.length = m.length) (h : ∀ i (h1 : i < l.length) (h2 : i < m.length), l[i] ≤ m[i]) : nsum l ≤ nsum m := by
  have key : ∀ (l m : List Int) (a b : Int), a ≤ b → l.length = m.length → (∀ i (h1 : i < l.length) (h2 : i < m.length), l[i] ≤ m[i]) → l.foldl (fun s x => clip (s + clip x)) a ≤ m.foldl (fun s x => clip (s + clip x)) b := by
    intro l
    induction l with
    | nil => intro m a b hab hl _; cases m with
      | nil => simpa using hab
      | cons y m => simp at hl
    | cons x l ih => intro m a b hab hl h; cases m with
      | nil => simp at hl
      | cons y m =>
        simp only [List.foldl_cons]
        refine ih m _ _ ?_ (by simpa using hl) (fun i h1 h2 => by have := h (i + 1) (by simp; omega) (by simp; omega); simpa using this)
        have h0 := h 0 (by simp) (by simp)
        simp at h0
        have := clip_mono h0
        exact clip_mono (by omega)
  exact key l m 0 0 (Int.le_refl _) hl h
theorem nmul_mono' {a b c d : Int} (h : a ≤ b) (k : c ≤ d) : nmul a c ≤ nmul b d := by
  unfold nmul
  exact clip_mono (Int.mul_le_mul (clip_mono h) (clip_mono k) (clip_lo _) (clip_lo _))
theorem nup_mono' {a b : Int} (c : Int) (h : a ≤ b) : nup a c ≤ nup b c := by
  have := clip_mono h
  unfold nup
  exact Int.ediv_le_ediv (by omega) (by omega)
theorem rwork_mono {s t : Int} (h : s ≤ t) (ps : List (Int × Int)) : rwork s ps ≤ rwork t ps := by
  have key : ∀ (ps : List (Int × Int)) (a b : Int), a ≤ b → ps.foldl (fun x p => nsum [x, nmul (nup s p.1) p.2]) a ≤ ps.foldl (fun x p => nsum [x, nmul (nup t p.1) p.2]) b := by
    intro ps
    induction ps with
    | nil => intro a b hab; simpa using hab
    | cons p ps ih =>
      intro a b hab
      simp only [List.foldl_cons]
      refine ih _ _ (mono_foldl (l := [a, nmul (nup s p.1) p.2]) (m := [b, nmul (nup t p.1) p.2]) (by simp) fun i h1 h2 => ?_)
      rcases i with _ | _ | i
      · simpa using hab
      · simpa using nmul_mono' (nup_mono' p.1 h) (Int.le_refl p.2)
      · simp at h1; omega
  exact key ps 0 0 (Int.le_refl _)
theorem rneed_mono (own block : Int) (ps : List (Int × Int)) {s t : Int} (h : s ≤ t) : rneed own block ps s ≤ rneed own block ps t := by
  refine mono_foldl (l := [own, block, rwork s ps]) (m := [own, block, rwork t ps]) (by simp) fun i h1 h2 => ?_
  rcases i with _ | _ | _ | i
  · simp
  · simp
  · simpa using rwork_mono h ps
  · simp at h1; omega

/-- Nothing below s is enough. -/
def Short (need : Int → Int) (s : Int) : Prop := ∀ t : Int, 1 ≤ t → t < s → t < need t
theorem short_next {need : Int → Int} (hm : ∀ s t, s ≤ t → need s ≤ need t) {s : Int} (h : Short need s) : Short need (need s) := by
  intro t h1 h2
  rcases Int.lt_or_le t s with h3 | h3
  · exact h t h1 h3
  · have := hm s t h3; omega
theorem rresp_yes {own block : Int} {ps : List (Int × Int)} {most s : Int} (h1 : 1 ≤ s) (h2 : s ≤ rmost most) (hn : rneed own block ps s ≤ s) (h : Short (rneed own block ps) s) : rresp own block ps most = some (s - 1).toNat := by
  refine leastOf_some (by omega) ?_ fun j hj => h _ (by omega) (by omega)
  rw [show (((s - 1).toNat : Nat) : Int) + 1 = s by omega]
  exact hn
theorem rresp_no {own block : Int} {ps : List (Int × Int)} {most s : Int} (h2 : rmost most < s) (h : Short (rneed own block ps) s) : rresp own block ps most = none :=
  leastOf_none fun j hj => h _ (by omega) (by omega)

theorem leastOf_spec {need : Int → Int} {m i : Nat} (h : leastOf need m = some i) : i < m ∧ need ((i : Int) + 1) ≤ (i : Int) + 1 ∧ ∀ j : Nat, j < i → (j : Int) + 1 < need ((j : Int) + 1) := by
  unfold leastOf at h
  rw [List.find?_range_eq_some] at h
  refine ⟨List.mem_range.1 h.2.1, by simpa using h.1, fun j hj => ?_⟩
  have := h.2.2 j hj
  simp at this; omega
theorem leastOf_nil {need : Int → Int} {m : Nat} (h : leastOf need m = none) : ∀ j : Nat, j < m → (j : Int) + 1 < need ((j : Int) + 1) := by
  unfold leastOf at h
  rw [List.find?_range_eq_none] at h
  intro j hj
  have := h j hj
  simp at this; omega
theorem rwork_app (span : Int) (ps qs : List (Int × Int)) : rwork span (ps ++ qs) = clip (rwork span ps + rwork span qs) := by
  rcases List.eq_nil_or_concat qs with rfl | ⟨qs', q, rfl⟩
  · simp [rwork]
    exact (clip_of _ (rwork_lo span ps) (rwork_hi span ps)).symm
  · rw [List.concat_eq_append, ← List.append_assoc, rwork_snoc, rwork_app span ps qs', rwork_snoc]
    have h1 := rwork_lo span ps
    have h2 := rwork_lo span qs'
    generalize nmul (nup span q.1) q.2 = y
    simp [nsum]; unfold clip; omega
  termination_by qs.length
  decreasing_by subst_vars; simp

theorem info_part : (Try.prog.info? 36).map (fun i => (i.zero, i.size, i.bytes)) = some (some (.agg #[.int .i64 0, .int .i64 0]), 2, 16) := by kernel_rfl

theorem rd3 (w : World) (a b c : Int) : Rd (w.alloc (.cells #[.int .i64 a, .int .i64 b, .int .i64 c] 3)) (some ⟨w.heap.size, 0, none⟩) (ints [a, b, c]) := (Own.new w 3 (ints [a, b, c])).rd0
theorem ret_resp {k : IntKind} {a b : Int} {c d : Bool} (h : a = b) (h' : c = d) : Ending.returned (.tuple #[.int k a, .bool c]) = .returned (.tuple #[.int k b, .bool d]) := by rw [h, h']

set_option maxRecDepth 100000 in
set_option maxHeartbeats 1000000 in
theorem rta_response (own block : Int) (A : Option Addr) (n c : Nat) (ps : List (Int × Int)) (most : Int) (w : World) (hn : n ≤ 4611686018427387904) (hr : Rd w A (pairs ps)) (hl : ps.length = n) :
    Calls Try.prog 44 #[.int .i64 own, .int .i64 block, .slice A n c, .int .i64 most] w fun e w' =>
      e = .returned (.tuple #[.int .i64 (respOf (rresp own block ps most)), .bool (rresp own block ps most).isSome]) ∧ Below w.heap.size w w' := by
  have m0 := clip_lo most
  have m1 := clip_hi most
  have r0 : 0 ≤ rmost most := by unfold rmost; omega
  have r1 : rmost most ≤ 4096 := by unfold rmost; omega
  have hm : rmost most = min (clip most) 4096 := rfl
  have HM := Lib.hid hm
  clear hm
  go_enter Try.func44, Try.ntmps44
  go_wp2_with (go_at_call 57; refine (num_clip _ _).mono ?_; rintro e w' ⟨rfl, rfl⟩)
  all_goals
    have q1 : rmost most ≤ clip most := by rw [HM.out]; omega
    first
      | (have q4 : 4096 ≤ rmost most := by rw [HM.out]; omega)
      | (have q4 : clip most ≤ rmost most := by rw [HM.out]; omega)
    go_loopw [10] (fun s wr => ∃ x : Int, 1 ≤ x ∧ x ≤ 1099511627776 ∧ s = .int .i64 x ∧ Hid (Short (rneed own block ps) x) ∧ Below w.heap.size w wr) (fun s _ => (rmost most + 1 - intOf s).toNat)
    case atStart => exact ⟨1, by omega, by omega, rfl, fun t h1 h2 => by omega, Below.refl _ _⟩
    case round =>
      obtain ⟨x, x0, x1, rfl, hs, hb⟩ := hrel
      by_cases hle : x ≤ rmost most
      · have n0 := rneed_lo own block ps x
        have n1 := rneed_hi own block ps x
        by_cases hlt : rneed own block ps x ≤ x
        · have HY := Lib.hid (rresp_yes x0 hle hlt hs.out)
          have hn' : nsum [own, block, rwork x ps] = rneed own block ps x := rfl
          have HN := Lib.hid hn'
          clear hn'
          go_wp2_with (first | (go_at_call 62; refine (rta_work _ _ _ _ ps _ hn (hr.keep hb) hl).mono ?_; rintro e w1 ⟨rfl, b1⟩) | (go_at_call 37; refine (num_add _ 3 _ [own, block, rwork x ps] _ (by omega) (rd3 w1 _ _ _) rfl).mono ?_; rw [HN.out]; rintro e w' ⟨rfl, rfl⟩))
          go_ret2
          refine ⟨?_, hb.trans ((Ext.trans b1 (Ext.alloc _ _)).mono hb.size)⟩
          rw [HY.out]
          exact ret_resp (by simp [respOf]; omega) rfl
        · have HS := Lib.hid (short_next (fun s t h => rneed_mono own block ps h) hs.out)
          have hn' : nsum [own, block, rwork x ps] = rneed own block ps x := rfl
          have HN := Lib.hid hn'
          clear hn'
          go_wp2_with (first | (go_at_call 62; refine (rta_work _ _ _ _ ps _ hn (hr.keep hb) hl).mono ?_; rintro e w1 ⟨rfl, b1⟩) | (go_at_call 37; refine (num_add _ 3 _ [own, block, rwork x ps] _ (by omega) (rd3 w1 _ _ _) rfl).mono ?_; rw [HN.out]; rintro e w' ⟨rfl, rfl⟩))
          go_roundw
          case rel => exact ⟨_, by omega, by omega, rfl, HS.out, hb.trans ((Ext.trans b1 (Ext.alloc _ _)).mono hb.size)⟩
          case measure => simp [intOf]; omega
      · have HY := Lib.hid (rresp_no (Int.not_le.1 hle) hs.out)
        go_wp2
        go_ret2
        refine ⟨?_, hb⟩
        rw [HY.out]
        exact ret_resp rfl rfl

end Go.Proofs.Ytdninhdabeddeaa
