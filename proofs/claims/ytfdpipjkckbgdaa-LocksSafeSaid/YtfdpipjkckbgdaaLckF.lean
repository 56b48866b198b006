/-
  LOCKS: each call in one word; what is always so of locks.
-/
import Derived.Test.YtfdpipjkckbgdaaLckE
namespace Go.Proofs.Ytfdpipjkckbgdaa
open Go.RowKit Go.Maps
attribute [local go_sem] depUpon Sp.ok

theorem Tr.belowOf {w0 w w' : World} {P P' : Nat → Prop} (a : Tr w w' P P') (h : Ext w0 w) (hP : ∀ i, P i → w0.heap.size ≤ i) : Ext w0 w' := Below.trans h (a.below h.size hP)
theorem KW.noRow {w : World} {B g : Nat} {s : LS} {N : Nat} {P : Nat → Prop} (h : KW w B g s N P) {b m c z : Nat} {T : TypeId} {Z : Option Addr} {xs : List Value} (hr : Row w b T z Z m c xs) (t1 : T ≠ 65) (t2 : T ≠ 61) (t3 : T ≠ 29) (t4 : T ≠ 46) : ∀ i, blk Z = some i → ¬ P i := by
  obtain ⟨a, h1, h2, rfl⟩ := h
  exact h2.noRow hr t1 t2 t3 t4

/-! What is always so. -/
def rnk (s : LS) (m : Int) : Int := (mget s.ms m).1
structure LI (s : LS) : Prop where
  uq : Uq s
  nn : ∀ t m, m ∈ s.mu t → 0 ≤ t
  rk : ∀ t, (s.mu t).Pairwise (fun a b => rnk s a < rnk s b)
  ex : ∀ t m, m ∈ s.mu t → rnk s m ≠ 0
  wx : ∀ t m, s.W t = some m → rnk s m ≠ 0
  wr : ∀ t m, s.W t = some m → ∀ x ∈ s.mu t, rnk s x < rnk s m
  wo : ∀ t m, s.W t = some m → ∃ u, u ≠ t ∧ m ∈ s.mu u
theorem rnk_pos {s : LS} {m : Int} (h : rnk s m ≠ 0) : 0 ≤ m ∧ m < (s.ms.length : Int) := by
  unfold rnk at h
  rcases mget_ways s.ms m with ⟨h1, _⟩ | ⟨k, rfl, hk, _⟩
  · rw [h1] at h; exact absurd rfl h
  · omega
theorem LI.zero (ms : List (Int × Int)) : LI (ls0 ms) := ⟨fun t u m h => (by cases h), fun t m h => (by cases h), fun t => List.Pairwise.nil, fun t m h => (by cases h), fun t m h => (by cases h), fun t m h => (by cases h), fun t m h => (by cases h)⟩
theorem LI.own_in {s : LS} (_ : LI s) (m : Int) (h0 : 0 ≤ ownO s m) : m ∈ s.mu (ownO s m) := by
  rcases ownO_ways s m with ⟨h1, _⟩ | h1
  · omega
  · exact h1
theorem LI.own_out {s : LS} (h : LI s) (m : Int) (h0 : ownO s m < 0) : ∀ t, m ∉ s.mu t := by
  rcases ownO_ways s m with ⟨_, h1⟩ | h1
  · exact h1
  · have := h.nn _ _ h1; omega
theorem LI.wl {s : LS} (h : LI s) {t m : Int} (hw : s.W t = some m) : s.wl t = m ∧ 0 ≤ m := ⟨by unfold LS.wl; rw [hw]; rfl, (rnk_pos (h.wx t m hw)).1⟩
theorem LI.wnone {s : LS} (h : LI s) {t : Int} (hw : s.wl t < 0) : s.W t = none := by
  cases hm : s.W t with
  | none => rfl
  | some m => have := h.wl hm; omega
theorem mmay_zero {ms : List (Int × Int)} {hs : List Int} {m : Int} (h : mmay ms hs m = 0) : (mget ms m).1 ≠ 0 ∧ ∀ x ∈ hs, (mget ms x).1 < (mget ms m).1 := by
  unfold mmay at h
  split at h
  · cases h
  · rename_i h0
    split at h
    · cases h
    · rename_i h1
      refine ⟨h0, fun x hx => ?_⟩
      refine Classical.byContradiction fun q => h1 (List.any_eq_true.2 ⟨x, hx, decide_eq_true (by omega)⟩)
theorem lock_zero {s : LS} {t m : Int} (h : lockE s t m = 0) : 0 ≤ t ∧ s.wl t < 0 ∧ rnk s m ≠ 0 ∧ ∀ x ∈ s.mu t, rnk s x < rnk s m := by
  unfold lockE at h
  split at h
  · cases h
  · split at h
    · cases h
    · obtain ⟨h1, h2⟩ := mmay_zero h
      exact ⟨by omega, by omega, h1, h2⟩
theorem mu_setH (s : LS) (t : Int) (xs : List (Int × Int)) (u : Int) : (s.setH t (some xs)).mu u = if u = t then xs.map Prod.fst else s.mu u := by
  unfold LS.mu LS.hl
  show ((fset s.H t (some xs) u).getD []).map Prod.fst = _
  by_cases e : u = t
  · subst e; rw [fset_at, if_pos rfl]; rfl
  · rw [fset_ne _ _ e, if_neg e]
theorem mu_delH (s : LS) (t : Int) (u : Int) : (s.setH t none).mu u = if u = t then [] else s.mu u := by
  unfold LS.mu LS.hl
  show ((fset s.H t none u).getD []).map Prod.fst = _
  by_cases e : u = t
  · subst e; rw [fset_at, if_pos rfl]; rfl
  · rw [fset_ne _ _ e, if_neg e]
theorem mu_setW (s : LS) (W : Int → Option Int) (u : Int) : (s.setW W).mu u = s.mu u := rfl
theorem LI.lock {s : LS} (h : LI s) (t m : Int) : LI (lockS s t m) := by
  unfold lockS
  split
  · exact h
  · rename_i he
    have he : lockE s t m = 0 := Classical.byContradiction he
    obtain ⟨h0, h1, h2, h3⟩ := lock_zero he
    split
    · rename_i ho
      have hin := h.own_in m ho
      refine ⟨h.uq, h.nn, h.rk, h.ex, fun u x hw => ?_, fun u x hw => ?_, fun u x hw => ?_⟩
      all_goals
        have hw' : fset s.W t (some m) u = some x := hw
        by_cases e : u = t
      · subst e; rw [fset_at] at hw'; injection hw' with hw'; subst hw'; exact h2
      · rw [fset_ne _ _ e] at hw'; exact h.wx u x hw'
      · subst e; rw [fset_at] at hw'; injection hw' with hw'; subst hw'; exact h3
      · rw [fset_ne _ _ e] at hw'; exact h.wr u x hw'
      · subst e; rw [fset_at] at hw'; injection hw' with hw'; subst hw'
        refine ⟨ownO s m, fun q => ?_, hin⟩
        rw [q] at hin
        have := h3 m hin
        omega
      · rw [fset_ne _ _ e] at hw'; exact h.wo u x hw'
    · rename_i ho
      have hno := h.own_out m (by omega)
      have hmu : ∀ u, (s.setH t (some (s.hl t ++ [(m, 0)]))).mu u = if u = t then s.mu t ++ [m] else s.mu u := fun u => by
        rw [mu_setH]
        by_cases e : u = t
        · rw [if_pos e, if_pos e, List.map_append]; rfl
        · rw [if_neg e, if_neg e]
      have hmem : ∀ u x, x ∈ (s.setH t (some (s.hl t ++ [(m, 0)]))).mu u ↔ x ∈ s.mu u ∨ (u = t ∧ x = m) := fun u x => by
        rw [hmu]
        by_cases e : u = t
        · subst e; rw [if_pos rfl, List.mem_append, List.mem_singleton]; simp
        · rw [if_neg e]; simp [e]
      refine ⟨fun u v x hu hv => ?_, fun u x hu => ?_, fun u => ?_, fun u x hu => ?_, h.wx, fun u x hw y hy => ?_, fun u x hw => ?_⟩
      · rcases (hmem u x).1 hu with a | ⟨a, b⟩ <;> rcases (hmem v x).1 hv with c | ⟨c, d⟩
        · exact h.uq u v x a c
        · exact absurd (d ▸ a) (hno u)
        · exact absurd (b ▸ c) (hno v)
        · rw [a, c]
      · rcases (hmem u x).1 hu with a | ⟨a, b⟩
        · exact h.nn u x a
        · omega
      · rw [hmu]
        show List.Pairwise (fun a b => rnk s a < rnk s b) _
        split
        · refine List.pairwise_append.2 ⟨h.rk t, List.pairwise_singleton _ _, fun a ha b hb => ?_⟩
          rw [List.mem_singleton.1 hb]
          exact h3 a ha
        · exact h.rk u
      · rcases (hmem u x).1 hu with a | ⟨a, b⟩
        · exact h.ex u x a
        · rw [b]; exact h2
      · rcases (hmem u y).1 hy with a | ⟨a, b⟩
        · exact h.wr u x hw y a
        · have hw' : s.W u = some x := hw
          rw [a, h.wnone h1] at hw'
          cases hw'
      · obtain ⟨v, hv1, hv2⟩ := h.wo u x hw
        exact ⟨v, hv1, (hmem v x).2 (.inl hv2)⟩
theorem freeW_some {W : Int → Option Int} {us : List Int} {t m : Int} (h : freeW W us t = some m) : W t = some m ∧ m ∉ us := by
  unfold freeW at h
  cases hw : W t with
  | none => rw [hw] at h; cases h
  | some x =>
    rw [hw] at h
    simp only at h
    split at h
    · cases h
    · rename_i hn
      injection h with h
      subst h
      exact ⟨rfl, hn⟩
theorem LI.unlock {s : LS} (h : LI s) (t m : Int) : LI (unlS s t m) := by
  unfold unlS
  split
  · rename_i he
    have hla : (s.mu t).getLast? = some m := by
      unfold unlE at he
      split at he
      · assumption
      · cases he
    have hdm : ((s.hl t).dropLast).map Prod.fst = (s.mu t).dropLast := by unfold LS.mu; rw [List.map_dropLast]
    have hmu : ∀ u, ((s.setH t (some (s.hl t).dropLast)).setW (freeW s.W [m])).mu u = if u = t then (s.mu t).dropLast else s.mu u := fun u => by
      rw [mu_setW, mu_setH, hdm]
    have hsub : ∀ u x, x ∈ ((s.setH t (some (s.hl t).dropLast)).setW (freeW s.W [m])).mu u → x ∈ s.mu u := fun u x hx => by
      rw [hmu] at hx
      split at hx
      · rename_i e; rw [e]; exact (List.dropLast_sublist _).mem hx
      · exact hx
    refine ⟨fun u v x hu hv => h.uq u v x (hsub u x hu) (hsub v x hv), fun u x hu => h.nn u x (hsub u x hu), fun u => ?_, fun u x hu => h.ex u x (hsub u x hu), fun u x hw => h.wx u x (freeW_some hw).1, fun u x hw y hy => h.wr u x (freeW_some hw).1 y (hsub u y hy), fun u x hw => ?_⟩
    · rw [hmu]
      show List.Pairwise (fun a b => rnk s a < rnk s b) _
      split
      · exact (h.rk t).sublist (List.dropLast_sublist _)
      · exact h.rk u
    · obtain ⟨w1, w2⟩ := freeW_some hw
      obtain ⟨v, v1, v2⟩ := h.wo u x w1
      refine ⟨v, v1, ?_⟩
      rw [hmu]
      split
      · rename_i e
        subst e
        obtain ⟨ys, hys⟩ := List.getLast?_eq_some_iff.1 hla
        rw [hys] at v2 ⊢
        rw [List.dropLast_concat]
        rcases List.mem_append.1 v2 with v2 | v2
        · exact v2
        · exact absurd v2 w2
      · exact v2
  · exact h
theorem LI.leave {s : LS} (h : LI s) (t : Int) : LI (leaveS s t) := by
  have hmu : ∀ u, (leaveS s t).mu u = if u = t then [] else s.mu u := fun u => by
    unfold leaveS
    rw [mu_setW, mu_delH]
    rfl
  have hsub : ∀ u x, x ∈ (leaveS s t).mu u → x ∈ s.mu u := fun u x hx => by
    rw [hmu] at hx
    split at hx
    · cases hx
    · exact hx
  have hW : ∀ u x, (leaveS s t).W u = some x → s.W u = some x ∧ u ≠ t ∧ x ∉ s.mu t := fun u x hw => by
    have hw' : freeW (fset s.W t none) (s.mu t) u = some x := hw
    obtain ⟨w1, w2⟩ := freeW_some hw'
    by_cases e : u = t
    · subst e; rw [fset_at] at w1; cases w1
    · rw [fset_ne _ _ e] at w1; exact ⟨w1, e, w2⟩
  refine ⟨fun u v x hu hv => h.uq u v x (hsub u x hu) (hsub v x hv), fun u x hu => h.nn u x (hsub u x hu), fun u => ?_, fun u x hu => h.ex u x (hsub u x hu), fun u x hw => h.wx u x (hW u x hw).1, fun u x hw y hy => h.wr u x (hW u x hw).1 y (hsub u y hy), fun u x hw => ?_⟩
  · rw [hmu]
    show List.Pairwise (fun a b => rnk s a < rnk s b) _
    split
    · exact List.Pairwise.nil
    · exact h.rk u
  · obtain ⟨w1, w2, w3⟩ := hW u x hw
    obtain ⟨v, v1, v2⟩ := h.wo u x w1
    refine ⟨v, v1, ?_⟩
    rw [hmu, if_neg (fun e : v = t => w3 (e ▸ v2))]
    exact v2
theorem mu_run (s : LS) (t n u : Int) : (runS s t n).mu u = s.mu u := by
  unfold runS
  cases hx : s.H t with
  | none => rfl
  | some xs =>
    rw [mu_setH]
    split
    · rename_i e
      subst e
      unfold LS.mu LS.hl
      rw [hx, Option.getD_some, List.map_map]
      rfl
    · rfl
theorem run_ms (s : LS) (t n : Int) : (runS s t n).ms = s.ms := by unfold runS; cases s.H t <;> rfl
theorem run_W (s : LS) (t n : Int) : (runS s t n).W = s.W := by unfold runS; cases s.H t <;> rfl
theorem LI.run {s : LS} (h : LI s) (t n : Int) : LI (runS s t n) := by
  have hr : ∀ m, rnk (runS s t n) m = rnk s m := fun m => by unfold rnk; rw [run_ms]
  refine ⟨fun u v x hu hv => h.uq u v x (by rwa [mu_run] at hu) (by rwa [mu_run] at hv), fun u x hu => h.nn u x (by rwa [mu_run] at hu), fun u => ?_, fun u x hu => ?_, fun u x hw => ?_, fun u x hw y hy => ?_, fun u x hw => ?_⟩
  · rw [mu_run]; simp only [hr]; exact h.rk u
  · rw [mu_run] at hu; rw [hr]; exact h.ex u x hu
  · rw [run_W] at hw; rw [hr]; exact h.wx u x hw
  · rw [run_W] at hw; rw [mu_run] at hy; rw [hr, hr]; exact h.wr u x hw y hy
  · rw [run_W] at hw
    obtain ⟨v, v1, v2⟩ := h.wo u x hw
    exact ⟨v, v1, by rw [mu_run]; exact v2⟩
theorem lock_ms (s : LS) (t m : Int) : (lockS s t m).ms = s.ms := by unfold lockS; split; rfl; split <;> rfl
theorem unl_ms (s : LS) (t m : Int) : (unlS s t m).ms = s.ms := by unfold unlS; split <;> rfl

section
variable (B g gt : Nat) (s : LS) (N : Nat) (P : Nat → Prop) (t m n : Int) (w : World) (h : KX w B g gt s N P) (hN : N ≤ 50000)
include h hN
theorem kx_lock (ht : I64 t) (hi : LI s) (hB : B ≤ w.heap.size) :
    Calls Try.prog 11 #[.pointer (some ⟨g, 0, none⟩), .int .i64 t, .int .i64 m] w fun e w' => e = .returned (.tuple #[.bool (lockB s t m), .int .i64 (lockE s t m)]) ∧ ∃ P', KX w' B g gt (lockS s t m) (N + 1) P' ∧ Tr w w' P P' := by
  obtain ⟨a, rfl, rfl, h2, rfl⟩ := h
  exact k_lock B a s N t m w h2 ht (by omega) hi.uq hB
theorem kx_unlock (ht : I64 t) :
    Calls Try.prog 14 #[.pointer (some ⟨g, 0, none⟩), .int .i64 t, .int .i64 m] w fun e w' => ∃ ws A' c', e = .returned (.tuple #[.slice A' ws.length c', .int .i64 (unlE s t m)]) ∧ Row w' w.heap.size 3 1 A' ws.length c' (ints ws) ∧ (if unlE s t m = 0 then Woken s [m] ws else ws = []) ∧ ws.length ≤ N + 1 ∧ ∃ P', KX w' B g gt (unlS s t m) (N + 1) P' ∧ Tr w w' P P' := by
  obtain ⟨a, rfl, rfl, h2, rfl⟩ := h
  exact k_unlock B a s N t m w h2 ht hN
theorem kx_leave (ht : I64 t) :
    Calls Try.prog 13 #[.pointer (some ⟨g, 0, none⟩), .int .i64 t] w fun e w' => ∃ ws A' c', e = .returned (.slice A' ws.length c') ∧ Row w' w.heap.size 3 1 A' ws.length c' (ints ws) ∧ Woken (s.setW (fset s.W t none)) (s.mu t) ws ∧ ws.length ≤ N ∧ ∃ P', KX w' B g gt (leaveS s t) N P' ∧ Tr w w' P P' := by
  obtain ⟨a, rfl, rfl, h2, rfl⟩ := h
  exact k_leave B a s N t w h2 ht hN
theorem kx_run (ht : I64 t) :
    Calls Try.prog 17 #[.pointer (some ⟨g, 0, none⟩), .int .i64 t, .int .i64 n] w fun e w' => e = .returned (.tuple #[]) ∧ ∃ P', KX w' B g gt (runS s t n) N P' ∧ Tr w w' P P' := by
  obtain ⟨a, rfl, rfl, h2, rfl⟩ := h
  exact k_run B a s N t n w h2 ht (by omega)
end

section
variable (B g : Nat) (s : LS) (N : Nat) (P : Nat → Prop) (t m n : Int) (w : World) (h : KW w B g s N P) (hN : N ≤ 50000)
include h hN
theorem kw_lock (ht : I64 t) (hi : LI s) (hB : B ≤ w.heap.size) :
    Calls Try.prog 11 #[.pointer (some ⟨g, 0, none⟩), .int .i64 t, .int .i64 m] w fun e w' => e = .returned (.tuple #[.bool (lockB s t m), .int .i64 (lockE s t m)]) ∧ ∃ P', KW w' B g (lockS s t m) (N + 1) P' ∧ Tr w w' P P' := by
  obtain ⟨a, rfl, h2, rfl⟩ := h
  refine (k_lock B a s N t m w h2 ht (by omega) hi.uq hB).mono ?_
  rintro e w1 ⟨h1, P1, h3, h4⟩
  exact ⟨h1, P1, h3.kw, h4⟩
theorem kw_unlock (ht : I64 t) :
    Calls Try.prog 14 #[.pointer (some ⟨g, 0, none⟩), .int .i64 t, .int .i64 m] w fun e w' => ∃ ws A' c', e = .returned (.tuple #[.slice A' ws.length c', .int .i64 (unlE s t m)]) ∧ Row w' w.heap.size 3 1 A' ws.length c' (ints ws) ∧ (if unlE s t m = 0 then Woken s [m] ws else ws = []) ∧ ws.length ≤ N + 1 ∧ ∃ P', KW w' B g (unlS s t m) (N + 1) P' ∧ Tr w w' P P' := by
  obtain ⟨a, rfl, h2, rfl⟩ := h
  refine (k_unlock B a s N t m w h2 ht hN).mono ?_
  rintro e w1 ⟨ws, A', c', h1, h2, h3, h4, P1, h5, h6⟩
  exact ⟨ws, A', c', h1, h2, h3, h4, P1, h5.kw, h6⟩
theorem kw_leave (ht : I64 t) :
    Calls Try.prog 13 #[.pointer (some ⟨g, 0, none⟩), .int .i64 t] w fun e w' => ∃ ws A' c', e = .returned (.slice A' ws.length c') ∧ Row w' w.heap.size 3 1 A' ws.length c' (ints ws) ∧ Woken (s.setW (fset s.W t none)) (s.mu t) ws ∧ ws.length ≤ N ∧ ∃ P', KW w' B g (leaveS s t) N P' ∧ Tr w w' P P' := by
  obtain ⟨a, rfl, h2, rfl⟩ := h
  refine (k_leave B a s N t w h2 ht hN).mono ?_
  rintro e w1 ⟨ws, A', c', h1, h2, h3, h4, P1, h5, h6⟩
  exact ⟨ws, A', c', h1, h2, h3, h4, P1, h5.kw, h6⟩
theorem kw_run (ht : I64 t) :
    Calls Try.prog 17 #[.pointer (some ⟨g, 0, none⟩), .int .i64 t, .int .i64 n] w fun e w' => e = .returned (.tuple #[]) ∧ ∃ P', KW w' B g (runS s t n) N P' ∧ Tr w w' P P' := by
  obtain ⟨a, rfl, h2, rfl⟩ := h
  refine (k_run B a s N t n w h2 ht (by omega)).mono ?_
  rintro e w1 ⟨h1, P1, h3, h4⟩
  exact ⟨h1, P1, h3.kw, h4⟩
theorem kw_over (ht : I64 t) :
    Calls Try.prog 20 #[.pointer (some ⟨g, 0, none⟩), .int .i64 t, .int .i64 n] w fun e w' => e = .returned (.bool ((s.hl t).any (overP s.ms n))) ∧ Ext w w' := by
  obtain ⟨a, rfl, h2, rfl⟩ := h
  exact k_over B a s N t n w h2 ht (by omega)
theorem kw_held (ht : I64 t) :
    Calls Try.prog 18 #[.pointer (some ⟨g, 0, none⟩), .int .i64 t] w fun e w' => ∃ A' c', e = .returned (.slice A' (s.hl t).length c') ∧ Row w' w.heap.size 46 2 A' (s.hl t).length c' (pairs (s.hl t)) ∧ Below w.heap.size w w' := by
  obtain ⟨a, rfl, h2, rfl⟩ := h
  exact k_held B a s N t w h2 ht (by omega)
theorem kw_owner (hi : LI s) :
    Calls Try.prog 16 #[.pointer (some ⟨g, 0, none⟩), .int .i64 m] w fun e w' => e = .returned (.int .i64 (ownO s m)) ∧ Ext w w' := by
  obtain ⟨a, rfl, h2, rfl⟩ := h
  exact k_owner B a s N m w h2 (by omega) hi.uq
theorem kw_owners (hi : LI s) :
    Calls Try.prog 21 #[.pointer (some ⟨g, 0, none⟩)] w fun e w' => ∃ A' c', e = .returned (.slice A' s.ms.length c') ∧ Row w' w.heap.size 3 1 A' s.ms.length c' (ints (ownsL s)) ∧ Below w.heap.size w w' := by
  obtain ⟨a, rfl, h2, rfl⟩ := h
  exact k_owners B a s N w h2 (by omega) hi.uq
omit hN in
theorem kw_waits (ht : I64 t) :
    Calls Try.prog 15 #[.pointer (some ⟨g, 0, none⟩), .int .i64 t] w fun e w' => e = .returned (.int .i64 (s.wl t)) ∧ w = w' := by
  obtain ⟨a, rfl, h2, rfl⟩ := h
  exact k_waits B a s N t w h2 ht
end

end Go.Proofs.Ytfdpipjkckbgdaa
