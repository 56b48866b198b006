/-
  LOCKS: Acyclic; plain: waits and owners of locks make no circle; one owner for each that is held.
-/
import Derived.Test.YtfdpipjkckbgdaaLckF
import Derived.Test.YtfdpipjkckbgdaaGphC
namespace Go.Proofs.Ytfdpipjkckbgdaa
open Go.RowKit Go.Maps
attribute [local go_sem] depUpon Sp.ok

/-- Does none of the first k wait for itself? -/
def gacy (ws os : List Int) (n : Int) (k : Nat) : Bool := (List.range k).all fun i => !memB (i : Int) (gchain ws os n (i : Int))
def gacyclic (ws os : List Int) (n : Int) : Bool := gacy ws os n (min n (ws.length : Int)).toNat
theorem gacy_succ (ws os : List Int) (n : Int) (k : Nat) : gacy ws os n (k + 1) = (gacy ws os n k && !memB (k : Int) (gchain ws os n (k : Int))) := by
  unfold gacy; rw [List.range_succ, List.all_append]; simp
theorem gacy_false {ws os : List Int} {n : Int} {k m : Nat} (hk : k < m) (h : memB (k : Int) (gchain ws os n (k : Int)) = true) : gacy ws os n m = false := by
  unfold gacy
  rw [List.all_eq_false]
  exact ⟨k, List.mem_range.2 hk, by simp [h]⟩

set_option maxRecDepth 100000 in
set_option maxHeartbeats 2000000 in
theorem g_acyclic (A : Option Addr) (na ca : Nat) (ws : List Int) (B : Option Addr) (nb cb : Nat) (os : List Int) (n : Int) (w : World) (h : WO w A na ws B nb os) (hn : n ≤ 60000) :
    Calls Try.prog 23 #[.slice A na ca, .slice B nb cb, .int .i64 n] w fun e w' => e = .returned (.bool (gacyclic ws os n)) ∧ Below w.heap.size w w' := by
  have HW := Lib.hid h
  have HLA := Lib.hid h.la
  have HC := Lib.hid (fun (k : Nat) w' (hb : Ext w w') => g_chain A na ca ws B nb cb os n (k : Int) w' (HW.out.keep hb) hn)
  have HCL := Lib.hid (fun (k : Nat) => gchain_len ws os n (k : Int))
  have hval : gacyclic ws os n = gacy ws os n (min n (na : Int)).toNat := by rw [← HLA.out]; rfl
  have hb : ((min n (na : Int)).toNat : Int) = max (min n (na : Int)) 0 := by omega
  generalize hN : (min n (na : Int)).toNat = N at *
  have HV := Lib.hid hval
  have h1 : (N : Int) ≤ 60000 := by omega
  have HQ := Lib.hid (show ∀ k : Nat, (k : Int) < (N : Int) ↔ (k : Int) < min n (na : Int) from fun k => by omega)
  clear h hval hN
  go_enter Try.func23, Try.ntmps23
  go_wp2
  all_goals
    clear hb
    go_loopw [12] (fun i wr => ∃ k : Nat, k ≤ N ∧ i = .int .i64 k ∧ Hid (gacy ws os n k = true) ∧ Ext w wr) (fun i _ => N - (intOf i).toNat)
    case atStart => exact ⟨0, Nat.zero_le _, rfl, Lib.hid rfl, Ext.refl _⟩
    case round =>
      obtain ⟨k, hk, rfl, HA, hb⟩ := hrel
      by_cases hlt : k < N
      · have hlt2 := (HQ.out k).1 (by omega)
        first
          | (have hlt3 : (k : Int) < n := by omega)
          | skip
        have hlt4 : (k : Int) < (na : Int) := by omega
        have hlen := HCL.out k
        have hI := fun A' (c' : Nat) w' (hr : Rd w' A' (ints (gchain ws os n (k : Int)))) => s_contains (k : Int) A' (gchain ws os n (k : Int)).length c' (gchain ws os n (k : Int)) w' (by omega) hr rfl
        have HS := Lib.hid (gacy_succ ws os n k)
        cases hm : memB (k : Int) (gchain ws os n (k : Int))
        · rw [hm] at hI
          have HI := Lib.hid hI
          have HA2 : Hid (gacy ws os n (k + 1) = true) := Lib.hid (by rw [HS.out, HA.out, hm]; rfl)
          clear hI hm hlt2
          go_wp2_with (first
            | ((with_reducible go_at_call 41); refine (HC.out k _ hb).mono ?_; rintro e w1 ⟨A', c', rfl, r1, b1⟩)
            | ((with_reducible go_at_call 40); (with_reducible refine (HI.out _ _ _ r1.rd).mono ?_); rintro e w' ⟨rfl, rfl⟩))
          go_roundw
          case rel => exact ⟨k + 1, by omega, by go_num, HA2, Ext.trans hb b1⟩
          case measure => simp [intOf]; omega
        · have HF := Lib.hid (gacy_false hlt hm)
          rw [hm] at hI
          have HI := Lib.hid hI
          clear hI hm hlt2
          go_wp2_with (first
            | ((with_reducible go_at_call 41); refine (HC.out k _ hb).mono ?_; rintro e w1 ⟨A', c', rfl, r1, b1⟩)
            | ((with_reducible go_at_call 40); (with_reducible refine (HI.out _ _ _ r1.rd).mono ?_); rintro e w' ⟨rfl, rfl⟩))
          go_ret
          exact ⟨by rw [HV.out, HF.out]; rfl, Ext.trans hb b1⟩
      · have hge : ¬ (k : Int) < min n (na : Int) := fun h => hlt (by have := (HQ.out k).2 h; omega)
        have hkN : k = N := by omega
        have HF : Hid (gacyclic ws os n = true) := Lib.hid (by rw [HV.out, ← hkN, HA.out])
        clear hkN
        go_wp2
        go_ret
        exact ⟨by rw [HF.out]; rfl, hb⟩


/-- What each of six waits for. -/
def waitsL (s : LS) (k : Nat) : List Int := (List.range k).map fun j : Nat => s.wl (j : Int)
theorem waitsL_len (s : LS) (k : Nat) : (waitsL s k).length = k := by unfold waitsL; simp
theorem waitsL_succ (s : LS) (k : Nat) : waitsL s (k + 1) = waitsL s k ++ [s.wl (k : Int)] := by unfold waitsL; rw [List.range_succ, List.map_append]; rfl
theorem ownsL_len (s : LS) : (ownsL s).length = s.ms.length := by unfold ownsL; simp
/-- Only these hold. -/
def Rg (s : LS) : Prop := ∀ t m, m ∈ s.mu t → t < 6
theorem LI.own_is {s : LS} (h : LI s) {t m : Int} (hm : m ∈ s.mu t) : ownO s m = t := by
  rcases ownO_ways s m with ⟨_, h1⟩ | h1
  · exact absurd hm (h1 t)
  · exact h.uq _ _ _ h1 hm
theorem Rg.zero (ms : List (Int × Int)) : Rg (ls0 ms) := fun t m h => by cases h
theorem Rg.lock {s : LS} (h : Rg s) {t m : Int} (ht : t < 6) : Rg (lockS s t m) := fun u x hx => by
  unfold lockS at hx
  split at hx
  · exact h u x hx
  · split at hx
    · exact h u x hx
    · rw [mu_setH] at hx
      split at hx
      · omega
      · exact h u x hx
theorem Rg.unlock {s : LS} (h : Rg s) {t m : Int} (ht : t < 6) : Rg (unlS s t m) := fun u x hx => by
  unfold unlS at hx
  split at hx
  · rw [mu_setW, mu_setH] at hx
    split at hx
    · omega
    · exact h u x hx
  · exact h u x hx
theorem Rg.leave {s : LS} (h : Rg s) {t : Int} : Rg (leaveS s t) := fun u x hx => by
  unfold leaveS at hx
  rw [mu_setW, mu_delH] at hx
  split at hx
  · cases hx
  · exact h u x hx
theorem leave_ms (s : LS) (t : Int) : (leaveS s t).ms = s.ms := rfl

theorem wl_some {s : LS} {t : Int} (h : 0 ≤ s.wl t) : s.W t = some (s.wl t) := by
  unfold LS.wl at h ⊢
  cases hw : s.W t with
  | none => rw [hw] at h; simp at h
  | some m => rfl
/-- For whom one waits holds what it waits for. -/
theorem gon_step {s : LS} (h : LI s) (i : Int) (h0 : 0 ≤ gon (waitsL s 6) (ownsL s) 6 i) : ∃ m, s.W i = some m ∧ m ∈ s.mu (gon (waitsL s 6) (ownsL s) 6 i) := by
  rcases onWay (waitsL s 6) (ownsL s) 6 i with ⟨_, v⟩ | ⟨_, _, _, _, _, v⟩ | ⟨_, _, _, _, _, _, _, _, v⟩ | ⟨k, m, rfl, hn, hk, em, hm, g0, g1, v⟩
  · omega
  · omega
  · omega
  · have e1 : (waitsL s 6)[k] = s.wl (k : Int) := by simp only [waitsL, List.getElem_map, List.getElem_range]
    have e2 : (ownsL s)[m] = ownO s (m : Int) := by simp only [ownsL, List.getElem_map, List.getElem_range]
    have hw := wl_some (s := s) (t := (k : Int)) (by omega)
    rw [e1] at em
    rw [v, e2]
    rw [e2] at g0
    exact ⟨_, hw, by rw [em]; exact h.own_in _ g0⟩
theorem lk_chain {s : LS} (h : LI s) (i : Int) : i ∉ gchain (waitsL s 6) (ownsL s) 6 i := by
  intro hi
  obtain ⟨k', ⟨h1, _⟩, _⟩ := gchain_ind (ws := waitsL s 6) (os := ownsL s) (n := 6) (i := i) (fun c k => (∀ x ∈ c, ∃ m0 m, s.W i = some m0 ∧ m ∈ s.mu x ∧ rnk s m0 ≤ rnk s m) ∧ (0 ≤ k → ∃ m0 m, s.W i = some m0 ∧ m ∈ s.mu k ∧ rnk s m0 ≤ rnk s m))
    ⟨by simp, fun q => by
      obtain ⟨m, m1, m2⟩ := gon_step h i q
      exact ⟨m, m, m1, m2, Int.le_refl _⟩⟩
    fun c k k0 k1 _ hq => by
      obtain ⟨q1, q2⟩ := hq
      have hk := q2 k0
      refine ⟨fun x hx => ?_, fun q => ?_⟩
      · rcases List.mem_append.1 hx with hx | hx
        · exact q1 x hx
        · rw [List.mem_singleton.1 hx]; exact hk
      · obtain ⟨m0, m, a1, a2, a3⟩ := hk
        obtain ⟨m', b1, b2⟩ := gon_step h k q
        have := h.wr k m' b1 m a2
        exact ⟨m0, m', a1, b2, by omega⟩
  obtain ⟨m0, m, a1, a2, a3⟩ := h1 i hi
  have := h.wr i m0 a1 m a2
  omega
theorem lk_acyclic {s : LS} (h : LI s) : gacyclic (waitsL s 6) (ownsL s) 6 = true := by
  unfold gacyclic gacy
  rw [List.all_eq_true]
  intro k _
  have := lk_chain h (k : Int)
  unfold memB
  simp [this]

/-- How many mutexes the first k hold; how many of the first k mutexes are held. -/
def lkH (s : LS) (k : Nat) : List Int := (List.range k).flatMap fun j : Nat => s.mu (j : Int)
noncomputable def lkO (s : LS) (k : Nat) : List Nat := (List.range k).filter fun m : Nat => decide (0 ≤ ownO s (m : Int))
theorem lkH_succ (s : LS) (k : Nat) : (lkH s (k + 1)).length = (lkH s k).length + (s.hl (k : Int)).length := by
  unfold lkH
  rw [List.range_succ, List.flatMap_append, List.length_append]
  simp [LS.mu]
theorem lkO_succ (s : LS) (k : Nat) : (lkO s (k + 1)).length = (lkO s k).length + if 0 ≤ ownO s (k : Int) then 1 else 0 := by
  unfold lkO
  rw [List.range_succ, List.filter_append, List.length_append]
  by_cases h : 0 ≤ ownO s (k : Int)
  · simp [h]
  · simp [h]
theorem lkO_le (s : LS) (k : Nat) : (lkO s k).length ≤ k := by
  have := List.length_filter_le (fun m : Nat => decide (0 ≤ ownO s (m : Int))) (List.range k)
  rw [List.length_range] at this
  exact this
theorem mem_lkH {s : LS} {k : Nat} {m : Int} : m ∈ lkH s k ↔ ∃ j : Nat, j < k ∧ m ∈ s.mu (j : Int) := by
  unfold lkH
  rw [List.mem_flatMap]
  simp only [List.mem_range]
theorem lkH_nodup {s : LS} (h : LI s) (k : Nat) : (lkH s k).Nodup := by
  unfold lkH List.Nodup
  rw [List.pairwise_flatMap]
  refine ⟨fun j _ => (h.rk j).imp (fun q e => by rw [e] at q; omega), ?_⟩
  refine (List.nodup_range (n := k)).imp ?_
  intro a b hab x hx y hy e
  subst e
  have := h.uq _ _ _ hx hy
  omega
theorem lkH_le {s : LS} (h : LI s) (k : Nat) : (lkH s k).length ≤ s.ms.length := nodup_le _ _ (lkH_nodup h k) fun m hm => by
  obtain ⟨j, _, hj⟩ := mem_lkH.1 hm
  exact rnk_pos (h.ex _ _ hj)
theorem lk_count {s : LS} (h : LI s) (r : Rg s) : (lkH s 6).length = (lkO s s.ms.length).length := by
  have hO : ((lkO s s.ms.length).map fun m : Nat => (m : Int)).Nodup := by
    refine List.Pairwise.map (R := fun a b : Nat => a ≠ b) _ (fun a b q => by omega) ?_
    exact (List.nodup_range (n := s.ms.length)).sublist List.filter_sublist
  have hm : ∀ m : Int, m ∈ lkH s 6 ↔ m ∈ ((lkO s s.ms.length).map fun m : Nat => (m : Int)) := fun m => by
    rw [mem_lkH, List.mem_map]
    unfold lkO
    simp only [List.mem_filter, List.mem_range, decide_eq_true_eq]
    constructor
    · rintro ⟨j, hj, hm⟩
      obtain ⟨p1, p2⟩ := rnk_pos (h.ex _ _ hm)
      have := h.own_is hm
      exact ⟨m.toNat, ⟨by omega, by rw [show ((m.toNat : Nat) : Int) = m by omega, this]; omega⟩, by omega⟩
    · rintro ⟨k, ⟨h1, h2⟩, rfl⟩
      have hin := h.own_in _ h2
      have := r _ _ hin
      exact ⟨(ownO s (k : Int)).toNat, by omega, by rw [show (((ownO s (k : Int)).toNat : Nat) : Int) = ownO s (k : Int) by omega]; exact hin⟩
  have := ((List.perm_ext_iff_of_nodup (lkH_nodup h 6) hO).2 hm).length_eq
  rw [List.length_map] at this
  exact this

/-! What the statement asks of each thread. -/
theorem LI.held_own {s : LS} (h : LI s) {t : Int} {n : Nat} (hn : n < (s.hl t).length) : ownO s (s.hl t)[n].1 = t :=
  h.own_is (by unfold LS.mu; exact List.mem_map.2 ⟨_, List.getElem_mem hn, rfl⟩)
theorem LI.held_rank {s : LS} (h : LI s) {t : Int} {n : Nat} (hn : n + 1 < (s.hl t).length) : rnk s ((s.hl t)[n]'(by omega)).1 < rnk s (s.hl t)[n + 1].1 := by
  have hp := h.rk t
  rw [List.pairwise_iff_getElem] at hp
  have hl : (s.mu t).length = (s.hl t).length := by unfold LS.mu; rw [List.length_map]
  have := hp n (n + 1) (by omega) (by omega) (by omega)
  unfold LS.mu at this
  simpa using this
theorem LI.held_wait {s : LS} (h : LI s) {t : Int} {n : Nat} (hn : n < (s.hl t).length) (hw : 0 ≤ s.wl t) : rnk s (s.hl t)[n].1 < rnk s (s.wl t) :=
  h.wr t _ (wl_some hw) _ (by unfold LS.mu; exact List.mem_map.2 ⟨_, List.getElem_mem hn, rfl⟩)
theorem LI.wait_own {s : LS} (h : LI s) {t : Int} (hw : 0 ≤ s.wl t) : 0 ≤ ownO s (s.wl t) ∧ ownO s (s.wl t) ≠ t := by
  obtain ⟨u, u1, u2⟩ := h.wo t _ (wl_some hw)
  rw [h.own_is u2]
  exact ⟨h.nn _ _ u2, u1⟩

end Go.Proofs.Ytfdpipjkckbgdaa
