/-
  WALKS of package admit: GreatOps, GreatConfig, within.
-/
import Derived.Test.YtdninhdabeddeaaAdmA
import Derived.Test.YtdninhdabeddeaaLend
namespace Go.Proofs.Ytdninhdabeddeaa
open Go.RowKit
attribute [local go_sem] depUpon Sp.ok

theorem flat_at {w : World} {A : Option Addr} {α : Type} {f : α → List Value} {L : List α} {k : Nat} (h : Rd w A (flat (L.map f))) (hk : ∀ x ∈ L, (f x).length = k) (hpos : 0 < k) {i : Nat} (hi : i < L.length) :
    ∃ b off, A = some ⟨b, off, none⟩ ∧ ∀ j v, (f L[i])[j]? = some v → w.cell? ⟨b, off + i * k + j, none⟩ = some v := by
  obtain ⟨b, off, rfl, he⟩ := h.elem (k := k) (i := i) (fun x hx => by simp only [List.mem_map] at hx; obtain ⟨y, hy, rfl⟩ := hx; exact hk y hy) hpos (by simpa using hi)
  exact ⟨b, off, rfl, fun j v hv => he j v (by simpa using hv)⟩
/-- How long a step's text is; is a program more than is gone through? -/
def slen (x : List Value) (j : Nat) : Nat := match x[j]? with
  | some (.string s) => s.size
  | _ => 0
def gops (L : List (List Value)) : Bool := decide (60 < L.length) || L.any fun x => decide (600 < slen x 7) || decide (600 < slen x 8)
theorem gops_big {L : List (List Value)} (h : 60 < L.length) : gops L = true := by simp [gops, h]
theorem gops_one {L : List (List Value)} {k : Nat} (hk : k < L.length) (h : 600 < slen L[k] 7 ∨ 600 < slen L[k] 8) : gops L = true := by
  unfold gops
  rw [Bool.or_eq_true, List.any_eq_true]
  exact .inr ⟨L[k], List.getElem_mem hk, by simpa using h⟩
theorem gops_none {L : List (List Value)} (h : ¬ 60 < L.length) (hk : ∀ k (hk : k < L.length), ¬ (600 < slen L[k] 7 ∨ 600 < slen L[k] 8)) : gops L = false := by
  unfold gops
  rw [Bool.or_eq_false_iff, List.any_eq_false]
  refine ⟨by simpa using h, fun x hx => ?_⟩
  obtain ⟨k, hk', rfl⟩ := List.getElem_of_mem hx
  have := hk k hk'
  simpa using this
theorem OpsArg.at {w : World} {A : Option Addr} {n : Nat} {L : List (List Value)} (h : OpsArg w A n L) {i : Nat} (hi : i < L.length) : ∃ b off s u, A = some ⟨b, off, none⟩ ∧ w.cell? ⟨b, off + i * 9 + 7, none⟩ = some (.string s) ∧ w.cell? ⟨b, off + i * 9 + 8, none⟩ = some (.string u) ∧ slen L[i] 7 = s.size ∧ slen L[i] 8 = u.size := by
  obtain ⟨b, off, rfl, he⟩ := h.rd.elem (k := 9) (i := i) (fun x hx => (h.ok x hx).1) (by omega) hi
  obtain ⟨_, s, u, hs, hu⟩ := h.ok _ (List.getElem_mem hi)
  exact ⟨b, off, s, u, rfl, he 7 _ hs, he 8 _ hu, by simp [slen, hs], by simp [slen, hu]⟩

set_option maxRecDepth 100000 in
set_option maxHeartbeats 1000000 in
theorem l_ops (A : Option Addr) (n c : Nat) (L : List (List Value)) (w : World) (h : OpsArg w A n L) :
    Calls Try.prog 24 #[.slice A n c] w fun e w' => e = .returned (.bool (gops L)) ∧ w = w' := by
  have H := Lib.hid h
  have HL := Lib.hid h.len
  have hmax := h.max
  clear h
  have HB := Lib.hid (@gops_big L)
  have H1 := Lib.hid (fun k => @gops_one L k)
  have H0 := Lib.hid (@gops_none L)
  generalize gops L = q at *
  by_cases hbig : (60 : Int) < (n : Int)
  · have hq := HB.out (by rw [HL.out]; omega)
    subst hq
    go_enter Try.func24, Try.ntmps24
    go_wp2
    go_ret
    exact ⟨rfl, rfl⟩
  go_enter Try.func24, Try.ntmps24
  go_wp2
  go_loop [3] (fun i => ∃ k : Nat, k ≤ n ∧ i = .int .i64 k ∧ Hid (∀ j (hj : j < L.length), j < k → ¬ (600 < slen L[j] 7 ∨ 600 < slen L[j] 8))) (fun i => n - (intOf i).toNat)
  case atStart => exact ⟨0, by omega, rfl, Lib.hid (fun j hj h => by omega)⟩
  case round =>
    obtain ⟨k, hk, rfl, HN⟩ := hrel
    by_cases hlt : k < n
    · have hkl : k < L.length := by rw [HL.out]; exact hlt
      obtain ⟨b, off, s, u, rfl, c7, c8, l7, l8⟩ := H.out.at hkl
      have i0' : (0 : Int) ≤ (k : Int) := by omega
      have i1' : (k : Int) < (n : Int) := by omega
      by_cases hs : (600 : Int) < (s.size : Int)
      · have hq := Lib.hid (H1.out k hkl (.inl (by omega)))
        go_wp2
        go_ret
        exact ⟨by rw [hq.out]; rfl, rfl⟩
      · by_cases hu : (600 : Int) < (u.size : Int)
        · have hq := Lib.hid (H1.out k hkl (.inr (by omega)))
          go_wp2
          go_ret
          exact ⟨by rw [hq.out]; rfl, rfl⟩
        · have HN2 : Hid (∀ j (hj : j < L.length), j < k + 1 → ¬ (600 < slen L[j] 7 ∨ 600 < slen L[j] 8)) := Lib.hid (fun j hj hjk => by
            by_cases e : j = k
            · subst e; omega
            · exact HN.out j hj (by omega))
          clear l7 l8
          go_wp2
          go_round
          case rel => exact ⟨k + 1, by omega, by go_num, HN2⟩
          case measure => simp [intOf]; omega
    · obtain rfl : k = n := by omega
      have hq := Lib.hid (H0.out (by rw [HL.out]; omega) (fun j hj => HN.out j hj (by rw [← HL.out]; exact hj)))
      go_wp2
      go_ret
      exact ⟨by rw [hq.out]; rfl, rfl⟩

set_option maxRecDepth 100000 in
set_option maxHeartbeats 400000 in
theorem a_within (x lo hi : Int) (w : World) :
    Calls Try.prog 25 #[.int .i64 x, .int .i64 lo, .int .i64 hi] w fun e w' => e = .returned (.bool (decide (lo ≤ x ∧ x ≤ hi))) ∧ w = w' := by
  by_cases h1 : lo ≤ x
  · by_cases h2 : x ≤ hi
    · have hv : decide (lo ≤ x ∧ x ≤ hi) = true := by simp [h1, h2]
      rw [hv]
      clear hv
      go_enter Try.func25, Try.ntmps25
      go_wp2
      go_ret
      exact ⟨rfl, rfl⟩
    · have hv : decide (lo ≤ x ∧ x ≤ hi) = false := by simp [h2]
      rw [hv]
      clear hv
      go_enter Try.func25, Try.ntmps25
      go_wp2
      go_ret
      exact ⟨rfl, rfl⟩
  · have hv : decide (lo ≤ x ∧ x ≤ hi) = false := by simp [h1]
    rw [hv]
    clear hv
    go_enter Try.func25, Try.ntmps25
    go_wp2
    go_ret
    exact ⟨rfl, rfl⟩

end Go.Proofs.Ytdninhdabeddeaa
