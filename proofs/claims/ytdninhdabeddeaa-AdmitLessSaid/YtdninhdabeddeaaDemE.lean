/-
  WALK of the statement DemandLess, chapter 17.
-/
import Derived.Test.YtdninhdabeddeaaDemC
namespace Go.Proofs.Ytdninhdabeddeaa
open Go.RowKit
attribute [local go_sem] depUpon Sp.ok

theorem fits_less {b b' : Int} {ps ps' : List (Int × Int)} {es es' : List (Int × Int × Int)} {most : Int} (h1 : ∀ s, rneed 0 b' (dall ps' es') s ≤ rneed 0 b (dall ps es) s)
    (h2 : ∀ s, dbad b' ps' es' s = true → dbad b ps es s = true) (hok : (dfits b ps es most).2 = true) : (dfits b' ps' es' most).2 = true := by
  cases hr : rresp 0 b (dall ps es) most with
  | none => rw [dfits_no hr] at hok; cases hok
  | some i =>
    obtain ⟨k1, k2, _⟩ := leastOf_spec hr
    cases hr' : rresp 0 b' (dall ps' es') most with
    | none =>
      have := leastOf_nil hr' i k1
      have := h1 ((i : Int) + 1)
      omega
    | some i' =>
      obtain ⟨k4, k5, k6⟩ := leastOf_spec hr'
      have hii : i' ≤ i := by
        rcases Nat.lt_or_ge i i' with h | h
        · have := k6 i h
          have := h1 ((i : Int) + 1)
          omega
        · exact h
      have hno : ∀ t : Int, 1 ≤ t → t ≤ (i : Int) + 1 → dbad b ps es t = false := by
        intro t ht1 ht2
        unfold dfits at hok
        rw [hr] at hok
        simp only at hok
        cases hf : (List.range (i + 1)).find? fun (j : Nat) => dbad b ps es ((j : Int) + 1) with
        | some j => simp only [hf] at hok; cases hok
        | none =>
          rw [List.find?_range_eq_none] at hf
          have := hf (t - 1).toNat (by omega)
          rw [show (((t - 1).toNat : Nat) : Int) + 1 = t by omega] at this
          simpa using this
      rw [dfits_ok hr' fun t ht1 ht2 => ?_]
      cases hb : dbad b' ps' es' t with
      | false => rfl
      | true => have := hno t ht1 (by omega); rw [h2 t hb] at this; cases this
theorem bad_less {b b' : Int} {ps ps' : List (Int × Int)} {es es' : List (Int × Int × Int)} {s : Int} (hb : b' ≤ b) (hp : rwork s ps' ≤ rwork s ps) (he : eneed s es' ≤ eneed s es) (h : dbad b' ps' es' s = true) : dbad b ps es s = true := by
  unfold dbad at h ⊢
  simp only [Bool.and_eq_true, decide_eq_true_eq] at h ⊢
  have := nsum3_mono hb hp he
  omega
theorem need_less {b b' : Int} {ps ps' : List (Int × Int)} {s : Int} (hb : b' ≤ b) (hp : rwork s ps' ≤ rwork s ps) : rneed 0 b' ps' s ≤ rneed 0 b ps s := nsum3_mono (Int.le_refl _) hb hp
theorem rwork_less (s : Int) (ps qs : List (Int × Int)) : rwork s ps ≤ rwork s (ps ++ qs) := by
  have h1 := rwork_lo s ps
  have h2 := rwork_hi s ps
  have h3 := rwork_lo s qs
  rw [rwork_app]; unfold clip; omega
theorem rwork_app_mono {s : Int} {ps ps' : List (Int × Int)} (qs : List (Int × Int)) (h : rwork s ps' ≤ rwork s ps) : rwork s (ps' ++ qs) ≤ rwork s (ps ++ qs) := by
  rw [rwork_app, rwork_app]; exact clip_mono (by omega)
theorem eneed_less (s : Int) (es : List (Int × Int × Int)) (e : Int × Int × Int) : eneed s es ≤ eneed s (es ++ [e]) := by
  have h1 := eneed_lo s es
  have h2 := eneed_hi s es
  rw [eneed_snoc]
  generalize ework s e = x
  simp [nsum]; unfold clip; omega
theorem take_last {α : Type} (l : List α) (n : Nat) (h : l.length = n + 1) : ∃ x, l = l.take n ++ [x] := by
  have hn : n < l.length := by omega
  refine ⟨l[n], ?_⟩
  have := take_succ' l n hn
  rw [← this, List.take_of_length_le (by omega)]

theorem less_parts {b : Int} {ps : List (Int × Int)} {es : List (Int × Int × Int)} {most : Int} {n : Nat} (hl : ps.length = n + 1) (hok : (dfits b ps es most).2 = true) : (dfits b (ps.take n) es most).2 = true := by
  obtain ⟨x, hx⟩ := take_last ps n hl
  have hw : ∀ s, rwork s (ps.take n) ≤ rwork s ps := fun s => by
    have := rwork_less s (ps.take n) [x]
    rwa [← hx] at this
  exact fits_less (fun s => need_less (Int.le_refl _) (rwork_app_mono _ (hw s))) (fun s h => bad_less (s := s) (Int.le_refl _) (hw s) (Int.le_refl _) h) hok
theorem less_jobs {b : Int} {ps : List (Int × Int)} {es : List (Int × Int × Int)} {most : Int} {n : Nat} (hl : es.length = n + 1) (hok : (dfits b ps es most).2 = true) : (dfits b ps (es.take n) most).2 = true := by
  obtain ⟨x, hx⟩ := take_last es n hl
  have hw : ∀ s, eneed s (es.take n) ≤ eneed s es := fun s => by
    have := eneed_less s (es.take n) x
    rwa [← hx] at this
  have hd : dall ps es = dall ps (es.take n) ++ [epc x] := by
    conv => lhs; rw [hx]
    simp [dall]
  exact fits_less (fun s => need_less (Int.le_refl _) (by rw [hd]; exact rwork_less _ _ _)) (fun s h => bad_less (Int.le_refl _) (Int.le_refl _) (hw s) h) hok
theorem less_block {b b' : Int} {ps : List (Int × Int)} {es : List (Int × Int × Int)} {most : Int} (hb : b' ≤ b) (hok : (dfits b ps es most).2 = true) : (dfits b' ps es most).2 = true :=
  fits_less (fun _ => need_less hb (Int.le_refl _)) (fun _ h => bad_less hb (Int.le_refl _) (Int.le_refl _) h) hok

theorem fits_val {b : Int} {A : Option Addr} {n c : Nat} {ps : List (Int × Int)} {B : Option Addr} {m d : Nat} {es : List (Int × Int × Int)} {most : Int} {w : World} (hn : n ≤ 65536) (hr : Rd w A (pairs ps)) (hl : ps.length = n) (hm : m ≤ 65536) (hs : Rd w B (trips es)) (hk : es.length = m) (r : Bool) (hv : (dfits b ps es most).2 = r) :
    Calls Try.prog 45 #[.int .i64 b, .slice A n c, .slice B m d, .int .i64 most] w fun e w' => (∃ x, e = .returned (.tuple #[.int .i64 x, .bool r])) ∧ Below w.heap.size w w' := by
  refine (d_fits b A n c ps B m d es most w hn hr hl hm hs hk).mono ?_
  rintro e w' ⟨rfl, hb⟩
  exact ⟨⟨_, by rw [hv]⟩, hb⟩
theorem Rd.takePairs {w : World} {A : Option Addr} {ps : List (Int × Int)} (h : Rd w A (pairs ps)) (n : Nat) : Rd w A (pairs (ps.take n)) := by
  have : ps = ps.take n ++ ps.drop n := (List.take_append_drop n ps).symm
  rw [this, ← pairs_app] at h
  exact h.pre
theorem Rd.takeTrips {w : World} {A : Option Addr} {ps : List (Int × Int × Int)} (h : Rd w A (trips ps)) (n : Nat) : Rd w A (trips (ps.take n)) := by
  have : ps = ps.take n ++ ps.drop n := (List.take_append_drop n ps).symm
  rw [this, ← trips_app] at h
  exact h.pre

end Go.Proofs.Ytdninhdabeddeaa
