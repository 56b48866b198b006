/-
  WALKS of package graph and the reference of chapter 11: On; slices.Contains.
-/
import Derived.Test.YtfdpipjkckbgdaaDep
import Derived.Test.YtfdpipjkckbgdaaApp
import Derived.Test.YtfdpipjkckbgdaaArr
import Derived.Test.YtfdpipjkckbgdaaLend
namespace Go.Proofs.Ytfdpipjkckbgdaa
open Go.RowKit
attribute [local go_sem] depUpon Sp.ok

/-- For whom a thread waits. -/
def gon (ws os : List Int) (n i : Int) : Int :=
  if i < 0 ∨ n ≤ i ∨ (ws.length : Int) ≤ i then -1 else
  if ws.getD i.toNat 0 < 0 ∨ (os.length : Int) ≤ ws.getD i.toNat 0 then -1 else
  if os.getD (ws.getD i.toNat 0).toNat 0 < 0 ∨ n ≤ os.getD (ws.getD i.toNat 0).toNat 0 then -1 else os.getD (ws.getD i.toNat 0).toNat 0
theorem gon_rng (ws os : List Int) (n i : Int) : gon ws os n i = -1 ∨ (0 ≤ gon ws os n i ∧ gon ws os n i < n) := by
  unfold gon
  split
  · exact .inl rfl
  · split
    · exact .inl rfl
    · split
      · exact .inl rfl
      · right; omega
/-- The ways that On goes. -/
inductive OnWay (ws os : List Int) (n i : Int) : Prop
  | no (h : i < 0 ∨ (0 ≤ i ∧ n ≤ i) ∨ (0 ≤ i ∧ i < n ∧ (ws.length : Int) ≤ i)) (v : gon ws os n i = -1)
  | mut (k : Nat) (e : i = (k : Int)) (hn : i < n) (hk : k < ws.length) (h : ws[k] < 0 ∨ (0 ≤ ws[k] ∧ (os.length : Int) ≤ ws[k])) (v : gon ws os n i = -1)
  | own (k m : Nat) (e : i = (k : Int)) (hn : i < n) (hk : k < ws.length) (em : ws[k] = (m : Int)) (hm : m < os.length) (h : os[m] < 0 ∨ (0 ≤ os[m] ∧ n ≤ os[m])) (v : gon ws os n i = -1)
  | yes (k m : Nat) (e : i = (k : Int)) (hn : i < n) (hk : k < ws.length) (em : ws[k] = (m : Int)) (hm : m < os.length) (h0 : 0 ≤ os[m]) (h1 : os[m] < n) (v : gon ws os n i = os[m])
theorem onWay (ws os : List Int) (n i : Int) : OnWay ws os n i := by
  by_cases h1 : i < 0 ∨ n ≤ i ∨ (ws.length : Int) ≤ i
  · exact .no (by omega) (by unfold gon; rw [if_pos h1])
  · obtain ⟨k, rfl⟩ : ∃ k : Nat, i = (k : Int) := ⟨i.toNat, by omega⟩
    have hk : k < ws.length := by omega
    have e1 : ws.getD ((k : Int)).toNat 0 = ws[k] := by simp [hk]
    by_cases h2 : ws[k] < 0 ∨ (os.length : Int) ≤ ws[k]
    · exact .mut k rfl (by omega) hk (by omega) (by unfold gon; rw [if_neg h1, e1, if_pos h2])
    · obtain ⟨m, em⟩ : ∃ m : Nat, ws[k] = (m : Int) := ⟨ws[k].toNat, by omega⟩
      have hm : m < os.length := by omega
      have e2 : os.getD (ws[k]).toNat 0 = os[m] := by rw [em]; simp [hm]
      by_cases h3 : os[m] < 0 ∨ n ≤ os[m]
      · exact .own k m rfl (by omega) hk em hm (by omega) (by unfold gon; rw [if_neg h1, e1, if_neg h2, e2, if_pos h3])
      · exact .yes k m rfl (by omega) hk em hm (by omega) (by omega) (by unfold gon; rw [if_neg h1, e1, if_neg h2, e2, if_neg h3])

/-- The two lists that say who waits for whom. -/
structure WO (w : World) (A : Option Addr) (na : Nat) (ws : List Int) (B : Option Addr) (nb : Nat) (os : List Int) : Prop where
  ra : Rd w A (ints ws)
  la : ws.length = na
  rb : Rd w B (ints os)
  lb : os.length = nb
theorem WO.keep {w w' : World} {A B : Option Addr} {na nb : Nat} {ws os : List Int} (h : WO w A na ws B nb os) (hb : Ext w w') : WO w' A na ws B nb os := ⟨h.ra.keep hb, h.la, h.rb.keep hb, h.lb⟩

set_option maxRecDepth 100000 in
set_option maxHeartbeats 4000000 in
theorem g_on (A : Option Addr) (na ca : Nat) (ws : List Int) (B : Option Addr) (nb cb : Nat) (os : List Int) (n i : Int) (w : World) (h : WO w A na ws B nb os) :
    Calls Try.prog 56 #[.slice A na ca, .slice B nb cb, .int .i64 n, .int .i64 i] w fun e w' => e = .returned (.int .i64 (gon ws os n i)) ∧ w = w' := by
  obtain ⟨ra, rfl, rb, rfl⟩ := h
  rcases onWay ws os n i with ⟨h, v⟩ | ⟨k, rfl, hn, hk, h, v⟩ | ⟨k, m, rfl, hn, hk, em, hm, h, v⟩ | ⟨k, m, rfl, hn, hk, em, hm, h0, h1, v⟩
  · rw [v]
    clear v ra rb
    rcases h with h | ⟨h0, h1⟩ | ⟨h0, h1, h2⟩
    all_goals
      go_enter Try.func56, Try.ntmps56
      go_wp2
      go_ret
      exact ⟨rfl, rfl⟩
  · rw [v]
    obtain ⟨b, off, rfl, hc⟩ := ra.int hk
    have hk' : (k : Int) < (ws.length : Int) := by omega
    clear v ra rb
    generalize ws[k] = x at *
    rcases h with h | ⟨h, h2⟩
    all_goals
      go_enter Try.func56, Try.ntmps56
      go_wp2
      go_ret
      exact ⟨rfl, rfl⟩
  · rw [v]
    obtain ⟨b, off, rfl, hc⟩ := ra.int hk
    obtain ⟨b2, off2, rfl, hd⟩ := rb.int hm
    rw [em] at hc
    have hk' : (k : Int) < (ws.length : Int) := by omega
    have hm' : (m : Int) < (os.length : Int) := by omega
    clear v ra rb em
    generalize os[m] = x at *
    rcases h with h | ⟨h, h2⟩
    all_goals
      go_enter Try.func56, Try.ntmps56
      go_wp2
      go_ret
      exact ⟨rfl, rfl⟩
  · rw [v]
    obtain ⟨b, off, rfl, hc⟩ := ra.int hk
    obtain ⟨b2, off2, rfl, hd⟩ := rb.int hm
    rw [em] at hc
    have hk' : (k : Int) < (ws.length : Int) := by omega
    have hm' : (m : Int) < (os.length : Int) := by omega
    clear v ra rb em
    generalize os[m] = x at *
    go_enter Try.func56, Try.ntmps56
    go_wp2
    go_ret
    exact ⟨rfl, rfl⟩

/-- An index, or -1: is there one? -/
def GIdxPost (b : Bool) (w : World) (e : Ending) (w' : World) : Prop := ∃ i : Int, e = .returned (.int .i64 i) ∧ -1 ≤ i ∧ i ≤ 65536 ∧ decide (0 ≤ i) = b ∧ w = w'
def memB (x : Int) (l : List Int) : Bool := decide (x ∈ l)
theorem memB_snoc (x : Int) (l : List Int) (y : Int) : memB x (l ++ [y]) = (memB x l || decide (x = y)) := by unfold memB; simp

set_option maxRecDepth 100000 in
set_option maxHeartbeats 1000000 in
theorem s_index (x : Int) (A : Option Addr) (n c : Nat) (hs : List Int) (w : World) (hn : n ≤ 65536) (hr : Rd w A (ints hs)) (hl : hs.length = n) :
    Calls Try.prog 49 #[.slice A n c, .int .i64 x] w (GIdxPost (memB x hs) w) := by
  subst hl
  go_enter Try.func49, Try.ntmps49
  go_wp2
  go_loop [5, 8] (fun _ i => ∃ k : Nat, k ≤ hs.length ∧ i = .int .i64 k ∧ Hid (memB x (hs.take k) = false)) (fun _ i => hs.length - (intOf i).toNat)
  case atStart => exact ⟨0, Nat.zero_le _, rfl, Lib.hid rfl⟩
  case round =>
    obtain ⟨k, hk, rfl, HA⟩ := hrel
    by_cases hlt : k < hs.length
    · obtain ⟨b, off, rfl, h1⟩ := hr.int hlt
      have HTk := Lib.hid (take_succ' hs k hlt)
      have HM := Lib.hid (List.getElem_mem hlt : hs[k] ∈ hs)
      generalize hs[k] = y at *
      by_cases he : x = y
      · subst he
        have HE : Hid (true = memB x hs) := Lib.hid (by unfold memB; simp [HM.out])
        go_wp2
        go_ret
        exact ⟨k, rfl, by omega, by omega, by rw [← HE.out]; simp, rfl⟩
      · have hne : (x == y) = false := by simp [he]
        have HE : Hid (memB x (hs.take (k + 1)) = false) := Lib.hid (by rw [HTk.out, memB_snoc, HA.out]; simp [he])
        go_wp2
        go_round
        case rel => exact ⟨k + 1, by omega, by go_num, HE⟩
        case measure => simp [intOf]; omega
    · go_wp2
      go_ret
      exact ⟨-1, rfl, by omega, by omega, by have := HA.out; rw [List.take_of_length_le (by omega)] at this; rw [this]; rfl, rfl⟩

set_option maxRecDepth 100000 in
set_option maxHeartbeats 1000000 in
theorem s_contains (x : Int) (A : Option Addr) (n c : Nat) (hs : List Int) (w : World) (hn : n ≤ 65536) (hr : Rd w A (ints hs)) (hl : hs.length = n) :
    Calls Try.prog 40 #[.slice A n c, .int .i64 x] w fun e w' => e = .returned (.bool (memB x hs)) ∧ w = w' := by
  have C1 := Lib.hid (s_index x A n c hs w hn hr hl)
  generalize memB x hs = q at *
  clear hr hl
  go_enter Try.func40, Try.ntmps40
  go_wp2_with fail
  refine C1.out.mono ?_
  rintro e w1 ⟨i, rfl, i0, i1, hq, rfl⟩
  have HQ := Lib.hid hq
  clear hq
  go_wp2
  go_ret
  exact ⟨by rw [← HQ.out]; rfl, rfl⟩

end Go.Proofs.Ytfdpipjkckbgdaa
