/-
  WALKS of package graph and the reference of chapter 11: Chain.
-/
import Derived.Test.YtlmpmlhmndegdaaGphA
namespace Go.Proofs.Ytlmpmlhmndegdaa
open Go.RowKit
attribute [local go_sem] depUpon Sp.ok

theorem nodup_le : ∀ (N : Nat) (l : List Int), l.Nodup → (∀ x ∈ l, 0 ≤ x ∧ x < (N : Int)) → l.length ≤ N
  | 0, l, _, h => by
    cases l with
    | nil => simp
    | cons a l => have := h a (by simp); omega
  | N + 1, l, hd, h => by
    by_cases hm : (N : Int) ∈ l
    · have h1 := nodup_le N (l.erase (N : Int)) (hd.erase _) fun x hx => by
        obtain ⟨h2, h3⟩ := (hd.mem_erase_iff).1 hx
        have := h x h3
        omega
      rw [List.length_erase_of_mem hm] at h1
      omega
    · have := nodup_le N l hd fun x hx => by
        have := h x hx
        have : x ≠ (N : Int) := fun e => hm (e ▸ hx)
        omega
      omega

def chainGo (f : Int → Int) : Nat → List Int → Int → List Int
  | 0, s, _ => s
  | u + 1, s, k => if 0 ≤ k ∧ k ∉ s then chainGo f u (s ++ [k]) (f k) else s
/-- For whom a thread waits, by however many. -/
def gchain (ws os : List Int) (n i : Int) : List Int := chainGo (gon ws os n) (n.toNat + 1) [] (gon ws os n i)
theorem chainGo_stop {f : Int → Int} {u : Nat} {s : List Int} {k : Int} (h : k < 0 ∨ k ∈ s) : chainGo f u s k = s := by
  cases u with
  | zero => rfl
  | succ u =>
    rw [chainGo, if_neg]
    intro h2
    rcases h with h | h
    · omega
    · exact h2.2 h
theorem chainGo_next {f : Int → Int} {u : Nat} {s : List Int} {k : Int} (h : 0 ≤ k) (h2 : k ∉ s) : chainGo f (u + 1) s k = chainGo f u (s ++ [k]) (f k) := by
  rw [chainGo, if_pos ⟨h, h2⟩]

/-- The state of the loop: s found, k next. -/
structure ChSt (ws os : List Int) (n i : Int) (s : List Int) (k : Int) (u : Nat) : Prop where
  eq : gchain ws os n i = chainGo (gon ws os n) u s k
  fuel : u + s.length = n.toNat + 1
  nodup : s.Nodup
  rng : ∀ x ∈ s, 0 ≤ x ∧ x < n
  kr : k = -1 ∨ (0 ≤ k ∧ k < n)
theorem ChSt.start (ws os : List Int) (n i : Int) : ChSt ws os n i [] (gon ws os n i) (n.toNat + 1) := ⟨rfl, by simp, List.nodup_nil, by simp, gon_rng ws os n i⟩
theorem ChSt.len {ws os : List Int} {n i k : Int} {s : List Int} {u : Nat} (h : ChSt ws os n i s k u) : s.length ≤ n.toNat :=
  nodup_le _ s h.nodup fun x hx => by have := h.rng x hx; omega
theorem ChSt.next {ws os : List Int} {n i k : Int} {s : List Int} {u : Nat} (h : ChSt ws os n i s k u) (h0 : 0 ≤ k) (h1 : k ∉ s) : ∃ v, u = v + 1 ∧ ChSt ws os n i (s ++ [k]) (gon ws os n k) v := by
  have hl := h.len
  have hf := h.fuel
  obtain ⟨v, rfl⟩ : ∃ v, u = v + 1 := ⟨u - 1, by omega⟩
  refine ⟨v, rfl, by rw [h.eq, chainGo_next h0 h1], by simp; omega, ?_, ?_, gon_rng _ _ _ _⟩
  · rw [List.nodup_append]
    refine ⟨h.nodup, by simp, fun a ha b hb => ?_⟩
    simp at hb; subst hb
    intro e; subst e; exact h1 ha
  · intro x hx
    rcases List.mem_append.1 hx with hx | hx
    · exact h.rng x hx
    · simp at hx; subst hx
      rcases h.kr with h2 | h2
      · omega
      · exact h2
theorem ChSt.stop {ws os : List Int} {n i k : Int} {s : List Int} {u : Nat} (h : ChSt ws os n i s k u) (h0 : k < 0 ∨ k ∈ s) : gchain ws os n i = s := by
  rw [h.eq, chainGo_stop h0]
/-- Any fact that the loop keeps holds of its end. -/
theorem ChSt.ind {ws os : List Int} {n i : Int} (Q : List Int → Int → Prop) (hstep : ∀ s k, 0 ≤ k → k < n → k ∉ s → Q s k → Q (s ++ [k]) (gon ws os n k)) :
    ∀ (u : Nat) (s : List Int) (k : Int), ChSt ws os n i s k u → Q s k → ∃ k', Q (gchain ws os n i) k' ∧ (k' < 0 ∨ k' ∈ gchain ws os n i)
  | 0, s, k, h, hq => by
    by_cases hc : k < 0 ∨ k ∈ s
    · rw [h.stop hc]; exact ⟨k, hq, hc⟩
    · obtain ⟨v, hv, _⟩ := h.next (Classical.byContradiction fun h0 => hc (.inl (by omega))) (fun h1 => hc (.inr h1))
      cases hv
  | u + 1, s, k, h, hq => by
    by_cases hc : k < 0 ∨ k ∈ s
    · rw [h.stop hc]; exact ⟨k, hq, hc⟩
    · have h0 : 0 ≤ k := Classical.byContradiction fun h0 => hc (.inl (by omega))
      have h1 : k ∉ s := fun h1 => hc (.inr h1)
      obtain ⟨v, hv, hst⟩ := h.next h0 h1
      obtain rfl : u = v := by omega
      refine ChSt.ind Q hstep u _ _ hst (hstep s k h0 ?_ h1 hq)
      have := h.kr
      omega
theorem gchain_ind {ws os : List Int} {n i : Int} (Q : List Int → Int → Prop) (h0 : Q [] (gon ws os n i)) (hstep : ∀ s k, 0 ≤ k → k < n → k ∉ s → Q s k → Q (s ++ [k]) (gon ws os n k)) :
    ∃ k', Q (gchain ws os n i) k' ∧ (k' < 0 ∨ k' ∈ gchain ws os n i) := ChSt.ind Q hstep _ _ _ (ChSt.start ws os n i) h0
theorem gchain_rng (ws os : List Int) (n i : Int) : ∀ x ∈ gchain ws os n i, 0 ≤ x ∧ x < n := by
  obtain ⟨k', h, _⟩ := gchain_ind (ws := ws) (os := os) (n := n) (i := i) (fun s _ => ∀ x ∈ s, 0 ≤ x ∧ x < n) (by simp) fun s k h0 h1 _ hq x hx => by
    rcases List.mem_append.1 hx with hx | hx
    · exact hq x hx
    · simp at hx; subst hx; exact ⟨h0, h1⟩
  exact h
theorem gchain_nodup (ws os : List Int) (n i : Int) : (gchain ws os n i).Nodup := by
  obtain ⟨k', h, _⟩ := gchain_ind (ws := ws) (os := os) (n := n) (i := i) (fun s _ => s.Nodup) List.nodup_nil fun s k h0 h1 hk hq => by
    rw [List.nodup_append]
    refine ⟨hq, by simp, fun a ha b hb => ?_⟩
    simp at hb; subst hb
    intro e; subst e; exact hk ha
  exact h
theorem gchain_len (ws os : List Int) (n i : Int) : (gchain ws os n i).length ≤ n.toNat := nodup_le _ _ (gchain_nodup ws os n i) fun x hx => by
  have := gchain_rng ws os n i x hx; omega
/-- Who is waited for is of the chain, and whom that waits for too. -/
theorem gchain_shut (ws os : List Int) (n i : Int) : (0 ≤ gon ws os n i → gon ws os n i ∈ gchain ws os n i) ∧ ∀ x ∈ gchain ws os n i, 0 ≤ gon ws os n x → gon ws os n x ∈ gchain ws os n i := by
  obtain ⟨k', ⟨h1, h2⟩, h3⟩ := gchain_ind (ws := ws) (os := os) (n := n) (i := i) (fun s k => (k = gon ws os n i ∨ gon ws os n i ∈ s) ∧ ∀ x ∈ s, gon ws os n x = k ∨ gon ws os n x ∈ s) ⟨.inl rfl, by simp⟩ fun s k h0 h1 _ hq => by
    obtain ⟨q1, q2⟩ := hq
    refine ⟨?_, fun x hx => ?_⟩
    · rcases q1 with q1 | q1
      · right; rw [← q1]; simp
      · right; simp [q1]
    · rcases List.mem_append.1 hx with hx | hx
      · rcases q2 x hx with q | q
        · right; rw [q]; simp
        · right; simp [q]
      · simp at hx; subst hx; exact .inl rfl
  refine ⟨fun h => ?_, fun x hx h => ?_⟩
  · rcases h1 with h1 | h1
    · rcases h3 with h3 | h3
      · omega
      · rwa [h1] at h3
    · exact h1
  · rcases h2 x hx with h2 | h2
    · rcases h3 with h3 | h3
      · omega
      · rwa [← h2] at h3
    · exact h2

set_option maxRecDepth 100000 in
set_option maxHeartbeats 4000000 in
theorem r_chain (A : Option Addr) (na ca : Nat) (ws : List Int) (B : Option Addr) (nb cb : Nat) (os : List Int) (n i : Int) (w : World) (h : WO w A na ws B nb os) (hn : n ≤ 60000) :
    Calls Try.prog 22 #[.slice A na ca, .slice B nb cb, .int .i64 n, .int .i64 i] w fun e w' => ∃ A' c', e = .returned (.slice A' (gchain ws os n i).length c') ∧ Row w' w.heap.size 3 1 A' (gchain ws os n i).length c' (ints (gchain ws os n i)) ∧ Below w.heap.size w w' := by
  obtain ⟨i0, hi, hz0, hz1, hz2⟩ := info_parts info_int
  have HI := Lib.hid hi
  have HW := Lib.hid h
  have HO := Lib.hid (fun k w' (hb : Ext w w') => r_on A na ca ws B nb cb os n k w' (HW.out.keep hb))
  have HS := Lib.hid (ChSt.start ws os n i)
  clear hi h
  go_enter Try.func22, Try.ntmps22
  go_wp2_with ((with_reducible go_at_call 23); (with_reducible refine (HO.out _ _ (Ext.refl _)).mono ?_); rintro e w' ⟨rfl, rfl⟩)
  go_loopw [9, 10] (fun v q wr => ∃ (s : List Int) (k : Int) (u m : Nat) (S : Option Addr) (c1 : Nat), v = .slice S m c1 ∧ q = .int .i64 k ∧ Hid (ChSt ws os n i s k u) ∧ Hid (s.length = m) ∧ m ≤ n.toNat ∧ Row wr w.heap.size 3 1 S m c1 (ints s) ∧ Below w.heap.size w wr) (fun v _ _ => n.toNat + 1 - (match v with | .slice _ m _ => m | _ => 0))
  case atStart => exact ⟨[], _, _, 0, none, 0, rfl, rfl, HS, Lib.hid rfl, by omega, Row.nil _ _ _ _, Below.refl _ _⟩
  case round =>
    obtain ⟨s, k, u, m, S, c1, rfl, rfl, HC, HM, hmn, q1, q2⟩ := hrel
    clear HS
    by_cases hk0 : k < 0
    · have HE := Lib.hid (HC.out.stop (.inl hk0))
      have HE2 := Lib.hid (by rw [HE.out, HM.out] : (gchain ws os n i).length = m)
      go_wp2
      go_ret
      exact ⟨S, c1, by rw [HE2.out]; rfl, by rw [HE2.out, HE.out]; exact q1, q2⟩
    · go_wp2
      go_loopw [11] (fun j wr2 => ∃ l : Nat, l ≤ m ∧ j = .int .i64 l ∧ Hid (¬ k ∈ s.take l) ∧ wr2 = wr) (fun j _ => m - (intOf j).toNat)
      case atStart => exact ⟨0, by omega, rfl, Lib.hid (by simp), rfl⟩
      case round =>
        obtain ⟨l, hl, rfl, HN, rfl⟩ := hrel
        by_cases hll : l < m
        · obtain ⟨bb, off, eS, hc⟩ := q1.rd.int (zs := s) (k := l) (by rw [HM.out]; exact hll)
          subst eS
          have HM2 := Lib.hid (List.getElem_mem (l := s) (n := l) (by rw [HM.out]; exact hll))
          have HT := Lib.hid (take_succ' s l (by rw [HM.out]; exact hll))
          generalize s[l]'(by rw [HM.out]; exact hll) = x at *
          by_cases hx : x = k
          · subst hx
            have HE := Lib.hid (HC.out.stop (.inr HM2.out))
            have HE2 := Lib.hid (by rw [HE.out, HM.out] : (gchain ws os n i).length = m)
            go_wp2
            go_ret
            exact ⟨_, c1, by rw [HE2.out]; rfl, by rw [HE2.out, HE.out]; exact q1, q2⟩
          · have hne : (x == k) = false := by simp [hx]
            have HN2 : Hid (¬ k ∈ s.take (l + 1)) := Lib.hid (by
              rw [HT.out, List.mem_append]
              intro h; rcases h with h | h
              · exact HN.out h
              · simp at h; exact hx h.symm)
            go_wp2
            go_roundw
            case rel => exact ⟨l + 1, by omega, by go_num, HN2, by trivial⟩
            case measure => simp [intOf]; omega
        · have hks : k ∉ s := by
            have := HN.out
            rwa [List.take_of_length_le (by rw [HM.out]; omega)] at this
          obtain ⟨v, _, hst⟩ := HC.out.next (by omega) hks
          have hlen := hst.len
          simp only [List.length_append, List.length_singleton] at hlen
          have hml : m + 1 ≤ n.toNat := by have := HM.out; omega
          have HST := Lib.hid hst
          have HML : Hid ((s ++ [k]).length = m + 1) := Lib.hid (by simp [HM.out])
          have HP := Lib.hid (ints_app' s [k])
          have hs2 := q2.size
          clear hks hst hlen
          go_wp2_with (first
            | ((with_reducible go_at_call 23); (with_reducible refine (HO.out _ _ b2).mono ?_); rintro e w' ⟨rfl, rfl⟩)
            | (at_builtin; have q7 := (q1.alloc (.cells #[.int .i64 k] 3)); refine wpl_append _ rfl (.tmp 37) (.tmp 39) 23 rfl 3 i0 _ 1 8 Try.underlying23 HI.out hz0 hz1 hz2 rfl (by omega) w.heap.size S m c1 _ rfl q7 _ 1 1 (ints [k]) rfl rfl (rd1i _ _) (ints_one _) (m + 1) (ints (s ++ [k])) rfl HP.out (by omega) (by omega) (by simp; omega) ?_; intro A2 c2 w2 o2 g2 e2; have b2 := below_grown (Ext.trans q2 (Ext.alloc wr (.cells #[.int .i64 k] 3))) g2 (by simp; omega) (fun g' hg' => (q7.at_ g' hg').1)))
          go_roundw
          case rel => exact ⟨s ++ [k], _, v, m + 1, A2, c2, rfl, rfl, HST, HML, hml, o2, b2⟩
          case measure => simp; omega

end Go.Proofs.Ytlmpmlhmndegdaa
