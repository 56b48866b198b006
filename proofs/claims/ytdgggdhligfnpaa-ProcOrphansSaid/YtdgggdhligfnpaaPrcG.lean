/-
  THE STATEMENT ProcOnce: the plain laws, the walk.
-/
import Derived.Test.YtdgggdhligfnpaaPrcF
namespace Go.Proofs.Ytdgggdhligfnpaa
open Go.ChangeShapes Go.WideShapes Go.ChangeAt Go.RowKit Go.Maps
attribute [local go_sem] depUpon Sp.ok

def rt : PR := ⟨0, -1, 0, false⟩
def oneF (j : Nat) : PR := if j = 0 then rt else ⟨j, 0, 0, false⟩
/-- The first process, and its children above k. -/
def st1 (k : Nat) : List PR := fam (fun j => decide (j = 0) || decide (k < j)) oneF
/-- Those above k that b names have ended. -/
def twoF (b : Nat → Bool) (c : Int) (k : Nat) (j : Nat) : PR := if j = 0 then rt else if (decide (k < j) && b j) = true then ⟨j, 0, c + j, true⟩ else ⟨j, 0, 0, false⟩
def st2 (b : Nat → Bool) (c : Int) (k : Nat) : List PR := fam (fun _ => true) (twoF b c k)
/-- Those up to 'last' that had ended are told. -/
def st3 (b : Nat → Bool) (c : Int) (last : Nat) : List PR := fam (fun j => decide (j = 0) || !b j || decide (last < j)) (twoF b c 0)
theorem oneF_num : Num oneF := fun j => by
  unfold oneF
  by_cases e : j = 0
  · rw [if_pos e, e]; rfl
  · rw [if_neg e]
theorem twoF_num (b : Nat → Bool) (c : Int) (k : Nat) : Num (twoF b c k) := fun j => by
  unfold twoF
  by_cases e : j = 0
  · rw [if_pos e, e]; rfl
  · rw [if_neg e]
    split <;> rfl
theorem once_root : startE [] 0 (-1) = 0 ∧ startL [] 0 (-1) = st1 9 := ⟨rfl, rfl⟩
theorem once_start {k : Nat} (k1 : 1 ≤ k) (k9 : k ≤ 9) : startE (st1 k) (k : Int) 0 = 0 ∧ startL (st1 k) (k : Int) 0 = st1 (k - 1) := by
  have hal : aliveB (st1 k) 0 = true := by
    have := fam_alive (s := fun j => decide (j = 0) || decide (k < j)) oneF_num (i := 0) (by omega)
    exact this.trans rfl
  obtain ⟨h1, h2⟩ := fam_start (s := fun j => decide (j = 0) || decide (k < j)) oneF_num (i := k) (by omega) (by simp; omega) 0 (.inr hal)
  refine ⟨h1, h2.trans ?_⟩
  refine fam_congr (fun j _ => ?_) (fun j _ _ => ?_)
  · by_cases e : j = k
    · subst e; simp; omega
    · rw [Bool.eq_iff_iff]; simp; omega
  · unfold oneF
    by_cases e : j = k
    · subst e; rw [if_pos rfl, if_neg (by omega)]
    · rw [if_neg e]
theorem once_two (b : Nat → Bool) (c : Int) : st1 0 = st2 b c 9 := by
  refine fam_congr (fun j _ => ?_) (fun j hj _ => ?_)
  · rw [Bool.eq_iff_iff]; simp; omega
  · unfold oneF twoF
    by_cases e : j = 0
    · rw [if_pos e, if_pos e]
    · rw [if_neg e, if_neg e, if_neg (by simp; omega)]
theorem twoF_par {b : Nat → Bool} {c : Int} {k j : Nat} (h : 1 ≤ j) : (twoF b c k j).par = 0 := by
  unfold twoF
  rw [if_neg (by omega)]
  split <;> rfl
theorem twoF_root {b : Nat → Bool} {c : Int} {k : Nat} : twoF b c k 0 = rt := rfl
theorem twoF_dead {b : Nat → Bool} {c : Int} {k j : Nat} (h : 1 ≤ j) : (twoF b c k j).dead = (decide (k < j) && b j) := by
  unfold twoF
  rw [if_neg (by omega)]
  by_cases e : (decide (k < j) && b j) = true
  · rw [if_pos e, e]
  · rw [if_neg e]
    simp only [Bool.not_eq_true] at e
    rw [e]
theorem once_exit {b : Nat → Bool} {c : Int} {k : Nat} (k1 : 1 ≤ k) (k9 : k ≤ 9) (hb : b k = true) (c0 : 0 ≤ c) (c1 : c ≤ 200) : exitE (st2 b c k) (k : Int) (c + k) = 0 ∧ exitL (st2 b c k) (k : Int) (c + k) = st2 b c (k - 1) := by
  obtain ⟨h1, h2⟩ := fam_exit (s := fun _ => true) (twoF_num b c k) (i := k) (by omega) rfl (by rw [twoF_dead k1]; simp) (fun j _ _ => by
    by_cases e : j = 0
    · subst e; show (-1 : Int) ≠ k; omega
    · rw [twoF_par (by omega)]; omega) (code := c + k) (by omega) (by omega)
  refine ⟨h1, h2.trans ?_⟩
  rw [twoF_par k1, if_neg (by omega)]
  refine fam_congr (fun j _ => rfl) (fun j _ _ => ?_)
  by_cases e : j = k
  · subst e
    unfold twoF
    rw [if_pos rfl, if_neg (by omega), if_pos (by simp [hb]; omega)]
  · rw [if_neg e]
    unfold twoF
    by_cases e0 : j = 0
    · rw [if_pos e0, if_pos e0]
    · rw [if_neg e0, if_neg e0]
      have : decide (k < j) = decide (k - 1 < j) := by rw [decide_eq_decide]; omega
      rw [this]
theorem once_again {b : Nat → Bool} {c : Int} {k : Nat} (k1 : 1 ≤ k) (k9 : k ≤ 9) (hb : b k = true) : exitE (st2 b c (k - 1)) (k : Int) 0 = 4 ∧ exitL (st2 b c (k - 1)) (k : Int) 0 = st2 b c (k - 1) :=
  fam_exit_no (s := fun _ => true) (twoF_num b c (k - 1)) (i := k) (by omega) (.inr (by rw [twoF_dead k1, hb]; simp; omega)) 0
theorem once_skip {b : Nat → Bool} {c : Int} {k : Nat} (k1 : 1 ≤ k) (hb : b k = false) : st2 b c k = st2 b c (k - 1) := by
  refine fam_congr (fun j _ => rfl) (fun j _ _ => ?_)
  unfold twoF
  by_cases e0 : j = 0
  · rw [if_pos e0, if_pos e0]
  · rw [if_neg e0, if_neg e0]
    by_cases e : j = k
    · subst e; rw [hb]; simp
    · have : decide (k < j) = decide (k - 1 < j) := by rw [decide_eq_decide]; omega
      rw [this]
theorem once_three (b : Nat → Bool) (c : Int) : st2 b c 0 = st3 b c 0 := by
  refine fam_congr (fun j _ => ?_) (fun j _ _ => rfl)
  rw [Bool.eq_iff_iff]; simp; omega
/-- How many above k b names. -/
def cntA (b : Nat → Bool) (k : Nat) : Nat := (List.range' (k + 1) (9 - k)).countP b
theorem cntA_step {b : Nat → Bool} {k : Nat} (h : k < 9) : cntA b k = (if b (k + 1) = true then 1 else 0) + cntA b (k + 1) := by
  unfold cntA
  rw [show 9 - k = (9 - (k + 1)) + 1 by omega, List.range'_succ, List.countP_cons]
  omega
theorem cntA_nine (b : Nat → Bool) : cntA b 9 = 0 := rfl
theorem cntA_le (b : Nat → Bool) (k : Nat) : cntA b k ≤ 9 - k := by
  unfold cntA
  have := List.countP_le_length (p := b) (l := List.range' (k + 1) (9 - k))
  simpa using this
theorem cntA_next (b : Nat → Bool) : ∀ (n k : Nat), 9 - k = n → k ≤ 9 → 0 < cntA b k → ∃ z, k < z ∧ z ≤ 9 ∧ b z = true ∧ (∀ j, k < j → j < z → b j = false) ∧ cntA b z + 1 = cntA b k
  | 0, k, h, hk, hc => by
    obtain rfl : k = 9 := by omega
    rw [cntA_nine] at hc; omega
  | n + 1, k, h, hk, hc => by
    have hs := cntA_step (b := b) (k := k) (by omega)
    cases hb : b (k + 1)
    · rw [hb] at hs
      simp only [Bool.false_eq_true, if_false, Nat.zero_add] at hs
      obtain ⟨z, h1, h2, h3, h4, h5⟩ := cntA_next b n (k + 1) (by omega) (by omega) (by omega)
      refine ⟨z, by omega, h2, h3, fun j j1 j2 => ?_, by omega⟩
      by_cases e : j = k + 1
      · rw [e]; exact hb
      · exact h4 j (by omega) j2
    · rw [hb] at hs
      simp only [if_true] at hs
      exact ⟨k + 1, by omega, by omega, hb, fun j j1 j2 => by omega, by omega⟩
theorem cntA_none {b : Nat → Bool} : ∀ (n k : Nat), 9 - k = n → k ≤ 9 → cntA b k = 0 → ∀ j, k < j → j ≤ 9 → b j = false
  | 0, k, h, _, _, j, j1, j2 => by omega
  | n + 1, k, h, hk, hc, j, j1, j2 => by
    have hs := cntA_step (b := b) (k := k) (by omega)
    have hb : b (k + 1) = false := by
      cases hb : b (k + 1)
      · rfl
      · rw [hb] at hs; simp at hs; omega
    rw [hb] at hs
    by_cases e : j = k + 1
    · rw [e]; exact hb
    · exact cntA_none n (k + 1) (by omega) (by omega) (by simpa [hc] using hs.symm) j (by omega) j2
theorem once_child {b : Nat → Bool} {c : Int} {last z : Nat} (h1 : last < z) (h2 : z ≤ 9) (h3 : b z = true) (h4 : ∀ j, last < j → j < z → b j = false) :
    childR (st3 b c last) 0 = ((z : Int), c + z, 0) ∧ childL (st3 b c last) 0 = st3 b c z := by
  have hz : childZ (st3 b c last) 0 = some (z : Int) := by
    have e := fam_childZ (s := fun j => decide (j = 0) || !b j || decide (last < j)) (twoF_num b c 0) (i := 0) (by omega) (by simp) rfl
    refine e.trans ?_
    have hfz : (List.range 10).find? (fun j => (decide (j = 0) || !b j || decide (last < j)) && decide ((twoF b c 0 j).par = ((0 : Nat) : Int)) && (twoF b c 0 j).dead) = some z := by
      rw [List.find?_range_eq_some]
      refine ⟨?_, List.mem_range.2 (by omega), fun j hj => ?_⟩
      · rw [twoF_par (by omega), twoF_dead (by omega), h3]; simp; omega
      · by_cases e0 : j = 0
        · subst e0; simp [twoF_root, rt]
        · rw [twoF_dead (by omega)]
          cases hb : b j
          · simp
          · have : ¬ last < j := fun hl => by rw [h4 j hl hj] at hb; cases hb
            simp [this, e0]
    rw [hfz]; rfl
  have hg : pget (st3 b c last) (z : Int) = some (twoF b c 0 z) := fam_get (twoF_num b c 0) (by omega) (by simp; right; omega)
  refine ⟨?_, ?_⟩
  · unfold childR
    rw [hz]
    simp only
    rw [hg]
    simp only [oCode]
    unfold twoF
    rw [if_neg (by omega), if_pos (by simp [h3]; omega)]
  · unfold childL
    rw [hz]
    simp only
    refine (fam_del (s := fun j => decide (j = 0) || !b j || decide (last < j)) (twoF_num b c 0) (i := z)).trans ?_
    refine fam_congr (fun j _ => ?_) (fun j _ _ => rfl)
    rw [Bool.eq_iff_iff]
    simp only [Bool.and_eq_true, Bool.or_eq_true, decide_eq_true_eq, Bool.not_eq_true', decide_eq_false_iff_not]
    constructor
    · rintro ⟨(h | h) | h, hne⟩
      · exact .inl (.inl h)
      · exact .inl (.inr h)
      · by_cases hjz : z < j
        · exact .inr hjz
        · exact .inl (.inr (h4 j h (by omega)))
    · rintro ((h | h) | h)
      · exact ⟨.inl (.inl h), by omega⟩
      · exact ⟨.inl (.inr h), fun e => by rw [e, h3] at h; cases h⟩
      · exact ⟨.inr (by omega), by omega⟩
theorem once_kids {b : Nat → Bool} {c : Int} {last : Nat} (hl : last ≤ 9) (h0 : cntA b last = 0) : (kidsA (st3 b c last) 0).length = 9 - cntA b 0 := by
  have hal : aliveB (st3 b c last) 0 = true := by
    have := fam_alive (s := fun j => decide (j = 0) || !b j || decide (last < j)) (twoF_num b c 0) (i := 0) (by omega)
    exact this.trans rfl
  unfold kidsA
  rw [if_pos hal]
  have e := fam_kids (s := fun j => decide (j = 0) || !b j || decide (last < j)) (twoF_num b c 0) 0
  rw [show kids (st3 b c last) 0 = _ from e, List.length_map]
  have hn := cntA_none (9 - last) last rfl hl h0
  have e2 : (List.range 10).filter (fun j => (decide (j = 0) || !b j || decide (last < j)) && decide ((twoF b c 0 j).par = 0)) = (List.range' 1 9).filter (fun j => !b j) := by
    rw [show List.range 10 = 0 :: List.range' 1 9 from rfl, List.filter_cons_of_neg (by simp [twoF_root, rt])]
    refine List.filter_congr fun j hj => ?_
    rw [List.mem_range'_1] at hj
    rw [twoF_par (by omega)]
    cases hb : b j
    · simp
    · have : ¬ last < j := fun h => by rw [hn j h (by omega)] at hb; cases hb
      simp [this]; omega
  rw [e2]
  have h3 := List.length_eq_countP_add_countP b (l := List.range' 1 9)
  have h4 : cntA b 0 = (List.range' 1 9).countP b := rfl
  rw [List.countP_eq_length_filter (p := fun a => decide ¬b a = true)] at h3
  have h5 : (List.range' 1 9).filter (fun a => decide ¬b a = true) = (List.range' 1 9).filter (fun j => !b j) := List.filter_congr fun j _ => by cases b j <;> rfl
  rw [h5] at h3
  simp only [List.length_range'] at h3
  omega
theorem once_end {b : Nat → Bool} {c : Int} {last : Nat} (hl : last ≤ 9) (h0 : cntA b last = 0) : childR (st3 b c last) 0 = (0, 0, if cntA b 0 = 9 then 18 else 17) ∧ childL (st3 b c last) 0 = st3 b c last := by
  have hal : aliveB (st3 b c last) 0 = true := by
    have := fam_alive (s := fun j => decide (j = 0) || !b j || decide (last < j)) (twoF_num b c 0) (i := 0) (by omega)
    exact this.trans rfl
  have hn := cntA_none (9 - last) last rfl hl h0
  have hz : childZ (st3 b c last) 0 = none := by
    have e := fam_childZ (s := fun j => decide (j = 0) || !b j || decide (last < j)) (twoF_num b c 0) (i := 0) (by omega) (by simp) rfl
    refine e.trans ?_
    rw [List.find?_eq_none.2]
    · rfl
    · intro j hj
      have hj' := List.mem_range.1 hj
      by_cases e0 : j = 0
      · subst e0; simp [twoF_root, rt]
      · rw [twoF_dead (by omega)]
        cases hb : b j
        · simp
        · have : ¬ last < j := fun h => by rw [hn j h (by omega)] at hb; cases hb
          simp [this, e0]
  refine ⟨?_, ?_⟩
  · unfold childR
    rw [hz]
    simp only
    unfold childE
    rw [if_neg (by rw [hal]; simp), once_kids hl h0]
    have := cntA_le b 0
    by_cases e : cntA b 0 = 9
    · rw [if_pos e, if_pos (by omega)]
    · rw [if_neg e, if_neg (by omega)]
  · unfold childL
    rw [hz]

section
variable {H : Type} {enc : TypeId × Value → H} {W : World} {base : Nat} {v : Value} {d : DataW H} {p : List MemPlace}
set_option maxRecDepth 100000 in
theorem open_u16 (hv : Value.okWide Try.prog W .any base 22 v) (h : DataW.Trod enc Try.prog W 0 (fun _ => true) true 22 v d p) : ∃ x : Nat, v = .int .u16 (x : Int) ∧ x < 65536 := by
  obtain ⟨x, rfl, _, _, w⟩ := open_int Try.underlying22 hv h
  have hb : 0 ≤ x ∧ x < 65536 := by
    simp [Lit.wf, IntKind.min, IntKind.max, IntKind.signed, IntKind.bits] at w
    omega
  exact ⟨x.toNat, by rw [Int.toNat_of_nonneg hb.1], by omega⟩
end
theorem u16_bit (m k : Nat) (h : m < 65536) : bits .and .u16 ((m : Int) / (2 : Int) ^ k) 1 = (((m.testBit k).toNat : Nat) : Int) := by
  have e : ((m : Int) / (2 : Int) ^ k) = ((m / 2 ^ k : Nat) : Int) := by simp
  have hx : m / 2 ^ k < 65536 := Nat.lt_of_le_of_lt (Nat.div_le_self _ _) h
  rw [e, Nat.testBit_eq_decide_div_mod_eq]
  generalize m / 2 ^ k = x at *
  show IntKind.u16.wrap (((BitVec.ofInt 16 (x : Int) &&& BitVec.ofInt 16 ((1 : Nat) : Int)).toNat : Nat) : Int) = _
  rw [BitVec.ofInt_natCast, BitVec.ofInt_natCast, BitVec.toNat_and, BitVec.toNat_ofNat, BitVec.toNat_ofNat, Nat.mod_eq_of_lt (by omega), Nat.mod_eq_of_lt (by omega), Nat.and_one_is_mod]
  by_cases hb : x % 2 = 1
  · rw [hb]; simp; rfl
  · have : x % 2 = 0 := by omega
    rw [this]; simp; rfl

set_option maxRecDepth 100000 in
set_option maxHeartbeats 8000000 in
theorem law_proconce (m : Nat) (code : Int) (w : World) (hm : m < 65536) (_ : I64 code) :
    Calls Try.prog 3 #[.int .u16 (m : Int), .int .i64 code] w fun e w' => e = .returned (.bool true) ∧ Below w.heap.size w w' := by
  have HAW := Lib.hid (fun w => prc_awake w)
  have HN := Lib.hid (p_new w)
  have HBT := Lib.hid (fun k => u16_bit m k hm)
  have A1 := Lib.hid (fun g gm w1 (h : PS w1 g gm []) => p_start g gm [] 0 (-1) w1 h ⟨by omega, by omega⟩ ⟨by omega, by omega⟩ (by simp))
  rw [once_root.1, once_root.2] at A1
  have HLW := Lib.hid (fun w => low_any code 200 w (by omega) (by omega))
  have c0 := low_lo code 200 (by omega)
  have c1 := low_hi code 200 (by omega)
  generalize low code 200 = c at *
  obtain ⟨b, hb⟩ : ∃ b : Nat → Bool, b = fun k => m.testBit k := ⟨_, rfl⟩
  have HB := Lib.hid hb
  clear hb
  have A2 := Lib.hid (fun k g gm w1 (h : PS w1 g gm (st1 k)) => p_start g gm (st1 k) (k : Int) 0 w1 h)
  have A3 := Lib.hid (fun k x g gm w1 (h : PS w1 g gm (st2 b c k)) => p_exit g gm (st2 b c k) x (c + x) w1 h)
  have A4 := Lib.hid (fun k x g gm w1 (h : PS w1 g gm (st2 b c k)) => p_exit g gm (st2 b c k) x 0 w1 h)
  have A5 := Lib.hid (fun k g gm w1 (h : PS w1 g gm (st3 b c k)) => p_child g gm (st3 b c k) 0 w1 h ⟨by omega, by omega⟩)
  have A6 := Lib.hid (fun k g gm w1 (h : PS w1 g gm (st3 b c k)) => p_children g gm (st3 b c k) 0 w1 h ⟨by omega, by omega⟩)
  go_enter Try.func3, Try.ntmps3
  go_wp2_with fail
  refine HN.out.mono ?_
  rintro e w1 ⟨g, gm, rfl, s1, b1, hg, hgm⟩
  go_wp2_with (first
    | ((with_reducible go_at_call 8); (with_reducible refine (A1.out _ _ _ s1).mono ?_); rintro e w2 ⟨rfl, p2⟩; have b2 := p2.below b1 b1.size hgm)
    | ((with_reducible go_at_call 9); (with_reducible refine (HLW.out _).mono ?_); rintro e w' ⟨rfl, rfl⟩))
  have s2 := p2.st
  clear p2 b1 s1 A1 HN HLW
  go_loopw [7] (fun q wr => ∃ k : Nat, k ≤ 9 ∧ q = .int .i64 k ∧ PS wr g gm (st1 k) ∧ Below w.heap.size w wr) (fun q _ => (intOf q).toNat)
  case atStart => exact ⟨9, by omega, rfl, s2, b2⟩
  case round =>
    clear s2 b2
    obtain ⟨k, hk, rfl, s2, b2⟩ := hrel
    by_cases hk1 : 1 ≤ k
    · have hst := A2.out k g gm _ s2 ⟨by omega, by omega⟩ ⟨by omega, by omega⟩ (by have := fam_len (s := fun j => decide (j = 0) || decide (k < j)) (f := oneF); unfold st1; omega)
      rw [(once_start hk1 hk).1, (once_start hk1 hk).2] at hst
      have HST := Lib.hid hst
      have k1' : (1 : Int) ≤ (k : Int) := by omega
      have hw : IntKind.i64.wrap ((k : Int) - 1) = ((k - 1 : Nat) : Int) := by
        rw [IntWalk.i64_in _ ⟨by omega, by omega⟩]; omega
      clear hst
      go_wp2_with ((with_reducible go_at_call 8); (with_reducible refine HST.out.mono ?_); rintro e w3 ⟨rfl, p3⟩)
      go_roundw
      case rel => exact ⟨k - 1, by omega, rfl, p3.st, p3.below b2 b2.size hgm⟩
      case measure => simp [intOf]; omega
    · obtain rfl : k = 0 := by omega
      rw [once_two b c] at s2
      rw [show ((0 : Nat) : Int) = 0 from rfl]
      go_wp2
      go_loopw [6, 8] (fun n q wr => ∃ k : Nat, k ≤ 9 ∧ q = .int .i64 k ∧ n = .int .i64 (cntA b k) ∧ PS wr g gm (st2 b c k) ∧ Below w.heap.size w wr) (fun _ q _ => (intOf q).toNat)
      case atStart => exact ⟨9, by omega, rfl, rfl, s2, b2⟩
      case round =>
        clear s2 b2
        obtain ⟨k, hk, rfl, rfl, s2, b2⟩ := hrel
        by_cases hk1 : 1 ≤ k
        · have k1' : (1 : Int) ≤ (k : Int) := by omega
          have hw : IntKind.i64.wrap ((k : Int) - 1) = ((k - 1 : Nat) : Int) := by
            rw [IntWalk.i64_in _ ⟨by omega, by omega⟩]; omega
          have hcs := cntA_step (b := b) (k := k - 1) (by omega)
          rw [show k - 1 + 1 = k by omega] at hcs
          have hbt := HBT.out k
          have hbk : b k = m.testBit k := by rw [HB.out]
          rw [← hbk] at hbt
          have hcl := cntA_le b k
          have hcl2 := cntA_le b (k - 1)
          cases hb : b k
          · rw [hb] at hbt hcs
            have hsk := once_skip (c := c) hk1 hb
            rw [hsk] at s2
            have HC := Lib.hid (show cntA b k = cntA b (k - 1) by simpa using hcs.symm)
            clear hcs hbk hb hsk
            go_wp2
            go_roundw
            case rel => exact ⟨k - 1, by omega, rfl, by rw [HC.out], s2, b2⟩
            case measure => simp [intOf]; omega
          · rw [hb] at hbt hcs
            have hx := A3.out k (k : Int) g gm _ s2 ⟨by omega, by omega⟩ (by have := fam_len (s := fun _ => true) (f := twoF b c k); unfold st2; omega)
            rw [(once_exit (c := c) hk1 hk hb c0 (by omega)).1, (once_exit (c := c) hk1 hk hb c0 (by omega)).2] at hx
            have hy := fun w1 (h : PS w1 g gm (st2 b c (k - 1))) => A4.out (k - 1) (k : Int) g gm w1 h ⟨by omega, by omega⟩ (by have := fam_len (s := fun _ => true) (f := twoF b c (k - 1)); unfold st2; omega)
            rw [(once_again (c := c) hk1 hk hb).1, (once_again (c := c) hk1 hk hb).2] at hy
            have HX := Lib.hid hx
            have HY := Lib.hid hy
            have hw2 : IntKind.i64.wrap (c + (k : Int)) = c + (k : Int) := IntWalk.i64_in _ ⟨by omega, by omega⟩
            have hcs2 : cntA b (k - 1) = 1 + cntA b k := by simpa using hcs
            have HC := Lib.hid hcs2
            have hw3 : IntKind.i64.wrap ((cntA b k : Int) + 1) = ((cntA b (k - 1) : Nat) : Int) := by
              rw [IntWalk.i64_in _ ⟨by omega, by omega⟩]; omega
            clear hcs hbk hb hx hy hcs2
            go_wp2_with (first
              | ((with_reducible go_at_call 10); (with_reducible refine HX.out.mono ?_); rintro e w3 ⟨rfl, p3⟩; have b3 := p3.below b2 b2.size hgm)
              | ((with_reducible go_at_call 10); (with_reducible refine (HY.out _ p3.st).mono ?_); rintro e w4 ⟨rfl, p4⟩; have b4 := p4.below b3 b3.size hgm))
            go_roundw
            case rel => exact ⟨k - 1, by omega, rfl, rfl, p4.st, b4⟩
            case measure => simp [intOf]; omega
        · obtain rfl : k = 0 := by omega
          rw [once_three b c] at s2
          have hcl := cntA_le b 0
          rw [show ((0 : Nat) : Int) = 0 from rfl]
          go_wp2
          go_loopw [9, 10] (fun l q wr => ∃ (last j : Nat), last ≤ 9 ∧ l = .int .i64 last ∧ q = .int .i64 j ∧ Hid (j + cntA b last = cntA b 0) ∧ PS wr g gm (st3 b c last) ∧ Below w.heap.size w wr) (fun _ q _ => cntA b 0 - (intOf q).toNat)
          case atStart => exact ⟨0, 0, by omega, rfl, rfl, Lib.hid (by omega), s2, b2⟩
          case round =>
            clear s2 b2
            obtain ⟨last, j, hl, rfl, rfl, HJ, s2, b2⟩ := hrel
            have hjj := HJ.out
            by_cases hjn : j < cntA b 0
            · obtain ⟨z, z1, z2, z3, z4, z5⟩ := cntA_next b (9 - last) last rfl hl (by omega)
              have hx := A5.out last g gm _ s2 (by have := fam_len (s := fun j => decide (j = 0) || !b j || decide (last < j)) (f := twoF b c 0); unfold st3; omega)
              rw [(once_child (c := c) z1 z2 z3 z4).1, (once_child (c := c) z1 z2 z3 z4).2] at hx
              have HX := Lib.hid hx
              have hbt := HBT.out z
              have hbk : b z = m.testBit z := by rw [HB.out]
              rw [← hbk, z3] at hbt
              have HJ2 := Lib.hid (show j + 1 + cntA b z = cntA b 0 by omega)
              have z1' : ¬ (z : Int) ≤ (last : Int) := by omega
              have hw2 : IntKind.i64.wrap (c + (z : Int)) = c + (z : Int) := IntWalk.i64_in _ ⟨by omega, by omega⟩
              have j1' : (j : Int) < ((cntA b 0 : Nat) : Int) := by omega
              have te : ((c + (z : Int)) != (c + (z : Int))) = false := by simp
              clear hx z3 z4 z5 hbk hjj
              go_wp2_with ((with_reducible go_at_call 11); (with_reducible refine HX.out.mono ?_); rintro e w3 ⟨rfl, p3⟩)
              go_roundw
              case rel => exact ⟨z, j + 1, by omega, rfl, by go_num, HJ2, p3.st, p3.below b2 b2.size hgm⟩
              case measure => simp [intOf]; omega
            · have h0 : cntA b last = 0 := by omega
              have hx := A5.out last g gm _ s2 (by have := fam_len (s := fun j => decide (j = 0) || !b j || decide (last < j)) (f := twoF b c 0); unfold st3; omega)
              rw [(once_end (c := c) hl h0).1, (once_end (c := c) hl h0).2] at hx
              have hy := fun w1 (h : PS w1 g gm (st3 b c last)) => A6.out last g gm w1 h (by have := fam_len (s := fun j => decide (j = 0) || !b j || decide (last < j)) (f := twoF b c 0); unfold st3; omega)
              rw [once_kids (c := c) hl h0] at hy
              generalize hn : cntA b 0 = n at *
              have HY := Lib.hid hy
              have hw2 : IntKind.i64.wrap (9 - (n : Int)) = ((9 - n : Nat) : Int) := by
                rw [IntWalk.i64_in _ ⟨by omega, by omega⟩]; omega
              have te : (((9 - n : Nat) : Int) == ((9 - n : Nat) : Int)) = true := by simp
              have j1' : ¬ (j : Int) < (n : Int) := by omega
              clear hy hn h0 hjj HJ
              by_cases h9 : n = 9
              · have t9 : ((n : Int) == 9) = true := by simp [h9]
                rw [if_pos h9] at hx
                have HX := Lib.hid hx
                clear hx h9
                go_wp2_with (first
                  | ((with_reducible go_at_call 11); (with_reducible refine HX.out.mono ?_); rintro e w3 ⟨rfl, p3⟩; have b3 := p3.below b2 b2.size hgm)
                  | ((with_reducible go_at_call 12); (with_reducible refine (HY.out _ p3.st).mono ?_); rintro e w4 ⟨S, c', rfl, _, b4⟩)
                  | ((with_reducible go_at_call 13); (with_reducible refine (HAW.out _).mono ?_); rintro e w5 ⟨rfl, b5⟩))
                go_ret
                exact ⟨rfl, Below.trans b3 (Below.mono (Ext.trans b4 b5) b3.size)⟩
              · have t9 : ((n : Int) == 9) = false := by simp; omega
                rw [if_neg h9] at hx
                have HX := Lib.hid hx
                clear hx h9
                go_wp2_with (first
                  | ((with_reducible go_at_call 11); (with_reducible refine HX.out.mono ?_); rintro e w3 ⟨rfl, p3⟩; have b3 := p3.below b2 b2.size hgm)
                  | ((with_reducible go_at_call 12); (with_reducible refine (HY.out _ p3.st).mono ?_); rintro e w4 ⟨S, c', rfl, _, b4⟩)
                  | ((with_reducible go_at_call 13); (with_reducible refine (HAW.out _).mono ?_); rintro e w5 ⟨rfl, b5⟩))
                go_ret
                exact ⟨rfl, Below.trans b3 (Below.mono (Ext.trans b4 b5) b3.size)⟩

end Go.Proofs.Ytdgggdhligfnpaa
