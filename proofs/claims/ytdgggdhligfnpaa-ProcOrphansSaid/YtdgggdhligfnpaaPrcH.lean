/-
  THE STATEMENT ProcOrphans: the plain laws, the walk.
-/
import Derived.Test.YtdgggdhligfnpaaPrcG
namespace Go.Proofs.Ytdgggdhligfnpaa
open Go.ChangeShapes Go.WideShapes Go.ChangeAt Go.RowKit Go.Maps
attribute [local go_sem] depUpon Sp.ok

section
variable {s : Nat → Bool} {f : Nat → PR}
theorem fam_exitM (hf : Num f) {i : Nat} (hi : i < 10) (h : s i = true) (hp : (f i).par = -1) (code : Int) : exitM (fam s f) (i : Int) code = fam (fun j => s j && !decide (j = i)) f := by
  have hop : oPar (pget (fam s f) (i : Int)) = (f i).par := by rw [fam_get hf hi h]; rfl
  unfold exitM
  simp only [hop]
  have hf2 : Num (fun j => if j = i then (⟨(i : Int), (f i).par, code, true⟩ : PR) else f j) := fun j => by
    by_cases e : j = i
    · simp only [e, if_true]
    · simp only [e, if_false]; exact hf j
  rw [fam_put hf hi ⟨i, (f i).par, code, true⟩ rfl, if_pos hp, fam_leave hf2 hi (by simp)]
  refine fam_congr (fun j _ => ?_) (fun j _ hj => ?_)
  · by_cases e : j = i
    · subst e; simp
    · simp [e]
  · by_cases e : j = i
    · subst e; simp at hj
    · simp [e]
end
theorem leaves_cons (L : List PR) (k : Int) (ks : List Int) : leaves L (k :: ks) = leaves (leaveL L k) ks := rfl
theorem fam_leaves : ∀ (ks : List Nat) (s : Nat → Bool) (f : Nat → PR), Num f → ks.Nodup → (∀ j ∈ ks, j < 10 ∧ s j = true) →
    leaves (fam s f) (ks.map fun j : Nat => (j : Int)) = fam (fun j => s j && !(decide (j ∈ ks) && (f j).dead)) (fun j => if j ∈ ks then ⟨j, -1, (f j).code, (f j).dead⟩ else f j)
  | [], s, f, _, _, _ => by
    show fam s f = _
    exact fam_congr (fun j _ => by simp) (fun j _ _ => by simp)
  | k :: ks, s, f, hf, hn, hk => by
    obtain ⟨hn1, hn2⟩ := List.nodup_cons.1 hn
    obtain ⟨hk1, hk2⟩ := hk k (by simp)
    rw [List.map_cons, leaves_cons, fam_leave hf hk1 hk2]
    have hf2 : Num (fun j => if j = k then (⟨(k : Int), -1, (f k).code, (f k).dead⟩ : PR) else f j) := fun j => by
      by_cases e : j = k
      · simp only [e, if_true]
      · simp only [e, if_false]; exact hf j
    rw [fam_leaves ks _ _ hf2 hn2 (fun j hj => by
      have hne : j ≠ k := fun e => hn1 (by rw [← e]; exact hj)
      obtain ⟨h1, h2⟩ := hk j (by simp [hj])
      exact ⟨h1, by simp [h2, hne]⟩)]
    refine fam_congr (fun j _ => ?_) (fun j _ _ => ?_)
    · by_cases e : j = k
      · subst e; simp [hn1]
      · simp [e]
    · by_cases e : j = k
      · subst e; simp [hn1]
      · simp [e]

def orF (b : Nat → Bool) (j : Nat) : PR := if j = 0 then rt else if b j = true then ⟨j, 0, j, true⟩ else ⟨j, 0, 0, false⟩
theorem orF_num (b : Nat → Bool) : Num (orF b) := fun j => by
  unfold orF
  by_cases e : j = 0
  · rw [if_pos e, e]; rfl
  · rw [if_neg e]
    split <;> rfl
theorem orF_par {b : Nat → Bool} {j : Nat} (h : 1 ≤ j) : (orF b j).par = 0 := by
  unfold orF
  rw [if_neg (by omega)]
  split <;> rfl
theorem orF_dead {b : Nat → Bool} {j : Nat} (h : 1 ≤ j) : (orF b j).dead = b j := by
  unfold orF
  rw [if_neg (by omega)]
  cases hb : b j
  · rfl
  · rfl
/-- The first process and its children below k: those that b names have ended. -/
def or1 (b : Nat → Bool) (k : Nat) : List PR := fam (fun j => decide (j < k)) (orF b)
/-- Orphans. -/
def orG (j : Nat) : PR := ⟨j, -1, 0, false⟩
def or2 (b : Nat → Bool) : List PR := fam (fun j => decide (1 ≤ j) && !b j) orG
def or3 (b : Nat → Bool) (k : Nat) : List PR := fam (fun j => (decide (1 ≤ j) && !b j) && !decide (j = k)) orG
/-- The state in which k has just begun. -/
def or4 (b : Nat → Bool) (k : Nat) : List PR := fam (fun j => decide (j < k + 1)) (fun j => if j = k then ⟨k, 0, 0, false⟩ else orF b j)
theorem orG_num : Num orG := fun _ => rfl
theorem or_root (b : Nat → Bool) : startE [] 0 (-1) = 0 ∧ startL [] 0 (-1) = or1 b 1 := ⟨rfl, rfl⟩
theorem or_start {b : Nat → Bool} {k : Nat} (k1 : 1 ≤ k) (k9 : k ≤ 9) : startE (or1 b k) (k : Int) 0 = 0 ∧ startL (or1 b k) (k : Int) 0 = or4 b k := by
  have hal : aliveB (or1 b k) 0 = true := by
    have := fam_alive (s := fun j => decide (j < k)) (orF_num b) (i := 0) (by omega)
    exact this.trans (by simp [orF, rt]; omega)
  obtain ⟨h1, h2⟩ := fam_start (s := fun j => decide (j < k)) (orF_num b) (i := k) (by omega) (by simp) 0 (.inr hal)
  refine ⟨h1, h2.trans ?_⟩
  refine fam_congr (fun j _ => ?_) (fun j _ _ => rfl)
  rw [Bool.eq_iff_iff]; simp; omega
theorem or4_num (b : Nat → Bool) (k : Nat) : Num (fun j => if j = k then (⟨k, 0, 0, false⟩ : PR) else orF b j) := fun j => by
  by_cases e : j = k
  · simp only [e, if_true]
  · simp only [e, if_false]; exact orF_num b j
theorem or_skip {b : Nat → Bool} {k : Nat} (k1 : 1 ≤ k) (hb : b k = false) : or4 b k = or1 b (k + 1) := by
  refine fam_congr (fun j _ => rfl) (fun j _ _ => ?_)
  by_cases e : j = k
  · subst e; rw [if_pos rfl]; unfold orF; rw [if_neg (by omega), hb]; rfl
  · rw [if_neg e]
theorem or_exit {b : Nat → Bool} {k : Nat} (k1 : 1 ≤ k) (k9 : k ≤ 9) (hb : b k = true) : exitE (or4 b k) (k : Int) (k : Int) = 0 ∧ exitL (or4 b k) (k : Int) (k : Int) = or1 b (k + 1) := by
  obtain ⟨h1, h2⟩ := fam_exit (s := fun j => decide (j < k + 1)) (or4_num b k) (i := k) (by omega) (by simp) (by simp) (fun j _ _ => by
    by_cases e : j = k
    · simp only [e, if_true]; omega
    · simp only [e, if_false]
      by_cases e0 : j = 0
      · subst e0; show (-1 : Int) ≠ k; omega
      · rw [orF_par (by omega)]; omega) (code := (k : Int)) (by omega) (by omega)
  refine ⟨h1, h2.trans ?_⟩
  simp only [if_true]
  rw [if_neg (by omega)]
  refine fam_congr (fun j _ => rfl) (fun j _ _ => ?_)
  by_cases e : j = k
  · subst e; rw [if_pos rfl]; unfold orF; rw [if_neg (by omega), if_pos hb]
  · rw [if_neg e, if_neg e]
theorem or_end (b : Nat → Bool) : exitE (or1 b 10) 0 1 = 0 ∧ exitL (or1 b 10) 0 1 = or2 b := by
  have hal : aliveB (or1 b 10) 0 = true := by
    have := fam_alive (s := fun j => decide (j < 10)) (orF_num b) (i := 0) (by omega)
    exact this.trans (by simp [orF, rt])
  have e : exitE (or1 b 10) 0 1 = 0 := by
    unfold exitE
    rw [if_neg (by rw [hal]; simp), if_neg (by omega)]
  refine ⟨e, ?_⟩
  unfold exitL
  rw [if_pos e]
  have hk : kidsA (or1 b 10) 0 = ((List.range' 1 9).map fun j : Nat => (j : Int)) := by
    unfold kidsA
    rw [if_pos hal]
    have hkk := fam_kids (s := fun j => decide (j < 10)) (orF_num b) 0
    refine hkk.trans ?_
    congr 1
    rw [show List.range 10 = 0 :: List.range' 1 9 from rfl, List.filter_cons_of_neg (by simp [orF, rt])]
    rw [List.filter_eq_self.2]
    intro j hj
    rw [List.mem_range'_1] at hj
    rw [orF_par (by omega)]
    simp; omega
  rw [hk, show or1 b 10 = fam (fun j => decide (j < 10)) (orF b) from rfl, fam_leaves (List.range' 1 9) _ _ (orF_num b) (List.nodup_range') (fun j hj => by
    rw [List.mem_range'_1] at hj
    exact ⟨by omega, by simp; omega⟩)]
  have hnum : Num (fun j => if j ∈ List.range' 1 9 then (⟨j, -1, (orF b j).code, (orF b j).dead⟩ : PR) else orF b j) := fun j => by
    by_cases e : j ∈ List.range' 1 9
    · simp only [e, if_true]
    · simp only [e, if_false]; exact orF_num b j
  have hx := fam_exitM (s := fun j => decide (j < 10) && !(decide (j ∈ List.range' 1 9) && (orF b j).dead)) hnum (i := 0) (by omega) (by simp) (by simp [orF, rt]) 1
  refine hx.trans ?_
  refine fam_congr (fun j hj => ?_) (fun j hj hs => ?_)
  · by_cases e0 : j = 0
    · subst e0; simp
    · have : j ∈ List.range' 1 9 := by rw [List.mem_range'_1]; omega
      rw [orF_dead (by omega)]
      simp [this, e0, hj]; omega
  · by_cases e0 : j = 0
    · subst e0; simp at hs
    · have hm : j ∈ List.range' 1 9 := by rw [List.mem_range'_1]; omega
      have hd : b j = false := by
        rw [orF_dead (by omega)] at hs
        simp [hm] at hs
        exact hs.1.2
      rw [if_pos hm]
      unfold orF orG
      rw [if_neg e0, hd]; rfl
theorem or_gone (b : Nat → Bool) : aliveB (or2 b) 0 = false := by
  have := fam_alive (s := fun j => decide (1 ≤ j) && !b j) orG_num (i := 0) (by omega)
  exact this.trans rfl
theorem or_parent {b : Nat → Bool} {k : Nat} (k1 : 1 ≤ k) (k9 : k ≤ 9) : oPar (pget (or2 b) (k : Int)) = (if b k = true then 0 else -1) ∧ (pget (or2 b) (k : Int)).isSome = !b k := by
  cases hb : b k
  · have := fam_get (s := fun j => decide (1 ≤ j) && !b j) orG_num (i := k) (by omega) (by simp [hb]; omega)
    rw [show pget (or2 b) (k : Int) = _ from this]
    exact ⟨rfl, rfl⟩
  · have := fam_none (s := fun j => decide (1 ≤ j) && !b j) orG_num (i := k) (by simp [hb])
    rw [show pget (or2 b) (k : Int) = _ from this]
    exact ⟨rfl, rfl⟩
theorem or_away {b : Nat → Bool} {k : Nat} (k1 : 1 ≤ k) (k9 : k ≤ 9) (hb : b k = false) : exitE (or2 b) (k : Int) 0 = 0 ∧ exitL (or2 b) (k : Int) 0 = or3 b k := by
  obtain ⟨h1, h2⟩ := fam_exit (s := fun j => decide (1 ≤ j) && !b j) orG_num (i := k) (by omega) (by simp [hb]; omega) rfl (fun j _ _ => by show (-1 : Int) ≠ k; omega) (code := 0) (by omega) (by omega)
  refine ⟨h1, h2.trans ?_⟩
  rw [if_pos (show (orG k).par = -1 from rfl)]; rfl
theorem or_anew {b : Nat → Bool} {k : Nat} (k1 : 1 ≤ k) (k9 : k ≤ 9) (hb : b k = false) : startE (or3 b k) (k : Int) (-1) = 0 ∧ startL (or3 b k) (k : Int) (-1) = or2 b := by
  obtain ⟨h1, h2⟩ := fam_start (s := fun j => (decide (1 ≤ j) && !b j) && !decide (j = k)) orG_num (i := k) (by omega) (by simp) (-1) (.inl rfl)
  refine ⟨h1, h2.trans ?_⟩
  refine fam_congr (fun j _ => ?_) (fun j _ _ => ?_)
  · by_cases e : j = k
    · subst e; simp [hb]; omega
    · simp [e]
  · by_cases e : j = k
    · subst e; rw [if_pos rfl]; rfl
    · rw [if_neg e]
theorem or_last (b : Nat → Bool) : startE (or2 b) 0 (-1) = 0 := by
  obtain ⟨h1, _⟩ := fam_start (s := fun j => decide (1 ≤ j) && !b j) orG_num (i := 0) (by omega) (by simp) (-1) (.inl rfl)
  exact h1

set_option maxRecDepth 100000 in
set_option maxHeartbeats 8000000 in
theorem law_procorphans (m : Nat) (w : World) (hm : m < 65536) :
    Calls Try.prog 6 #[.int .u16 (m : Int)] w fun e w' => e = .returned (.bool true) ∧ Below w.heap.size w w' := by
  have HAW := Lib.hid (fun w => prc_awake w)
  have HN := Lib.hid (p_new w)
  have HBT := Lib.hid (fun k => u16_bit m k hm)
  obtain ⟨b, hb⟩ : ∃ b : Nat → Bool, b = fun k => m.testBit k := ⟨_, rfl⟩
  have HB := Lib.hid hb
  have A1 := Lib.hid (fun g gm w1 (h : PS w1 g gm []) => p_start g gm [] 0 (-1) w1 h ⟨by omega, by omega⟩ ⟨by omega, by omega⟩ (by simp))
  rw [(or_root b).1, (or_root b).2] at A1
  clear hb
  have A2 := Lib.hid (fun k g gm w1 (h : PS w1 g gm (or1 b k)) => p_start g gm (or1 b k) (k : Int) 0 w1 h)
  have A3 := Lib.hid (fun k g gm w1 (h : PS w1 g gm (or4 b k)) => p_exit g gm (or4 b k) (k : Int) (k : Int) w1 h)
  have A4 := Lib.hid (fun g gm w1 (h : PS w1 g gm (or1 b 10)) => p_exit g gm (or1 b 10) 0 1 w1 h ⟨by omega, by omega⟩ (by have := fam_len (s := fun j => decide (j < 10)) (f := orF b); unfold or1; omega))
  rw [(or_end b).1, (or_end b).2] at A4
  have A5 := Lib.hid (fun g gm w1 (h : PS w1 g gm (or2 b)) => p_alive g gm (or2 b) 0 w1 h ⟨by omega, by omega⟩)
  rw [or_gone b] at A5
  have A6 := Lib.hid (fun (k : Nat) g gm w1 (h : PS w1 g gm (or2 b)) => p_parent g gm (or2 b) (k : Int) w1 h)
  have A7 := Lib.hid (fun (k : Nat) g gm w1 (h : PS w1 g gm (or2 b)) (hk : I64 k) => p_exit g gm (or2 b) (k : Int) 0 w1 h hk (by have := fam_len (s := fun j => decide (1 ≤ j) && !b j) (f := orG); unfold or2; omega))
  have A8 := Lib.hid (fun (k : Nat) g gm w1 (h : PS w1 g gm (or3 b k)) (hk : I64 k) => p_start g gm (or3 b k) (k : Int) (-1) w1 h hk ⟨by omega, by omega⟩ (by have := fam_len (s := fun j => (decide (1 ≤ j) && !b j) && !decide (j = k)) (f := orG); unfold or3; omega))
  have A9 := Lib.hid (fun g gm w1 (h : PS w1 g gm (or2 b)) => p_start g gm (or2 b) 0 (-1) w1 h ⟨by omega, by omega⟩ ⟨by omega, by omega⟩ (by have := fam_len (s := fun j => decide (1 ≤ j) && !b j) (f := orG); unfold or2; omega))
  rw [or_last b] at A9
  go_enter Try.func6, Try.ntmps6
  go_wp2_with fail
  refine HN.out.mono ?_
  rintro e w1 ⟨g, gm, rfl, s1, b1, hg, hgm⟩
  go_wp2_with ((with_reducible go_at_call 8); (with_reducible refine (A1.out _ _ _ s1).mono ?_); rintro e w2 ⟨rfl, p2⟩; have b2 := p2.below b1 b1.size hgm)
  have s2 := p2.st
  clear p2 b1 s1 A1 HN
  go_loopw [4] (fun q wr => ∃ k : Nat, 1 ≤ k ∧ k ≤ 10 ∧ q = .int .i64 k ∧ PS wr g gm (or1 b k) ∧ Below w.heap.size w wr) (fun q _ => 10 - (intOf q).toNat)
  case atStart => exact ⟨1, by omega, by omega, rfl, s2, b2⟩
  case round =>
    clear s2 b2
    obtain ⟨k, hk1, hk, rfl, s2, b2⟩ := hrel
    by_cases hk9 : k ≤ 9
    · have hst := A2.out k g gm _ s2 ⟨by omega, by omega⟩ ⟨by omega, by omega⟩ (by have := fam_len (s := fun j => decide (j < k)) (f := orF b); unfold or1; omega)
      rw [(or_start hk1 hk9).1, (or_start hk1 hk9).2] at hst
      have HST := Lib.hid hst
      have hx := fun w1 (h : PS w1 g gm (or4 b k)) => A3.out k g gm w1 h ⟨by omega, by omega⟩ (by have := fam_len (s := fun j => decide (j < k + 1)) (f := fun j => if j = k then (⟨k, 0, 0, false⟩ : PR) else orF b j); unfold or4; omega)
      have k1' : (k : Int) ≤ 9 := by omega
      have hbt := HBT.out k
      have hbk : b k = m.testBit k := by rw [HB.out]
      rw [← hbk] at hbt
      clear hst hbk
      cases hb : b k
      · rw [hb] at hbt
        have hsk := or_skip hk1 hb
        clear hb hx
        go_wp2_with ((with_reducible go_at_call 8); (with_reducible refine HST.out.mono ?_); rintro e w3 ⟨rfl, p3⟩)
        go_roundw
        case rel => exact ⟨k + 1, by omega, by omega, by go_num, by rw [← hsk]; exact p3.st, p3.below b2 b2.size hgm⟩
        case measure => simp [intOf]; omega
      · rw [hb] at hbt
        rw [(or_exit hk1 hk9 hb).1, (or_exit hk1 hk9 hb).2] at hx
        have HX := Lib.hid hx
        clear hb hx
        go_wp2_with (first
          | ((with_reducible go_at_call 8); (with_reducible refine HST.out.mono ?_); rintro e w3 ⟨rfl, p3⟩; have b3 := p3.below b2 b2.size hgm)
          | ((with_reducible go_at_call 10); (with_reducible refine (HX.out _ p3.st).mono ?_); rintro e w4 ⟨rfl, p4⟩))
        go_roundw
        case rel => exact ⟨k + 1, by omega, by omega, by go_num, p4.st, p4.below b3 b3.size hgm⟩
        case measure => simp [intOf]; omega
    · obtain rfl : k = 10 := by omega
      rw [show ((10 : Nat) : Int) = 10 from rfl]
      go_wp2_with (first
        | ((with_reducible go_at_call 10); (with_reducible refine (A4.out _ _ _ s2).mono ?_); rintro e w3 ⟨rfl, p3⟩; have b3 := p3.below b2 b2.size hgm)
        | ((with_reducible go_at_call 20); (with_reducible refine (A5.out _ _ _ p3.st).mono ?_); rintro e w4 ⟨rfl, b4⟩))
      have s4 := p3.st.keep b4
      have b5 : Below w.heap.size w w4 := Below.trans b3 (Below.mono b4 b3.size)
      clear p3 b3 b4 s2 b2 A2 A3 A4 A5
      go_loopw [5] (fun q wr => ∃ k : Nat, 1 ≤ k ∧ k ≤ 10 ∧ q = .int .i64 k ∧ PS wr g gm (or2 b) ∧ Below w.heap.size w wr) (fun q _ => 10 - (intOf q).toNat)
      case atStart => exact ⟨1, by omega, by omega, rfl, s4, b5⟩
      case round =>
        clear s4 b5
        obtain ⟨k, hk1, hk, rfl, s2, b2⟩ := hrel
        by_cases hk9 : k ≤ 9
        · have hpa := A6.out k g gm _ s2 ⟨by omega, by omega⟩
          rw [(or_parent (b := b) hk1 hk9).1, (or_parent (b := b) hk1 hk9).2] at hpa
          have hx := fun w1 (h : PS w1 g gm (or2 b)) => A7.out k g gm w1 h ⟨by omega, by omega⟩
          have hy := fun w1 (h : PS w1 g gm (or3 b k)) => A8.out k g gm w1 h ⟨by omega, by omega⟩
          have k1' : (k : Int) ≤ 9 := by omega
          have hbt := HBT.out k
          have hbk : b k = m.testBit k := by rw [HB.out]
          rw [← hbk] at hbt
          clear hbk
          cases hb : b k
          · rw [hb] at hbt hpa
            rw [(or_away hk1 hk9 hb).1, (or_away hk1 hk9 hb).2] at hx
            rw [(or_anew hk1 hk9 hb).1, (or_anew hk1 hk9 hb).2] at hy
            have HPA := Lib.hid hpa
            have HX := Lib.hid hx
            have HY := Lib.hid hy
            clear hb hpa hx hy
            go_wp2_with (first
              | ((with_reducible go_at_call 18); (refine HPA.out.mono ?_); rintro e w3 ⟨rfl, b3⟩; have s3 := s2.keep b3; have b3' : Below w.heap.size w w3 := Below.trans b2 (Below.mono b3 b2.size))
              | ((with_reducible go_at_call 10); (with_reducible refine (HX.out _ s3).mono ?_); rintro e w4 ⟨rfl, p4⟩; have b4 := p4.below b3' b3'.size hgm)
              | ((with_reducible go_at_call 8); (with_reducible refine (HY.out _ p4.st).mono ?_); rintro e w5 ⟨rfl, p5⟩))
            go_roundw
            case rel => exact ⟨k + 1, by omega, by omega, by go_num, p5.st, p5.below b4 b4.size hgm⟩
            case measure => simp [intOf]; omega
          · rw [hb] at hbt hpa
            have HPA := Lib.hid hpa
            clear hb hpa hx hy
            go_wp2_with ((with_reducible go_at_call 18); (refine HPA.out.mono ?_); rintro e w3 ⟨rfl, b3⟩; have s3 := s2.keep b3; have b3' : Below w.heap.size w w3 := Below.trans b2 (Below.mono b3 b2.size))
            go_roundw
            case rel => exact ⟨k + 1, by omega, by omega, by go_num, s3, b3'⟩
            case measure => simp [intOf]; omega
        · obtain rfl : k = 10 := by omega
          rw [show ((10 : Nat) : Int) = 10 from rfl]
          go_wp2_with (first
            | ((with_reducible go_at_call 8); (with_reducible refine (A9.out _ _ _ s2).mono ?_); rintro e w3 ⟨rfl, p3⟩; have b3 := p3.below b2 b2.size hgm)
            | ((with_reducible go_at_call 13); (with_reducible refine (HAW.out _).mono ?_); rintro e w5 ⟨rfl, b5⟩))
          go_ret
          exact ⟨rfl, Below.trans b3 (Below.mono b5 b3.size)⟩

end Go.Proofs.Ytdgggdhligfnpaa
