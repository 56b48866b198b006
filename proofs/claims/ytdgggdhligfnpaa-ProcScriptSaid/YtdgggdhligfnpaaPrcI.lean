/-
  WALKS of chapter 25's reference: at, Alive, Parent, Children.
-/
import Derived.Test.YtdgggdhligfnpaaPrcD
import Derived.Test.YtdgggdhligfnpaaOpn
namespace Go.Proofs.Ytdgggdhligfnpaa
open Go.RowKit Go.Maps
attribute [local go_sem] depUpon Sp.ok

theorem flat_at {w : World} {A : Option Addr} {α : Type} {f : α → List Value} {L : List α} {k : Nat} (h : Rd w A (flat (L.map f))) (hk : ∀ x ∈ L, (f x).length = k) (hpos : 0 < k) {i : Nat} (hi : i < L.length) :
    ∃ b off, A = some ⟨b, off, none⟩ ∧ ∀ j v, (f L[i])[j]? = some v → w.cell? ⟨b, off + i * k + j, none⟩ = some v := by
  obtain ⟨b, off, rfl, he⟩ := h.elem (k := k) (i := i) (fun x hx => by simp only [List.mem_map] at hx; obtain ⟨y, hy, rfl⟩ := hx; exact hk y hy) hpos (by simpa using hi)
  exact ⟨b, off, rfl, fun j v hv => he j v (by simpa using hv)⟩

/-- A process of the reference. -/
def rcs (x : PR) : List Value := [.int .i64 x.pid, .int .i64 x.par, .int .i64 x.code, .bool x.dead]
def rcells (L : List PR) : List Value := flat (L.map rcs)
theorem rcells_app (L M : List PR) : rcells (L ++ M) = rcells L ++ rcells M := by simp [rcells, flat]
theorem rcells_one (x : PR) : rcells [x] = rcs x := by simp [rcells, flat]
theorem rcells_len (L : List PR) : (rcells L).length = L.length * 4 := by
  unfold rcells
  rw [flat_len (k := 4) _ (fun x hx => by simp only [List.mem_map] at hx; obtain ⟨y, _, rfl⟩ := hx; rfl), List.length_map]
theorem rcells_flat (L : List PR) : ∀ u ∈ rcells L, u.oneCell' = true := by
  intro u hu
  simp only [rcells, flat, List.mem_flatMap, List.mem_map, id] at hu
  obtain ⟨x, ⟨y, _, rfl⟩, hu⟩ := hu
  simp only [rcs, List.mem_cons, List.not_mem_nil, or_false] at hu
  rcases hu with rfl | rfl | rfl | rfl <;> rfl
/-- The reference's processes are L: in block gr, all from block B on. -/
structure RS (w : World) (B gr : Nat) (A : Option Addr) (n c : Nat) (L : List PR) : Prop where
  own : Own w gr 38 [.slice A n c]
  row : Row w B 67 4 A n c (rcells L)
theorem RS.keep {w w' : World} {B gr : Nat} {A : Option Addr} {n c : Nat} {L : List PR} (h : RS w B gr A n c L) (hb : Ext w w') : RS w' B gr A n c L := ⟨h.own.keep hb, h.row.keep hb⟩
theorem RS.len {w : World} {B gr : Nat} {A : Option Addr} {n c : Nat} {L : List PR} (h : RS w B gr A n c L) : L.length = n := by
  have := h.row.len
  rw [rcells_len] at this; omega
theorem RS.cell {w : World} {B gr : Nat} {A : Option Addr} {n c : Nat} {L : List PR} (h : RS w B gr A n c L) : w.cell? ⟨gr, 0, none⟩ = some (.slice A n c) := h.own.cell 0
theorem RS.at_ {w : World} {B gr : Nat} {A : Option Addr} {n c : Nat} {L : List PR} (h : RS w B gr A n c L) {i : Nat} (hi : i < L.length) :
    ∃ b off, A = some ⟨b, off, none⟩ ∧ ∀ j v, (rcs L[i])[j]? = some v → w.cell? ⟨b, off + i * 4 + j, none⟩ = some v := flat_at (k := 4) h.row.rd (fun _ _ => rfl) (by omega) hi

/-- Where a process stands; -1. -/
def atL (L : List PR) (k : Int) : Int := if L.findIdx (fun r => decide (r.pid = k)) < L.length then (L.findIdx (fun r => decide (r.pid = k)) : Nat) else -1
theorem atL_none {L : List PR} {k : Int} (h : ∀ r ∈ L, r.pid ≠ k) : atL L k = -1 := by
  unfold atL
  rw [if_neg]
  intro hl
  have := List.findIdx_getElem (w := hl)
  simp only [decide_eq_true_eq] at this
  exact h _ (List.getElem_mem _) this
theorem atL_some {L : List PR} {k : Int} {i : Nat} (hi : i < L.length) (h : ∀ r ∈ L.take i, r.pid ≠ k) (hk : L[i].pid = k) : atL L k = (i : Int) := by
  have e : L.findIdx (fun r => decide (r.pid = k)) = i := by
    refine (List.findIdx_eq hi).2 ⟨by simpa using hk, fun j hj => ?_⟩
    have := h L[j] (List.mem_take_iff_getElem.2 ⟨j, by omega, rfl⟩)
    simpa using this
  unfold atL
  rw [e, if_pos hi]
theorem atL_get {L : List PR} {k : Int} : (pget L k = none ∧ atL L k = -1) ∨ ∃ (i : Nat) (hi : i < L.length), pget L k = some L[i] ∧ atL L k = (i : Int) := by
  unfold pget atL
  by_cases h : L.findIdx (fun r => decide (r.pid = k)) < L.length
  · right
    refine ⟨_, h, ?_, by rw [if_pos h]⟩
    rw [List.find?_eq_getElem?_findIdx, List.getElem?_eq_getElem h]
  · left
    refine ⟨?_, by rw [if_neg h]⟩
    rw [List.find?_eq_getElem?_findIdx, List.getElem?_eq_none (by omega)]

set_option maxRecDepth 100000 in
set_option maxHeartbeats 1000000 in
theorem r_at (B gr : Nat) (A : Option Addr) (n c : Nat) (L : List PR) (k : Int) (w : World) (h : RS w B gr A n c L) (hn : n ≤ 65536) :
    Calls Try.prog 30 #[.pointer (some ⟨gr, 0, none⟩), .int .i64 k] w fun e w' => e = .returned (.int .i64 (atL L k)) ∧ w = w' := by
  have HL := h.len
  have HR := Lib.hid h
  have v0 := h.cell
  have HY := Lib.hid (fun i (hi : i < L.length) => @atL_some L k i hi)
  have HZ := Lib.hid (fun h => @atL_none L k h)
  generalize atL L k = z at *
  clear h
  go_enter Try.func30, Try.ntmps30
  go_wp2
  go_loop [5] (fun q => ∃ i : Nat, q = .int .i64 i ∧ i ≤ n ∧ ∀ r ∈ L.take i, r.pid ≠ k) (fun q => n - (intOf q).toNat)
  case atStart => exact ⟨0, rfl, by omega, by simp⟩
  case round =>
    obtain ⟨i, rfl, hi, hno⟩ := hrel
    by_cases hlt : i < n
    · have hil : i < L.length := by omega
      obtain ⟨b, off, rfl, he⟩ := HR.out.at_ hil
      have d0 := he 0 _ rfl
      simp only [Nat.add_zero] at d0
      have i0' : (0 : Int) ≤ (i : Int) := by omega
      have i1' : (i : Int) < (n : Int) := by omega
      have hy := HY.out i hil hno
      have hs : L[i].pid ≠ k → ∀ r ∈ L.take (i + 1), r.pid ≠ k := fun hx r hr => by
        rw [take_succ' L i hil, List.mem_append, List.mem_singleton] at hr
        rcases hr with hr | rfl
        · exact hno r hr
        · exact hx
      have HS := Lib.hid hs
      generalize L[i].pid = p at *
      clear he hno hs
      by_cases hp : p = k
      · have tp : (p == k) = true := by simp [hp]
        have HE := Lib.hid (hy hp)
        clear hy hp
        go_wp2
        go_ret
        exact ⟨by rw [HE.out]; rfl, rfl⟩
      · have tp : (p == k) = false := by simp [hp]
        have HE := Lib.hid (HS.out hp)
        clear hy hp
        go_wp2
        go_round
        case rel => exact ⟨i + 1, by go_num, by omega, HE.out⟩
        case measure => simp [intOf]; omega
    · have HE := Lib.hid (HZ.out (by rw [List.take_of_length_le (by omega)] at hno; exact hno))
      obtain rfl : i = n := by omega
      clear hno
      go_wp2
      go_ret
      exact ⟨by rw [HE.out]; rfl, rfl⟩

set_option maxRecDepth 100000 in
set_option maxHeartbeats 1000000 in
theorem r_alive (B gr : Nat) (A : Option Addr) (n c : Nat) (L : List PR) (k : Int) (w : World) (h : RS w B gr A n c L) (hn : n ≤ 65536) :
    Calls Try.prog 21 #[.pointer (some ⟨gr, 0, none⟩), .int .i64 k] w fun e w' => e = .returned (.bool (aliveB L k)) ∧ w = w' := by
  have HA := Lib.hid (r_at B gr A n c L k w h hn)
  have HL := h.len
  have v0 := h.cell
  rcases @atL_get L k with ⟨h1, h2⟩ | ⟨i, hi, h1, h2⟩
  · rw [h2] at HA
    have HE := Lib.hid (show aliveB L k = false by simp [aliveB, h1])
    clear h h1 h2
    go_enter Try.func21, Try.ntmps21
    go_wp2_with ((with_reducible go_at_call 30); (with_reducible refine (HA.out).mono ?_); rintro e w' ⟨rfl, rfl⟩)
    go_ret
    exact ⟨by rw [HE.out]; rfl, rfl⟩
  · rw [h2] at HA
    obtain ⟨b, off, rfl, he⟩ := h.at_ hi
    have d3 := he 3 _ rfl
    have i0' : (0 : Int) ≤ (i : Int) := by omega
    have i1' : (i : Int) < (n : Int) := by omega
    have HE := Lib.hid (show aliveB L k = !L[i].dead by simp [aliveB, h1, oDead])
    generalize L[i].dead = q at *
    clear h h1 h2 he
    go_enter Try.func21, Try.ntmps21
    go_wp2_with ((with_reducible go_at_call 30); (with_reducible refine (HA.out).mono ?_); rintro e w' ⟨rfl, rfl⟩)
    go_ret
    exact ⟨by rw [HE.out]; rfl, rfl⟩

set_option maxRecDepth 100000 in
set_option maxHeartbeats 1000000 in
theorem r_parent (B gr : Nat) (A : Option Addr) (n c : Nat) (L : List PR) (k : Int) (w : World) (h : RS w B gr A n c L) (hn : n ≤ 65536) :
    Calls Try.prog 19 #[.pointer (some ⟨gr, 0, none⟩), .int .i64 k] w fun e w' => e = .returned (.tuple #[.int .i64 (oPar (pget L k)), .bool (pget L k).isSome]) ∧ w = w' := by
  have HA := Lib.hid (r_at B gr A n c L k w h hn)
  have HL := h.len
  have v0 := h.cell
  rcases @atL_get L k with ⟨h1, h2⟩ | ⟨i, hi, h1, h2⟩
  · rw [h2] at HA
    have HE := Lib.hid h1
    clear h h1 h2
    go_enter Try.func19, Try.ntmps19
    go_wp2_with ((with_reducible go_at_call 30); (with_reducible refine (HA.out).mono ?_); rintro e w' ⟨rfl, rfl⟩)
    go_ret2
    exact ⟨by rw [HE.out]; rfl, rfl⟩
  · rw [h2] at HA
    obtain ⟨b, off, rfl, he⟩ := h.at_ hi
    have d1 := he 1 _ rfl
    have i0' : (0 : Int) ≤ (i : Int) := by omega
    have i1' : (i : Int) < (n : Int) := by omega
    have HE := Lib.hid (show oPar (pget L k) = L[i].par ∧ (pget L k).isSome = true by rw [h1]; exact ⟨rfl, rfl⟩)
    generalize L[i].par = q at *
    clear h h1 h2 he
    go_enter Try.func19, Try.ntmps19
    go_wp2_with ((with_reducible go_at_call 30); (with_reducible refine (HA.out).mono ?_); rintro e w' ⟨rfl, rfl⟩)
    go_ret2
    exact ⟨by rw [HE.out.1, HE.out.2]; rfl, rfl⟩

set_option maxRecDepth 100000 in
set_option maxHeartbeats 2000000 in
theorem r_children (B gr : Nat) (A : Option Addr) (n c : Nat) (L : List PR) (k : Int) (w : World) (h : RS w B gr A n c L) (hn : n ≤ 65536) :
    Calls Try.prog 23 #[.pointer (some ⟨gr, 0, none⟩), .int .i64 k] w fun e w' => ∃ S c', e = .returned (.slice S (kidsA L k).length c') ∧ Row w' w.heap.size 3 1 S (kidsA L k).length c' (ints (kidsA L k)) ∧ Below w.heap.size w w' := by
  have HA := Lib.hid (fun w' (h' : Ext w w') => r_alive B gr A n c L k w' (h.keep h') hn)
  have HL := h.len
  have HR := Lib.hid h
  obtain ⟨i0, hi, hz0, hz1, hz2⟩ := info_parts info_int
  have HI := Lib.hid hi
  cases hal : aliveB L k
  · rw [hal] at HA
    have HE := Lib.hid (show kidsA L k = [] by unfold kidsA; rw [hal]; rfl)
    have v0 := h.cell
    have n1' : n = 0 ∨ 0 < n := by omega
    clear h hal hi
    go_enter Try.func23, Try.ntmps23
    go_wp2
    go_loop [5, 6] (fun v q => v = .slice none 0 0 ∧ q = .int .i64 0) (fun _ _ => 0)
    case atStart => exact ⟨rfl, rfl⟩
    case round =>
      obtain ⟨rfl, rfl⟩ := hrel
      rcases n1' with rfl | hp
      · go_wp2
        go_ret
        exact ⟨none, 0, by rw [HE.out]; rfl, by rw [HE.out]; exact Row.nil _ _ _ _, Ext.refl _⟩
      · have hp' : (0 : Int) < (n : Int) := by omega
        clear hp
        go_wp2_with ((with_reducible go_at_call 21); (with_reducible refine (HA.out _ (Ext.refl _)).mono ?_); rintro e w' ⟨rfl, rfl⟩)
        go_ret
        exact ⟨none, 0, by rw [HE.out]; rfl, by rw [HE.out]; exact Row.nil _ _ _ _, Ext.refl _⟩
  · rw [hal] at HA
    have HE := Lib.hid (show kidsA L k = kids L k by unfold kidsA; rw [hal]; rfl)
    have HKL := Lib.hid (fun i => kids_len (L.take i) k)
    clear h hal hi
    go_enter Try.func23, Try.ntmps23
    go_wp2
    go_loopw [5, 6] (fun v q wr => ∃ (j : Nat) (R : Option Addr) (c1 : Nat), v = .slice R (kids (L.take j) k).length c1 ∧ q = .int .i64 j ∧ j ≤ n ∧ Row wr w.heap.size 3 1 R (kids (L.take j) k).length c1 (ints (kids (L.take j) k)) ∧ Ext w wr) (fun _ q _ => n - (intOf q).toNat)
    case atStart => exact ⟨0, none, 0, rfl, rfl, by omega, Row.nil _ _ _ _, Ext.refl _⟩
    case round =>
      obtain ⟨j, R, c1, rfl, rfl, hj, q1, q2⟩ := hrel
      by_cases hlt : j < n
      · have hjl : j < L.length := by omega
        obtain ⟨b, off, rfl, he⟩ := (HR.out.keep q2).at_ hjl
        have v0 := (HR.out.keep q2).cell
        have d0 := he 0 _ rfl
        have d1 := he 1 _ rfl
        simp only [Nat.add_zero] at d0
        have hsn := kids_snoc (L.take j) L[j] k
        rw [← take_succ' L j hjl] at hsn
        have hl0 := HKL.out j
        rw [List.length_take] at hl0
        have i0' : (0 : Int) ≤ (j : Int) := by omega
        have i1' : (j : Int) < (n : Int) := by omega
        generalize L[j].pid = yp at *
        generalize L[j].par = ya at *
        generalize hK1 : kids (L.take (j + 1)) k = K1 at *
        have HK1 := Lib.hid hK1
        generalize kids (L.take j) k = K0 at *
        clear hK1 he hjl
        by_cases hy : ya = k
        · rw [if_pos hy] at hsn
          subst hsn
          have ty : (ya == k) = true := by simp [hy]
          have HAP := Lib.hid (show ints K0 ++ ints [yp] = ints (K0 ++ [yp]) from ints_app' _ _)
          clear hy
          go_wp2_with (first
            | ((with_reducible go_at_call 21); (with_reducible refine (HA.out _ q2).mono ?_); rintro e w' ⟨rfl, rfl⟩)
            | (at_builtin; have r7 := (q1.alloc (.cells #[.int .i64 yp] 3)); refine wpl_append _ rfl (.tmp 31) (.tmp 40) 30 rfl 3 i0 _ 1 8 Try.underlying30 HI.out hz0 hz1 hz2 rfl (by omega) w.heap.size R K0.length c1 _ rfl r7 _ 1 1 (ints [yp]) rfl rfl (rd1i _ _) (ints_one _) (K0.length + 1) _ rfl HAP.out (by omega) (by omega) (by simp; have := q2.size; omega) ?_; intro A2 c2 w6 o6 g6 k6))
          have e6 := below_grown (Ext.trans q2 (Ext.alloc _ (.cells #[.int .i64 yp] 3))) g6 (by simp; have := q2.size; omega) (fun g' hg' => (q1.at_ g' hg').1)
          go_roundw
          case rel => exact ⟨j + 1, A2, c2, by rw [HK1.out]; simp, by go_num, by omega, by rw [HK1.out]; simpa using o6, e6⟩
          case measure => simp [intOf]; omega
        · rw [if_neg hy] at hsn
          subst hsn
          have ty : (ya == k) = false := by simp [hy]
          clear hy
          go_wp2_with ((with_reducible go_at_call 21); (with_reducible refine (HA.out _ q2).mono ?_); rintro e w' ⟨rfl, rfl⟩)
          go_roundw
          case rel => exact ⟨j + 1, R, c1, by rw [HK1.out], by go_num, by omega, by rw [HK1.out]; exact q1, q2⟩
          case measure => simp [intOf]; omega
      · obtain rfl : j = n := by omega
        have v0 := (HR.out.keep q2).cell
        rw [List.take_of_length_le (by omega)] at q1 ⊢
        go_wp2
        go_ret
        exact ⟨R, c1, by rw [HE.out]; rfl, by rw [HE.out]; exact q1, q2⟩

end Go.Proofs.Ytdgggdhligfnpaa
