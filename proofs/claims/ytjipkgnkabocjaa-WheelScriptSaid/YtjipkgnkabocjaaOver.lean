/-
  WALKS of what the statements share: what was answered is written over.
-/
import Derived.Test.YtjipkgnkabocjaaApp
import Derived.Test.YtjipkgnkabocjaaLend
import Derived.Test.YtjipkgnkabocjaaDep
namespace Go.Proofs.Ytjipkgnkabocjaa
open Go.RowKit

theorem Row.set1 {w : World} {base : Nat} {e : TypeId} {g n c : Nat} {xs : List Value} (h : Row w base e 1 (some ⟨g, 0, none⟩) n c xs) (k : Nat) (hk : k < n) (v : Value) :
    (∃ u, w.cell? ⟨g, k, none⟩ = some u) ∧ w.frozen? ⟨g, k, none⟩ = false ∧ Row (w.setCell ⟨g, k, none⟩ v) base e 1 (some ⟨g, 0, none⟩) n c (xs.set k v) := by
  have hlen := h.len
  rcases h.2 with ⟨h1, _⟩ | ⟨g', cap, cur, h1, hbg, hcur, hnc, hmax, hsz, htake⟩
  · cases h1
  · injection h1 with h1 h2 h3
    injection h1 with h1; injection h1 with h1
    subst h1; subst h3
    refine ⟨⟨cur[k]'(by omega), ?_⟩, frozen_of_row w g k cur e hcur, by simpa using hlen, .inr ⟨g, c, cur.setIfInBounds k v, rfl, hbg, ?_, hnc, hmax, by simpa using hsz, ?_⟩⟩
    · rw [cell_of_row w g k cur e (0, 0) hcur]; simp
    · simp [World.setCell, Array.getElem?_modify, hcur]
    · rw [← htake]; simp [List.take_set]

theorem Row.addr {w : World} {base : Nat} {e : TypeId} {n c size : Nat} {A : Option Addr} {xs : List Value} (h : Row w base e size A n c xs) (hn : 0 < n) : ∃ g, A = some ⟨g, 0, none⟩ := by
  rcases h.2 with ⟨_, h0⟩ | ⟨g', cap, cur, h1, _⟩
  · omega
  · injection h1 with h1; exact ⟨g', h1⟩

set_option maxRecDepth 100000 in
set_option maxHeartbeats 1000000 in
theorem over_ints2 (A : Option Addr) (n c B : Nat) (zs : List Int) (w : World) (hr : Row w B 3 1 A n c (ints zs)) (hB : B ≤ w.heap.size) (hn : n ≤ 65536) :
    Calls Try.prog 24 #[.slice A n c] w fun e w' => e = .returned (.tuple #[]) ∧ Below B w w' ∧ ∀ g t xs, blk A ≠ some g → Own w g t xs → Own w' g t xs := by
  obtain ⟨i0, hi, hz0, hz1, hz2⟩ := info_parts info_int
  have HI := Lib.hid hi
  clear hi
  go_enter Try.func24, Try.ntmps24
  go_wp2
  go_loopw [2] (fun i wr => ∃ (k : Nat) (ys : List Int), k ≤ n ∧ i = .int .i64 k ∧ Row wr B 3 1 A n c (ints ys) ∧ Below B w wr ∧ ∀ g t xs, blk A ≠ some g → Own w g t xs → Own wr g t xs) (fun i _ => n - (intOf i).toNat)
  case atStart => exact ⟨0, zs, by omega, rfl, hr, Below.refl _ _, fun _ _ _ _ h => h⟩
  case round =>
    obtain ⟨k, ys, hk, rfl, q1, q2, qK⟩ := hrel
    have QK := Lib.hid qK
    clear qK
    clear hr
    by_cases hlt : k < n
    · obtain ⟨g, rfl⟩ := q1.addr (by omega)
      obtain ⟨⟨u, hc⟩, hf, q3⟩ := q1.set1 k hlt (.int .i64 (-999))
      have hg := (q1.at_ g rfl).1
      have q4 : Row (wr.setCell ⟨g, k, none⟩ (.int .i64 (-999))) B 3 1 (some ⟨g, 0, none⟩) n c (ints (ys.set k (-999))) := by
        have : (ints ys).set k (.int .i64 (-999)) = ints (ys.set k (-999)) := by simp [ints, List.map_set]
        rw [← this]; exact q3
      have q5 := q2.setCell (p := ⟨g, k, none⟩) hg (.int .i64 (-999))
      clear q3
      go_wp2
      go_roundw
      case rel => exact ⟨k + 1, _, by omega, by go_num, q4, q5, fun g' t xs hg' h => (QK.out g' t xs hg' h).far (p := ⟨g, k, none⟩) (fun e => hg' (by rw [e]; rfl)) _⟩
      case measure => simp [intOf]; omega
    · have hs := q2.size
      go_wp2_with (at_builtin; have q7 := (q1.alloc (.cells #[.int .i64 (-999)] 3)); refine wpl_append _ rfl (.tmp 12) (.tmp 13) 22 rfl 3 i0 _ 1 8 Try.underlying22 HI.out hz0 hz1 hz2 rfl (by omega) B A n c _ rfl q7 _ 1 1 (ints [-999]) rfl rfl (Own.new wr 3 (ints [-999])).rd0 (ints_one _) (n + 1) _ rfl rfl (by omega) (by omega) (by simp; omega) ?_; intro A2 c2 w2 o2 g2 e2)
      have bC := Below.trans q2 (Below.mono (Ext.alloc wr (.cells #[.int .i64 (-999)] 3)) (Nat.le_trans hB hs))
      have b2 := below_grown bC g2 (by simp; omega) (fun g' hg' => (q7.at_ g' hg').1)
      exact bodyPost_end (results_none rfl _ _ _) rfl ⟨rfl, b2, fun g' t xs hg' h => ((QK.out g' t xs hg' h).alloc _).grown g2 (fun e => hg' e.symm)⟩
theorem over_ints (A : Option Addr) (n c B : Nat) (zs : List Int) (w : World) (hr : Row w B 3 1 A n c (ints zs)) (hB : B ≤ w.heap.size) (hn : n ≤ 65536) :
    Calls Try.prog 24 #[.slice A n c] w fun e w' => e = .returned (.tuple #[]) ∧ Below B w w' :=
  (over_ints2 A n c B zs w hr hB hn).mono fun _ _ ⟨h1, h2, _⟩ => ⟨h1, h2⟩

theorem Row.setAt {w : World} {base : Nat} {e : TypeId} {g n c size : Nat} {xs : List Value} (h : Row w base e size (some ⟨g, 0, none⟩) n c xs) (k : Nat) (hk : k < n * size) (v : Value) :
    w.cell? ⟨g, k, none⟩ = xs[k]? ∧ w.frozen? ⟨g, k, none⟩ = false ∧ Row (w.setCell ⟨g, k, none⟩ v) base e size (some ⟨g, 0, none⟩) n c (xs.set k v) := by
  have hlen := h.len
  rcases h.2 with ⟨h1, _⟩ | ⟨g', cap, cur, h1, hbg, hcur, hnc, hmax, hsz, htake⟩
  · cases h1
  · injection h1 with h1 h2 h3
    injection h1 with h1; injection h1 with h1
    subst h1; subst h3
    have hcs : n * size ≤ cur.size := by rw [hsz]; exact Nat.mul_le_mul_right _ hnc
    refine ⟨?_, frozen_of_row w g k cur e hcur, by simpa using hlen, .inr ⟨g, c, cur.setIfInBounds k v, rfl, hbg, ?_, hnc, hmax, by simpa using hsz, ?_⟩⟩
    · rw [cell_of_row w g k cur e (0, 0) hcur, ← htake, List.getElem?_take, if_pos hk]; simp
    · simp [World.setCell, Array.getElem?_modify, hcur]
    · rw [← htake]; simp [List.take_set]

theorem trips_set (ps : List (Int × Int × Int)) (k : Nat) (q : Int × Int × Int) : (((trips ps).set (k * 3) (.int .i64 q.1)).set (k * 3 + 1) (.int .i64 q.2.1)).set (k * 3 + 2) (.int .i64 q.2.2) = trips (ps.set k q) := by
  induction ps generalizing k with
  | nil => simp [trips]
  | cons p ps ih =>
    rcases k with _ | k
    · rfl
    · have e : ∀ (xs : List Value) (j : Nat) (v : Value), (([Value.int .i64 p.1, .int .i64 p.2.1, .int .i64 p.2.2] ++ xs).set (j + 3) v) = [Value.int .i64 p.1, .int .i64 p.2.1, .int .i64 p.2.2] ++ xs.set j v := fun xs j v => rfl
      have h : trips (p :: ps) = [Value.int .i64 p.1, .int .i64 p.2.1, .int .i64 p.2.2] ++ trips ps := rfl
      have h2 : trips ((p :: ps).set (k + 1) q) = [Value.int .i64 p.1, .int .i64 p.2.1, .int .i64 p.2.2] ++ trips (ps.set k q) := rfl
      rw [h, h2, ← ih k, show (k + 1) * 3 = k * 3 + 3 by omega, show k * 3 + 3 + 1 = (k * 3 + 1) + 3 by omega, show k * 3 + 3 + 2 = (k * 3 + 2) + 3 by omega, e, e, e]

/-- The three cells of an element: as they are, and as they are set. -/
theorem Row.set3 {w : World} {base : Nat} {e : TypeId} {g n c : Nat} {ps : List (Int × Int × Int)} (h : Row w base e 3 (some ⟨g, 0, none⟩) n c (trips ps)) (k : Nat) (hk : k < n) (q : Int × Int × Int) :
    (∃ u0 u1 u2, w.cell? ⟨g, k * 3, none⟩ = some u0 ∧ w.cell? ⟨g, k * 3 + 1, none⟩ = some u1 ∧ w.cell? ⟨g, k * 3 + 2, none⟩ = some u2) ∧ w.frozen? ⟨g, k * 3, none⟩ = false ∧ w.frozen? ⟨g, k * 3 + 1, none⟩ = false ∧ w.frozen? ⟨g, k * 3 + 2, none⟩ = false ∧
    Row (((w.setCell ⟨g, k * 3, none⟩ (.int .i64 q.1)).setCell ⟨g, k * 3 + 1, none⟩ (.int .i64 q.2.1)).setCell ⟨g, k * 3 + 2, none⟩ (.int .i64 q.2.2)) base e 3 (some ⟨g, 0, none⟩) n c (trips (ps.set k q)) := by
  have hl := h.len
  obtain ⟨a0, b0, r0⟩ := h.setAt (k * 3) (by omega) (.int .i64 q.1)
  obtain ⟨a1, b1, _⟩ := h.setAt (k * 3 + 1) (by omega) (.int .i64 q.2.1)
  obtain ⟨a2, b2, _⟩ := h.setAt (k * 3 + 2) (by omega) (.int .i64 q.2.2)
  obtain ⟨_, _, r1⟩ := r0.setAt (k * 3 + 1) (by omega) (.int .i64 q.2.1)
  obtain ⟨_, _, r2⟩ := r1.setAt (k * 3 + 2) (by omega) (.int .i64 q.2.2)
  rw [trips_set] at r2
  exact ⟨⟨_, _, _, a0.trans (List.getElem?_eq_getElem (by omega)), a1.trans (List.getElem?_eq_getElem (by omega)), a2.trans (List.getElem?_eq_getElem (by omega))⟩, b0, b1, b2, r2⟩

end Go.Proofs.Ytjipkgnkabocjaa
