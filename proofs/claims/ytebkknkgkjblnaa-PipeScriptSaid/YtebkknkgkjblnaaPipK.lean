/-
  BYTES that are held against each other, lent, kept, written over (my walks at integers, turned to bytes by wip/mk_pipK.py).
-/
import Derived.Test.YtebkknkgkjblnaaPipJ
import Derived.Test.YtebkknkgkjblnaaLend
namespace Go.Proofs.Ytebkknkgkjblnaa
open Go.RowKit
attribute [local go_sem] depUpon Sp.ok

theorem Rd.byte {w : World} {A : Option Addr} {bs : List Int} (h : Rd w A (u8s bs)) {k : Nat} (hk : k < bs.length) : ∃ b off, A = some ⟨b, off, none⟩ ∧ w.cell? ⟨b, off + k, none⟩ = some (.int .u8 bs[k]) := by
  obtain ⟨b, off, e, hc⟩ := h k _ (u8s_get bs hk)
  exact ⟨b, off, e, hc⟩

set_option maxRecDepth 100000 in
set_option maxHeartbeats 400000 in
theorem same_bytes (A B : Option Addr) (n m c d : Nat) (xs ys : List Int) (w : World) (hn : n ≤ 9223372036854775807) (hm : m ≤ 9223372036854775807)
    (ha : Rd w A (u8s xs)) (hb : Rd w B (u8s ys)) (hla : xs.length = n) (hlb : ys.length = m) :
    Calls Try.prog 15 #[.slice A n c, .slice B m d] w fun e w' => e = .returned (.bool (decide (xs = ys))) ∧ ∃ q, w' = w.drewN q := by
  subst hla; subst hlb
  by_cases hl : xs.length = ys.length
  · have hl' : (((xs.length : Nat) : Int) != ((ys.length : Nat) : Int)) = false := by simp [hl]
    have H := Lib.hid hl
    have hle : ys.length ≤ xs.length := by omega
    clear hl
    go_enter Try.func15, Try.ntmps15
    go_wp2
    go_loopw [5] (fun i wr => ∃ k : Nat, k ≤ xs.length ∧ i = .int .i64 k ∧ Hid (xs.take k = ys.take k) ∧ ∃ q, wr = w.drewN q) (fun i _ => xs.length - (intOf i).toNat)
    case atStart => exact ⟨0, Nat.zero_le _, rfl, rfl, 0, rfl⟩
    case round =>
      obtain ⟨k, hk, rfl, hs, q, rfl⟩ := hrel
      by_cases hlt : k < xs.length
      · have hlt' : k < ys.length := by have := H.out; omega
        obtain ⟨b, off, rfl, hc⟩ := ha.byte hlt
        obtain ⟨b', off', rfl, hc'⟩ := hb.byte hlt'
        by_cases he : xs[k] = ys[k]
        · have hne : (xs[k] != ys[k]) = false := by simp [he]
          have HE := Lib.hid he
          clear he
          go_wp2
          go_quiet (fail)
          go_wp2
          go_roundw
          case rel => exact ⟨k + 1, by omega, by go_num, same_take H.out hs.out hlt HE.out, _, rfl⟩
          case measure => simp [intOf]; omega
        · have hne : (xs[k] != ys[k]) = true := by simp [he]
          have HE := Lib.hid (same_not hlt hlt' he)
          clear he
          go_wp2
          go_quiet (fail)
          go_wp2
          go_ret
          exact ⟨ret_bool (by simp [HE.out]), _, World.drewN_drewN _ _ _⟩
      · go_wp2
        go_ret
        refine ⟨ret_bool ?_, _, rfl⟩
        have h1 := hs.out
        have h2 := H.out
        rw [List.take_of_length_le (by omega), List.take_of_length_le (by omega)] at h1
        simp [h1]
  · have hl' : (((xs.length : Nat) : Int) != ((ys.length : Nat) : Int)) = true := by simp; omega
    have HE : Hid (xs ≠ ys) := by rintro rfl; exact hl rfl
    clear hl
    go_enter Try.func15, Try.ntmps15
    go_wp2
    go_ret
    exact ⟨ret_bool (by simp [HE.out]), 0, rfl⟩

/-- What is lent: a copy in a block of its own, three marks behind it. -/
def lentBytes (zs : List Int) : List Value := u8s zs ++ u8s [119, 119, 119]

theorem lendb_fill (zs : List Int) (k : Nat) (hk : k < 3) :
    (u8s zs ++ (u8s (List.replicate k 119) ++ u8s (List.replicate (3 - k) 0))).set (zs.length + k) (.int .u8 119) =
      u8s zs ++ (u8s (List.replicate (k + 1) 119) ++ u8s (List.replicate (3 - (k + 1)) 0)) := by
  rw [List.set_append_right _ _ (by simp [u8s])]
  congr 1
  rcases k with _ | _ | _ | k
  · simp [u8s]
  · simp [u8s]
  · simp [u8s]
  · omega

theorem lendb_at (zs : List Int) (k : Nat) (hk : k < 3) :
    (u8s zs ++ (u8s (List.replicate k 119) ++ u8s (List.replicate (3 - k) 0)))[zs.length + k]? = some (.int .u8 0) := by
  rw [List.getElem?_append_right (by simp [u8s])]
  rcases k with _ | _ | _ | k
  · simp [u8s]
  · simp [u8s]
  · simp [u8s]
  · omega

set_option maxRecDepth 100000 in
set_option maxHeartbeats 400000 in
theorem lend_bytes (A : Option Addr) (n c : Nat) (zs : List Int) (w : World) (hn : n ≤ 65536) (hr : Rd w A (u8s zs)) (hl : zs.length = n) :
    Calls Try.prog 28 #[.slice A n c] w fun e w' => ∃ g, e = .returned (.slice (some ⟨g, 0, none⟩) n (n + 3)) ∧ Own w' g 5 (lentBytes zs) ∧ w.heap.size ≤ g ∧ Below w.heap.size w w' := by
  subst hl
  obtain ⟨i0, hi, hz0, hz1, hz2⟩ := info_parts info_byte
  go_enter Try.func28, Try.ntmps28
  go_wp2_with (first
    | (at_make; refine wpl_make _ rfl _ _ 32 rfl 5 i0 _ 1 1 Try.underlying32 hi hz0 hz1 hz2 0 (zs.length + 3) rfl (by go_num) (by omega) (by omega) (by omega) ?_; intro w1 o1 b1 s1)
    | (at_builtin; go_must (refine wpl_append_room _ rfl _ _ 32 rfl 5 i0 1 Try.underlying32 hi hz1 w.heap.size 0 (zs.length + 3) _ rfl o1 A zs.length c (u8s zs) rfl (by simp [u8s]) (hr.keep b1) (u8s_one zs) (by omega) (by simp [u8s, madeCells]) (by omega) ?_); intro w2 o2 g2 s2))
  have b2 := below_of_grown b1 g2 (Nat.le_refl _) (by omega)
  have o3 : Own w2 w.heap.size 5 (u8s zs ++ (u8s (List.replicate 0 119) ++ u8s (List.replicate (3 - 0) 0))) := by
    have e : (u8s zs ++ (u8s (List.replicate 0 119) ++ u8s (List.replicate (3 - 0) 0))) = List.take (0 * 1) (madeCells (Value.int IntKind.u8 0).cells ((zs.length + 3) * 1)).toList ++ u8s zs ++ List.drop (0 * 1 + (u8s zs).length) (madeCells (Value.int IntKind.u8 0).cells ((zs.length + 3) * 1)).toList := by
      simp only [Value.cells, Nat.mul_one, toList_madeCells_one]
      simp [u8s, List.drop_replicate]
    rw [e]; exact o2
  clear o1 o2 g2 b1 s1 s2
  go_loopw [5] (fun i wr => ∃ k : Nat, k ≤ 3 ∧ i = .int .i64 k ∧ Own wr w.heap.size 5 (u8s zs ++ (u8s (List.replicate k 119) ++ u8s (List.replicate (3 - k) 0))) ∧ Below w.heap.size w wr) (fun i _ => 3 - (intOf i).toNat)
  case atStart => exact ⟨0, by omega, rfl, o3, b2⟩
  case round =>
    obtain ⟨k, hk, rfl, o, bb⟩ := hrel
    by_cases hlt : k < 3
    · have hc : wr.cell? ⟨w.heap.size, zs.length + k, none⟩ = some (.int .u8 0) := by
        rw [o.cell, lendb_at zs k hlt]
      have hf : wr.frozen? ⟨w.heap.size, zs.length + k, none⟩ = false := o.frozen _
      have o' := o.set (zs.length + k) (.int .u8 119)
      rw [lendb_fill zs k hlt] at o'
      have bb' := bb.setCell (p := ⟨w.heap.size, zs.length + k, none⟩) (Nat.le_refl _) (.int .u8 119)
      have hidx : k < zs.length + 3 - zs.length := by omega
      go_wp2
      go_roundw
      case rel => exact ⟨k + 1, by omega, by go_num, o', bb'⟩
      case measure => simp [intOf]; omega
    · obtain rfl : k = 3 := by omega
      go_wp2
      go_ret
      exact ⟨_, rfl, by simpa [lentBytes, u8s] using o, Nat.le_refl _, bb⟩

/-- What was lent is as it was. -/
theorem keptb_room (zs : List Int) (k : Nat) (hk : k < 3) : (lentBytes zs)[zs.length + k]? = some (.int .u8 119) := by
  unfold lentBytes
  rw [List.getElem?_append_right (by simp [u8s])]
  simp [u8s]
  rcases k with _ | _ | _ | k
  · rfl
  · rfl
  · rfl
  · omega

set_option maxRecDepth 100000 in
set_option maxHeartbeats 400000 in
theorem kept_bytes (B : Option Addr) (g n m d : Nat) (xs ys : List Int) (w : World) (hn : n ≤ 65536) (hm : m ≤ 65536)
    (ho : Own w g 5 (lentBytes xs)) (hb : Rd w B (u8s ys)) (hla : xs.length = n) (hlb : ys.length = m) :
    Calls Try.prog 30 #[.slice (some ⟨g, 0, none⟩) n (n + 3), .slice B m d] w fun e w' => e = .returned (.bool (decide (xs = ys))) ∧ ∃ q, w' = w.drewN q := by
  subst hla; subst hlb
  go_enter Try.func30, Try.ntmps30
  go_wp2
  go_loopw [6] (fun i wr => ∃ k : Nat, k ≤ 3 ∧ i = .int .i64 k ∧ ∃ q, wr = w.drewN q) (fun i _ => 3 - (intOf i).toNat)
  case atStart => exact ⟨0, by omega, rfl, 0, rfl⟩
  case round =>
    obtain ⟨k, hk, rfl, q, rfl⟩ := hrel
    by_cases hlt : k < 3
    · have hc : w.cell? ⟨g, xs.length + k, none⟩ = some (.int .u8 119) := by rw [ho.cell, keptb_room xs k hlt]
      have hidx : k < xs.length + 3 - xs.length := by omega
      go_wp2
      go_roundw
      case rel => exact ⟨k + 1, by omega, by go_num, _, rfl⟩
      case measure => simp [intOf]; omega
    · have hx : Rd (w.drewN q) (some ⟨g, 0, none⟩) (u8s xs) := ho.rd0.pre
      have hy : Rd (w.drewN q) B (u8s ys) := hb
      go_wp2_with (go_at_call 15; refine (same_bytes _ _ _ _ _ _ xs ys _ (by omega) (by omega) hx hy rfl rfl).mono ?_; rintro e w' ⟨rfl, q', rfl⟩)
      go_ret
      exact ⟨rfl, _, rfl⟩

set_option maxRecDepth 100000 in
set_option maxHeartbeats 1000000 in
theorem over_bytes (A : Option Addr) (n c B : Nat) (zs : List Int) (w : World) (hr : Row w B 5 1 A n c (u8s zs)) (hB : B ≤ w.heap.size) (hn : n ≤ 65536) :
    Calls Try.prog 27 #[.slice A n c] w fun e w' => e = .returned (.tuple #[]) ∧ w.grownBy w' (blk A) := by
  obtain ⟨i0, hi, hz0, hz1, hz2⟩ := info_parts info_byte
  have HI := Lib.hid hi
  clear hi
  go_enter Try.func27, Try.ntmps27
  go_wp2
  go_loopw [2] (fun i wr => ∃ (k : Nat) (ys : List Int), k ≤ n ∧ i = .int .i64 k ∧ Row wr B 5 1 A n c (u8s ys) ∧ w.grownBy wr (blk A)) (fun i _ => n - (intOf i).toNat)
  case atStart => exact ⟨0, zs, by omega, rfl, hr, World.grownBy.refl _ _⟩
  case round =>
    obtain ⟨k, ys, hk, rfl, q1, q2⟩ := hrel
    clear hr
    by_cases hlt : k < n
    · obtain ⟨g, rfl⟩ := q1.addr (by omega)
      obtain ⟨⟨u, hc⟩, hf, q3⟩ := q1.set1 k hlt (.int .u8 238)
      have q4 : Row (wr.setCell ⟨g, k, none⟩ (.int .u8 238)) B 5 1 (some ⟨g, 0, none⟩) n c (u8s (ys.set k 238)) := by
        have : (u8s ys).set k (.int .u8 238) = u8s (ys.set k 238) := by simp [u8s, List.map_set]
        rw [← this]; exact q3
      have q5 : w.grownBy (wr.setCell ⟨g, k, none⟩ (.int .u8 238)) (blk (some ⟨g, 0, none⟩)) := q2.trans (setCell_grown wr ⟨g, k, none⟩ (.int .u8 238))
      clear q3
      go_wp2
      go_roundw
      case rel => exact ⟨k + 1, _, by omega, by go_num, q4, q5⟩
      case measure => simp [intOf]; omega
    · have hs := q2.size
      go_wp2_with (at_builtin; have q7 := (q1.alloc (.cells #[.int .u8 238] 5)); refine wpl_append _ rfl (.tmp 12) (.tmp 13) 32 rfl 5 i0 _ 1 1 Try.underlying32 HI.out hz0 hz1 hz2 rfl (by omega) B A n c _ rfl q7 _ 1 1 (u8s [238]) rfl rfl (Own.new wr 5 (u8s [238])).rd0 (u8s_one _) (n + 1) _ rfl rfl (by omega) (by omega) (by simp; omega) ?_; intro A2 c2 w2 o2 g2 e2)
      have bA := Ext.alloc wr (.cells #[.int .u8 238] 5)
      exact bodyPost_end (results_none rfl _ _ _) rfl ⟨rfl, (q2.trans ⟨bA.os, bA.tape, bA.output, bA.size, fun i hi _ => bA.block i hi⟩).trans g2⟩

end Go.Proofs.Ytebkknkgkjblnaa
