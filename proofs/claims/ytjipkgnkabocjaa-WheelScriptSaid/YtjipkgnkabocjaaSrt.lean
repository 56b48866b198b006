/-
  slices.Sort at a row of the call's own (laid by the kit's program at this seat; my theorems behind).
-/
import Derived.Shelf.SortM.Plain
import Derived.Shelf.SortM.SortNone
import Derived.Test.YtjipkgnkabocjaaRows
import Derived.Test.YtjipkgnkabocjaaApp
namespace Go.Proofs.Ytjipkgnkabocjaa
open Go.RowKit Go.Sort Go.Shelf

def sortA_ren : Go.Shelf.Ren := ⟨fun | 5 => 32 | 8 => 39 | 7 => 38 | 19 => 52 | 20 => 53 | 10 => 43 | 11 => 44 | 12 => 45 | 13 => 46 | 14 => 47 | 15 => 48 | 16 => 49 | 17 => 50 | 18 => 51 | 30 => 55 | 31 => 56 | 32 => 57 | 33 => 58 | 34 => 59 | 35 => 60 | 40 => 61 | n => n, fun | 23 => 22 | 25 => 3 | 3 => 3 | 32 => 54 | 22 => 22 | 0 => 0 | 44 => 91 | 46 => 93 | 4 => 4 | 36 => 84 | 35 => 83 | 41 => 51 | 5 => 5 | 9 => 9 | 53 => 95 | 57 => 99 | 63 => 101 | 64 => 69 | n => n, fun | n => n⟩
theorem sortA : Go.Proofs.SlLaysM.n5 Try.prog sortA_ren := {
  mixed := by kernel_rfl
  f5 := ⟨Try.f32.name, by decide, Try.func32.trans (congrArg some (by kernel_rfl))⟩
  f7 := ⟨Try.f38.name, by decide, Try.func38.trans (congrArg some (by kernel_rfl))⟩
  f8 := Try.func39.trans (congrArg some (by kernel_rfl))
  f10 := ⟨Try.f43.name, by decide, Try.func43.trans (congrArg some (by kernel_rfl))⟩
  f11 := ⟨Try.f44.name, by decide, Try.func44.trans (congrArg some (by kernel_rfl))⟩
  f12 := ⟨Try.f45.name, by decide, Try.func45.trans (congrArg some (by kernel_rfl))⟩
  f13 := ⟨Try.f46.name, by decide, Try.func46.trans (congrArg some (by kernel_rfl))⟩
  f14 := ⟨Try.f47.name, by decide, Try.func47.trans (congrArg some (by kernel_rfl))⟩
  f15 := ⟨Try.f48.name, by decide, Try.func48.trans (congrArg some (by kernel_rfl))⟩
  f16 := ⟨Try.f49.name, by decide, Try.func49.trans (congrArg some (by kernel_rfl))⟩
  f17 := ⟨Try.f50.name, by decide, Try.func50.trans (congrArg some (by kernel_rfl))⟩
  f18 := ⟨Try.f51.name, by decide, Try.func51.trans (congrArg some (by kernel_rfl))⟩
  f19 := Try.func52.trans (congrArg some (by kernel_rfl))
  f20 := Try.func53.trans (congrArg some (by kernel_rfl))
  f30 := ⟨Try.f55.name, by decide, Try.func55.trans (congrArg some (by kernel_rfl))⟩
  f31 := Try.func56.trans (congrArg some (by kernel_rfl))
  f32 := Try.func57.trans (congrArg some (by kernel_rfl))
  f33 := ⟨Try.f58.name, by decide, Try.func58.trans (congrArg some (by kernel_rfl))⟩
  f34 := ⟨Try.f59.name, by decide, Try.func59.trans (congrArg some (by kernel_rfl))⟩
  f35 := ⟨Try.f60.name, by decide, Try.func60.trans (congrArg some (by kernel_rfl))⟩
  f40 := ⟨Try.f61.name, by decide, Try.func61.trans (congrArg some (by kernel_rfl))⟩
  t0 := Try.underlying0
  a0 := Try.isAgg0
  z0 := Try.sizeOf0
  v0 := Try.zeroValue0
  t3 := Try.underlying3
  a3 := Try.isAgg3
  z3 := Try.sizeOf3
  v3 := Try.zeroValue3
  t4 := Try.underlying4
  a4 := Try.isAgg4
  z4 := Try.sizeOf4
  v4 := Try.zeroValue4
  t5 := Try.underlying5
  a5 := Try.isAgg5
  z5 := Try.sizeOf5
  v5 := Try.zeroValue5
  t9 := Try.underlying9
  a9 := Try.isAgg9
  z9 := Try.sizeOf9
  v9 := Try.zeroValue9
  t22 := Try.underlying22
  a22 := Try.isAgg22
  z22 := Try.sizeOf22
  v22 := Try.zeroValue22
  t23 := Try.underlying22
  a23 := Try.isAgg22
  z23 := Try.sizeOf22
  v23 := Try.zeroValue22
  t25 := Try.underlying3
  a25 := Try.isAgg3
  z25 := Try.sizeOf3
  v25 := Try.zeroValue3
  t32 := Try.underlying54
  a32 := Try.isAgg54
  z32 := Try.sizeOf54
  v32 := Try.zeroValue54
  t35 := Try.underlying83
  a35 := Try.isAgg83
  z35 := Try.sizeOf83
  v35 := Try.zeroValue83
  t36 := Try.underlying84
  a36 := Try.isAgg84
  z36 := Try.sizeOf84
  v36 := Try.zeroValue84
  t41 := Try.underlying51
  a41 := Try.isAgg51
  z41 := Try.sizeOf51
  v41 := Try.zeroValue51
  t44 := Try.underlying91
  a44 := Try.isAgg91
  z44 := Try.sizeOf91
  v44 := Try.zeroValue91
  t46 := Try.underlying93
  a46 := Try.isAgg93
  z46 := Try.sizeOf93
  v46 := Try.zeroValue93
  t53 := Try.underlying95
  a53 := Try.isAgg95
  z53 := Try.sizeOf95
  v53 := Try.zeroValue95
  t57 := Try.underlying99
  a57 := Try.isAgg99
  z57 := Try.sizeOf99
  v57 := Try.zeroValue99
  t63 := Try.underlying101
  a63 := Try.isAgg101
  z63 := Try.sizeOf101
  v63 := Try.zeroValue101
  t64 := Try.underlying69
  a64 := Try.isAgg69
  z64 := Try.sizeOf69
  v64 := Try.zeroValue69 }

def sortI (zs : List Int) : List Int := zs.mergeSort fun x y => decide (x ≤ y)
theorem sortI_len (zs : List Int) : (sortI zs).length = zs.length := List.length_mergeSort ..
theorem row_putRow {w : World} {B g n c m : Nat} {zs ss : List Int} (h : Row w B 3 1 (some ⟨g, 0, none⟩) n c (ints zs)) (hs : ss.length = zs.length) (os : Array Obj) :
    Row (grow (putRow (Value.int .i64) (Sort.ahead w m) g 0 ss.toArray) os) B 3 1 (some ⟨g, 0, none⟩) n c (ints ss) ∧ w.grownBy (grow (putRow (Value.int .i64) (Sort.ahead w m) g 0 ss.toArray) os) (some g) := by
  have hlen := h.len
  rw [Nat.mul_one] at hlen
  rcases h.2 with ⟨hv, _⟩ | ⟨g', cap, cur, hv, hb, hc, hn, hmx, hsz, ht⟩
  · cases hv
  · injection hv with e1 e2 e3
    injection e1 with e1
    injection e1 with e1
    subst e1; subst e3
    have hgl : g < w.heap.size := (Array.getElem?_eq_some_iff.1 hc).1
    have hzl : zs.length = n := by simpa [ints] using hlen
    have hheap : ∀ i, (grow (putRow (Value.int .i64) (Sort.ahead w m) g 0 ss.toArray) os).heap[i]? = if i < w.heap.size then (w.heap.modify g (onCells (putCells (Value.int .i64) 0 ss.toArray)))[i]? else os[i - w.heap.size]? := by
      intro i
      show ((w.heap.modify g _) ++ os)[i]? = _
      rw [Array.getElem?_append]
      simp
    refine ⟨⟨by simp [ints]; omega, .inr ⟨g, c, putCells (Value.int .i64) 0 ss.toArray cur, rfl, hb, ?_, hn, hmx, by simp [putCells, hsz], ?_⟩⟩, rfl, rfl, rfl, ?_, fun i hi hne => ?_⟩
    · rw [hheap, if_pos hgl, Array.getElem?_modify, if_pos rfl, hc]; rfl
    · apply List.ext_getElem?
      intro k
      rw [Nat.mul_one] at ht hsz ⊢
      by_cases hk : k < n
      · rw [List.getElem?_take_of_lt hk]
        have hkc : k < cur.size := by omega
        simp only [putCells, Array.getElem?_toList, Array.getElem?_mapIdx, Array.getElem?_eq_getElem hkc, Option.map_some]
        rw [if_pos ⟨Nat.zero_le _, by simp; omega⟩]
        simp only [ints, List.getElem?_map, Nat.sub_zero]
        rw [List.getElem?_eq_getElem (by omega : k < ss.length)]
        simp [getElem!_pos, (by omega : k < ss.length)]
      · rw [List.getElem?_eq_none (by simp; omega), List.getElem?_eq_none (by simp [ints]; omega)]
    · show w.heap.size ≤ ((w.heap.modify g _) ++ os).size
      simp
    · rw [hheap, if_pos hi, Array.getElem?_modify, if_neg (fun e => hne (by rw [e]))]
/-- slices.Sort: the row's ints, sorted; all else as it was. -/
theorem sort_row (B : Nat) (A : Option Addr) (n c : Nat) (zs : List Int) (w : World) (h : Row w B 3 1 A n c (ints zs)) (hn : n ≤ 65536) :
    Calls Try.prog 32 #[.slice A n c] w fun e w' => e = .returned (.tuple #[]) ∧ Row w' B 3 1 A n c (ints (sortI zs)) ∧ w.grownBy w' (blk A) := by
  have hlen := h.len
  rw [Nat.mul_one] at hlen
  have hzl : zs.length = n := by simpa [ints] using hlen
  rcases h.2 with ⟨hv, h0⟩ | ⟨g, cap, cur, hv, hb, hc, hnc, hmx, hsz, ht⟩
  · injection hv with e1 e2 e3
    subst e1; subst e3; subst h0
    obtain rfl : zs = [] := List.eq_nil_of_length_eq_zero hzl
    refine (AnyM.slices_Sort_int_none sortA none 0 w).mono ?_
    rintro e w' ⟨rfl, rfl⟩
    exact ⟨rfl, by have e : sortI [] = [] := by simp [sortI]
                   rw [e]; exact h, World.grownBy.refl _ _⟩
  · injection hv with e1 e2 e3
    subst e1; subst e3
    subst hzl
    have hgl : g < w.heap.size := (Array.getElem?_eq_some_iff.1 hc).1
    have hH : Holds (Value.int .i64) w g 0 zs.toArray := by
      intro j hj
      have hj' : j < zs.length := by simpa using hj
      refine ⟨?_, ?_⟩
      · obtain ⟨b', o', e', hcell⟩ := h.rd.int hj'
        injection e' with e'; injection e' with q1 q2
        subst q1; subst q2
        rw [hcell]
        simp [getElem!_pos, hj']
      · simp [World.frozen?, hc]
    refine (AnyM.slices_Sort_int sortA g 0 c zs w hH hgl (by omega)).mono ?_
    rintro e w' ⟨rfl, m, os, rfl⟩
    obtain ⟨r1, r2⟩ := row_putRow (m := m) h (sortI_len zs) os
    exact ⟨rfl, r1, r2⟩

end Go.Proofs.Ytjipkgnkabocjaa
