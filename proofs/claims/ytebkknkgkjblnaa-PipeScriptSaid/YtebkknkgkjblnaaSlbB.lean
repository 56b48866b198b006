/-
  WALKS of package slab: frames.New, New, Class, free, Has, Len.
-/
import Derived.Test.YtebkknkgkjblnaaSlbA
namespace Go.Proofs.Ytebkknkgkjblnaa
open Go.RowKit Go.Maps
attribute [local go_sem] depUpon Sp.ok

theorem made_rep (v : Value) (k m : Nat) (hk : 0 < k) : (madeCells (List.replicate k v).toArray m).toList = List.replicate m v := by
  apply List.ext_getElem
  · simp [madeCells]
  · intro i h1 h2
    have hm : i % k < k := Nat.mod_lt _ hk
    simp [madeCells, hm]
/-- No frame is taken. -/
def p0 (n : Nat) : FP := ⟨n, List.replicate n false, [], 0⟩
theorem p0_ok {n : Nat} (h : n ≤ 64) : (p0 n).ok := by
  refine ⟨by simp [p0], h, Nat.zero_le _, List.nodup_nil, fun j hj => absurd hj (by simp [p0]), fun j _ q => ?_, ?_⟩
  · have q' : j < n := q
    show (List.replicate n false)[j]? = _
    rw [List.getElem?_replicate, if_pos q']
  · show cntT (List.replicate n false) + 0 = 0
    unfold cntT
    rw [List.filter_eq_nil_iff.2 fun x hx => by rw [List.eq_of_mem_replicate hx]; simp]; rfl
set_option maxRecDepth 100000 in
theorem info_64 : (Try.prog.info? 125).map (fun i => (i.zero, i.size, i.bytes)) = some (some (.agg (List.replicate 64 (.int .u8 0)).toArray), 64, 64) := by kernel_rfl
set_option maxRecDepth 100000 in
set_option maxHeartbeats 4000000 in
theorem f_new (n : Nat) (w : World) (h0 : 1 ≤ n) (h1 : n ≤ 64) :
    Calls Try.prog 34 #[.int .i64 (n : Int)] w fun e w' => ∃ gf gb gt, e = .returned (.tuple #[.pointer (some ⟨gf, 0, none⟩), .int .i64 0]) ∧ FS w' w.heap.size gf gb gt none 0 (p0 n) ∧ Below w.heap.size w w' := by
  obtain ⟨i1, hi1, a0, a1, a2⟩ := info_parts info_64
  obtain ⟨i2, hi2, b0, b1, b2⟩ := info_parts info_int
  have z1 : (madeCells (Value.agg (List.replicate 64 (Value.int .u8 0)).toArray).cells (n * 64)).toList = List.replicate (n * 64) (.int .u8 0) := made_rep _ _ _ (by omega)
  have z2 : (madeCells (Value.int .i64 0).cells (n * 1)).toList = List.replicate n (.int .i64 0) := by
    rw [Nat.mul_one]; exact made_rep (.int .i64 0) 1 n (by omega)
  have m1 : ∀ w, (Instr.makeSlice 95 (.int .i64 (n : Int)) (.int .i64 (n : Int))).run Try.prog w = .ok (.slice (some ⟨w.heap.size, 0, none⟩) n n) (w.alloc (.cells (List.replicate (n * 64) (.int .u8 0)).toArray 125)) := fun w => by
    have := run_make (P := Try.prog) w 95 125 i1 _ Try.underlying95 hi1 a0 .i64 .i64 (n : Int) (n : Int) (by omega) (by omega) (by rw [a2]; omega) (by omega)
    simp only [Int.toNat_natCast, a1] at this
    rw [this, ← z1, Array.toArray_toList]
  have m2 : ∀ w, (Instr.makeSlice 96 (.int .i64 (n : Int)) (.int .i64 (n : Int))).run Try.prog w = .ok (.slice (some ⟨w.heap.size, 0, none⟩) n n) (w.alloc (.cells (List.replicate n (.int .i64 0)).toArray 3)) := fun w => by
    have := run_make (P := Try.prog) w 96 3 i2 _ Try.underlying96 hi2 b0 .i64 .i64 (n : Int) (n : Int) (by omega) (by omega) (by rw [b2]; omega) (by omega)
    simp only [Int.toNat_natCast, b1] at this
    rw [this, ← z2, Array.toArray_toList]
  have t0 : (1 : Int) ≤ (n : Int) := by omega
  have t1 : (n : Int) ≤ 64 := by omega
  have HOK := Lib.hid (p0_ok h1)
  have HTK := Lib.hid (show (List.replicate n (Value.int .i64 0)) = ints ((List.replicate n false).map tki) by simp [ints, tki])
  clear z1 z2 hi1 a0 a1 a2 hi2 b0 b1 b2 h0 h1
  have fin : ∀ (w' : World) (gf gb gt : Nat), Own w' gf 98 [.slice (some ⟨gb, 0, none⟩) n n, .slice (some ⟨gt, 0, none⟩) n n, .slice none 0 0, .int .i64 0] → Own w' gb 125 (List.replicate (n * 64) (.int .u8 0)) → Own w' gt 3 (List.replicate n (.int .i64 0)) → w.heap.size ≤ gf → w.heap.size ≤ gb → w.heap.size ≤ gt →
      FS w' w.heap.size gf gb gt none 0 (p0 n) := fun w' gf gb gt o1 o2 o3 l1 l2 l3 => ⟨o1, o2, by rw [HTK.out] at o3; exact o3, Row.nil _ _ _ _, by simp [blk], ⟨l1, l2, l3⟩, HOK.out⟩
  have HF := Lib.hid fin
  clear fin
  go_enter Try.func34, Try.ntmps34
  go_wp2
  go_region
  all_goals go_wp2
  all_goals go_ret2
  · have e1 := Own.new w 125 (List.replicate (n * 64) (.int .u8 0))
    have e2 := Own.new (w.alloc (.cells (List.replicate (n * 64) (Value.int .u8 0)).toArray 125)) 3 (List.replicate n (.int .i64 0))
    have e3 := Own.new ((w.alloc (.cells (List.replicate (n * 64) (Value.int .u8 0)).toArray 125)).alloc (.cells (List.replicate n (Value.int .i64 0)).toArray 3)) 98 [.slice (some ⟨w.heap.size, 0, none⟩) n n, .slice (some ⟨w.heap.size + 1, 0, none⟩) n n, .slice none 0 0, .int .i64 0]
    have e1' := (e1.alloc (.cells (List.replicate n (Value.int .i64 0)).toArray 3)).alloc (.cells #[.slice (some ⟨w.heap.size, 0, none⟩) n n, .slice (some ⟨w.heap.size + 1, 0, none⟩) n n, .slice none 0 0, .int .i64 0] 98)
    have e2' := e2.alloc (.cells #[.slice (some ⟨w.heap.size, 0, none⟩) n n, .slice (some ⟨w.heap.size + 1, 0, none⟩) n n, .slice none 0 0, .int .i64 0] 98)
    simp only [List.toArray_replicate, World.size_alloc] at e1' e2' e3
    exact ⟨_, _, _, rfl, HF.out _ _ _ _ e3 e1' e2' (by omega) (by omega) (by omega), Ext.trans (Ext.trans (Ext.trans (Ext.alloc _ _) (Ext.alloc _ _)) (Ext.alloc _ _)) (Ext.drew _)⟩
  · have e1 := Own.new w 3 (List.replicate n (.int .i64 0))
    have e2 := Own.new (w.alloc (.cells (List.replicate n (Value.int .i64 0)).toArray 3)) 125 (List.replicate (n * 64) (.int .u8 0))
    have e3 := Own.new ((w.alloc (.cells (List.replicate n (Value.int .i64 0)).toArray 3)).alloc (.cells (List.replicate (n * 64) (Value.int .u8 0)).toArray 125)) 98 [.slice (some ⟨w.heap.size + 1, 0, none⟩) n n, .slice (some ⟨w.heap.size, 0, none⟩) n n, .slice none 0 0, .int .i64 0]
    have e1' := (e1.alloc (.cells (List.replicate (n * 64) (Value.int .u8 0)).toArray 125)).alloc (.cells #[.slice (some ⟨w.heap.size + 1, 0, none⟩) n n, .slice (some ⟨w.heap.size, 0, none⟩) n n, .slice none 0 0, .int .i64 0] 98)
    have e2' := e2.alloc (.cells #[.slice (some ⟨w.heap.size + 1, 0, none⟩) n n, .slice (some ⟨w.heap.size, 0, none⟩) n n, .slice none 0 0, .int .i64 0] 98)
    simp only [List.toArray_replicate, World.size_alloc] at e1' e2' e3
    exact ⟨_, _, _, rfl, HF.out _ _ _ _ e3 e2' e1' (by omega) (by omega) (by omega), Ext.trans (Ext.trans (Ext.trans (Ext.alloc _ _) (Ext.alloc _ _)) (Ext.alloc _ _)) (Ext.drew _)⟩

theorem s_new (gf : Nat) (w : World) : Calls Try.prog 36 #[.pointer (some ⟨gf, 0, none⟩)] w fun e w' => ∃ gs gm, e = .returned (.pointer (some ⟨gs, 0, none⟩)) ∧ SS w' w.heap.size gs gm gf (fun _ => (0, 0)) [] ∧ Below w.heap.size w w' := by
  have hmf : ∀ (fn : Fn) (first cap : Array Value) (w : World), (Instr.makeFunc fn first cap).run Try.prog w = .ok (.func fn first cap) w := fun _ _ _ _ => rfl
  have hm := @run_makeMap Try.prog
  have h1 := MS.made w
  have h2 := h1.keep (Ext.alloc (w.alloc (.map #[] 0)) (.cells #[.func (.func 47) #[.pointer (some ⟨gf, 0, none⟩)] #[], .func (.func 48) #[.pointer (some ⟨gf, 0, none⟩)] #[], .map (some w.heap.size)] 110))
  have o2 := Own.new (w.alloc (.map #[] 0)) 110 [.func (.func 47) #[.pointer (some ⟨gf, 0, none⟩)] #[], .func (.func 48) #[.pointer (some ⟨gf, 0, none⟩)] #[], .map (some w.heap.size)]
  rw [World.size_alloc] at o2
  go_enter Try.func36, Try.ntmps36
  go_wp2
  go_ret
  exact ⟨_, _, rfl, ⟨o2, h2, fun a ha => absurd ha (by simp), fun a ha => absurd ha (by simp), fun a ha => absurd ha (by simp), fun i hi => by
    rcases hi with rfl | rfl | ⟨a, ha, _⟩
    · omega
    · omega
    · exact absurd ha (by simp)⟩, Ext.trans (Ext.alloc _ _) (Ext.alloc _ _)⟩

def cls (s : Int) : Int := if s < 1 then 0 else if s ≤ 16 then 16 else if s ≤ 32 then 32 else if s ≤ 64 then 64 else 0
theorem s_class (s : Int) (w : World) : Calls Try.prog 49 #[.int .i64 s] w fun e w' => e = .returned (.int .i64 (cls s)) ∧ w = w' := by
  have HC := Lib.hid (show cls s = if s < 1 then 0 else if s ≤ 16 then 16 else if s ≤ 32 then 32 else if s ≤ 64 then 64 else 0 from rfl)
  by_cases h1 : s < 1
  · have HE := Lib.hid (show cls s = 0 by rw [HC.out, if_pos h1])
    have t1 : decide (1 ≤ s) = false := decide_eq_false (by omega)
    clear h1
    go_enter Try.func49, Try.ntmps49
    go_wp2
    go_loop [3] (fun q => q = .int .i64 16 ∨ q = .int .i64 32 ∨ q = .int .i64 64 ∨ q = .int .i64 128) (fun q => (200 - intOf q).toNat)
    case atStart => exact .inl rfl
    case round =>
      rcases hrel with rfl | rfl | rfl | rfl
      · go_wp2
        go_round
        case rel => exact .inr (.inl rfl)
        case measure => decide
      · go_wp2
        go_round
        case rel => exact .inr (.inr (.inl rfl))
        case measure => decide
      · go_wp2
        go_round
        case rel => exact .inr (.inr (.inr rfl))
        case measure => decide
      · go_wp2
        go_ret
        exact ⟨by rw [HE.out]; rfl, rfl⟩
  have t1 : 1 ≤ s := by omega
  go_enter Try.func49, Try.ntmps49
  go_wp2
  go_loop [3] (fun q => q = .int .i64 16 ∨ (q = .int .i64 32 ∧ 16 < s) ∨ (q = .int .i64 64 ∧ 32 < s) ∨ (q = .int .i64 128 ∧ 64 < s)) (fun q => (200 - intOf q).toNat)
  case atStart => exact .inl rfl
  case round =>
    rcases hrel with rfl | ⟨rfl, hs⟩ | ⟨rfl, hs⟩ | ⟨rfl, hs⟩
    · by_cases h : s ≤ 16
      · have HE := Lib.hid (show cls s = 16 by rw [HC.out, if_neg (show ¬ s < 1 by omega), if_pos h])
        go_wp2
        go_ret
        exact ⟨by rw [HE.out]; rfl, rfl⟩
      · have t2 : decide (s ≤ 16) = false := decide_eq_false h
        have h' : 16 < s := by omega
        clear h h1
        go_wp2
        go_round
        case rel => exact .inr (.inl ⟨rfl, h'⟩)
        case measure => decide
    · by_cases h : s ≤ 32
      · have HE := Lib.hid (show cls s = 32 by rw [HC.out, if_neg (show ¬ s < 1 by omega), if_neg (by omega), if_pos h])
        clear hs
        go_wp2
        go_ret
        exact ⟨by rw [HE.out]; rfl, rfl⟩
      · have t2 : decide (s ≤ 32) = false := decide_eq_false h
        have h' : 32 < s := by omega
        clear h h1 hs
        go_wp2
        go_round
        case rel => exact .inr (.inr (.inl ⟨rfl, h'⟩))
        case measure => decide
    · by_cases h : s ≤ 64
      · have HE := Lib.hid (show cls s = 64 by rw [HC.out, if_neg (show ¬ s < 1 by omega), if_neg (by omega), if_neg (by omega), if_pos h])
        clear hs
        go_wp2
        go_ret
        exact ⟨by rw [HE.out]; rfl, rfl⟩
      · have t2 : decide (s ≤ 64) = false := decide_eq_false h
        have h' : 64 < s := by omega
        clear h h1 hs
        go_wp2
        go_round
        case rel => exact .inr (.inr (.inr ⟨rfl, h'⟩))
        case measure => decide
    · have HE := Lib.hid (show cls s = 0 by rw [HC.out, if_neg (show ¬ s < 1 by omega), if_neg (by omega), if_neg (by omega), if_neg (by omega)])
      clear hs h1
      go_wp2
      go_ret
      exact ⟨by rw [HE.out]; rfl, rfl⟩

/-- The least slot that is free. -/
def frS (K : Nat) (sl : List Int) : Option Nat := (List.range K).find? fun i => !decide ((i : Int) ∈ sl)
theorem frS_none {K : Nat} {sl : List Int} (h : ∀ i, i < K → (i : Int) ∈ sl) : frS K sl = none := by
  unfold frS
  rw [List.find?_eq_none]
  intro i hi
  simp [h i (List.mem_range.1 hi)]
theorem frS_some {K i : Nat} {sl : List Int} (hi : i < K) (h : ∀ j, j < i → (j : Int) ∈ sl) (hn : (i : Int) ∉ sl) : frS K sl = some i := by
  unfold frS
  rw [List.find?_range_eq_some]
  exact ⟨by simp [hn], List.mem_range.2 hi, fun j hj => by simp [h j hj]⟩
def frV (o : Option Nat) : Value := match o with
  | some i => .tuple #[.int .i64 (i : Int), .bool true]
  | none => .tuple #[.int .i64 0, .bool false]
theorem zero_int (w : World) : (zeroValue 3).run Try.prog w = .ok (.int .i64 0) w := by kernel_rfl
set_option maxRecDepth 100000 in
set_option maxHeartbeats 1000000 in
theorem s_free (gx gq K : Nat) (sz : Int) (sl : List Int) (w : World) (ho : Own w gx 120 [.int .i64 sz, .map (some gq)]) (hm : MS w gq (sq sl)) (hsz : sz = 16 ∧ K = 4 ∨ sz = 32 ∧ K = 2 ∨ sz = 64 ∧ K = 1) :
    Calls Try.prog 52 #[.pointer (some ⟨gx, 0, none⟩)] w fun e w' => e = .returned (frV (frS K sl)) ∧ w = w' := by
  have v0 := ho.cell 0
  have v1 := ho.cell 1
  simp only [List.getElem?_cons_zero, List.getElem?_cons_succ] at v0 v1
  have HLK := Lib.hid (fun (i : Nat) (hi : i < 5) => hm.look Try.underlying118 (zero_int w) (k := (i : Int)) ⟨by omega, by omega⟩)
  have HN := Lib.hid (fun h => @frS_none K sl h)
  have HS := Lib.hid (fun i h1 h2 h3 => @frS_some K i sl h1 h2 h3)
  generalize frS K sl = o at *
  clear ho hm
  rcases hsz with ⟨rfl, rfl⟩ | ⟨rfl, rfl⟩ | ⟨rfl, rfl⟩
  · go_enter Try.func52, Try.ntmps52
    go_wp2
    go_loop [10] (fun q => ∃ i : Nat, q = .int .i64 (i : Int) ∧ i ≤ 4 ∧ ∀ j, j < i → (j : Int) ∈ sl) (fun q => 4 - (intOf q).toNat)
    case atStart => exact ⟨0, rfl, by omega, fun j hj => by omega⟩
    case round =>
      obtain ⟨i, rfl, hi, hno⟩ := hrel
      by_cases hlt : i < 4
      · have hl := HLK.out i (by omega)
        rw [sq_get] at hl
        have i0' : (0 : Int) ≤ (i : Int) := by omega
        have i1' : (i : Int) < 4 := by omega
        by_cases hin : (i : Int) ∈ sl
        · rw [if_pos hin, show (some one_).getD (Value.int .i64 0) = .int .i64 1 from rfl] at hl
          have hn : ∀ j, j < i + 1 → (j : Int) ∈ sl := fun j hj => by
            by_cases e : j = i
            · rw [e]; exact hin
            · exact hno j (by omega)
          have HNO := Lib.hid hn
          clear hno hin hn
          go_wp2
          go_round
          case rel => exact ⟨i + 1, by go_num, by omega, HNO.out⟩
          case measure => simp [intOf]; omega
        · rw [if_neg hin, show (none : Option Value).getD (Value.int .i64 0) = .int .i64 0 from rfl] at hl
          have HE := Lib.hid (HS.out i hlt hno hin)
          clear hno hin
          go_wp2
          go_ret2
          exact ⟨by rw [HE.out]; rfl, rfl⟩
      · obtain rfl : i = 4 := by omega
        have HE := Lib.hid (HN.out hno)
        clear hno
        rw [show ((4 : Nat) : Int) = 4 from rfl]
        go_wp2
        go_ret2
        exact ⟨by rw [HE.out]; rfl, rfl⟩
  · go_enter Try.func52, Try.ntmps52
    go_wp2
    go_loop [10] (fun q => ∃ i : Nat, q = .int .i64 (i : Int) ∧ i ≤ 2 ∧ ∀ j, j < i → (j : Int) ∈ sl) (fun q => 2 - (intOf q).toNat)
    case atStart => exact ⟨0, rfl, by omega, fun j hj => by omega⟩
    case round =>
      obtain ⟨i, rfl, hi, hno⟩ := hrel
      by_cases hlt : i < 2
      · have hl := HLK.out i (by omega)
        rw [sq_get] at hl
        have i0' : (0 : Int) ≤ (i : Int) := by omega
        have i1' : (i : Int) < 2 := by omega
        by_cases hin : (i : Int) ∈ sl
        · rw [if_pos hin, show (some one_).getD (Value.int .i64 0) = .int .i64 1 from rfl] at hl
          have hn : ∀ j, j < i + 1 → (j : Int) ∈ sl := fun j hj => by
            by_cases e : j = i
            · rw [e]; exact hin
            · exact hno j (by omega)
          have HNO := Lib.hid hn
          clear hno hin hn
          go_wp2
          go_round
          case rel => exact ⟨i + 1, by go_num, by omega, HNO.out⟩
          case measure => simp [intOf]; omega
        · rw [if_neg hin, show (none : Option Value).getD (Value.int .i64 0) = .int .i64 0 from rfl] at hl
          have HE := Lib.hid (HS.out i hlt hno hin)
          clear hno hin
          go_wp2
          go_ret2
          exact ⟨by rw [HE.out]; rfl, rfl⟩
      · obtain rfl : i = 2 := by omega
        have HE := Lib.hid (HN.out hno)
        clear hno
        rw [show ((2 : Nat) : Int) = 2 from rfl]
        go_wp2
        go_ret2
        exact ⟨by rw [HE.out]; rfl, rfl⟩
  · go_enter Try.func52, Try.ntmps52
    go_wp2
    go_loop [10] (fun q => ∃ i : Nat, q = .int .i64 (i : Int) ∧ i ≤ 1 ∧ ∀ j, j < i → (j : Int) ∈ sl) (fun q => 1 - (intOf q).toNat)
    case atStart => exact ⟨0, rfl, by omega, fun j hj => by omega⟩
    case round =>
      obtain ⟨i, rfl, hi, hno⟩ := hrel
      by_cases hlt : i < 1
      · have hl := HLK.out i (by omega)
        rw [sq_get] at hl
        have i0' : (0 : Int) ≤ (i : Int) := by omega
        have i1' : (i : Int) < 1 := by omega
        by_cases hin : (i : Int) ∈ sl
        · rw [if_pos hin, show (some one_).getD (Value.int .i64 0) = .int .i64 1 from rfl] at hl
          have hn : ∀ j, j < i + 1 → (j : Int) ∈ sl := fun j hj => by
            by_cases e : j = i
            · rw [e]; exact hin
            · exact hno j (by omega)
          have HNO := Lib.hid hn
          clear hno hin hn
          go_wp2
          go_round
          case rel => exact ⟨i + 1, by go_num, by omega, HNO.out⟩
          case measure => simp [intOf]; omega
        · rw [if_neg hin, show (none : Option Value).getD (Value.int .i64 0) = .int .i64 0 from rfl] at hl
          have HE := Lib.hid (HS.out i hlt hno hin)
          clear hno hin
          go_wp2
          go_ret2
          exact ⟨by rw [HE.out]; rfl, rfl⟩
      · obtain rfl : i = 1 := by omega
        have HE := Lib.hid (HN.out hno)
        clear hno
        rw [show ((1 : Nat) : Int) = 1 from rfl]
        go_wp2
        go_ret2
        exact ⟨by rw [HE.out]; rfl, rfl⟩

end Go.Proofs.Ytebkknkgkjblnaa
