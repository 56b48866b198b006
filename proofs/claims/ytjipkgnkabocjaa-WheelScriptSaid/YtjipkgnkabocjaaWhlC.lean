/-
  WALKS of package wheel: find.
-/
import Derived.Test.YtjipkgnkabocjaaWhlB
namespace Go.Proofs.Ytjipkgnkabocjaa
open Go.RowKit
attribute [local go_sem] depUpon Sp.ok

/-- What find finds: nothing, or a timer of this number. -/
def FindP (R : RW) (id : Int) (e : Ending) : Prop :=
  (e = .returned (.tuple #[.agg #[.int .i64 0, .int .i64 0], .bool false]) ∧ ∀ k, k < 256 → ∀ x ∈ R k, x.1 ≠ id) ∨
  ∃ (k : Nat) (a : Int), k < 256 ∧ (id, a) ∈ R k ∧ e = .returned (.tuple #[.agg #[.int .i64 id, .int .i64 a], .bool true])

set_option maxRecDepth 100000 in
set_option maxHeartbeats 4000000 in
theorem w_find (B g : Nat) (now n : Int) (F : FW) (R : RW) (id : Int) (w : World) (h : WS w B g now n F R) (hn : ∀ k, k < 256 → (R k).length ≤ 65536) :
    Calls Try.prog 27 #[.pointer (some ⟨g, 0, none⟩), .int .i64 id] w fun e w' => FindP R id e ∧ Below w.heap.size w w' := by
  have HW := Lib.hid h
  have HN := Lib.hid hn
  have HIX := Lib.hid (fun r j (hj : j < 64) w => run_index F R r hj w)
  clear h hn
  go_enter Try.func27, Try.ntmps27
  go_wp2_with (refine wpl_alloc_own _ rfl 62 rfl (.agg #[.int .i64 0, .int .i64 0]) zero_timer ?_; intro w1 o1 b1 s1)
  go_loopw [14] (fun q wr => ∃ r : Nat, q = .int .i64 (r : Int) ∧ r ≤ 4 ∧ (∀ k, k < r * 64 → ∀ x ∈ R k, x.1 ≠ id) ∧ Ext w1 wr) (fun q _ => 4 - (intOf q).toNat)
  case atStart => exact ⟨0, rfl, by omega, fun k hk => by omega, Ext.refl _⟩
  case round =>
    obtain ⟨r, rfl, hr, hno, q2⟩ := hrel
    have HNO := Lib.hid hno
    clear hno
    by_cases hr4 : r < 4
    · have hr4' : (r : Int) < 4 := by omega
      have hr0' : (0 : Int) ≤ (r : Int) := by omega
      have HRC := Lib.hid ((HW.out.keep (Ext.trans b1 q2)).rowc hr4)
      go_wp2_with (refine wpl_load_rd _ rfl 57 _ rfl (by kernel_rfl) 64 size_row g (1 + r * 64) rfl (rowcs F R r) (rowcs_len F R r) HRC.out ?_)
      go_loopw [23] (fun q wm => ∃ j : Nat, q = .int .i64 (j : Int) ∧ j ≤ 64 ∧ (∀ k, k < r * 64 + j → ∀ x ∈ R k, x.1 ≠ id) ∧ Ext w1 wm) (fun q _ => 64 - (intOf q).toNat)
      case atStart => exact ⟨0, rfl, by omega, fun k hk => HNO.out k (by omega), q2⟩
      case round =>
        clear q2
        obtain ⟨j, rfl, hj, hno, q2⟩ := hrel
        have HNO2 := Lib.hid hno
        clear hno
        by_cases hj64 : j < 64
        · have hj64' : (j : Int) < 64 := by omega
          have hix := HIX.out r j hj64
          have hrow := HW.out.row (r * 64 + j) (by omega)
          have hlen := HN.out (r * 64 + j) (by omega)
          have hcell : cellOf F R (r * 64 + j) = .slice (F (r * 64 + j)).1 (R (r * 64 + j)).length (F (r * 64 + j)).2 := rfl
          rw [hcell] at hix
          generalize hL : R (r * 64 + j) = L at *
          generalize (F (r * 64 + j)).1 = A at *
          generalize (F (r * 64 + j)).2 = c at *
          have HL := Lib.hid hL
          have HRO := Lib.hid hrow
          clear hcell hL hrow
          go_wp2_with (refine wpl_index _ rfl 57 _ _ rfl _ (hix _) ?_)
          go_loopw [28] (fun q wi => ∃ i : Nat, q = .int .i64 (i : Int) ∧ i ≤ L.length ∧ (∀ x ∈ L.take i, x.1 ≠ id) ∧ Ext w1 wi) (fun q _ => L.length - (intOf q).toNat)
          case atStart => exact ⟨0, rfl, by omega, by simp, q2⟩
          case round =>
            clear q2
            obtain ⟨i, rfl, hi, hno, q2⟩ := hrel
            by_cases hil : i < L.length
            · obtain ⟨b, off, rfl, d0, d1⟩ := (HRO.out.keep (Ext.trans b1 q2)).rd.pair hil
              have hs : L[i].1 ≠ id → ∀ x ∈ L.take (i + 1), x.1 ≠ id := fun hx x hr => by
                rw [take_succ' L i hil, List.mem_append, List.mem_singleton] at hr
                rcases hr with hr | rfl
                · exact hno x hr
                · exact hx
              have hm := List.getElem_mem hil
              have i0' : (0 : Int) ≤ (i : Int) := by omega
              have i1' : (i : Int) < (L.length : Int) := by omega
              generalize hy : L[i] = y at *
              obtain ⟨yi, ya⟩ := y
              simp only at hs d0 d1
              have HS := Lib.hid hs
              have HM := Lib.hid hm
              clear hs hno hy hm
              by_cases hid : yi = id
              · subst hid
                have ty : (yi == yi) = true := by simp
                have oW := (o1.keep q2).alloc (.cells #[.int .i64 yi, .int .i64 ya] 62)
                have bW := Ext.trans q2 (Ext.alloc wr (.cells #[.int .i64 yi, .int .i64 ya] 62))
                go_wp2_with (refine wpl_store_own _ rfl 62 _ _ rfl 2 size_timer _ rfl [.int .i64 yi, .int .i64 ya] rfl _ _ oW rfl rfl (by simp [Value.oneCell']) ?_; intro w4 o4 g4 s4; clear s4)
                exact bodyPost_ret (v := .tuple #[.agg #[.int .i64 yi, .int .i64 ya], .bool true]) (results_own2 Try.results27 (by kernel_rfl) 2 size_timer _ _ _ _ _ _ rfl rfl o4 rfl) rfl ⟨.inr ⟨r * 64 + j, ya, by omega, by rw [HL.out]; exact HM.out, rfl⟩, below_of_grown (Ext.trans b1 bW) g4 (Nat.le_refl _) (Ext.trans b1 bW).size⟩
              · have ty : (yi == id) = false := by simp [hid]
                have HE := Lib.hid (HS.out hid)
                clear hid
                go_wp2
                go_roundw
                case rel => exact ⟨i + 1, by go_num, by omega, HE.out, Ext.trans q2 (Ext.alloc _ _)⟩
                case measure => simp [intOf]; omega
            · obtain rfl : i = L.length := by omega
              have HE := Lib.hid (by rw [List.take_length] at hno; exact hno)
              clear hno
              go_wp2
              go_roundw
              case rel => exact ⟨j + 1, by go_num, by omega, fun k hk => by
                by_cases e : k = r * 64 + j
                · rw [e, HL.out]; exact HE.out
                · exact HNO2.out k (by omega), q2⟩
              case measure => simp [intOf]; omega
        · obtain rfl : j = 64 := by omega
          rw [show ((64 : Nat) : Int) = 64 from rfl]
          go_wp2
          go_roundw
          case rel => exact ⟨r + 1, by go_num, by omega, fun k hk => HNO2.out k (by omega), q2⟩
          case measure => simp [intOf]; omega
    · obtain rfl : r = 4 := by omega
      rw [show ((4 : Nat) : Int) = 4 from rfl]
      have oW := o1.keep q2
      go_wp2_with (refine wpl_store_own _ rfl 62 _ _ rfl 2 size_timer _ rfl [.int .i64 0, .int .i64 0] rfl _ _ oW rfl rfl (by simp [Value.oneCell']) ?_; intro w4 o4 g4 s4; clear s4)
      exact bodyPost_ret (v := .tuple #[.agg #[.int .i64 0, .int .i64 0], .bool false]) (results_own2 Try.results27 (by kernel_rfl) 2 size_timer _ _ _ _ _ _ rfl rfl o4 rfl) rfl ⟨.inl ⟨rfl, HNO.out⟩, below_of_grown (Ext.trans b1 q2) g4 (Nat.le_refl _) (Ext.trans b1 q2).size⟩
theorem w_find_nil (id : Int) (w : World) : Calls Try.prog 27 #[.pointer none, .int .i64 id] w fun e w' => e = .returned (.tuple #[.agg #[.int .i64 0, .int .i64 0], .bool false]) ∧ Below w.heap.size w w' := by
  go_enter Try.func27, Try.ntmps27
  go_wp2_with (first
    | (refine wpl_alloc_own _ rfl 62 rfl (.agg #[.int .i64 0, .int .i64 0]) zero_timer ?_; intro w1 o1 b1 s1)
    | (refine wpl_store_own _ rfl 62 _ _ rfl 2 size_timer _ rfl [.int .i64 0, .int .i64 0] rfl _ _ o1 rfl rfl (by simp [Value.oneCell']) ?_; intro w4 o4 g4 s4; clear s4))
  exact bodyPost_ret (v := .tuple #[.agg #[.int .i64 0, .int .i64 0], .bool false]) (results_own2 Try.results27 (by kernel_rfl) 2 size_timer _ _ _ _ _ _ rfl rfl o4 rfl) rfl ⟨rfl, below_of_grown b1 g4 (Nat.le_refl _) b1.size⟩


end Go.Proofs.Ytjipkgnkabocjaa
