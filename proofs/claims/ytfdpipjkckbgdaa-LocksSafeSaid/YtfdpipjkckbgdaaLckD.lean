/-
  LOCKS: free, Unlock, Leave, Run.
-/
import Derived.Test.YtfdpipjkckbgdaaLckC
import Derived.Test.YtfdpipjkckbgdaaGphA
namespace Go.Proofs.Ytfdpipjkckbgdaa
open Go.RowKit Go.Maps
attribute [local go_sem] depUpon Sp.ok

theorem row_form {w : World} {base size n : Nat} {e : TypeId} {v : Value} {xs : List Value} (h : w.ownsRow base e size v n xs) : ∃ A c, v = .slice A n c ∧ Row w base e size A n c xs := by
  rcases h.2 with ⟨rfl, h0⟩ | ⟨g, cap, cur, rfl, rest⟩
  · subst h0
    exact ⟨none, 0, rfl, h⟩
  · exact ⟨_, _, rfl, h⟩
theorem Row.shrink {w : World} {B z n c : Nat} {T : TypeId} {A : Option Addr} {xs : List Value} (h : Row w B T z A n c xs) {m : Nat} (hm : m ≤ n) : Row w B T z A m c (xs.take (m * z)) := by
  have hl := h.1
  have hmz : m * z ≤ n * z := Nat.mul_le_mul_right _ hm
  refine ⟨by rw [List.length_take]; omega, ?_⟩
  rcases h.2 with ⟨hv, h0⟩ | ⟨g, cap, cur, hv, hb, hc, hnc, hmx, hsz, htk⟩
  · left
    injection hv with e1 e2 e3
    have : m = 0 := by omega
    subst this
    exact ⟨by rw [e1, e3], rfl⟩
  · right
    injection hv with e1 e2 e3
    refine ⟨g, cap, cur, by rw [e1, e3], hb, hc, by omega, hmx, hsz, ?_⟩
    rw [← htk, List.take_take, Nat.min_eq_left hmz]
theorem LW.noRow {w : World} {B : Nat} {a : LA} {s : LS} {N : Nat} (h : LW w B a s N) {b m c z : Nat} {T : TypeId} {Z : Option Addr} {xs : List Value} (hr : Row w b T z Z m c xs) (t1 : T ≠ 65) (t2 : T ≠ 61) (t3 : T ≠ 29) (t4 : T ≠ 46) : ∀ i, blk Z = some i → ¬ LB a s i := by
  intro i hi hP
  rcases hr.2 with ⟨hv, _⟩ | ⟨g', cap, cur, hv, _, hc, _⟩
  · injection hv with e1 e2 e3
    subst e1; cases hi
  · injection hv with e1 e2 e3
    subst e1
    have : g' = i := by simpa [blk] using hi
    subst this
    have ho : Own w g' T cur.toList := by unfold Own; rw [hc]
    exact h.no ho t1 t2 t3 t4 hP
/-- Who waits for one of some mutexes; who waits for what, when these came free. -/
def wk (s : LS) (us : List Int) (t : Int) : Bool := match s.W t with
  | some m => decide (m ∈ us)
  | none => false
def freeW (W : Int → Option Int) (us : List Int) (t : Int) : Option Int := match W t with
  | some m => if m ∈ us then none else some m
  | none => none
theorem freeW_wk {s : LS} {us : List Int} {t : Int} : freeW s.W us t = if wk s us t = true then none else s.W t := by
  unfold freeW wk
  cases s.W t with
  | none => rfl
  | some m => by_cases h : m ∈ us <;> simp [h]
/-- Those who are woken, by rising numbers. -/
def Woken (s : LS) (us ws : List Int) : Prop := ws.Pairwise (· < ·) ∧ ∀ t, t ∈ ws ↔ wk s us t = true
theorem zero_ints (w : World) : (zeroValue 3).run Try.prog w = .ok (.int .i64 0) w := by kernel_rfl
theorem filter_take (f : Int → Bool) (l : List Int) (k : Nat) (h : k < l.length) : (l.take (k + 1)).filter f = (l.take k).filter f ++ (if f l[k] = true then [l[k]] else []) := by
  rw [take_succ' l k h, List.filter_append]
  congr 1
  by_cases q : f l[k] = true <;> simp [List.filter, q]
/-- The entries of those that are gone through already. -/
def midW (s : LS) (us ks : List Int) (j : Nat) (t : Int) : Option Int := if t ∈ ks.take j then freeW s.W us t else s.W t
theorem midW_zero (s : LS) (us ks : List Int) : midW s us ks 0 = s.W := by funext t; unfold midW; simp
theorem midW_end {s : LS} {us ks : List Int} (h : ∀ t, s.W t ≠ none → t ∈ ks) : midW s us ks ks.length = freeW s.W us := by
  funext t
  unfold midW
  rw [List.take_length]
  by_cases q : t ∈ ks
  · rw [if_pos q]
  · rw [if_neg q]
    have : s.W t = none := Classical.byContradiction fun e => q (h t e)
    unfold freeW
    rw [this]
theorem midW_at {s : LS} {us ks : List Int} (hs : ks.Pairwise (· < ·)) {j : Nat} (hj : j < ks.length) : midW s us ks j ks[j] = s.W ks[j] := by
  unfold midW
  rw [if_neg]
  intro h
  obtain ⟨i, hi, e⟩ := List.getElem_of_mem h
  rw [List.length_take] at hi
  rw [List.getElem_take] at e
  have := List.pairwise_iff_getElem.1 hs i j (by omega) hj (by omega)
  omega
theorem midW_next {s : LS} {us ks : List Int} {j : Nat} (hj : j < ks.length) : midW s us ks (j + 1) = if wk s us ks[j] = true then fset (midW s us ks j) ks[j] none else midW s us ks j := by
  have hm : ∀ t, t ∈ ks.take (j + 1) ↔ t ∈ ks.take j ∨ t = ks[j] := fun t => by rw [take_succ' ks j hj, List.mem_append, List.mem_singleton]
  by_cases h : wk s us ks[j] = true
  · rw [if_pos h]
    funext t
    by_cases e : t = ks[j]
    · rw [e, fset_at]
      unfold midW
      rw [if_pos ((hm _).2 (.inr rfl)), freeW_wk, if_pos h]
    · rw [fset_ne _ _ e]
      unfold midW
      by_cases q : t ∈ ks.take j
      · rw [if_pos q, if_pos ((hm _).2 (.inl q))]
      · rw [if_neg q, if_neg (fun q2 => by rcases (hm _).1 q2 with q3 | q3; exact q q3; exact e q3)]
  · rw [if_neg h]
    funext t
    unfold midW
    by_cases q : t ∈ ks.take j
    · rw [if_pos q, if_pos ((hm _).2 (.inl q))]
    · rw [if_neg q]
      by_cases e : t = ks[j]
      · rw [if_pos ((hm _).2 (.inr e)), e, freeW_wk, if_neg h]
      · rw [if_neg (fun q2 => by rcases (hm _).1 q2 with q3 | q3; exact q q3; exact e q3)]
theorem LW.wlook1 {w : World} {B : Nat} {a : LA} {s : LS} {N : Nat} (h : LW w B a s N) {t m : Int} (hw : s.W t = some m) : (Instr.lookup 63 (.map (some a.gw)) (.int .i64 t) false).run Try.prog w = .ok (.int .i64 m) w := by
  obtain ⟨L, l1, l2, _⟩ := h.wm
  have := l1.look Try.underlying63 (zero_ints w) (h.wget hw)
  rw [l2, hw] at this
  exact this

set_option maxRecDepth 100000 in
set_option maxHeartbeats 8000000 in
theorem k_free (B : Nat) (a : LA) (s : LS) (N B0 : Nat) (A0 : Option Addr) (n0 c0 : Nat) (us : List Int) (w : World) (h : LW w B a s N) (hN : N ≤ 60000) (hr : Row w B0 3 1 A0 n0 c0 (ints us)) (hn0 : us.length = n0) (hn1 : n0 ≤ 60000) :
    Calls Try.prog 31 #[.pointer (some ⟨a.g, 0, none⟩), .slice A0 n0 c0] w fun e w' => ∃ ws A' c', e = .returned (.slice A' ws.length c') ∧ Row w' w.heap.size 3 1 A' ws.length c' (ints ws) ∧ Woken s us ws ∧ ws.length ≤ N ∧ ∃ P', KX w' B a.g a.gt (s.setW (freeW s.W us)) N P' ∧ Tr w w' (LB a s) P' := by
  have v2 := h.w_
  obtain ⟨M, n1, n2, n3⟩ := h.wm
  have HM := Lib.hid n1
  have HN2 := Lib.hid n2
  have HH := Lib.hid h
  have HR := Lib.hid hr
  obtain ⟨i0, hi0, hz0, hz1, hz2⟩ := info_parts info_int
  have HI := Lib.hid hi0
  have HKS := Lib.hid (show (M.map Prod.fst).Pairwise (· < ·) from List.pairwise_map.2 (n1.srt.imp fun q => q))
  have HKM := Lib.hid (show ∀ t, s.W t ≠ none → t ∈ M.map Prod.fst from fun t ht => by
    cases hw : s.W t with
    | none => exact absurd hw ht
    | some m =>
      have := n2 t
      rw [hw] at this
      exact List.mem_map.2 ⟨_, vget_some this, rfl⟩)
  have HKV := Lib.hid (show ∀ t, t ∈ M.map Prod.fst → ∃ m, s.W t = some m from fun t ht => by
    obtain ⟨r, hr, rfl⟩ := List.mem_map.1 ht
    have := n2 r.1
    rw [vget_of n1.srt hr] at this
    cases hw : s.W r.1 with
    | none => rw [hw] at this; cases this
    | some m => exact ⟨m, rfl⟩)
  clear h n1 n2 hi0 hr
  go_enter Try.func31, Try.ntmps31
  go_wp2_with fail
  refine (keys_callA _ _).mono ?_
  rintro e w2 ⟨rfl, rfl⟩
  go_wp2_with fail
  refine (sorted_callA a.gw M.length (vmap M) vrd w HM.out.map (by rw [vmap_size]; unfold maxLen; omega) (by rw [vmap_size]; omega)).mono ?_
  rintro e w3 ⟨v, ss, rfl, hS, hrow, _, b3⟩
  rw [vmap_keys] at hS
  have hsl : ss.length = M.length := by have := hS.length_eq; simpa using this
  rw [sorted_keys HM.out.srt hS, hsl] at hrow
  obtain ⟨S0, cs0, rfl, r0⟩ := row_form hrow
  have e3 : Ext w w3 := Ext.trans (Ext.alloc _ _) b3
  have R0 := Lib.hid (show Row w3 (w.alloc (.cells #[.map (some a.gw)] 63)).heap.size 3 1 S0 M.length cs0 (ints (M.map Prod.fst)) from r0)
  have HKL := Lib.hid (show (M.map Prod.fst).length = M.length by simp)
  clear hrow r0 b3 hS v2 hsl
  generalize M.map Prod.fst = ks at *
  have hsz3 := e3.size
  have hkn : ks.length ≤ 60000 := by have := HKL.out; omega
  rw [← HKL.out]
  rw [← HKL.out] at R0
  go_wp2
  go_loopw [5, 7, 15] (fun v _ q wr => ∃ (j : Nat) (S : Option Addr) (c1 : Nat) (N1 : Nat), v = .slice S N1 c1 ∧ q = .int .i64 (j : Int) ∧ j ≤ ks.length ∧ N1 = ((ks.take j).filter (wk s us)).length ∧ Row wr w3.heap.size 3 1 S N1 c1 (ints ((ks.take j).filter (wk s us))) ∧ LW wr B a (s.setW (midW s us ks j)) N ∧ Tr w3 wr (LB a s) (LB a s)) (fun _ _ q _ => ks.length - (intOf q).toNat)
  case atStart => exact ⟨0, none, 0, 0, rfl, rfl, by omega, by simp, by simpa [ints] using Row.nil _ _ _ _, by rw [midW_zero]; exact HH.out.keep e3, Tr.refl⟩
  case round =>
    obtain ⟨j, S, c1, N1, rfl, rfl, hj, hN1, hR, hL, hT⟩ := hrel
    have hlf : N1 ≤ j := by
      rw [hN1]
      have := List.length_filter_le (wk s us) (ks.take j)
      rw [List.length_take] at this
      omega
    have j0' : (0 : Int) ≤ (j : Int) := by omega
    have hTs := hT.base.size
    have HL := Lib.hid hL
    have HT := Lib.hid hT
    have RS := Lib.hid hR
    have HNN := Lib.hid hN1
    clear hL hT hR hN1
    by_cases hlt : j < ks.length
    · have j1' : (j : Int) < (ks.length : Int) := by omega
      have H3 := HH.out.keep e3
      have R1 := Lib.hid (HT.out.row R0.out (H3.noRow R0.out (by decide) (by decide) (by decide) (by decide)))
      have U1 := Lib.hid (HT.out.row (HR.out.keep e3) (H3.noRow (HR.out.keep e3) (by decide) (by decide) (by decide) (by decide)))
      obtain ⟨bs, os, rfl, hcS⟩ := R1.out.rd.int hlt
      obtain ⟨m, hm⟩ := HKV.out _ (List.getElem_mem hlt)
      have hlk := HL.out.wlook1 (t := ks[j]) (m := m) (by show midW s us ks j ks[j] = some m; rw [midW_at HKS.out hlt]; exact hm)
      have hkI : I64 ks[j] := HH.out.wget hm
      have HKI := Lib.hid hkI
      have HNX := Lib.hid (midW_next (s := s) (us := us) hlt)
      have HFT := Lib.hid (filter_take (wk s us) ks j hlt)
      have hwk : wk s us ks[j] = memB m us := by unfold wk memB; rw [hm]
      rw [hwk] at HNX HFT
      have HCN := Lib.hid (s_contains m A0 n0 c0 us wr (by omega) U1.out.rd hn0)
      have v2 := HL.out.w_
      have HNG := Lib.hid (HL.out.noRow RS.out (by decide) (by decide) (by decide) (by decide))
      clear H3 hwk hm hkI
      generalize ks[j] = t at *
      cases hmb : memB m us
      · rw [hmb] at HCN HNX HFT
        rw [if_neg (by simp)] at HNX HFT
        rw [List.append_nil] at HFT
        clear hmb HNG
        go_wp2_with ((with_reducible go_at_call 40); (with_reducible refine (HCN.out).mono ?_); rintro e w' ⟨rfl, rfl⟩)
        go_roundw
        case rel => exact ⟨j + 1, S, c1, N1, rfl, by go_num, by omega, by rw [HFT.out]; exact HNN.out, by rw [HFT.out]; exact RS.out, by rw [HNX.out]; exact HL.out, HT.out⟩
        case measure => simp [intOf]; omega
      · rw [hmb] at HCN HNX HFT
        rw [if_pos rfl] at HNX HFT
        clear hmb
        obtain ⟨K, q1, q2, q3⟩ := HL.out.wm
        have HQ1 := Lib.hid q1
        have HQ2 := Lib.hid q2
        have HQ3 := Lib.hid q3
        clear q1 q2 q3
        go_upto_region 7 with (first
          | ((with_reducible go_at_call 40); (with_reducible refine (HCN.out).mono ?_); rintro e w' ⟨rfl, rfl⟩)
          | (at_delete; refine wpl_del_kv _ rfl _ _ 63 rfl 3 Try.underlying63 a.gw K rfl HQ1.out t HKI.out rfl ?_; intro w5 m5 g5; have HP := Lib.hid (HL.out.delW HQ1.out HQ2.out HQ3.out m5 g5); clear m5 g5))
        have hP1 := HP.out.1
        have hP2 := HP.out.2
        have HL5 := Lib.hid (show LW w5 B a (s.setW (midW s us ks (j + 1))) N from by rw [HNX.out]; exact hP1)
        have hT5 : Tr wr w5 (LB a s) (LB a s) := hP2
        have HT5 := Lib.hid (HT.out.trans hT5)
        have RS5 := Lib.hid (hT5.row RS.out HNG.out)
        have hz5 := hT5.base.size
        have hz35 := HT5.out.base.size
        clear hP1 hP2 hT5 v2 hlk
        have HAP := Lib.hid (show ints ((ks.take j).filter (wk s us)) ++ ints [t] = ints ((ks.take (j + 1)).filter (wk s us)) by rw [HFT.out]; simp [ints])
        have HNG5 := Lib.hid (HL5.out.noRow RS5.out (by decide) (by decide) (by decide) (by decide))
        go_wp2_with (at_builtin; have r7 := (RS5.out.alloc (.cells #[.int .i64 t] 3)); refine wpl_append _ rfl (.tmp 32) (.tmp 34) 22 rfl 3 i0 _ 1 8 Try.underlying22 HI.out hz0 hz1 hz2 rfl (by omega) w3.heap.size S N1 c1 _ rfl r7 _ 1 1 (ints [t]) rfl rfl (Own.new w5 3 (ints [t])).rd0 (ints_one _) (N1 + 1) _ rfl HAP.out (by omega) (by omega) (by simp; omega) ?_; intro A6 c6 w6 o6 g6 k6)
        have bA := Ext.alloc w5 (.cells #[.int .i64 t] 3)
        have hT6 : Tr (w5.alloc (.cells #[.int .i64 t] 3)) w6 (fun i => blk S = some i) (fun i => blk S = some i) := Tr.grown g6 fun _ q => .inl q
        have HL6 := Lib.hid ((HL5.out.keep bA).other hT6 (fun i hi q => HNG5.out i q hi))
        have HT6 := Lib.hid (show Tr w3 w6 (LB a s) (LB a s) from by
          have t1 := HT5.out.trans (Tr.ext bA)
          have hge := RS5.out.at_
          refine ⟨Below.trans t1.base hT6.base, fun i hi hP => ?_, fun i hi => .inl hi⟩
          rw [hT6.block i (Nat.lt_of_lt_of_le hi t1.base.size) (fun q => by have := (hge i q).1; omega)]
          exact t1.block i hi hP)
        clear bA hT6 g6 k6
        go_roundw
        case rel => exact ⟨j + 1, A6, c6, N1 + 1, rfl, by go_num, by omega, by rw [HFT.out, List.length_append, HNN.out]; rfl, o6, HL6.out, HT6.out⟩
        case measure => simp [intOf]; omega
    · obtain rfl : j = ks.length := by omega
      rw [List.take_length] at RS HNN
      rw [midW_end HKM.out] at HL
      have hlf2 : N1 ≤ N := by have := HKL.out; omega
      go_wp2
      go_ret
      exact ⟨ks.filter (wk s us), S, c1, by rw [← HNN.out]; rfl, by rw [← HNN.out]; exact RS.out.mono hsz3, ⟨HKS.out.filter _, fun t => ⟨fun q => (List.mem_filter.1 q).2, fun q => List.mem_filter.2 ⟨HKM.out t (fun e => by unfold wk at q; rw [e] at q; cases q), q⟩⟩⟩, by rw [← HNN.out]; exact hlf2, _, ⟨a, rfl, rfl, HL.out, rfl⟩, (Tr.ext e3).trans HT.out⟩

end Go.Proofs.Ytfdpipjkckbgdaa
