/-
  LOCKS: what Owner's and Over's closures ask, slices.ContainsFunc with them; Owner, Owners, Over.
-/
import Derived.Test.YtfdpipjkckbgdaaLckA
namespace Go.Proofs.Ytfdpipjkckbgdaa
open Go.RowKit Go.Maps
attribute [local go_sem] depUpon Sp.ok

/-- Is it this mutex? -/
def ownP (m : Int) (x : Int × Int) : Bool := x.1 == m
theorem own_fn (m y z : Int) (g3 : Nat) (w : World) (h3 : w.cell? ⟨g3, 0, none⟩ = some (.int .i64 m)) :
    Calls Try.prog 33 #[.agg #[.int .i64 y, .int .i64 z], .pointer (some ⟨g3, 0, none⟩)] w fun e w' => e = .returned (.bool (ownP m (y, z))) ∧ Below w.heap.size w w' := by
  have bX := Ext.alloc w (.cells #[.int .i64 y, .int .i64 z] 46)
  have oX := Own.new w 46 [.int .i64 y, .int .i64 z]
  have y0 := oX.cell 0
  simp only [List.getElem?_cons_zero] at y0
  have y3 := cell_keep bX h3
  have HE := Lib.hid (show ownP m (y, z) = (y == m) from rfl)
  clear oX h3
  go_enter Try.func33, Try.ntmps33
  go_wp2
  go_ret
  exact ⟨by rw [HE.out]; rfl, bX⟩
/-- Would so many ticks be too many? -/
def overP (ms : List (Int × Int)) (n : Int) (x : Int × Int) : Bool := decide ((mget ms x.1).2 < nsum [x.2, n])
set_option maxRecDepth 100000 in
set_option maxHeartbeats 2000000 in
theorem over_fn (ms : List (Int × Int)) (n y z : Int) (p : Value) (g5 g7 : Nat) (w : World) (hT : Tab w p ms) (h5 : w.cell? ⟨g5, 0, none⟩ = some (.int .i64 n)) (h7 : w.cell? ⟨g7, 0, none⟩ = some (.func (.func 36) #[p] #[])) :
    Calls Try.prog 37 #[.agg #[.int .i64 y, .int .i64 z], .pointer (some ⟨g5, 0, none⟩), .pointer (some ⟨g7, 0, none⟩)] w fun e w' => e = .returned (.bool (overP ms n (y, z))) ∧ Below w.heap.size w w' := by
  have bX := Ext.alloc w (.cells #[.int .i64 y, .int .i64 z] 46)
  have oX := Own.new w 46 [.int .i64 y, .int .i64 z]
  have y0 := oX.cell 0
  have y1 := oX.cell 1
  simp only [List.getElem?_cons_zero, List.getElem?_cons_succ] at y0 y1
  have y5 := cell_keep bX h5
  have y7 := cell_keep bX h7
  have HT := Lib.hid (fun w1 (h1 : Ext (w.alloc (.cells #[.int .i64 y, .int .i64 z] 46)) w1) => t_limit p ms y w1 (hT.keep (Ext.trans bX h1)))
  have HE := Lib.hid (show overP ms n (y, z) = decide ((mget ms y).2 < nsum [z, n]) from rfl)
  have HA := Lib.hid (fun gx w1 (ho : Own w1 gx 3 (ints [z, n])) => num_add (some ⟨gx, 0, none⟩) 2 2 [z, n] w1 (by omega) ho.rd0 rfl)
  clear oX h5 h7 hT
  generalize (mget ms y).2 = lm at *
  generalize nsum [z, n] = ns at *
  go_enter Try.func37, Try.ntmps37
  go_upto_region 1 with fail
  generalize (w.alloc (.cells #[.int .i64 y, .int .i64 z] 46)) = w1 at *
  refine wp_region_dep (S := Ext) (C := Ext (w1)) (by kernel_rfl) (by kernel_rfl) rfl Ext.refl (Ext.drew _) ?_
  repeat (refine dep_det (by rfl) (fun K hK => ?_); go_simp; first
    | ((with_reducible refine hK _ ?_); clear hK K)
    | (rw [if_neg (by decide)]; (with_reducible refine hK _ ?_); clear hK K)
    | (refine ⟨_, fun w1 hw1 => ⟨Ext.refl w1, hw1, rfl⟩, hK _ ?_⟩; clear hK K)
    | (apply Exists.intro; refine ⟨fun w1 hw1 => ?_, hK _ ?_⟩
       first
         | (have c_y0 := cell_keep hw1 y0; have c_y1 := cell_keep hw1 y1; have c_y5 := cell_keep hw1 y5; have c_y7 := cell_keep hw1 y7; go_simp; first | exact ⟨Ext.refl _, hw1, rfl⟩ | exact ⟨Ext.refl _, rfl⟩)
         | (go_at_call 36; ((with_reducible refine (HT.out _ hw1).mono ?_); rintro e w' ⟨rfl, hb'⟩; exact ⟨_, rfl, hb', Ext.trans hw1 hb', rfl⟩))
       clear hK K))
  refine dep_var (SlAt 3 (ints [z, n]) 2 2) 8 rfl (by rfl) SlAt.keep (by go_simp) (fun w1 hw1 => ?_) ?_
  · go_simp
    exact ⟨Ext.alloc _ _, Ext.trans hw1 (Ext.alloc _ _), SlAt.new w1 3 (ints [z, n]) 2 2⟩
  refine dep_det1 8 _ (by rfl) (by intro V' h; simpa using h) (List.mem_cons_self ..) (by first | (simp; done) | simp [Act.put]) (fun K hK => ?_)
  apply Exists.intro
  refine ⟨fun w1 v hw1 hV => ?_, hK _ ?_⟩
  · obtain ⟨g, rfl, ho⟩ := hV
    go_simp
    refine (HA.out g _ ho).mono ?_
    rintro e w' ⟨rfl, rfl⟩
    exact ⟨_, rfl, Ext.refl _, hw1, rfl⟩
  clear hK K
  repeat (refine dep_det (by rfl) (fun K hK => ?_); go_simp; first
    | ((with_reducible refine hK _ ?_); clear hK K)
    | (rw [if_neg (by decide)]; (with_reducible refine hK _ ?_); clear hK K)
    | (refine ⟨_, fun w1 hw1 => ⟨Ext.refl w1, hw1, rfl⟩, hK _ ?_⟩; clear hK K)
    | (apply Exists.intro; refine ⟨fun w1 hw1 => ?_, hK _ ?_⟩
       first
         | (have c_y0 := cell_keep hw1 y0; have c_y1 := cell_keep hw1 y1; have c_y5 := cell_keep hw1 y5; have c_y7 := cell_keep hw1 y7; go_simp; first | exact ⟨Ext.refl _, hw1, rfl⟩ | exact ⟨Ext.refl _, rfl⟩)
         | (go_at_call 36; ((with_reducible refine (HT.out _ hw1).mono ?_); rintro e w' ⟨rfl, hb'⟩; exact ⟨_, rfl, hb', Ext.trans hw1 hb', rfl⟩))
       clear hK K))
  refine dep_nil ?_
  intro a' w' hC hE
  obtain ⟨v, ⟨g, rfl, _⟩, hE⟩ := atEnd_cons hE (by simp) (by first | (simp; done) | simp [Act.put])
  obtain rfl := atEnd_nil hE
  clear hE
  go_wp2
  go_ret
  exact ⟨by rw [HE.out]; rfl, Ext.trans bX hC⟩

set_option maxRecDepth 100000 in
set_option maxHeartbeats 1000000 in
theorem own_index (m : Int) (g3 : Nat) (A : Option Addr) (n c : Nat) (hs : List (Int × Int)) (w : World) (h3 : w.cell? ⟨g3, 0, none⟩ = some (.int .i64 m)) (hn : n ≤ 65536) (hr : Rd w A (pairs hs)) (hl : hs.length = n) :
    Calls Try.prog 47 #[.slice A n c, .func (.func 33) #[] #[.pointer (some ⟨g3, 0, none⟩)]] w (IdxPost (hs.any (ownP m)) w) := by
  subst hl
  have H3 := Lib.hid h3
  clear h3
  go_enter Try.func47, Try.ntmps47
  go_wp2
  go_loopw [8] (fun i wr => ∃ k : Nat, k ≤ hs.length ∧ i = .int .i64 k ∧ Hid ((hs.take k).any (ownP m) = false) ∧ Below w.heap.size w wr) (fun i _ => hs.length - (intOf i).toNat)
  case atStart => exact ⟨0, Nat.zero_le _, rfl, Lib.hid rfl, Below.refl _ _⟩
  case round =>
    obtain ⟨k, hk, rfl, HA, hb⟩ := hrel
    by_cases hlt : k < hs.length
    · obtain ⟨b, off, rfl, h1, h2⟩ := (hr.keep hb).pair hlt
      have HTk := Lib.hid (take_succ' hs k hlt)
      have HM := Lib.hid (List.getElem_mem hlt : hs[k] ∈ hs)
      generalize hs[k] = x at *
      obtain ⟨xa, xb⟩ := x
      simp only at h1 h2
      have c1 := own_fn m xa xb g3 wr (cell_keep hb H3.out)
      cases hg : (ownP m) (xa, xb)
      · have HE : Hid ((hs.take (k + 1)).any (ownP m) = false) := Lib.hid (by
          rw [HTk.out, List.any_append, HA.out]; simp only [List.any_cons, List.any_nil, hg]; rfl)
        rw [hg] at c1
        have C1 := Lib.hid c1
        clear c1 hg
        go_wp2_with ((with_reducible go_at_call 33); (with_reducible refine (C1.out).mono ?_); rintro e w1 ⟨rfl, b1⟩)
        go_roundw
        case rel => exact ⟨k + 1, by omega, by go_num, HE, Ext.trans hb b1⟩
        case measure => simp [intOf]; omega
      · have HE : Hid (true = hs.any (ownP m)) := Lib.hid (List.any_eq_true.2 ⟨(xa, xb), HM.out, hg⟩).symm
        rw [hg] at c1
        have C1 := Lib.hid c1
        clear c1 hg
        go_wp2_with ((with_reducible go_at_call 33); (with_reducible refine (C1.out).mono ?_); rintro e w1 ⟨rfl, b1⟩)
        go_ret
        exact ⟨k, rfl, by omega, by omega, by rw [← HE.out]; simp, Ext.trans hb b1⟩
    · go_wp2
      go_ret
      exact ⟨-1, rfl, by omega, by omega, by have := HA.out; rw [List.take_of_length_le (by omega)] at this; rw [this]; rfl, hb⟩
theorem own_contains (m : Int) (g3 : Nat) (A : Option Addr) (n c : Nat) (hs : List (Int × Int)) (w : World) (h3 : w.cell? ⟨g3, 0, none⟩ = some (.int .i64 m)) (hn : n ≤ 65536) (hr : Rd w A (pairs hs)) (hl : hs.length = n) :
    Calls Try.prog 32 #[.slice A n c, .func (.func 33) #[] #[.pointer (some ⟨g3, 0, none⟩)]] w fun e w' => e = .returned (.bool (hs.any (ownP m))) ∧ Below w.heap.size w w' := by
  have C1 := Lib.hid (own_index m g3 A n c hs w h3 hn hr hl)
  generalize hs.any (ownP m) = q at *
  clear hr hl h3
  go_enter Try.func32, Try.ntmps32
  go_wp2_with fail
  refine C1.out.mono ?_
  rintro e w1 ⟨i, rfl, i0, i1, hq, b1⟩
  have HQ := Lib.hid hq
  clear hq
  go_wp2
  go_ret
  exact ⟨by rw [← HQ.out]; rfl, b1⟩

set_option maxRecDepth 100000 in
set_option maxHeartbeats 1000000 in
theorem over_index (ms : List (Int × Int)) (tn : Int) (p : Value) (g5 g7 : Nat) (A : Option Addr) (n c : Nat) (hs : List (Int × Int)) (w : World) (ht : Tab w p ms) (h5 : w.cell? ⟨g5, 0, none⟩ = some (.int .i64 tn)) (h7 : w.cell? ⟨g7, 0, none⟩ = some (.func (.func 36) #[p] #[])) (hn : n ≤ 65536) (hr : Rd w A (pairs hs)) (hl : hs.length = n) :
    Calls Try.prog 47 #[.slice A n c, .func (.func 37) #[] #[.pointer (some ⟨g5, 0, none⟩), .pointer (some ⟨g7, 0, none⟩)]] w (IdxPost (hs.any (overP ms tn)) w) := by
  subst hl
  have HT := Lib.hid ht
  have H5 := Lib.hid h5
  have H7 := Lib.hid h7
  clear ht h5 h7
  go_enter Try.func47, Try.ntmps47
  go_wp2
  go_loopw [8] (fun i wr => ∃ k : Nat, k ≤ hs.length ∧ i = .int .i64 k ∧ Hid ((hs.take k).any (overP ms tn) = false) ∧ Below w.heap.size w wr) (fun i _ => hs.length - (intOf i).toNat)
  case atStart => exact ⟨0, Nat.zero_le _, rfl, Lib.hid rfl, Below.refl _ _⟩
  case round =>
    obtain ⟨k, hk, rfl, HA, hb⟩ := hrel
    by_cases hlt : k < hs.length
    · obtain ⟨b, off, rfl, h1, h2⟩ := (hr.keep hb).pair hlt
      have HTk := Lib.hid (take_succ' hs k hlt)
      have HM := Lib.hid (List.getElem_mem hlt : hs[k] ∈ hs)
      generalize hs[k] = x at *
      obtain ⟨xa, xb⟩ := x
      simp only at h1 h2
      have c1 := over_fn ms tn xa xb p g5 g7 wr (HT.out.keep hb) (cell_keep hb H5.out) (cell_keep hb H7.out)
      cases hg : (overP ms tn) (xa, xb)
      · have HE : Hid ((hs.take (k + 1)).any (overP ms tn) = false) := Lib.hid (by
          rw [HTk.out, List.any_append, HA.out]; simp only [List.any_cons, List.any_nil, hg]; rfl)
        rw [hg] at c1
        have C1 := Lib.hid c1
        clear c1 hg
        go_wp2_with ((with_reducible go_at_call 37); (with_reducible refine (C1.out).mono ?_); rintro e w1 ⟨rfl, b1⟩)
        go_roundw
        case rel => exact ⟨k + 1, by omega, by go_num, HE, Ext.trans hb b1⟩
        case measure => simp [intOf]; omega
      · have HE : Hid (true = hs.any (overP ms tn)) := Lib.hid (List.any_eq_true.2 ⟨(xa, xb), HM.out, hg⟩).symm
        rw [hg] at c1
        have C1 := Lib.hid c1
        clear c1 hg
        go_wp2_with ((with_reducible go_at_call 37); (with_reducible refine (C1.out).mono ?_); rintro e w1 ⟨rfl, b1⟩)
        go_ret
        exact ⟨k, rfl, by omega, by omega, by rw [← HE.out]; simp, Ext.trans hb b1⟩
    · go_wp2
      go_ret
      exact ⟨-1, rfl, by omega, by omega, by have := HA.out; rw [List.take_of_length_le (by omega)] at this; rw [this]; rfl, hb⟩
theorem over_contains (ms : List (Int × Int)) (tn : Int) (p : Value) (g5 g7 : Nat) (A : Option Addr) (n c : Nat) (hs : List (Int × Int)) (w : World) (ht : Tab w p ms) (h5 : w.cell? ⟨g5, 0, none⟩ = some (.int .i64 tn)) (h7 : w.cell? ⟨g7, 0, none⟩ = some (.func (.func 36) #[p] #[])) (hn : n ≤ 65536) (hr : Rd w A (pairs hs)) (hl : hs.length = n) :
    Calls Try.prog 32 #[.slice A n c, .func (.func 37) #[] #[.pointer (some ⟨g5, 0, none⟩), .pointer (some ⟨g7, 0, none⟩)]] w fun e w' => e = .returned (.bool (hs.any (overP ms tn))) ∧ Below w.heap.size w w' := by
  have C1 := Lib.hid (over_index ms tn p g5 g7 A n c hs w ht h5 h7 hn hr hl)
  generalize hs.any (overP ms tn) = q at *
  clear hr hl ht h5 h7
  go_enter Try.func32, Try.ntmps32
  go_wp2_with fail
  refine C1.out.mono ?_
  rintro e w1 ⟨i, rfl, i0, i1, hq, b1⟩
  have HQ := Lib.hid hq
  clear hq
  go_wp2
  go_ret
  exact ⟨by rw [← HQ.out]; rfl, b1⟩

/-- No mutex has two holders. -/
def Uq (s : LS) : Prop := ∀ t u m, m ∈ s.mu t → m ∈ s.mu u → t = u
open Classical in
/-- Who holds a mutex (-1: nobody). -/
noncomputable def ownO (s : LS) (m : Int) : Int := if h : ∃ t, m ∈ s.mu t then Classical.choose h else -1
theorem ownO_of {s : LS} (h : Uq s) {t m : Int} (hm : m ∈ s.mu t) : ownO s m = t := by
  unfold ownO
  have hx : ∃ t, m ∈ s.mu t := ⟨t, hm⟩
  rw [dif_pos hx]
  exact h _ _ _ (Classical.choose_spec hx) hm
theorem ownO_no {s : LS} {m : Int} (h : ∀ t, m ∉ s.mu t) : ownO s m = -1 := by
  unfold ownO
  rw [dif_neg (fun ⟨t, ht⟩ => h t ht)]
theorem ownO_ways (s : LS) (m : Int) : (ownO s m = -1 ∧ ∀ t, m ∉ s.mu t) ∨ m ∈ s.mu (ownO s m) := by
  unfold ownO
  by_cases hx : ∃ t, m ∈ s.mu t
  · rw [dif_pos hx]
    exact .inr (Classical.choose_spec hx)
  · rw [dif_neg hx]
    exact .inl ⟨rfl, fun t ht => hx ⟨t, ht⟩⟩
theorem any_own {xs : List (Int × Int)} {m : Int} : xs.any (ownP m) = true ↔ m ∈ xs.map Prod.fst := by
  rw [List.any_eq_true, List.mem_map]
  constructor
  · rintro ⟨x, hx, h⟩
    exact ⟨x, hx, by simpa [ownP] using h⟩
  · rintro ⟨x, hx, h⟩
    exact ⟨x, hx, by simpa [ownP] using h⟩
theorem mu_of {s : LS} {t : Int} {xs : List (Int × Int)} (h : s.H t = some xs) : s.mu t = xs.map Prod.fst := by unfold LS.mu LS.hl; rw [h]; rfl

theorem MR.left {w w' : World} {gm r : Nat} {L T : KV} (h : MR w gm r L T) (hb : Ext w w') : w'.rangeLeft gm r = w.rangeLeft gm r := by
  obtain ⟨cnt, hr⟩ := h.rng
  have hg : w.grownBy w' none := ⟨hb.os, hb.tape, hb.output, hb.size, fun i hi _ => hb.block i hi⟩
  rw [(hr.kept hg (by simp) (by simp)).left_eq, hr.left_eq]

set_option maxRecDepth 100000 in
set_option maxHeartbeats 4000000 in
theorem k_owner (B : Nat) (a : LA) (s : LS) (N : Nat) (m : Int) (w : World) (h : LW w B a s N) (hN : N ≤ 60000) (hu : Uq s) :
    Calls Try.prog 16 #[.pointer (some ⟨a.g, 0, none⟩), .int .i64 m] w fun e w' => e = .returned (.int .i64 (ownO s m)) ∧ Ext w w' := by
  obtain ⟨L, l1, l2, l3⟩ := h.hm
  have bX := Ext.alloc w (.cells #[.int .i64 m] 3)
  have oX := Lib.hid (Own.new w 3 [.int .i64 m])
  have v1 := (h.keep bX).h_
  have HM := Lib.hid (l1.keep bX)
  have HH := Lib.hid h
  have HU := Lib.hid hu
  have HL2 := Lib.hid l2
  have hmf : ∀ (fn : Fn) (first cap : Array Value) (w : World), (Instr.makeFunc fn first cap).run Try.prog w = .ok (.func fn first cap) w := fun _ _ _ _ => rfl
  clear h l1 l2 hu
  go_enter Try.func16, Try.ntmps16
  go_upto_region 3 with fail
  have hzX : (w.alloc (.cells #[.int .i64 m] 3)).heap.size = w.heap.size + 1 := by simp
  have HZX := Lib.hid hzX
  clear hzX
  generalize (w.alloc (.cells #[.int .i64 m] 3)) = w1 at *
  go_wp2_with (at_range; refine wpl_range_kv _ rfl _ 62 rfl 42 Try.underlying62 a.gh L rfl HM.out ?_; intro w0 hrg0 b0)
  go_frame
  go_loopw [5, 6] (fun _ _ wr => ∃ (S T : KV), (S ++ T).Perm L ∧ Hid (∀ x v, (x, v) ∈ S → m ∉ s.mu x) ∧ MR wr a.gh w1.heap.size L T ∧ Ext w1 wr) (fun _ _ wr => wr.rangeLeft a.gh w1.heap.size)
  case atStart => exact ⟨[], L, List.Perm.refl _, Lib.hid (fun x v hx => by cases hx), hrg0, b0⟩
  case round =>
    clear b0 hrg0
    obtain ⟨S, T, hpm, hno, hrg, hE⟩ := hrel
    go_wp2_with (at_next; refine wpl_next_kv _ rfl _ rfl a.gh w1.heap.size L S T rfl hrg hpm ?_ ?_)
    · intro hS
      have HO := Lib.hid (show ownO s m = -1 from ownO_no fun t ht => by
        cases hx : s.H t with
        | none => unfold LS.mu LS.hl at ht; rw [hx] at ht; simp at ht
        | some xs =>
          have h2 := HL2.out t
          rw [hx] at h2
          exact hno.out t _ (hS.mem_iff.2 (vget_some h2)) ht)
      go_wp2
      go_ret
      exact ⟨by rw [HO.out]; rfl, Ext.trans bX hE⟩
    · intro x v T' w2 hxL hI hpm1 hrg1 hlt hg1 hs1 hen
      have h2 := HL2.out x
      rw [vget_of hrg.srt hxL] at h2
      obtain ⟨xs, hx, hv⟩ : ∃ xs, s.H x = some xs ∧ v = hval a x xs := by
        cases hx : s.H x with
        | none => rw [hx] at h2; cases h2
        | some xs => rw [hx] at h2; exact ⟨xs, rfl, by simpa using h2⟩
      subst hv
      have hE1 : Ext w1 w2 := below_grown hE hg1 hE.size (fun g hg => by injection hg with hg; omega)
      have hE2 := Ext.trans bX hE1
      have hlen := HH.out.len x xs hx
      have HC := Lib.hid (own_contains m w.heap.size (a.ad x).1 xs.length (a.ad x).2 xs w2 ((oX.out.keep hE1).cell 0) (by omega) ((HH.out.row x xs hx).rd.keep hE2) rfl)
      have HMU := Lib.hid (mu_of hx)
      unfold hval at hen
      clear h2 hlen hx hxL hrg
      cases hg : xs.any (ownP m)
      · have HNX := Lib.hid (show ∀ y u, (y, u) ∈ S ++ [(x, Value.slice (a.ad x).1 xs.length (a.ad x).2)] → m ∉ s.mu y from fun y u hy hm => by
          rcases List.mem_append.1 hy with hy | hy
          · exact hno.out y u hy hm
          · rw [List.mem_singleton] at hy
            injection hy with hy
            subst hy
            rw [HMU.out, ← any_own, hg] at hm
            cases hm)
        rw [hg] at HC
        clear hg hno
        go_wp2_with ((with_reducible go_at_call 32); (with_reducible refine (HC.out).mono ?_); rintro e w3 ⟨rfl, b3⟩)
        go_roundw
        case rel => exact ⟨_, T', by simpa [hval] using hpm1, HNX, hrg1.keep b3, Ext.trans hE1 b3⟩
        case measure =>
          rw [hrg1.left b3]; exact hlt
      · have HO := Lib.hid (show ownO s m = x from ownO_of HU.out (by rw [HMU.out, ← any_own]; exact hg))
        rw [hg] at HC
        clear hg hno
        go_wp2_with ((with_reducible go_at_call 32); (with_reducible refine (HC.out).mono ?_); rintro e w3 ⟨rfl, b3⟩)
        go_ret
        exact ⟨by rw [HO.out]; rfl, Ext.trans hE2 b3⟩

theorem range_map_snoc (f : Int → Int) (k : Nat) : ((List.range k).map fun i : Nat => f (i : Int)) ++ [f (k : Int)] = (List.range (k + 1)).map fun i : Nat => f (i : Int) := by
  rw [List.range_succ, List.map_append]; rfl
/-- The owners of all mutexes. -/
noncomputable def ownsL (s : LS) : List Int := (List.range s.ms.length).map fun i : Nat => ownO s (i : Int)
set_option maxRecDepth 100000 in
set_option maxHeartbeats 4000000 in
theorem k_owners (B : Nat) (a : LA) (s : LS) (N : Nat) (w : World) (h : LW w B a s N) (hN : N ≤ 60000) (hu : Uq s) :
    Calls Try.prog 21 #[.pointer (some ⟨a.g, 0, none⟩)] w fun e w' => ∃ A' c', e = .returned (.slice A' s.ms.length c') ∧ Row w' w.heap.size 3 1 A' s.ms.length c' (ints (ownsL s)) ∧ Below w.heap.size w w' := by
  have v0 := h.t_
  have h6 := h.tle
  have HL := Lib.hid (t_len _ s.ms w h.table)
  have HO := Lib.hid (fun w1 (h1 : Ext w w1) (m : Int) => k_owner B a s N m w1 (h.keep h1) hN hu)
  have HW := Lib.hid (show ownsL s = (List.range s.ms.length).map fun i : Nat => ownO s (i : Int) from rfl)
  have hmf : ∀ (fn : Fn) (first cap : Array Value) (w : World), (Instr.makeFunc fn first cap).run Try.prog w = .ok (.func fn first cap) w := fun _ _ _ _ => rfl
  obtain ⟨i0, hi0, hz0, hz1, hz2⟩ := info_parts info_int
  have HI := Lib.hid hi0
  clear h hu hi0
  generalize s.ms.length = n at *
  generalize ownsL s = ow at *
  go_enter Try.func21, Try.ntmps21
  go_wp2_with ((with_reducible go_at_call 38); (with_reducible refine (HL.out).mono ?_); rintro e w' ⟨rfl, rfl⟩)
  go_loopw [3, 5, 15] (fun v _ q wr => ∃ (k : Nat) (S : Option Addr) (c1 : Nat), v = .slice S k c1 ∧ q = .int .i64 (k : Int) ∧ k ≤ n ∧ Row wr w.heap.size 3 1 S k c1 (ints ((List.range k).map fun i : Nat => ownO s (i : Int))) ∧ Below w.heap.size w wr) (fun _ _ q _ => n - (intOf q).toNat)
  case atStart => exact ⟨0, none, 0, rfl, rfl, by omega, Row.nil _ _ _ _, Below.refl _ _⟩
  case round =>
    obtain ⟨k, S, c1, rfl, rfl, hk, hR, hb⟩ := hrel
    have k0' : (0 : Int) ≤ (k : Int) := by omega
    by_cases hlt : k < n
    · have k1' : (k : Int) < (n : Int) := by omega
      have HK := Lib.hid (HO.out wr hb (k : Int))
      have HRS := Lib.hid (range_map_snoc (ownO s) k)
      have HR := Lib.hid hR
      have hsz := hb.size
      generalize ownO s (k : Int) = ok at *
      clear hR
      go_wp2_with (first
        | ((with_reducible go_at_call 16); (with_reducible refine (HK.out).mono ?_); rintro e w3 ⟨rfl, b3⟩)
        | (at_builtin; have RA := Lib.hid ((HR.out.keep b3).alloc (.cells #[.int .i64 ok] 3)); have bb := Ext.trans hb b3; refine wpl_append _ rfl (.tmp 18) (.tmp 22) 22 rfl 3 i0 _ 1 8 Try.underlying22 HI.out hz0 hz1 hz2 rfl (by omega) w.heap.size S k c1 _ rfl RA.out _ 1 1 (ints [ok]) rfl rfl (Own.new w3 3 (ints [ok])).rd0 (ints_one _) (k + 1) _ rfl rfl (by omega) (by omega) (by have := bb.size; simp; omega) ?_; intro A6 c6 w6 o6 g6 k6; have e6 := below_grown (Ext.trans bb (Ext.alloc w3 (.cells #[.int .i64 ok] 3))) g6 (by have := bb.size; simp; omega) (fun gg hg => (RA.out.at_ gg hg).1)))
      go_roundw
      case rel => exact ⟨k + 1, A6, c6, rfl, by go_num, by omega, by rw [← HRS.out]; simpa [ints] using o6, e6⟩
      case measure => simp [intOf]; omega
    · obtain rfl : k = n := by omega
      rw [← HW.out] at hR
      have HR := Lib.hid hR
      clear hR
      go_wp2
      go_ret
      exact ⟨S, c1, rfl, HR.out, hb⟩

set_option maxRecDepth 100000 in
set_option maxHeartbeats 2000000 in
theorem k_over (B : Nat) (a : LA) (s : LS) (N : Nat) (t n : Int) (w : World) (h : LW w B a s N) (ht : I64 t) (hN : N ≤ 60000) :
    Calls Try.prog 20 #[.pointer (some ⟨a.g, 0, none⟩), .int .i64 t, .int .i64 n] w fun e w' => e = .returned (.bool ((s.hl t).any (overP s.ms n))) ∧ Ext w w' := by
  have bX := Ext.alloc w (.cells #[.int .i64 n] 3)
  have oX := Lib.hid (Own.new w 3 [.int .i64 n])
  have hmf : ∀ (fn : Fn) (first cap : Array Value) (w : World), (Instr.makeFunc fn first cap).run Try.prog w = .ok (.func fn first cap) w := fun _ _ _ _ => rfl
  have v0 := (h.keep bX).t_
  have HH := Lib.hid (h.keep bX)
  have hlen := h.hlen t
  clear h
  go_enter Try.func20, Try.ntmps20
  go_upto_region 3 with fail
  have HZ := Lib.hid (show (w.alloc (.cells #[.int .i64 n] 3)).heap.size = w.heap.size + 1 by simp)
  generalize (w.alloc (.cells #[.int .i64 n] 3)) = w1 at *
  have o0 := Own.new w1 39 [.nilFunc]
  have b0 := Ext.alloc w1 (.cells #[.nilFunc] 39)
  have hst : (store ⟨w1.heap.size, 0, none⟩ (.func (.func 36) #[.pointer (some ⟨a.gt, 0, none⟩)] #[])).run Try.prog (w1.alloc (.cells #[.nilFunc] 39)) = .ok () ((w1.alloc (.cells #[.nilFunc] 39)).setCell ⟨w1.heap.size, 0, none⟩ (.func (.func 36) #[.pointer (some ⟨a.gt, 0, none⟩)] #[])) := by
    rw [run_store _ _ _ _ _ rfl, o0.cell 0, if_neg (by rw [o0.frozen 0]; decide)]
    rfl
  go_upto_region 4 with fail
  have bF := Ext.alloc w1 (.cells #[.func (.func 36) #[.pointer (some ⟨a.gt, 0, none⟩)] #[]] 39)
  have oF := Own.new w1 39 [.func (.func 36) #[.pointer (some ⟨a.gt, 0, none⟩)] #[]]
  have f7 := oF.cell 0
  simp only [List.getElem?_cons_zero] at f7
  have H2 := Lib.hid (HH.out.keep bF)
  have x5 := (oX.out.keep bF).cell 0
  simp only [List.getElem?_cons_zero] at x5
  clear hst o0 b0
  generalize hw2 : w1.alloc (.cells #[.func (.func 36) #[.pointer (some ⟨a.gt, 0, none⟩)] #[]] 39) = w2 at *
  have v1 := H2.out.h_
  have hlk := H2.out.hlook ht
  have HC := Lib.hid (over_contains s.ms n (.pointer (some ⟨a.gt, 0, none⟩)) w.heap.size w1.heap.size (hA a s t) (s.hl t).length (hC a s t) (s.hl t) w2 H2.out.table x5 f7 (by omega) (H2.out.hrow t).rd rfl)
  have HB := Lib.hid (Ext.trans bX bF)
  clear bX bF hw2 oF
  go_wp2_with ((with_reducible go_at_call 32); (with_reducible refine (HC.out).mono ?_); rintro e w3 ⟨rfl, b3⟩)
  go_ret
  exact ⟨rfl, Ext.trans HB.out b3⟩

end Go.Proofs.Ytfdpipjkckbgdaa
