/-
  WALKS of package graph: along with priorities; Effective; slices.Clone of priorities.
-/
import Derived.Test.YtpaoolcnoflhiaaGphD
namespace Go.Proofs.Ytpaoolcnoflhiaa
open Go.RowKit
attribute [local go_sem] depUpon Sp.ok

set_option maxRecDepth 100000 in
set_option maxHeartbeats 2000000 in
theorem along_eff (A : Option Addr) (na ca : Nat) (ws : List Int) (Bo : Option Addr) (nb cb : Nat) (os : List Int) (base : List P3) (ch : Nat → List Int) (j : Nat) (gout gp : Nat) (O : Option Addr) (c : Nat) (w0 w : World) (h : WO w0 A na ws Bo nb os) (hE : Ext w0 w)
    (ho : Own w gout 31 [.slice O base.length c]) (hp : Own w gp 38 (pv (base.getD j (0, 0, 0)))) (hr : Row w w0.heap.size 38 3 O base.length c (trips (effL base ch j [])))
    (h1 : blk O ≠ some gout) (h2 : blk O ≠ some gp) (hch : ch j = gchain ws os (base.length : Int) (j : Int)) (hn : base.length ≤ 60000) :
    Calls Try.prog 21 #[.slice A na ca, .slice Bo nb cb, .int .i64 (base.length : Int), .int .i64 (j : Int), .func (.func 22) #[] #[.pointer (some ⟨gout, 0, none⟩), .pointer (some ⟨gp, 0, none⟩)]] w fun e w' => e = .returned (.tuple #[]) ∧
      Row w' w0.heap.size 38 3 O base.length c (trips (effL base ch (j + 1) [])) ∧ Own w' gout 31 [.slice O base.length c] ∧ Ext w0 w' := by
  obtain ⟨i0, hi, hz0, hz1, hz2⟩ := info_parts info_int
  have HI := Lib.hid hi
  have HW := Lib.hid h
  have HO := Lib.hid (fun k w' (hb : Ext w0 w') => g_on A na ca ws Bo nb cb os (base.length : Int) k w' (HW.out.keep hb))
  have HS := Lib.hid (ChSt.start ws os (base.length : Int) (j : Int))
  have HCH := Lib.hid hch
  have hOlt : ∀ g, blk O = some g → g < w.heap.size := fun g hg => (hr.at_ g hg).2
  have hgo := ho.lt
  have hgp := hp.lt
  have hzw : w0.heap.size ≤ w.heap.size := hE.size
  clear hi h hch
  go_enter Try.func21, Try.ntmps21
  go_wp2_with ((with_reducible go_at_call 27); (with_reducible refine (HO.out _ _ hE).mono ?_); rintro e w' ⟨rfl, rfl⟩)
  go_loopw [10, 11] (fun v q wr => ∃ (s : List Int) (k : Int) (u m : Nat) (S : Option Addr) (c1 : Nat), v = .slice S m c1 ∧ q = .int .i64 k ∧ Hid (ChSt ws os (base.length : Int) (j : Int) s k u) ∧ Hid (s.length = m) ∧ m ≤ base.length ∧ Row wr w.heap.size 3 1 S m c1 (ints s) ∧ Own wr gout 31 [.slice O base.length c] ∧ Own wr gp 38 (pv (base.getD j (0, 0, 0))) ∧ Row wr w0.heap.size 38 3 O base.length c (trips (effL base ch j s)) ∧ Ext w0 wr ∧ w.heap.size ≤ wr.heap.size) (fun v _ _ => base.length + 1 - (match v with | .slice _ m _ => m | _ => 0))
  case atStart => exact ⟨[], _, _, 0, none, 0, rfl, rfl, HS, Lib.hid rfl, by omega, Row.nil _ _ _ _, ho, hp, hr, hE, Nat.le_refl _⟩
  case round =>
    obtain ⟨s, k, u, m, S, c1, rfl, rfl, HC, HM, hmn, q1, q2, q3, q4, q5, q6⟩ := hrel
    clear HS hE ho hp hr
    have hfin : gchain ws os (base.length : Int) (j : Int) = s → effL base ch j s = effL base ch (j + 1) [] := fun e => by rw [← effL_next, HCH.out, e]
    by_cases hk0 : k < 0
    · have HE := Lib.hid (hfin (HC.out.stop (.inl hk0)))
      clear hfin
      go_wp2
      exact bodyPost_end (results_none rfl _ _ _) rfl ⟨rfl, by rw [← HE.out]; exact q4, q2, q5⟩
    · cases hmem : memB k s
      · have hks : k ∉ s := by unfold memB at hmem; simpa using hmem
        have HB := Lib.hid (s_contains k S m c1 s wr (by omega) q1.rd HM.out)
        rw [hmem] at HB
        obtain ⟨v, _, hst⟩ := HC.out.next (by omega) hks
        have hlen := hst.len
        simp only [List.length_append, List.length_singleton, Int.toNat_natCast] at hlen
        have hml : m + 1 ≤ base.length := by have := HM.out; omega
        have hkr := HC.out.kr
        obtain ⟨kn, rfl⟩ : ∃ kn : Nat, k = (kn : Int) := ⟨k.toNat, by omega⟩
        have hkn : kn < base.length := by omega
        have HST := Lib.hid hst
        have HML : Hid ((s ++ [(kn : Int)]).length = m + 1) := Lib.hid (by simp [HM.out])
        have HP := Lib.hid (ints_app' s [(kn : Int)])
        have HKS := Lib.hid hks
        have hs2 := q5.size
        have hk0' : ¬ (kn : Int) < 0 := hk0
        clear hks hst hlen hmem hfin hkr
        go_wp2_with (first
          | ((with_reducible go_at_call 25); (with_reducible refine (HB.out).mono ?_); rintro e w' ⟨rfl, rfl⟩)
          | (at_builtin; have r7 := (q1.alloc (.cells #[.int .i64 (kn : Int)] 3)); refine wpl_append _ rfl (.tmp 30) (.tmp 32) 23 rfl 3 i0 _ 1 8 Try.underlying23 HI.out hz0 hz1 hz2 rfl (by omega) w.heap.size S m c1 _ rfl r7 _ 1 1 (ints [(kn : Int)]) rfl rfl (rd1i _ _) (ints_one _) (m + 1) (ints (s ++ [(kn : Int)])) rfl HP.out (by omega) (by omega) (by simp; omega) ?_; intro A2 d2 w2 o2 g2 e2))
        have hSfar : ∀ g, blk S = some g → w.heap.size ≤ g := fun g hg => (q1.at_ g hg).1
        have b2 : Ext w0 w2 := below_grown (Ext.trans q5 (Ext.alloc wr (.cells #[.int .i64 (kn : Int)] 3))) g2 (by simp; omega) (fun g' hg' => by have := hSfar g' hg'; omega)
        have z2 : w.heap.size ≤ w2.heap.size := by have := g2.size; simp at this; omega
        have oG := (q2.alloc (.cells #[.int .i64 (kn : Int)] 3)).grown g2 (fun q => by have := hSfar gout q.symm; omega)
        have oP := (q3.alloc (.cells #[.int .i64 (kn : Int)] 3)).grown g2 (fun q => by have := hSfar gp q.symm; omega)
        have rO := (q4.alloc (.cells #[.int .i64 (kn : Int)] 3)).grown g2 (by
          rcases hO : blk O with _ | gO
          · exact .inl rfl
          · right
            intro q
            have h3 := hOlt gO hO
            have h4 := hSfar gO q.symm
            omega)
        have nS : blk A2 ≠ blk O := by
          intro q
          rcases hO : blk O with _ | gO
          · rw [hO] at q
            obtain ⟨gA, hgA⟩ := o2.addr (by omega)
            rw [hgA] at q; cases q
          · rw [hO] at q
            have h3 := hOlt gO hO
            have h4 := (o2.at_ gO q).1
            omega
        clear q1 q2 q3 q4 g2 r7 e2 hSfar
        have hE := eff_fn kn (base.getD j (0, 0, 0)) w0.heap.size gout gp O base.length c (effL base ch j s) w2 oG oP rO hkn (effL_len _ _ _ _) h1 h2
        rw [effL_get base ch j s kn hkn HKS.out, effL_set] at hE
        refine hE.mono ?_
        rintro e w3 ⟨rfl, p1, p2, p3, p4, p5⟩
        have b3 : Ext w0 w3 := Below.trans b2 p4
        have rS := p5 w.heap.size A2 (m + 1) d2 _ o2 nS
        have z3 : w.heap.size ≤ w3.heap.size := Nat.le_trans z2 p4.size
        clear p4 p5 o2 oG oP rO nS b2 q5 hE z2 q6
        go_wp2_with ((with_reducible go_at_call 27); (with_reducible refine (HO.out _ _ b3).mono ?_); rintro e w' ⟨rfl, rfl⟩)
        go_roundw
        case rel => exact ⟨s ++ [(kn : Int)], _, v, m + 1, A2, d2, rfl, rfl, HST, HML, hml, rS, p2, p3, p1, b3, z3⟩
        case measure => simp; omega
      · have hks : k ∈ s := by unfold memB at hmem; simpa using hmem
        have HB := Lib.hid (s_contains k S m c1 s wr (by omega) q1.rd HM.out)
        rw [hmem] at HB
        have HE := Lib.hid (hfin (HC.out.stop (.inr hks)))
        clear hmem hks hfin
        go_wp2_with ((with_reducible go_at_call 25); (with_reducible refine (HB.out).mono ?_); rintro e w' ⟨rfl, rfl⟩)
        exact bodyPost_end (results_none rfl _ _ _) rfl ⟨rfl, by rw [← HE.out]; exact q4, q2, q5⟩

set_option maxRecDepth 100000 in
set_option maxHeartbeats 1000000 in
theorem clone_prios (A : Option Addr) (n c : Nat) (ps : List P3) (w : World) (hn : n ≤ 65536) (hr : Rd w A (trips ps)) (hl : ps.length = n) :
    Calls Try.prog 20 #[.slice A n c] w fun e w' => ∃ A' c', e = .returned (.slice A' n c') ∧ Row w' w.heap.size 38 3 A' n c' (trips ps) ∧ Below w.heap.size w w' := by
  subst hl
  obtain ⟨ip, hi, hz0, hz1, hz2⟩ := info_parts info_prio
  cases A with
  | none =>
    have h0 : ps = [] := by
      cases ps with
      | nil => rfl
      | cons p ps => obtain ⟨b, off, h, _⟩ := hr.trip (k := 0) (by simp); cases h
    subst h0
    have hq : ∀ w, (binOp .eql 31 (.slice none 0 c) (.slice none 0 0)).run Try.prog w = .ok (.bool true) w := fun w => Lib.run_eql_slice_nil (P := Try.prog) w 31 38 none 0 c 0 0 Try.underlying31
    go_enter Try.func20, Try.ntmps20
    go_wp2
    go_ret
    exact ⟨none, 0, rfl, Row.nil _ _ _ _, Below.refl _ _⟩
  | some a =>
    have LP := Lib.hid (by rw [trips_len]; omega : (trips ps).length = ps.length * 3)
    have hrow : Row (w.alloc (.cells #[] 38)) w.heap.size 38 3 (some ⟨w.heap.size, 0, none⟩) 0 0 [] := Row.ofOwn (Own.new w 38 []) (Nat.le_refl _) rfl (by omega)
    have hrA : Rd (w.alloc (.cells #[] 38)) (some a) (trips ps) := hr.keep (Ext.alloc _ _)
    have HI := Lib.hid hi
    clear hi
    have hq : ∀ w, (binOp .eql 31 (.slice (some a) ps.length c) (.slice none 0 0)).run Try.prog w = .ok (.bool false) w := fun w => Lib.run_eql_slice_nil (P := Try.prog) w 31 38 (some a) ps.length c 0 0 Try.underlying31
    go_enter Try.func20, Try.ntmps20
    go_wp2_with (at_builtin; refine wpl_append _ rfl (.tmp 5) (.tmp 6) 31 rfl 38 ip _ 3 24 Try.underlying31 HI.out hz0 hz1 hz2 rfl (by omega) w.heap.size _ 0 0 [] rfl hrow (some a) ps.length c (trips ps) rfl LP.out hrA (trips_one ps) ps.length (trips ps) (by omega) rfl (by omega) (by omega) (by simp) ?_; intro A2 c2 w2 o2 g2 e2)
    have b2 := below_grown (Ext.alloc w (.cells #[] 38)) g2 (by simp) (by simp [blk])
    go_ret
    exact ⟨A2, c2, rfl, o2, b2⟩

/-- The chains of all threads. -/
def chs (ws os : List Int) (n : Nat) (j : Nat) : List Int := gchain ws os (n : Int) (j : Int)

set_option maxRecDepth 100000 in
set_option maxHeartbeats 2000000 in
theorem g_effective (D : Option Addr) (n cd : Nat) (base : List P3) (A : Option Addr) (na ca : Nat) (ws : List Int) (B : Option Addr) (nb cb : Nat) (os : List Int) (w : World) (h : WO w A na ws B nb os) (hd : Rd w D (trips base)) (hl : base.length = n) (hn : n ≤ 60000) :
    Calls Try.prog 14 #[.slice D n cd, .slice A na ca, .slice B nb cb] w fun e w' => ∃ O c, e = .returned (.slice O n c) ∧ Row w' w.heap.size 38 3 O n c (trips (geff base (chs ws os n))) ∧ Below w.heap.size w w' := by
  subst hl
  have hmf : ∀ (fn : Fn) (first cap : Array Value) (w : World), (Instr.makeFunc fn first cap).run Try.prog w = .ok (.func fn first cap) w := fun _ _ _ _ => rfl
  have HW := Lib.hid h
  have HD := Lib.hid hd
  clear h hd
  go_enter Try.func14, Try.ntmps14
  go_wp2_with fail
  refine (clone_prios D base.length cd base w (by omega) HD.out rfl).mono ?_
  rintro e w1 ⟨O, c, rfl, r1, b1⟩
  have o2 := Own.new w1 31 [.slice O base.length c]
  have r2 := r1.alloc (.cells #[.slice O base.length c] 31)
  have b2 := Ext.trans b1 (Ext.alloc w1 (.cells #[.slice O base.length c] 31))
  have hO1 : ∀ g, blk O = some g → g < w1.heap.size := fun g hg => (r1.at_ g hg).2
  have r3 : Row (w1.alloc (.cells #[.slice O base.length c] 31)) w.heap.size 38 3 O base.length c (trips (effL base (chs ws os base.length) 0 [])) := by rw [effL_zero]; exact r2
  clear r1 b1 r2
  go_wp2
  go_loopw [14] (fun i wr => ∃ j : Nat, j ≤ base.length ∧ i = .int .i64 j ∧ Own wr w1.heap.size 31 [.slice O base.length c] ∧ Row wr w.heap.size 38 3 O base.length c (trips (effL base (chs ws os base.length) j [])) ∧ Ext w wr) (fun i _ => base.length - (intOf i).toNat)
  case atStart => exact ⟨0, Nat.zero_le _, rfl, o2, r3, b2⟩
  case round =>
    obtain ⟨j, hj, rfl, q1, q2, q3⟩ := hrel
    clear o2 r3 b2
    by_cases hlt : j < base.length
    · obtain ⟨b, off, rfl, h1, h2, h3⟩ := (HD.out.keep q3).trip hlt
      have hget : base.getD j (0, 0, 0) = base[j] := by simp [hlt]
      have oP := Own.new wr 38 (pv (base.getD j (0, 0, 0)))
      rw [hget] at oP
      have hO2 : ∀ g, blk O = some g → g < wr.heap.size := fun g hg => (q2.at_ g hg).2
      have C0 := fun (P : P3) (hP : base.getD j (0, 0, 0) = P) (w' : World) (hE : Ext w w') ho hp hr => along_eff A na ca ws B nb cb os base (chs ws os base.length) j w1.heap.size wr.heap.size O c w w' HW.out hE ho (by rw [hP]; exact hp) hr (fun q => by have := hO1 _ q; omega) (fun q => by have := hO2 _ q; omega) rfl hn
      have C1 := Lib.hid (C0 _ hget)
      clear C0 hget
      generalize base[j] = p at *
      obtain ⟨p1, p2, p3⟩ := p
      simp only at h1 h2 h3
      have i0 : (0 : Int) ≤ (j : Int) := by omega
      have i1 : (j : Int) < (base.length : Int) := by omega
      have q1' := q1.alloc (.cells #[.int .i64 p1, .int .i64 p2, .int .i64 p3] 38)
      have q2' := q2.alloc (.cells #[.int .i64 p1, .int .i64 p2, .int .i64 p3] 38)
      have q3' := Ext.trans q3 (Ext.alloc wr (.cells #[.int .i64 p1, .int .i64 p2, .int .i64 p3] 38))
      go_wp2_with fail
      refine (C1.out _ q3' q1' oP q2').mono ?_
      rintro e w2 ⟨rfl, p4, p5, p6⟩
      clear q1 q2 q3 q1' q2' q3' oP
      go_wp2
      go_roundw
      case rel => exact ⟨j + 1, by omega, by go_num, p5, p4, p6⟩
      case measure => simp [intOf]; omega
    · obtain rfl : j = base.length := by omega
      rw [effL_end] at q2
      have hc := q1.cell 0
      simp only [List.getElem?_cons_zero] at hc
      go_wp2
      go_ret
      exact ⟨O, c, rfl, q2, q3⟩

end Go.Proofs.Ytpaoolcnoflhiaa
