/-
  WALKS of package graph: along with a list that grows; Chain; Acyclic.
-/
import Derived.Test.YtfdpipjkckbgdaaGphB
namespace Go.Proofs.Ytfdpipjkckbgdaa
open Go.RowKit
attribute [local go_sem] depUpon Sp.ok

theorem grownBy_setCell (w : World) (p : Addr) (v : Value) : w.grownBy (w.setCell p v) (some p.block) :=
  ⟨rfl, rfl, rfl, by simp, fun j _ hj => heap_setCell_other w p j v (fun q => hj (by rw [q]))⟩
theorem Row.far {w : World} {base n c size : Nat} {e : TypeId} {A : Option Addr} {xs : List Value} (h : Row w base e size A n c xs) {p : Addr} (hp : blk A ≠ some p.block) (v : Value) : Row (w.setCell p v) base e size A n c xs :=
  h.grown (grownBy_setCell w p v) (.inr hp)

/-- What the closure that appends to l leaves. -/
structure AppPost (B gl : Nat) (L : Option Addr) (n : Nat) (xs : List Int) (k : Int) (w w' : World) (L' : Option Addr) (c' : Nat) : Prop where
  own : Own w' gl 22 [.slice L' (n + 1) c']
  row : Row w' B 3 1 L' (n + 1) c' (ints (xs ++ [k]))
  at_ : blk L' = blk L ∨ ∃ g, blk L' = some g ∧ w.heap.size ≤ g
  below : Below B w w'
  rest : ∀ S m c ys, Row w B 3 1 S m c ys → blk S ≠ some gl → (blk S = none ∨ blk S ≠ blk L) → Row w' B 3 1 S m c ys

set_option maxRecDepth 100000 in
set_option maxHeartbeats 2000000 in
theorem chain_fn (k : Int) (B gl : Nat) (L : Option Addr) (n c : Nat) (xs : List Int) (w : World) (ho : Own w gl 22 [.slice L n c]) (hr : Row w B 3 1 L n c (ints xs)) (hgl : B ≤ gl) (hne : blk L ≠ some gl) (hn : n ≤ 65536) :
    Calls Try.prog 51 #[.int .i64 k, .pointer (some ⟨gl, 0, none⟩)] w fun e w' => e = .returned (.tuple #[]) ∧ ∃ L' c', AppPost B gl L n xs k w w' L' c' := by
  obtain ⟨i0, hi, hz0, hz1, hz2⟩ := info_parts info_int
  have HI := Lib.hid hi
  clear hi
  have hlt := ho.lt
  have hc := ho.cell 0
  simp only [List.getElem?_cons_zero] at hc
  have r1 := hr.alloc (.cells #[.int .i64 k] 3)
  have o1 := ho.alloc (.cells #[.int .i64 k] 3)
  have HP := Lib.hid (ints_app' xs [k])
  have hsz : B ≤ (w.alloc (.cells #[.int .i64 k] 3)).heap.size := by simp; omega
  go_enter Try.func51, Try.ntmps51
  go_wp2_with (at_builtin; refine wpl_append _ rfl (.tmp 3) (.tmp 5) 22 rfl 3 i0 _ 1 8 Try.underlying22 HI.out hz0 hz1 hz2 rfl (by omega) B L n c _ rfl r1 _ 1 1 (ints [k]) rfl rfl (rd1i _ _) (ints_one _) (n + 1) (ints (xs ++ [k])) rfl HP.out (by omega) (by omega) hsz ?_; intro A2 c2 w2 o2 g2 e2; have oG := o1.grown g2 (fun q => hne q.symm); have hc2 := oG.cell 0; have hf2 := oG.frozen 0; simp only [List.getElem?_cons_zero] at hc2)
  have oS := oG.set 0 (.slice A2 (n + 1) c2)
  have hne2 : blk A2 ≠ some gl := by
    rcases e2 with e2 | e2
    · rw [e2]; exact hne
    · rw [e2]; simp; omega
  have b2 := (below_grown (Below.mono (Ext.alloc w (.cells #[.int .i64 k] 3)) (Nat.le_trans hgl (Nat.le_of_lt hlt))) g2 hsz (fun g' hg' => (r1.at_ g' hg').1)).setCell (p := ⟨gl, 0, none⟩) hgl (.slice A2 (n + 1) c2)
  refine bodyPost_end (results_none rfl _ _ _) rfl ⟨rfl, A2, c2, oS, o2.far hne2 _, ?_, b2, fun S m c' ys hS h1 h2 => ?_⟩
  · rcases e2 with e2 | e2
    · exact .inl e2
    · exact .inr ⟨_, e2, by simp⟩
  · exact ((hS.alloc _).grown g2 h2).far h1 _

set_option maxRecDepth 100000 in
set_option maxHeartbeats 4000000 in
theorem along_chain (A : Option Addr) (na ca : Nat) (ws : List Int) (Bo : Option Addr) (nb cb : Nat) (os : List Int) (n i : Int) (gl : Nat) (w0 w : World) (h : WO w0 A na ws Bo nb os) (hE : Ext w0 w) (ho : Own w gl 22 [.slice none 0 0]) (hgl : w0.heap.size ≤ gl) (hn : n ≤ 60000) :
    Calls Try.prog 50 #[.slice A na ca, .slice Bo nb cb, .int .i64 n, .int .i64 i, .func (.func 51) #[] #[.pointer (some ⟨gl, 0, none⟩)]] w fun e w' => e = .returned (.tuple #[]) ∧
      ∃ L c, Own w' gl 22 [.slice L (gchain ws os n i).length c] ∧ Row w' w0.heap.size 3 1 L (gchain ws os n i).length c (ints (gchain ws os n i)) ∧ Ext w0 w' := by
  obtain ⟨i0, hi, hz0, hz1, hz2⟩ := info_parts info_int
  have HI := Lib.hid hi
  have HW := Lib.hid h
  have HO := Lib.hid (fun k w' (hb : Ext w0 w') => g_on A na ca ws Bo nb cb os n k w' (HW.out.keep hb))
  have HS := Lib.hid (ChSt.start ws os n i)
  clear hi h
  go_enter Try.func50, Try.ntmps50
  go_wp2_with ((with_reducible go_at_call 56); (with_reducible refine (HO.out _ _ hE).mono ?_); rintro e w' ⟨rfl, rfl⟩)
  go_loopw [10, 11] (fun v q wr => ∃ (s : List Int) (k : Int) (u m : Nat) (S : Option Addr) (c1 : Nat) (L : Option Addr) (c2 : Nat), v = .slice S m c1 ∧ q = .int .i64 k ∧ Hid (ChSt ws os n i s k u) ∧ Hid (s.length = m) ∧ m ≤ n.toNat ∧ Row wr w0.heap.size 3 1 S m c1 (ints s) ∧ Own wr gl 22 [.slice L m c2] ∧ Row wr w0.heap.size 3 1 L m c2 (ints s) ∧ Ext w0 wr ∧ (blk S = none ∨ blk S ≠ blk L) ∧ blk S ≠ some gl ∧ blk L ≠ some gl) (fun v _ _ => n.toNat + 1 - (match v with | .slice _ m _ => m | _ => 0))
  case atStart => exact ⟨[], _, _, 0, none, 0, none, 0, rfl, rfl, HS, Lib.hid rfl, by omega, Row.nil _ _ _ _, ho, Row.nil _ _ _ _, hE, .inl rfl, by simp [blk], by simp [blk]⟩
  case round =>
    obtain ⟨s, k, u, m, S, c1, L, c2, rfl, rfl, HC, HM, hmn, q1, q2, q3, q4, q5, q6, q7⟩ := hrel
    clear HS hE ho
    by_cases hk0 : k < 0
    · have HE := Lib.hid (HC.out.stop (.inl hk0))
      have HE2 := Lib.hid (by rw [HE.out, HM.out] : (gchain ws os n i).length = m)
      go_wp2
      refine bodyPost_end (results_none rfl _ _ _) rfl ⟨rfl, L, c2, ?_, ?_, q4⟩
      · rw [HE2.out]; exact q2
      · rw [HE2.out, HE.out]; exact q3
    · cases hmem : memB k s
      · have hks : k ∉ s := by unfold memB at hmem; simpa using hmem
        have HB := Lib.hid (s_contains k S m c1 s wr (by omega) q1.rd HM.out)
        rw [hmem] at HB
        obtain ⟨v, _, hst⟩ := HC.out.next (by omega) hks
        have hlen := hst.len
        simp only [List.length_append, List.length_singleton] at hlen
        have hml : m + 1 ≤ n.toNat := by have := HM.out; omega
        have HST := Lib.hid hst
        have HML : Hid ((s ++ [k]).length = m + 1) := Lib.hid (by simp [HM.out])
        have HP := Lib.hid (ints_app' s [k])
        have hs2 := q4.size
        have hlt := q2.lt
        clear hks hst hlen hmem
        go_wp2_with (first
          | ((with_reducible go_at_call 40); (with_reducible refine (HB.out).mono ?_); rintro e w' ⟨rfl, rfl⟩)
          | (at_builtin; have r7 := (q1.alloc (.cells #[.int .i64 k] 3)); refine wpl_append _ rfl (.tmp 30) (.tmp 32) 22 rfl 3 i0 _ 1 8 Try.underlying22 HI.out hz0 hz1 hz2 rfl (by omega) w0.heap.size S m c1 _ rfl r7 _ 1 1 (ints [k]) rfl rfl (rd1i _ _) (ints_one _) (m + 1) (ints (s ++ [k])) rfl HP.out (by omega) (by omega) (by simp; omega) ?_; intro A2 d2 w2 o2 g2 e2))
        have b2 : Ext w0 w2 := below_grown (Ext.trans q4 (Ext.alloc wr (.cells #[.int .i64 k] 3))) g2 (by simp; omega) (fun g' hg' => (r7.at_ g' hg').1)
        have oL := (q2.alloc (.cells #[.int .i64 k] 3)).grown g2 (fun q => q6 q.symm)
        have rL := (q3.alloc (.cells #[.int .i64 k] 3)).grown g2 (by
          rcases q5 with q5 | q5
          · rcases hL : blk L with _ | gL
            · exact .inl rfl
            · right; rw [q5]; simp
          · exact .inr fun q => q5 q.symm)
        have sA : blk A2 ≠ some gl := by
          rcases e2 with e2 | e2
          · rw [e2]; exact q6
          · rw [e2]; simp; omega
        have sAL : blk A2 = none ∨ blk A2 ≠ blk L := by
          rcases e2 with e2 | e2
          · rw [e2]; exact q5
          · right; rw [e2]
            intro q
            have := (q3.at_ _ q.symm).2
            simp at this; omega
        have hw2 : ∀ g, blk A2 = some g → g < w2.heap.size := fun g hg => (o2.at_ g hg).2
        clear q1 q2 q3 g2 r7 e2 q5 q6
        refine (chain_fn k w0.heap.size gl L m c2 s w2 oL rL hgl q7 (by omega)).mono ?_
        rintro e w3 ⟨rfl, L', c', p⟩
        obtain ⟨p1, p2, p3, p4, p5⟩ := p
        have b3 : Ext w0 w3 := Below.trans b2 p4
        have rS := p5 A2 (m + 1) d2 _ o2 sA sAL
        have sL : blk L' ≠ some gl := by
          rcases p3 with p3 | ⟨g, p3, p6⟩
          · rw [p3]; exact q7
          · rw [p3]
            intro q
            injection q with q
            have := oL.lt
            omega
        have sAL' : blk A2 = none ∨ blk A2 ≠ blk L' := by
          rcases p3 with p3 | ⟨g, p3, p6⟩
          · rw [p3]; exact sAL
          · right; rw [p3]
            intro q
            have := hw2 g q
            omega
        clear p3 p4 p5 o2 oL rL sAL hw2 q7 b2 q4
        go_wp2_with ((with_reducible go_at_call 56); (with_reducible refine (HO.out _ _ b3).mono ?_); rintro e w' ⟨rfl, rfl⟩)
        go_roundw
        case rel => exact ⟨s ++ [k], _, v, m + 1, A2, d2, L', c', rfl, rfl, HST, HML, hml, rS, p1, p2, b3, sAL', sA, sL⟩
        case measure => simp; omega
      · have hks : k ∈ s := by unfold memB at hmem; simpa using hmem
        have HB := Lib.hid (s_contains k S m c1 s wr (by omega) q1.rd HM.out)
        rw [hmem] at HB
        have HE := Lib.hid (HC.out.stop (.inr hks))
        have HE2 := Lib.hid (by rw [HE.out, HM.out] : (gchain ws os n i).length = m)
        clear hmem hks
        go_wp2_with ((with_reducible go_at_call 40); (with_reducible refine (HB.out).mono ?_); rintro e w' ⟨rfl, rfl⟩)
        refine bodyPost_end (results_none rfl _ _ _) rfl ⟨rfl, L, c2, ?_, ?_, q4⟩
        · rw [HE2.out]; exact q2
        · rw [HE2.out, HE.out]; exact q3

set_option maxRecDepth 100000 in
set_option maxHeartbeats 2000000 in
theorem g_chain (A : Option Addr) (na ca : Nat) (ws : List Int) (B : Option Addr) (nb cb : Nat) (os : List Int) (n i : Int) (w : World) (h : WO w A na ws B nb os) (hn : n ≤ 60000) :
    Calls Try.prog 41 #[.slice A na ca, .slice B nb cb, .int .i64 n, .int .i64 i] w fun e w' => ∃ A' c', e = .returned (.slice A' (gchain ws os n i).length c') ∧ Row w' w.heap.size 3 1 A' (gchain ws os n i).length c' (ints (gchain ws os n i)) ∧ Below w.heap.size w w' := by
  have hmf : ∀ (fn : Fn) (first cap : Array Value) (w : World), (Instr.makeFunc fn first cap).run Try.prog w = .ok (.func fn first cap) w := fun _ _ _ _ => rfl
  have o1 := Own.new w 22 [.slice none 0 0]
  have C1 := Lib.hid (along_chain A na ca ws B nb cb os n i w.heap.size w (w.alloc (.cells #[.slice none 0 0] 22)) h (Ext.alloc _ _) o1 (Nat.le_refl _) hn)
  clear h o1
  go_enter Try.func41, Try.ntmps41
  go_wp2_with fail
  refine C1.out.mono ?_
  rintro e w1 ⟨rfl, L, c, p1, p2, p3⟩
  have hc := p1.cell 0
  simp only [List.getElem?_cons_zero] at hc
  go_wp2
  go_ret
  exact ⟨L, c, rfl, p2, p3⟩

end Go.Proofs.Ytfdpipjkckbgdaa
