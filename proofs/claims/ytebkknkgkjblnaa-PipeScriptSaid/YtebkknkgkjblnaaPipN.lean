/-
  PIPES: great; the statement PipeOrder.
-/
import Derived.Test.YtebkknkgkjblnaaPipL
namespace Go.Proofs.Ytebkknkgkjblnaa
open Go.RowKit Go.Maps
attribute [local go_sem] depUpon Sp.ok

/-- More than is gone through. -/
def Great (n : Nat) (X : Nat → A23) : Prop := 100 < n ∨ ∃ i, i < n ∧ 200 < (X i).m
theorem Great.not {n : Nat} {X : Nat → A23} (h : ¬ Great n X) : n ≤ 100 ∧ ∀ i, i < n → (X i).m ≤ 200 :=
  ⟨Nat.le_of_not_lt fun q => h (.inl q), fun i hi => Nat.le_of_not_lt fun q => h (.inr ⟨i, hi, q⟩)⟩
set_option maxRecDepth 100000 in
set_option maxHeartbeats 1000000 in
theorem l_great (A : Option Addr) (n c : Nat) (X : Nat → A23) (w : World) (h : Acts23 w A n X) (b : Bool) (hb : b = true ↔ Great n X) :
    Calls Try.prog 8 #[.slice A n c, .int .i64 100] w fun e w' => e = .returned (.bool b) ∧ w = w' := by
  by_cases h100 : 100 < n
  · have h1 : (100 : Int) < (n : Int) := by omega
    obtain rfl : b = true := hb.2 (.inl h100)
    clear h hb
    go_enter Try.func8, Try.ntmps8
    go_wp2
    go_loopw [5] (fun i wr => i = .int .i64 0 ∧ wr = w) (fun _ _ => 0)
    case atStart => exact ⟨rfl, rfl⟩
    case round =>
      obtain ⟨rfl, rfl⟩ := hrel
      go_wp2
      go_ret
      exact ⟨rfl, rfl⟩
  have h1 : (n : Int) ≤ 100 := by omega
  have hmx := h.max
  have HZ := Lib.hid h
  have HB := Lib.hid hb
  clear h hb
  go_enter Try.func8, Try.ntmps8
  go_wp2
  go_loopw [5] (fun i wr => ∃ k : Nat, i = .int .i64 (k : Int) ∧ k ≤ n ∧ Hid (∀ j, j < k → (X j).m ≤ 200) ∧ wr = w) (fun i _ => n - (intOf i).toNat)
  case atStart => exact ⟨0, rfl, by omega, Lib.hid (fun j hj => by omega), rfl⟩
  case round =>
    obtain ⟨k, rfl, hk, hno, rfl⟩ := hrel
    have k0' : (0 : Int) ≤ (k : Int) := by omega
    by_cases hlt : k < n
    · have k1' : (k : Int) < (n : Int) := by omega
      obtain ⟨_, b, off, rfl, hc⟩ := HZ.out.at_ k hlt
      have e4 := hc 4 _ rfl
      simp only [← Nat.add_assoc] at e4
      by_cases hb : 200 < (X k).m
      · have HBT := Lib.hid (HB.out.2 (.inr ⟨k, hlt, hb⟩))
        have t4 : decide ((200 : Int) < ((X k).m : Int)) = true := decide_eq_true (by omega)
        have t4' : (200 : Int) < ((X k).m : Int) := by omega
        clear hno hc
        generalize (X k).m = xm at *
        go_wp2
        go_ret
        exact ⟨by rw [HBT.out]; rfl, rfl⟩
      · have HNX := Lib.hid (show ∀ j, j < k + 1 → (X j).m ≤ 200 from fun j hj => by
          rcases Nat.lt_succ_iff_lt_or_eq.1 hj with q | rfl
          · exact hno.out j q
          · omega)
        have t4' : ((X k).m : Int) ≤ 200 := by omega
        clear hno hc hb
        generalize (X k).m = xm at *
        go_wp2
        go_roundw
        case rel => exact ⟨k + 1, by go_num, by omega, HNX, trivial⟩
        case measure => simp [intOf]; omega
    · obtain rfl : k = n := by omega
      have HBF := Lib.hid (show b = false from by
        cases b with
        | false => rfl
        | true =>
          rcases HB.out.1 rfl with q | ⟨i, hi, q⟩
          · omega
          · have := hno.out i hi; omega)
      have T100 := Lib.hid (show decide ((100 : Int) < (k : Int)) = false from decide_eq_false (by omega))
      go_wp2
      go_ret
      refine ⟨?_, rfl⟩
      show Ending.returned (.bool (decide ((100 : Int) < (k : Int)))) = _
      rw [T100.out, HBF.out]

theorem o_wr0 {bs ds : List Int} {n : Nat} (hd : ds.length = n) (h : n + bs.length ≤ 64) : wrE (U bs 1 1) 0 n = 0 ∧ wrT (U bs 1 1) 0 ds = U (bs ++ ds) 1 1 := by
  have e : writeE ⟨0, 0, 64, bs, 1, 1⟩ n = 0 := by
    unfold writeE
    rw [if_neg (by simp), if_neg (by simp)]
    split
    · rfl
    · rw [if_neg (by omega), if_neg (by simp only; omega)]
  exact ⟨e, by rw [u_wrT, hd, if_pos e]⟩
theorem o_wr1 {bs ds : List Int} {n : Nat} (hd : ds.length = n) (hb : bs.length ≤ 64) (h : ¬ n + bs.length ≤ 64) : (wrE (U bs 1 1) 0 n = 19 ∨ wrE (U bs 1 1) 0 n = 17) ∧ wrT (U bs 1 1) 0 ds = U bs 1 1 := by
  have e : writeE ⟨0, 0, 64, bs, 1, 1⟩ n = 19 ∨ writeE ⟨0, 0, 64, bs, 1, 1⟩ n = 17 := by
    unfold writeE
    rw [if_neg (by simp), if_neg (by simp), if_neg (by omega)]
    split
    · exact .inl rfl
    · rw [if_pos (by simp only; omega)]; exact .inr rfl
  exact ⟨e, by rw [u_wrT, hd, if_neg (by rcases e with e | e <;> rw [e] <;> decide)]⟩
theorem o_rd0 {n : Int} (h0 : 0 ≤ n) (hn : n ≠ 0) : rdE (U [] 1 1) 0 n = 17 ∧ rdB (U [] 1 1) 0 n = [] ∧ rdT (U [] 1 1) 0 n = U [] 1 1 := by
  refine ⟨?_, ?_, ?_⟩
  · rw [u_rdE]
    unfold readE
    rw [if_neg (by simp), if_neg (by omega), if_neg (by simp [hn])]
    exact if_pos rfl
  · rw [u_rdB]; simp
  · rw [u_rdT]; simp
theorem o_rd1 {bs : List Int} {n : Int} (h0 : 0 ≤ n) (hn : bs = [] → n = 0) : rdE (U bs 1 1) 0 n = 0 ∧ ∃ k, k ≤ bs.length ∧ rdB (U bs 1 1) 0 n = bs.take k ∧ rdT (U bs 1 1) 0 n = U (bs.drop k) 1 1 := by
  refine ⟨?_, readK ⟨0, 0, 64, bs, 1, 1⟩ n, ?_, u_rdB, u_rdT⟩
  · rw [u_rdE]
    unfold readE
    rw [if_neg (by simp), if_neg (by omega)]
    split
    · rfl
    · rename_i q
      rw [if_neg (fun hz => q ⟨hz, .inl (hn (List.eq_nil_of_length_eq_zero hz))⟩)]
  · unfold readK
    split
    · omega
    · exact Nat.min_le_right ..

/-- The pipe; what was written, what was read. -/
structure OS (w : World) (B g gs gf : Nat) (xs ys bs : List Int) (S : Option Addr) (c1 : Nat) (R : Option Addr) (c2 : Nat) : Prop where
  pw : ∃ P, PW w B g gs gf e1.1 e1.2 (U bs 1 1) P ∧ (∀ i, blk S = some i → ¬ P i) ∧ (∀ i, blk R = some i → ¬ P i)
  inn : Row w B 5 1 S xs.length c1 (u8s xs)
  out : Row w B 5 1 R ys.length c2 (u8s ys)
  ap : ∀ i, blk S = some i → blk R ≠ some i
  eq : xs = ys ++ bs
  le : bs.length ≤ 64
section
variable {w w' : World} {B g gs gf c1 c2 : Nat} {xs ys bs bs' : List Int} {S R : Option Addr}
theorem OS.keep (h : OS w B g gs gf xs ys bs S c1 R c2) (hb : Ext w w') : OS w' B g gs gf xs ys bs S c1 R c2 := by
  obtain ⟨⟨P, h1, h2, h3⟩, h4, h5, h6, h7, h8⟩ := h
  exact ⟨⟨P, h1.keep hb, h2, h3⟩, h4.keep hb, h5.keep hb, h6, h7, h8⟩
theorem apS {A C : Option Addr} {l : Nat} (hC : blk C = blk A ∨ blk C = some l) {P : Nat → Prop} (hA : ∀ i, blk A = some i → ¬ P i) (hl : ∀ i, P i → i < l) : ∀ i, blk C = some i → ¬ P i := fun i hi q => by
  rcases hC with e | e
  · exact hA i (e ▸ hi) q
  · have := hl i q
    rw [e] at hi
    injection hi with hi
    omega
end
/-- What was written is longer. -/
theorem OS.wrote {w w' : World} {B g gs gf c2 c' N : Nat} {xs ys bs : List Int} {S S' R : Option Addr} {ds : List Int} {P : Nat → Prop} (hP : PW w B g gs gf e1.1 e1.2 (U (bs ++ ds) 1 1) P) (hS : ∀ i, blk S = some i → ¬ P i) (hR : ∀ i, blk R = some i → ¬ P i)
    (ho : Row w B 5 1 R ys.length c2 (u8s ys)) (hap : ∀ i, blk S = some i → blk R ≠ some i) (heq : xs = ys ++ bs)
    (hr : Row w' B 5 1 S' N c' (u8s (xs ++ ds))) (hN : N = (xs ++ ds).length) (hg : w.grownBy w' (blk S)) (hb : blk S' = blk S ∨ blk S' = some w.heap.size) (hl : (bs ++ ds).length ≤ 64) : OS w' B g gs gf (xs ++ ds) ys (bs ++ ds) S' c' R c2 := by
  have t : Tr w w' (fun i => blk S = some i) (fun i => blk S = some i) := Tr.grown hg fun _ q => .inl q
  refine ⟨⟨P, hP.other t (fun i hi q => hS i q hi), apS hb hS hP.lt, hR⟩, by rw [← hN]; exact hr, t.row ho (fun i hi q => hap i q hi), fun i hi q => ?_, by rw [heq, List.append_assoc], hl⟩
  exact apS hb (P := fun i => blk R = some i) (fun i hi => hap i hi) (fun i hi => (ho.at_ i hi).2) i hi q
/-- What was read is longer. -/
theorem OS.read {w w' : World} {B g gs gf c1 c' N : Nat} {xs ys bs : List Int} {S R R' : Option Addr} {k : Nat} {P : Nat → Prop} (hP : PW w B g gs gf e1.1 e1.2 (U (bs.drop k) 1 1) P) (hS : ∀ i, blk S = some i → ¬ P i) (hR : ∀ i, blk R = some i → ¬ P i)
    (hi : Row w B 5 1 S xs.length c1 (u8s xs)) (hap : ∀ i, blk S = some i → blk R ≠ some i) (heq : xs = ys ++ bs) (hle : bs.length ≤ 64)
    (hr : Row w' B 5 1 R' N c' (u8s (ys ++ bs.take k))) (hN : N = (ys ++ bs.take k).length) (hg : w.grownBy w' (blk R)) (hb : blk R' = blk R ∨ blk R' = some w.heap.size) : OS w' B g gs gf xs (ys ++ bs.take k) (bs.drop k) S c1 R' c' := by
  have t : Tr w w' (fun i => blk R = some i) (fun i => blk R = some i) := Tr.grown hg fun _ q => .inl q
  refine ⟨⟨P, hP.other t (fun i hi q => hR i q hi), hS, apS hb hR hP.lt⟩, t.row hi (fun i h q => hap i h q), by rw [← hN]; exact hr, fun i h q => ?_, by rw [heq, List.append_assoc, List.take_append_drop], by rw [List.length_drop]; omega⟩
  exact apS hb (P := fun i => blk S = some i) (fun i h h' => hap i h' h) (fun i h => (hi.at_ i h).2) i q h

end Go.Proofs.Ytebkknkgkjblnaa
