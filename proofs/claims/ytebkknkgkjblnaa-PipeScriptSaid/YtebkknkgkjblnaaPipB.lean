/-
  PIPES: put, get, slices.Clone at bytes, Write, Read.
-/
import Derived.Test.YtebkknkgkjblnaaPipA
namespace Go.Proofs.Ytebkknkgkjblnaa
open Go.RowKit Go.Maps
attribute [local go_sem] depUpon Sp.ok

theorem upd_self {T : PT} {j : Nat} {x : PP} (h : T j = some x) : upd T j (some x) = T := by
  funext k
  unfold upd
  split
  · rename_i e; rw [e, h]
  · rfl
/-- What a call leaves of the pipes (their slab apart). -/
def PMo (w w' : World) (B g gs : Nat) (ad : Nat → Nat) (A : Nat → Option Addr × Nat) (T T' : PT) : Prop := ∃ A', PM w' B g gs ad A' T' ∧ Tr w w' (PB g ad A T) (PB g ad A' T')
theorem PMo.same {w w' : World} {B g gs : Nat} {ad : Nat → Nat} {A : Nat → Option Addr × Nat} {T : PT} (h : PM w B g gs ad A T) (hb : Ext w w') : PMo w w' B g gs ad A T T := ⟨A, h.keep hb, Tr.ext hb⟩
theorem PMo.step {w w1 w' : World} {B g gs : Nat} {ad : Nat → Nat} {A : Nat → Option Addr × Nat} {T T' : PT} (h : Tr w w1 (PB g ad A T) (PB g ad A T)) (m : PMo w1 w' B g gs ad A T T') : PMo w w' B g gs ad A T T' := by
  obtain ⟨A', h1, h2⟩ := m
  exact ⟨A', h1, h.trans h2⟩
theorem PMo.ext {w w1 w' : World} {B g gs : Nat} {ad : Nat → Nat} {A : Nat → Option Addr × Nat} {T T' : PT} (h : PMo w w1 B g gs ad A T T') (hb : Ext w1 w') : PMo w w' B g gs ad A T T' := by
  obtain ⟨A', h1, h2⟩ := h
  exact ⟨A', h1.keep hb, h2.trans (Tr.ext hb)⟩
set_option maxRecDepth 100000 in
theorem info_byte : (Try.prog.info? 5).map (fun i => (i.zero, i.size, i.bytes)) = some (some (.int .u8 0), 1, 1) := by kernel_rfl

set_option maxRecDepth 100000 in
set_option maxHeartbeats 1000000 in
theorem clone_bytes (A : Option Addr) (n c : Nat) (d : List Int) (w : World) (hn : n ≤ 65536) (hr : Rd w A (u8s d)) (hl : d.length = n) :
    Calls Try.prog 53 #[.slice A n c] w fun e w' => ∃ A' c', e = .returned (.slice A' n c') ∧ Row w' w.heap.size 5 1 A' n c' (u8s d) ∧ Below w.heap.size w w' := by
  subst hl
  obtain ⟨ip, hi, hz0, hz1, hz2⟩ := info_parts info_byte
  cases A with
  | none =>
    have h0 : d = [] := by
      cases d with
      | nil => rfl
      | cons p ps => obtain ⟨b, off, h, _⟩ := hr 0 (.int .u8 p) rfl; cases h
    subst h0
    have hq : ∀ w, (binOp .eql 32 (.slice none 0 c) (.slice none 0 0)).run Try.prog w = .ok (.bool true) w := fun w => Lib.run_eql_slice_nil (P := Try.prog) w 32 5 none 0 c 0 0 Try.underlying32
    go_enter Try.func53, Try.ntmps53
    go_wp2
    go_ret
    exact ⟨none, 0, rfl, Row.nil _ _ _ _, Below.refl _ _⟩
  | some a =>
    have LP := Lib.hid (by rw [u8s_len]; omega : (u8s d).length = d.length * 1)
    have hrow : Row (w.alloc (.cells #[] 5)) w.heap.size 5 1 (some ⟨w.heap.size, 0, none⟩) 0 0 [] := Row.ofOwn (Own.new w 5 []) (Nat.le_refl _) rfl (by omega)
    have hrA : Rd (w.alloc (.cells #[] 5)) (some a) (u8s d) := hr.keep (Ext.alloc _ _)
    have HI := Lib.hid hi
    clear hi
    have hq : ∀ w, (binOp .eql 32 (.slice (some a) d.length c) (.slice none 0 0)).run Try.prog w = .ok (.bool false) w := fun w => Lib.run_eql_slice_nil (P := Try.prog) w 32 5 (some a) d.length c 0 0 Try.underlying32
    go_enter Try.func53, Try.ntmps53
    go_wp2_with (at_builtin; refine wpl_append _ rfl (.tmp 5) (.tmp 6) 32 rfl 5 ip _ 1 1 Try.underlying32 HI.out hz0 hz1 hz2 rfl (by omega) w.heap.size _ 0 0 [] rfl hrow (some a) d.length c (u8s d) rfl LP.out hrA (u8s_one d) d.length (u8s d) (by omega) rfl (by omega) (by omega) (by simp) ?_; intro A2 c2 w2 o2 g2 e2)
    have b2 := below_grown (Ext.alloc w (.cells #[] 5)) g2 (by simp) (by simp [blk])
    go_ret
    exact ⟨A2, c2, rfl, o2, b2⟩

section
variable {w w' : World} {B g gs : Nat} {ad : Nat → Nat} {A : Nat → Option Addr × Nat} {T : PT}
/-- A pipe's bytes are another slice. -/
theorem PM.data (h : PM w B g gs ad A T) {j : Nat} {x : PP} (hj : j < 4) (hx : T j = some x) {w1 : World} {A' : Option Addr} {c' : Nat} {d : List Int} (t : Tr w w1 (fun i => i = ad j ∨ blk (A j).1 = some i) (fun i => i = ad j ∨ blk A' = some i)) (ho : Own w1 (ad j) 89 (pcs x (A j)))
    (hr : Row w1 B 5 1 A' d.length c' (u8s d)) (hd : d.length ≤ 64) : PMo w (w1.setCell ⟨ad j, 3, none⟩ (.slice A' d.length c')) B g gs ad A T (upd T j (some { x with d := d })) := by
  have hok := (h.ok j x hj hx).1
  have t2 := t.trans (Tr.set (P := fun i => i = ad j ∨ blk A' = some i) ⟨ad j, 3, none⟩ (.slice A' d.length c') (.inl rfl))
  have hs := h.set (x' := { x with d := d }) (a := (A', c')) hj hx t2 (ho.set 3 _) (hr.grown (setCell_grown w1 ⟨ad j, 3, none⟩ (.slice A' d.length c')) (.inr fun q => row_ne hr ho (by decide) _ q rfl)) ⟨hok.f64, hok.i64, hok.r0, hok.r1, hok.w0, hok.w1, hd⟩
  exact ⟨_, hs.1, hs.2⟩
end

set_option maxRecDepth 100000 in
set_option maxHeartbeats 1000000 in
theorem p_put (B g gs : Nat) (ad : Nat → Nat) (A : Nat → Option Addr × Nat) (T : PT) (j : Nat) (x : PP) (Bd : Option Addr) (n cb : Nat) (bs : List Int) (w : World) (h : PM w B g gs ad A T) (hj : j < 4) (hl : T j = some x) (hr : Rd w Bd (u8s bs)) (hn : bs.length = n) (hfit : x.d.length + n ≤ 64) (hB : B ≤ w.heap.size) :
    Calls Try.prog 40 #[.pointer (some ⟨ad j, 0, none⟩), .slice Bd n cb] w fun e w' => e = .returned (.slice none 0 0) ∧ PMo w w' B g gs ad A T (upd T j (some { x with d := x.d ++ bs })) := by
  have ho := h.pip j x hj hl
  have v3 := ho.cell 3
  simp only [pcs, List.getElem?_cons_zero, List.getElem?_cons_succ] at v3
  have HO := Lib.hid ho
  have HR := Lib.hid (h.row j x hj hl)
  have HH := Lib.hid h
  obtain ⟨i0, hi0, hz0, hz1, hz2⟩ := info_parts info_byte
  have HI := Lib.hid hi0
  have HRB := Lib.hid hr
  have LB := Lib.hid (by rw [u8s_len, hn]; omega : (u8s bs).length = n * 1)
  have HL := Lib.hid hl
  have HLE := Lib.hid (show (x.d ++ bs).length = x.d.length + n by rw [List.length_append, hn])
  clear h hl hr hi0 ho
  go_enter Try.func40, Try.ntmps40
  go_wp2_with (at_builtin; refine wpl_append _ rfl (.tmp 9) (.tmp 10) 32 rfl 5 i0 _ 1 1 Try.underlying32 HI.out hz0 hz1 hz2 rfl (by omega) B (A j).1 x.d.length (A j).2 _ rfl HR.out Bd n cb (u8s bs) rfl LB.out HRB.out (u8s_one bs) (x.d.length + n) _ rfl (u8s_app _ _) (by omega) (by omega) hB ?_; intro A2 c2 w2 o2 g2 k2; have o3 := HO.out.grown g2 (fun q => row_ne HR.out HO.out (by decide) _ q.symm rfl); have f3 := o3.frozen 3; have v4 := o3.cell 3; simp only [pcs, List.getElem?_cons_zero, List.getElem?_cons_succ] at v4; have O3 := Lib.hid o3; have R2 := Lib.hid o2; have G2 := Lib.hid g2; clear o2 o3 g2)
  go_ret
  refine ⟨rfl, ?_⟩
  have t : Tr w w2 (fun i => i = ad j ∨ blk (A j).1 = some i) (fun i => i = ad j ∨ blk A2 = some i) := (Tr.grown (P := fun i => i = ad j ∨ blk (A j).1 = some i) G2.out (fun k q => .inl (.inr q))).mono (fun _ q => q) fun i q => by
    rcases q with q | q
    · exact .inl (.inl q)
    · rcases k2 with e | e
      · exact .inl (.inr (e ▸ q))
      · rw [e] at q
        injection q with q
        exact .inr (.inr (by omega))
  have := HH.out.data hj HL.out (d := x.d ++ bs) (c' := c2) t O3.out (by rw [HLE.out]; exact R2.out) (by rw [HLE.out]; omega)
  rwa [HLE.out] at this

def writeE (x : PP) (n : Nat) : Int := if x.w = 0 then 4 else if x.r = 0 then 16 else if n = 0 then 0 else if 64 < n then 19 else if 64 < n + x.d.length then 17 else 0
def writeT (T : PT) (j : Nat) (x : PP) (bs : List Int) : PT := if writeE x bs.length = 0 then upd T j (some { x with d := x.d ++ bs }) else T

set_option maxRecDepth 100000 in
set_option maxHeartbeats 2000000 in
theorem p_write (B g gs : Nat) (ad : Nat → Nat) (A : Nat → Option Addr × Nat) (T : PT) (j : Nat) (x : PP) (Bd : Option Addr) (n cb : Nat) (bs : List Int) (w : World) (h : PM w B g gs ad A T) (hj : j < 4) (hl : T j = some x) (hr : Rd w Bd (u8s bs)) (hn : bs.length = n) (hB : B ≤ w.heap.size) :
    Calls Try.prog 12 #[.pointer (some ⟨g, 0, none⟩), .int .i64 (j : Int), .slice Bd n cb] w fun e w' => e = .returned (.int .i64 (writeE x n)) ∧ PMo w w' B g gs ad A T (writeT T j x bs) := by
  have HF := Lib.hid (p_find B g gs ad A T j x w h hj hl)
  have ho := h.pip j x hj hl
  have v3 := ho.cell 3
  have v4 := ho.cell 4
  have v5 := ho.cell 5
  simp only [pcs, List.getElem?_cons_zero, List.getElem?_cons_succ] at v3 v4 v5
  have HE := Lib.hid (show writeE x n = if x.w = 0 then 4 else if x.r = 0 then 16 else if n = 0 then 0 else if 64 < n then 19 else if 64 < n + x.d.length then 17 else 0 from rfl)
  have HNO := Lib.hid (fun (q : writeE x n ≠ 0) => show PMo w w B g gs ad A T (writeT T j x bs) from by
    unfold writeT
    rw [hn, if_neg q]
    exact PMo.same h (Ext.refl _))
  have H00 := Lib.hid (fun (q : n = 0) => show PMo w w B g gs ad A T (writeT T j x bs) from by
    subst q
    have : bs = [] := List.eq_nil_of_length_eq_zero hn
    subst this
    unfold writeT
    rw [List.append_nil]
    have e : upd T j (some { x with d := x.d }) = T := upd_self hl
    rw [e]
    split <;> exact PMo.same h (Ext.refl _))
  have HP := Lib.hid (fun (q : x.d.length + n ≤ 64) => p_put B g gs ad A T j x Bd n cb bs w h hj hl hr hn q hB)
  have HT := Lib.hid (fun (q : writeE x n = 0) => show writeT T j x bs = upd T j (some { x with d := x.d ++ bs }) from by unfold writeT; rw [hn, if_pos q])
  have hdl := (h.ok j x hj hl).1.dl
  have hmf : ∀ (fn : Fn) (first cap : Array Value) (w : World), (Instr.makeFunc fn first cap).run Try.prog w = .ok (.func fn first cap) w := fun _ _ _ _ => rfl
  clear h hl hr ho
  by_cases h1 : x.w = 0
  · have E := Lib.hid (show writeE x n = 4 by rw [HE.out, if_pos h1])
    have t1 : (x.w == 0) = true := by simp [h1]
    clear h1
    go_enter Try.func12, Try.ntmps12
    go_wp2_with ((with_reducible go_at_call 39); (with_reducible refine (HF.out).mono ?_); rintro e w' ⟨rfl, rfl⟩)
    go_ret
    exact ⟨by rw [E.out]; rfl, HNO.out (by rw [E.out]; omega)⟩
  have t1 : (x.w == 0) = false := by simp [h1]
  by_cases h2 : x.r = 0
  · have E := Lib.hid (show writeE x n = 16 by rw [HE.out, if_neg h1, if_pos h2])
    have t2 : (x.r == 0) = true := by simp [h2]
    clear h1 h2
    go_enter Try.func12, Try.ntmps12
    go_wp2_with ((with_reducible go_at_call 39); (with_reducible refine (HF.out).mono ?_); rintro e w' ⟨rfl, rfl⟩)
    go_ret
    exact ⟨by rw [E.out]; rfl, HNO.out (by rw [E.out]; omega)⟩
  have t2 : (x.r == 0) = false := by simp [h2]
  by_cases h3 : n = 0
  · have E := Lib.hid (show writeE x n = 0 by rw [HE.out, if_neg h1, if_neg h2, if_pos h3])
    have t3 : ((n : Int) == 0) = true := by simp [h3]
    clear h1 h2
    go_enter Try.func12, Try.ntmps12
    go_wp2_with ((with_reducible go_at_call 39); (with_reducible refine (HF.out).mono ?_); rintro e w' ⟨rfl, rfl⟩)
    go_ret
    exact ⟨by rw [E.out]; rfl, H00.out h3⟩
  have t3 : ((n : Int) == 0) = false := by simp [h3]
  by_cases h4 : 64 < n
  · have E := Lib.hid (show writeE x n = 19 by rw [HE.out, if_neg h1, if_neg h2, if_neg h3, if_pos h4])
    have t4 : decide ((64 : Int) < (n : Int)) = true := decide_eq_true (by omega)
    have t4' : (64 : Int) < (n : Int) := by omega
    clear h1 h2 h3
    go_enter Try.func12, Try.ntmps12
    go_wp2_with ((with_reducible go_at_call 39); (with_reducible refine (HF.out).mono ?_); rintro e w' ⟨rfl, rfl⟩)
    go_ret
    exact ⟨by rw [E.out]; rfl, HNO.out (by rw [E.out]; omega)⟩
  have t4 : decide ((64 : Int) < (n : Int)) = false := decide_eq_false (by omega)
  have t4' : (n : Int) ≤ 64 := by omega
  have hw : IntKind.i64.wrap (64 - (x.d.length : Int)) = 64 - (x.d.length : Int) := IntWalk.i64_in _ ⟨by omega, by omega⟩
  by_cases h5 : 64 < n + x.d.length
  · have E := Lib.hid (show writeE x n = 17 by rw [HE.out, if_neg h1, if_neg h2, if_neg h3, if_neg h4, if_pos h5])
    have t5 : decide (64 - (x.d.length : Int) < (n : Int)) = true := decide_eq_true (by omega)
    have t5' : 64 - (x.d.length : Int) < (n : Int) := by omega
    clear h1 h2 h3 h4
    go_enter Try.func12, Try.ntmps12
    go_wp2_with ((with_reducible go_at_call 39); (with_reducible refine (HF.out).mono ?_); rintro e w' ⟨rfl, rfl⟩)
    go_ret
    exact ⟨by rw [E.out]; rfl, HNO.out (by rw [E.out]; omega)⟩
  have t5 : decide (64 - (x.d.length : Int) < (n : Int)) = false := decide_eq_false (by omega)
  have t5' : (n : Int) ≤ 64 - (x.d.length : Int) := by omega
  have E := Lib.hid (show writeE x n = 0 by rw [HE.out, if_neg h1, if_neg h2, if_neg h3, if_neg h4, if_neg h5])
  have HPP := Lib.hid (HP.out (by omega))
  clear h1 h2 h3 h4 h5
  go_enter Try.func12, Try.ntmps12
  go_wp2_with (first
    | ((with_reducible go_at_call 39); (with_reducible refine (HF.out).mono ?_); rintro e w' ⟨rfl, rfl⟩)
    | ((with_reducible go_at_call 40); (with_reducible refine (HPP.out).mono ?_); rintro e w1 ⟨rfl, m1⟩))
  go_ret
  exact ⟨by rw [E.out]; rfl, by rw [HT.out E.out]; exact m1⟩
theorem p_write_no (B g gs : Nat) (ad : Nat → Nat) (A : Nat → Option Addr × Nat) (T : PT) (id : Int) (Bd : Option Addr) (n cb : Nat) (w : World) (h : PM w B g gs ad A T) (hl : look T id = none) :
    Calls Try.prog 12 #[.pointer (some ⟨g, 0, none⟩), .int .i64 id, .slice Bd n cb] w fun e w' => e = .returned (.int .i64 4) ∧ w = w' := by
  have HF := Lib.hid (p_find_no B g gs ad A T id w h hl)
  clear h hl
  go_enter Try.func12, Try.ntmps12
  go_wp2_with ((with_reducible go_at_call 39); (with_reducible refine (HF.out).mono ?_); rintro e w' ⟨rfl, rfl⟩)
  go_ret
  exact ⟨rfl, rfl⟩

end Go.Proofs.Ytebkknkgkjblnaa
