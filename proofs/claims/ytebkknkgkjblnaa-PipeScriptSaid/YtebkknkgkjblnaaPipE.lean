/-
  PIPES: one comes, one goes; pipes with their slab in one word; Make.
-/
import Derived.Test.YtebkknkgkjblnaaPipD
namespace Go.Proofs.Ytebkknkgkjblnaa
open Go.RowKit Go.Maps
attribute [local go_sem] depUpon Sp.ok

theorem pv_new {ad : Nat → Nat} {T : PT} {k m : Nat} (x : PP) (b : Nat) : pv (fun j => if j = k then b else ad j) (upd T k (some x)) m = if m = k then .pointer (some ⟨b, 0, none⟩) else pv ad T m := by
  by_cases e : m = k
  · subst e
    rw [if_pos rfl, pv_some (upd_at ..)]
    simp only [if_pos]
  · rw [if_neg e]
    unfold pv
    rw [upd_ne _ _ e]
    simp only [if_neg e]
theorem ptrs_new {ad : Nat → Nat} {T : PT} {k : Nat} (hk : k < 4) (x : PP) (b : Nat) : (ptrs ad T).set k (.pointer (some ⟨b, 0, none⟩)) = ptrs (fun j => if j = k then b else ad j) (upd T k (some x)) := by
  unfold ptrs
  simp only [pv_new]
  match k, hk with
  | 0, _ => rfl
  | 1, _ => rfl
  | 2, _ => rfl
  | 3, _ => rfl
theorem pv_del {ad : Nat → Nat} {T : PT} {k m : Nat} : pv ad (upd T k none) m = if m = k then .pointer none else pv ad T m := by
  by_cases e : m = k
  · subst e
    rw [if_pos rfl, pv_none (upd_at ..)]
  · rw [if_neg e]
    unfold pv
    rw [upd_ne _ _ e]
theorem ptrs_del {ad : Nat → Nat} {T : PT} {k : Nat} (hk : k < 4) : (ptrs ad T).set k (.pointer none) = ptrs ad (upd T k none) := by
  unfold ptrs
  simp only [pv_del]
  match k, hk with
  | 0, _ => rfl
  | 1, _ => rfl
  | 2, _ => rfl
  | 3, _ => rfl
section
variable {w w' : World} {B g gs : Nat} {ad : Nat → Nat} {A : Nat → Option Addr × Nat} {T : PT}
theorem PM.add (h : PM w B g gs ad A T) {k : Nat} (hk : k < 4) (hn : T k = none) (x : PP) (hx : x.d = []) (hok : x.ok) (hB : B ≤ w.heap.size) :
    PM ((w.setCell ⟨g, 1 + k, none⟩ (.pointer (some ⟨w.heap.size, 0, none⟩))).alloc (.cells (pcs x (none, 0)).toArray 89)) B g gs (fun j => if j = k then w.heap.size else ad j) (fun j => if j = k then (none, 0) else A j) (upd T k (some x)) ∧
    Tr w ((w.setCell ⟨g, 1 + k, none⟩ (.pointer (some ⟨w.heap.size, 0, none⟩))).alloc (.cells (pcs x (none, 0)).toArray 89)) (PB g ad A T) (PB g (fun j => if j = k then w.heap.size else ad j) (fun j => if j = k then (none, 0) else A j) (upd T k (some x))) := by
  have hsz : (w.setCell ⟨g, 1 + k, none⟩ (.pointer (some ⟨w.heap.size, 0, none⟩))).heap.size = w.heap.size := by simp
  have hal : Ext (w.setCell ⟨g, 1 + k, none⟩ (.pointer (some ⟨w.heap.size, 0, none⟩))) ((w.setCell ⟨g, 1 + k, none⟩ (.pointer (some ⟨w.heap.size, 0, none⟩))).alloc (.cells (pcs x (none, 0)).toArray 89)) := Ext.alloc _ _
  have hnw := Own.new (w.setCell ⟨g, 1 + k, none⟩ (.pointer (some ⟨w.heap.size, 0, none⟩))) 89 (pcs x (none, 0))
  rw [hsz] at hnw
  have hst := setCell_grown w ⟨g, 1 + k, none⟩ (.pointer (some ⟨w.heap.size, 0, none⟩))
  refine ⟨⟨?_, fun j y hj hy => ?_, fun j y hj hy => ?_, fun j l y z hj hl hjl hy hz => ?_, fun j y hj hy => ?_, h.lo⟩, ?_⟩
  · have := (h.own.set (1 + k) (.pointer (some ⟨w.heap.size, 0, none⟩))).keep hal
    rwa [show (Value.pointer (some ⟨gs, 0, none⟩) :: ptrs ad T).set (1 + k) (.pointer (some ⟨w.heap.size, 0, none⟩)) = .pointer (some ⟨gs, 0, none⟩) :: (ptrs ad T).set k (.pointer (some ⟨w.heap.size, 0, none⟩)) by rw [Nat.add_comm]; rfl, ptrs_new hk x] at this
  · by_cases e : j = k
    · subst e
      rw [upd_at] at hy
      injection hy with hy
      subst hy
      simp only [if_pos]
      exact hnw
    · rw [upd_ne _ _ e] at hy
      simp only [if_neg e]
      exact ((h.pip j y hj hy).far (p := ⟨g, 1 + k, none⟩) (h.ng hj hy) _).keep hal
  · by_cases e : j = k
    · subst e
      rw [upd_at] at hy
      injection hy with hy
      subst hy
      simp only [if_pos]
      rw [hx]
      exact Row.nil _ _ _ _
    · rw [upd_ne _ _ e] at hy
      simp only [if_neg e]
      exact ((h.row j y hj hy).grown hst (.inr fun q => row_ne (h.row j y hj hy) h.own (by decide) _ q rfl)).keep hal
  · by_cases e : j = k
    · subst e
      have e' : l ≠ j := fun q => hjl q.symm
      rw [upd_ne _ _ e'] at hz
      simp only [if_pos, if_neg e']
      exact ⟨fun q => by have := (h.pip l z hl hz).lt; omega, fun i hi => by cases hi⟩
    · rw [upd_ne _ _ e] at hy
      by_cases e' : l = k
      · subst e'
        simp only [if_pos, if_neg e]
        exact ⟨fun q => by have := (h.pip j y hj hy).lt; omega, fun i hi q => by cases q⟩
      · rw [upd_ne _ _ e'] at hz
        simp only [if_neg e, if_neg e']
        exact h.inj j l y z hj hl hjl hy hz
  · by_cases e : j = k
    · subst e
      rw [upd_at] at hy
      injection hy with hy
      subst hy
      simp only [if_pos]
      exact ⟨hok, hB⟩
    · rw [upd_ne _ _ e] at hy
      simp only [if_neg e]
      exact h.ok j y hj hy
  · refine ((Tr.set (P := PB g ad A T) ⟨g, 1 + k, none⟩ (.pointer (some ⟨w.heap.size, 0, none⟩)) (.inl rfl)).trans (Tr.ext hal)).mono (fun _ q => q) fun i hi => ?_
    rcases hi with q | ⟨j, y, hj, hy, q⟩
    · exact .inl (.inl q)
    · by_cases e : j = k
      · subst e
        simp only [if_pos] at q
        rcases q with q | q
        · exact .inr (.inr (Nat.le_of_eq q.symm))
        · cases q
      · rw [upd_ne _ _ e] at hy
        simp only [if_neg e] at q
        exact .inl (.inr ⟨j, y, hj, hy, q⟩)
theorem PM.del (h : PM w B g gs ad A T) {k : Nat} (hk : k < 4) :
    PM (w.setCell ⟨g, 1 + k, none⟩ (.pointer none)) B g gs ad A (upd T k none) ∧ Tr w (w.setCell ⟨g, 1 + k, none⟩ (.pointer none)) (PB g ad A T) (PB g ad A (upd T k none)) := by
  have hst := setCell_grown w ⟨g, 1 + k, none⟩ (.pointer none)
  have hu : ∀ j y, upd T k none j = some y → T j = some y := fun j y hy => by
    by_cases e : j = k
    · subst e; rw [upd_at] at hy; cases hy
    · rwa [upd_ne _ _ e] at hy
  refine ⟨⟨?_, fun j y hj hy => ?_, fun j y hj hy => ?_, fun j l y z hj hl hjl hy hz => h.inj j l y z hj hl hjl (hu _ _ hy) (hu _ _ hz), fun j y hj hy => h.ok j y hj (hu _ _ hy), h.lo⟩, ?_⟩
  · have := h.own.set (1 + k) (.pointer none)
    rwa [show (Value.pointer (some ⟨gs, 0, none⟩) :: ptrs ad T).set (1 + k) (.pointer none) = .pointer (some ⟨gs, 0, none⟩) :: (ptrs ad T).set k (.pointer none) by rw [Nat.add_comm]; rfl, ptrs_del hk] at this
  · exact (h.pip j y hj (hu _ _ hy)).far (p := ⟨g, 1 + k, none⟩) (h.ng hj (hu _ _ hy)) _
  · exact (h.row j y hj (hu _ _ hy)).grown hst (.inr fun q => row_ne (h.row j y hj (hu _ _ hy)) h.own (by decide) _ q rfl)
  · refine (Tr.set (P := PB g ad A T) ⟨g, 1 + k, none⟩ (.pointer none) (.inl rfl)).mono (fun _ q => q) fun i hi => ?_
    rcases hi with q | ⟨j, y, hj, hy, q⟩
    · exact .inl (.inl q)
    · exact .inl (.inr ⟨j, y, hj, hu _ _ hy, q⟩)
theorem PM.apart (h : PM w B g gs ad A T) {B2 gf : Nat} {p : FP} {L : List Pc} {P1 : Nat → Prop} (hs : SW w B2 gs gf p L P1) : ∀ i, PB g ad A T i → ¬ P1 i := fun i hi => by
  rcases hi with rfl | ⟨j, x, hj, hx, rfl | hi⟩
  · exact hs.no h.own (by decide) (by decide) (by decide) (by decide) (by decide)
  · exact hs.no (h.pip j x hj hx) (by decide) (by decide) (by decide) (by decide) (by decide)
  · exact hs.noRow (h.row j x hj hx) (by decide) (by decide) (by decide) (by decide) (by decide) i hi
end
/-- Pipes in block g over the slab in gs over the frames in gf; their blocks are P. -/
def PW (w : World) (B g gs gf : Nat) (p : FP) (L : List Pc) (T : PT) (P : Nat → Prop) : Prop := ∃ ad A P1, PM w B g gs ad A T ∧ SW w B gs gf p L P1 ∧ P = Un (PB g ad A T) P1
section
variable {w w' : World} {B g gs gf : Nat} {p : FP} {L : List Pc} {T T' : PT} {P : Nat → Prop}
theorem PW.keep (h : PW w B g gs gf p L T P) (hb : Ext w w') : PW w' B g gs gf p L T P := by
  obtain ⟨ad, A, P1, h1, h2, h3⟩ := h
  exact ⟨ad, A, P1, h1.keep hb, h2.keep hb, h3⟩
theorem PW.other (h : PW w B g gs gf p L T P) {Q Q' : Nat → Prop} (a : Tr w w' Q Q') (hP : ∀ i, P i → ¬ Q i) : PW w' B g gs gf p L T P := by
  obtain ⟨ad, A, P1, h1, h2, rfl⟩ := h
  exact ⟨ad, A, P1, h1.other a fun i hi => hP i (.inl hi), h2.other a fun i hi => hP i (.inr hi), rfl⟩
theorem PW.lt (h : PW w B g gs gf p L T P) : ∀ i, P i → i < w.heap.size := by
  obtain ⟨ad, A, P1, h1, h2, rfl⟩ := h
  intro i hi
  rcases hi with hi | hi
  · exact h1.lt i hi
  · exact h2.lt i hi
theorem PW.ge (h : PW w B g gs gf p L T P) : ∀ i, P i → B ≤ i := by
  obtain ⟨ad, A, P1, h1, h2, rfl⟩ := h
  intro i hi
  rcases hi with hi | hi
  · exact h1.ge i hi
  · exact h2.ge i hi
/-- A block of another kind lies beside it. -/
theorem PW.no (h : PW w B g gs gf p L T P) {i : Nat} {t : TypeId} {xs : List Value} (ho : Own w i t xs) (t1 : t ≠ 110) (t2 : t ≠ 120) (t3 : t ≠ 98) (t4 : t ≠ 125) (t5 : t ≠ 3) (t6 : t ≠ 83) (t7 : t ≠ 89) (t8 : t ≠ 5) : ¬ P i := by
  obtain ⟨ad, A, P1, h1, h2, rfl⟩ := h
  intro hi
  rcases hi with hi | hi
  · exact h1.no ho t6 t7 t8 hi
  · exact h2.no ho t1 t2 t3 t4 t5 hi
theorem PW.okp (h : PW w B g gs gf p L T P) : p.ok ∧ SP p L := by
  obtain ⟨ad, A, P1, h1, h2, _⟩ := h
  exact ⟨h2.ok, h2.sp⟩
theorem PW.okx (h : PW w B g gs gf p L T P) {j : Nat} {x : PP} (hj : j < 4) (hx : T j = some x) : x.ok := by
  obtain ⟨ad, A, P1, h1, h2, _⟩ := h
  exact (h1.ok j x hj hx).1
/-- The pipes turn, their slab does not. -/
theorem PW.pipes {ad : Nat → Nat} {A : Nat → Option Addr × Nat} {P1 : Nat → Prop} (h2 : SW w B gs gf p L P1) (h1 : PM w B g gs ad A T) (m : PMo w w' B g gs ad A T T') : ∃ P', PW w' B g gs gf p L T' P' ∧ Tr w w' (Un (PB g ad A T) P1) P' := by
  obtain ⟨A', m1, m2⟩ := m
  refine ⟨_, ⟨ad, A', P1, m1, h2.other m2 (fun i hi q => h1.apart h2 i q hi), rfl⟩, m2.mono (fun _ q => .inl q) fun i hi => ?_⟩
  rcases hi with q | q
  · exact .inl q
  · exact .inr (.inl (.inr q))
end

set_option maxRecDepth 100000 in
theorem run_newpipe (f i z : Int) (w : World) : (Instr.build 89 #[(0, .agg #[.int .i64 f, .int .i64 i, .int .i64 z]), (2, .agg #[.int .i64 1, .int .i64 1])]).run Try.prog w = .ok (.agg #[.int .i64 f, .int .i64 i, .int .i64 z, .slice none 0 0, .int .i64 1, .int .i64 1]) w := by kernel_rfl

def makeV (p : FP) (L : List Pc) (T : PT) : Int × Int := if freeI T = -1 then (0, 3) else if (takeV p L 64).2.2.2 ≠ 0 then (0, 15) else (freeI T, 0)
def makeT (p : FP) (L : List Pc) (T : PT) : PT := if freeI T = -1 then T else if (takeV p L 64).2.2.2 ≠ 0 then T else upd T (freeI T).toNat (some ⟨(takeV p L 64).1, (takeV p L 64).2.1, (takeV p L 64).2.2.1, [], 1, 1⟩)
def makeL (p : FP) (L : List Pc) (T : PT) : FP × List Pc := if freeI T = -1 then (p, L) else takeL p L 64
theorem take_i64 {p : FP} {L : List Pc} (h : SP p L) (hp : p.ok) (size : Int) : I64 (takeV p L size).1 ∧ I64 (takeV p L size).2.1 := by
  have hn := hp.n64
  unfold takeV
  split
  · exact ⟨⟨by simp only; omega, by simp only; omega⟩, ⟨by simp only; omega, by simp only; omega⟩⟩
  · cases hk : pickS (cls size) L with
    | some q =>
      obtain ⟨a, i⟩ := q
      obtain ⟨ha, hf⟩ := pickS_inv hk
      have h1 := (h.ok a ha).lt
      obtain ⟨_, _, _, h4⟩ := h.hit ha hf
      exact ⟨⟨by simp only; omega, by simp only; omega⟩, ⟨by simp only; omega, by simp only; omega⟩⟩
    | none =>
      cases ht : p.top with
      | some f =>
        have h1 := (FP.top_lt hp ht).1
        exact ⟨⟨by simp only; omega, by simp only; omega⟩, ⟨by simp only; omega, by simp only; omega⟩⟩
      | none => exact ⟨⟨by simp only; omega, by simp only; omega⟩, ⟨by simp only; omega, by simp only; omega⟩⟩

set_option maxRecDepth 100000 in
set_option maxHeartbeats 4000000 in
theorem pw_make (B g gs gf : Nat) (p : FP) (L : List Pc) (T : PT) (P : Nat → Prop) (w : World) (h : PW w B g gs gf p L T P) (hB : B ≤ w.heap.size) :
    Calls Try.prog 11 #[.pointer (some ⟨g, 0, none⟩)] w fun e w' => e = .returned (.tuple #[.int .i64 (makeV p L T).1, .int .i64 (makeV p L T).2]) ∧ ∃ P', PW w' B g gs gf (makeL p L T).1 (makeL p L T).2 (makeT p L T) P' ∧ Tr w w' P P' := by
  have hi64 := take_i64 h.okp.2 h.okp.1 64
  obtain ⟨ad, A, P1, h1, h2, rfl⟩ := h
  have HX := Lib.hid (p_index B g gs ad A T w h1)
  rcases freeI_cases T with ⟨e0, _⟩ | ⟨k, hk, e0, hn, _⟩
  · have HV := Lib.hid (show makeV p L T = (0, 3) by unfold makeV; rw [if_pos e0])
    have HT := Lib.hid (show makeT p L T = T by unfold makeT; rw [if_pos e0])
    have HL := Lib.hid (show makeL p L T = (p, L) by unfold makeL; rw [if_pos e0])
    rw [e0] at HX
    have HH := Lib.hid (And.intro h1 h2)
    clear h1 h2 e0
    go_enter Try.func11, Try.ntmps11
    go_wp2_with ((with_reducible go_at_call 37); (with_reducible refine (HX.out).mono ?_); rintro e w' ⟨rfl, rfl⟩)
    go_ret2
    exact ⟨by rw [HV.out]; rfl, by rw [HT.out, HL.out]; exact ⟨_, ⟨ad, A, P1, HH.out.1, HH.out.2, rfl⟩, Tr.refl⟩⟩
  have hne : ¬ freeI T = -1 := by omega
  have HV := Lib.hid (show makeV p L T = if (takeV p L 64).2.2.2 ≠ 0 then (0, 15) else (freeI T, 0) by unfold makeV; rw [if_neg hne])
  have HT := Lib.hid (show makeT p L T = if (takeV p L 64).2.2.2 ≠ 0 then T else upd T (freeI T).toNat (some ⟨(takeV p L 64).1, (takeV p L 64).2.1, (takeV p L 64).2.2.1, [], 1, 1⟩) by unfold makeT; rw [if_neg hne])
  have HL := Lib.hid (show makeL p L T = takeL p L 64 by unfold makeL; rw [if_neg hne])
  rw [e0] at HX HV HT
  rw [Int.toNat_natCast] at HT
  have HTK := Lib.hid (sw_take B gs gf p L P1 64 w h2 hB)
  have HH1 := Lib.hid h1
  have HH2 := Lib.hid h2
  have HAP := Lib.hid (h1.apart h2)
  have v0 := h1.s_
  have k0' : (0 : Int) ≤ (k : Int) := by omega
  have k1' : (k : Int) < 4 := by omega
  clear h1 h2 hne e0
  generalize takeL p L 64 = pl at *
  generalize takeV p L 64 = tv at *
  obtain ⟨vf, vs, vz, ve⟩ := tv
  simp only at HV HT HTK hi64
  go_enter Try.func11, Try.ntmps11
  go_upto_region 7 with (first
    | ((with_reducible go_at_call 37); (with_reducible refine (HX.out).mono ?_); rintro e w' ⟨rfl, rfl⟩)
    | ((with_reducible go_at_call 38); (with_reducible refine HTK.out.mono ?_); rintro e w4 ⟨rfl, P4, s4, t4⟩))
  have bR := Ext.alloc w4 (.cells #[.int .i64 vf, .int .i64 vs, .int .i64 vz] 84)
  have OR := Lib.hid (Own.new w4 84 [.int .i64 vf, .int .i64 vs, .int .i64 vz])
  have M5 := Lib.hid ((HH1.out.other t4 (fun i hi q => HAP.out i hi q)).keep bR)
  have S5 := Lib.hid (s4.keep bR)
  have T5 := Lib.hid ((t4.mono (Q := Un (PB g ad A T) P1) (Q' := Un (PB g ad A T) P4) (fun _ q => .inr q) (fun i q => by
    rcases q with q | q
    · exact .inr (.inl (.inl q))
    · exact .inl q)).trans (Tr.ext bR))
  have hs5 := (T5.out.base).size
  clear s4 t4 bR v0 HTK
  generalize (w4.alloc (.cells #[.int .i64 vf, .int .i64 vs, .int .i64 vz] 84)) = w5 at *
  by_cases he : ve = 0
  rotate_left
  · have te : (ve != 0) = true := by simp [he]
    have HV' := Lib.hid (show makeV p L T = (0, 15) by rw [HV.out, if_pos he])
    have HT' := Lib.hid (show makeT p L T = T by rw [HT.out, if_pos he])
    clear he
    go_wp2
    go_ret2
    exact ⟨by rw [HV'.out]; rfl, _, by rw [HT'.out, HL.out]; exact ⟨ad, A, P4, M5.out, S5.out, rfl⟩, T5.out⟩
  · subst he
    have HV' := Lib.hid (show makeV p L T = ((k : Int), 0) by rw [HV.out, if_neg (by simp)])
    have HT' := Lib.hid (show makeT p L T = upd T k (some ⟨vf, vs, vz, [], 1, 1⟩) by rw [HT.out, if_neg (by simp)])
    have hbd := fun w => run_newpipe vf vs vz w
    have y0 := OR.out.cell 0
    have y1 := OR.out.cell 1
    have y2 := OR.out.cell 2
    simp only [List.getElem?_cons_zero, List.getElem?_cons_succ] at y0 y1 y2
    have d0 := M5.out.l_ hk
    have d1 := M5.out.own.frozen (1 + k)
    have d2 := M5.out.own.lt
    have d3 := OR.out.lt
    have HADD := Lib.hid (M5.out.add hk hn ⟨vf, vs, vz, [], 1, 1⟩ rfl ⟨hi64.1, hi64.2, by simp, by simp, by simp, by simp, by simp⟩ (by omega))
    go_upto_region 9 with fail
    go_region
    go_wp2
    go_ret2
    have hA := HADD.out
    have S6 := S5.out.other hA.2 (fun i hi q => M5.out.apart S5.out i q hi)
    refine ⟨by rw [HV'.out]; rfl, _, by rw [HT'.out, HL.out]; exact ⟨_, _, P4, hA.1.keep (Ext.drew _), S6.keep (Ext.drew _), rfl⟩, ?_⟩
    refine (T5.out.trans (hA.2.mono (Q := Un (PB g ad A T) P4) (fun _ q => .inl q) (fun i q => ?_))).trans (Tr.ext (Ext.drew _))
    rcases q with q | q
    · exact .inl q
    · exact .inr (.inl (.inr q))

end Go.Proofs.Ytebkknkgkjblnaa
