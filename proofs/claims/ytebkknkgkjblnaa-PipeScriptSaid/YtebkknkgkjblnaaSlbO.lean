/-
  WALKS of chapter 5's reference: Take.
-/
import Derived.Test.YtebkknkgkjblnaaSlbN
namespace Go.Proofs.Ytebkknkgkjblnaa
open Go.RowKit
attribute [local go_sem] depUpon Sp.ok

set_option maxRecDepth 100000 in
theorem zero_rref : (Try.prog.info? 58).map (·.zero) = some (some (.agg #[.int .i64 0, .int .i64 0, .int .i64 0])) := by kernel_rfl
set_option maxRecDepth 100000 in
theorem size_rref : (Try.prog.info? 58).map (·.size) = some 3 := by kernel_rfl
set_option maxRecDepth 100000 in
theorem info_cut : (Try.prog.info? 124).map (fun i => (i.zero, i.size, i.bytes)) = some (some (.agg #[.int .i64 0, .int .i64 0, .bool false, .bool false, .bool false, .bool false]), 6, 24) := by kernel_rfl
set_option maxRecDepth 100000 in
theorem zero_cut : (Try.prog.info? 124).map (·.zero) = some (some (.agg #[.int .i64 0, .int .i64 0, .bool false, .bool false, .bool false, .bool false])) := by kernel_rfl
set_option maxRecDepth 100000 in
theorem size_cut : (Try.prog.info? 124).map (·.size) = some 6 := by kernel_rfl

theorem row_row {w : World} {B1 B2 n1 c1 s1 n2 c2 s2 : Nat} {e1 e2 : TypeId} {A1 A2 : Option Addr} {xs ys : List Value} (h1 : Row w B1 e1 s1 A1 n1 c1 xs) (h2 : Row w B2 e2 s2 A2 n2 c2 ys) (ht : e1 ≠ e2) : ∀ b, blk A1 = some b → blk A2 ≠ some b := by
  intro b hb hb2
  rcases h1.2 with ⟨hv, _⟩ | ⟨g1, cap1, cur1, hv1, _, hc1, _⟩
  · injection hv with q1 q2 q3
    subst q1; cases hb
  rcases h2.2 with ⟨hv, _⟩ | ⟨g2, cap2, cur2, hv2, _, hc2, _⟩
  · injection hv with q1 q2 q3
    subst q1; cases hb2
  injection hv1 with q1 q2 q3
  injection hv2 with p1 p2 p3
  subst q1; subst p1
  have r1 : g1 = b := by simpa [blk] using hb
  have r2 : g2 = b := by simpa [blk] using hb2
  subst r1; subst r2
  have := hc1.symm.trans hc2
  injection this with this
  injection this with _ q _
  exact ht q
theorem run_cut (f z : Int) (w : World) : (Instr.build 124 #[(0, .int .i64 f), (1, .int .i64 z)]).run Try.prog w = .ok (.agg #[.int .i64 f, .int .i64 z, .bool false, .bool false, .bool false, .bool false]) w := by kernel_rfl
theorem run_rref (f z : Int) (w : World) : (Instr.build 58 #[(0, .int .i64 f), (2, .int .i64 z)]).run Try.prog w = .ok (.agg #[.int .i64 f, .int .i64 0, .int .i64 z]) w := by kernel_rfl
section
variable {P : Program} (w : World) {ops : Array Oper} {rest : List Oper} {o : Oper} {a : Act} {Q : Exit → Act → World → Prop}
theorem wpl_build2 (hg : o.guard = none) (t : TypeId) (i i' : Nat) (x x' : Operand) (hop : o.op = .build t #[(i, x), (i', x')]) (u u' : Value) (hx : a.eval x = u) (hx' : a.eval x' = u') (v : Value) (hrun : (Instr.build t #[(i, u), (i', u')]).run P w = .ok v w)
    (h : wpList P ops Q rest (a.put o.dst v) w) : wpList P ops Q (o :: rest) a w := by
  refine wpList_plain hg fun K hK' => ?_
  unfold Oper.wp
  simp only [execOp, hop]
  simp only [List.map_toArray, List.map_cons, List.map_nil, hx, hx']
  simp only [Sem.run_bind, hrun, Result.andThen_ok]
  exact hK' _ _ h
end
theorem take_0 {p : FP} {L : List Pc} {s : Int} (h : cls s = 0) : takeV p L s = (0, 0, 0, 2) ∧ takeL p L s = (p, L) := by
  unfold takeV takeL
  rw [if_pos h, if_pos h]; exact ⟨rfl, rfl⟩
theorem take_hit {p : FP} {L : List Pc} {s : Int} {a : Pc} {i : Nat} (h : cls s ≠ 0) (hk : pickS (cls s) L = some (a, i)) : takeV p L s = ((a.f : Int), (i : Int), cls s, 0) ∧ takeL p L s = (p, updS L a.f (sins (i : Int) a.sl)) := by
  unfold takeV takeL
  rw [if_neg h, if_neg h, hk]; exact ⟨rfl, rfl⟩
theorem take_new {p : FP} {L : List Pc} {s : Int} {f : Nat} (h : cls s ≠ 0) (hk : pickS (cls s) L = none) (ht : p.top = some f) : takeV p L s = ((f : Int), 0, cls s, 0) ∧ takeL p L s = (p.tkd f, insP ⟨f, cls s, [0]⟩ L) := by
  unfold takeV takeL
  rw [if_neg h, if_neg h, hk, ht]; exact ⟨rfl, rfl⟩
theorem take_full {p : FP} {L : List Pc} {s : Int} (h : cls s ≠ 0) (hk : pickS (cls s) L = none) (ht : p.top = none) : takeV p L s = (0, 0, 0, 3) ∧ takeL p L s = (p, L) := by
  unfold takeV takeL
  rw [if_neg h, if_neg h, hk, ht]; exact ⟨rfl, rfl⟩
/-- What the reference's Take answers and leaves. -/
structure RTook (w w' : World) (B gs gr ga gB : Nat) (A S : Option Addr) (p : FP) (L : List Pc) (size : Int) (e : Ending) : Prop where
  out : e = .returned (.tuple #[.agg #[.int .i64 (takeV p L size).1, .int .i64 (takeV p L size).2.1, .int .i64 (takeV p L size).2.2.1], .int .i64 (takeV p L size).2.2.2])
  ex : ∃ A' c' S' d', RS w' B gs gr S' d' (takeL p L size).2 ∧ RF w' B gr ga gB A' c' (takeL p L size).1 ∧ Tr w w' (Un (RSB gs S) (RFB gr ga gB A)) (Un (RSB gs S') (RFB gr ga gB A'))
section
variable {w w' : World} {B gs gr ga gB c d : Nat} {A S : Option Addr} {p : FP} {L : List Pc}
theorem RS.apart (h : RS w B gs gr S d L) (hf : RF w B gr ga gB A c p) : ∀ i, RSB gs S i → ¬ RFB gr ga gB A i := fun i hi hq => by
  obtain ⟨xs, _, hx⟩ := hf.byt
  rcases hi with rfl | hi
  · rcases hq with rfl | rfl | rfl | hq
    · exact own_ne h.own hf.own (by decide) rfl
    · exact own_ne h.own hf.tak (by decide) rfl
    · exact own_ne h.own hx (by decide) rfl
    · exact row_ne hf.row h.own (by decide) i hq rfl
  · rcases hq with rfl | rfl | rfl | hq
    · exact row_ne h.row hf.own (by decide) _ hi rfl
    · exact row_ne h.row hf.tak (by decide) _ hi rfl
    · exact row_ne h.row hx (by decide) _ hi rfl
    · exact row_row h.row hf.row (by decide) i hi hq
theorem RS.cells {g i : Nat} (h : RS w B gs gr (some ⟨g, 0, none⟩) d L) (hi : i < L.length) : ∀ j v, (cutV L[i])[j]? = some v → w.cell? ⟨g, i * 6 + j, none⟩ = some v := fun j v hv => by
  have hj : j < 6 := (List.getElem?_eq_some_iff.1 hv).1
  obtain ⟨b', o', e, hc⟩ := h.row.rd (i * 6 + j) v (by rw [cuts_get hi hj]; exact hv)
  injection e with e; injection e with e1 e2
  subst e1; subst e2
  rwa [Nat.zero_add] at hc
/-- A new list is stored. -/
theorem RS.store {w1 : World} {S0 : Option Addr} {d0 : Nat} {L0 : List Pc} (h : RS w B gs gr S0 d0 L0) (hb : Ext w w1) (hB : B ≤ w.heap.size) (r : Row w1 w.heap.size 124 6 S L.length d (cuts L)) :
    RS (w1.setCell ⟨gs, 1, none⟩ (.slice S L.length d)) B gs gr S d L ∧ Tr w (w1.setCell ⟨gs, 1, none⟩ (.slice S L.length d)) (RSB gs S0) (RSB gs S) := by
  have hlt := Own.lt h.own
  have hS : ∀ j, blk S = some j → w.heap.size ≤ j := fun j hj => (r.at_ j hj).1
  refine ⟨⟨(h.own.keep hb).set 1 _, ?_, h.lo⟩, ?_⟩
  · exact (r.grown (setCell_grown w1 ⟨gs, 1, none⟩ (.slice S L.length d)) (.inr (fun q => by have h1 := (r.at_ _ q).1; simp only at h1; omega))).mono hB
  · refine ((Tr.ext (P := RSB gs S0) hb).trans (Tr.set ⟨gs, 1, none⟩ _ (.inl rfl))).mono (fun _ q => q) fun i hi => ?_
    rcases hi with q | q
    · exact .inl (.inl q)
    · exact .inr (.inr (hS i q))
end

set_option maxRecDepth 100000 in
set_option maxHeartbeats 8000000 in
theorem r5_take (B gs gr ga gB c d : Nat) (A S : Option Addr) (p : FP) (L : List Pc) (size : Int) (w : World) (h : RS w B gs gr S d L) (hf : RF w B gr ga gB A c p) (hp : SP p L) (hB : B ≤ w.heap.size) :
    Calls Try.prog 44 #[.pointer (some ⟨gs, 0, none⟩), .int .i64 size] w fun e w' => RTook w w' B gs gr ga gB A S p L size e := by
  have HC := Lib.hid (r5_class size)
  by_cases hc0 : cls size = 0
  · obtain ⟨e1, e2⟩ := take_0 (p := p) (L := L) hc0
    have HE := Lib.hid (And.intro e1 e2)
    rw [hc0] at HC
    have HH := Lib.hid (And.intro h hf)
    clear h hf hp hc0 e1 e2
    go_enter Try.func44, Try.ntmps44
    go_wp2_with (first
      | (refine wpl_alloc_own _ rfl 58 rfl (.agg #[.int .i64 0, .int .i64 0, .int .i64 0]) zero_rref ?_; intro w1 o1 b1 s1)
      | ((with_reducible go_at_call 55); (with_reducible refine (HC.out _).mono ?_); rintro e w' ⟨rfl, rfl⟩)
      | (refine wpl_store_own _ rfl 58 _ _ rfl 3 size_rref _ rfl [.int .i64 0, .int .i64 0, .int .i64 0] rfl _ _ o1 rfl rfl (by simp [Value.oneCell']) ?_; intro w4 o4 g4 s4; clear s4))
    have b4 := below_of_grown b1 g4 (Nat.le_refl _) b1.size
    refine bodyPost_ret (v := .tuple #[.agg #[.int .i64 0, .int .i64 0, .int .i64 0], .int .i64 2]) (results_own2 Try.results44 (by kernel_rfl) 3 size_rref _ _ _ _ _ _ rfl rfl o4 rfl) rfl ⟨by rw [HE.out.1], ?_⟩
    rw [HE.out.2]
    exact ⟨_, _, _, _, HH.out.1.keep b4, HH.out.2.keep b4, Tr.ext b4⟩
  have hcc := cls_of hc0
  have H0 := Lib.hid (fun a i (hk : pickS (cls size) L = some (a, i)) => take_hit (p := p) hc0 hk)
  have H1 := Lib.hid (fun f (hk : pickS (cls size) L = none) ht => take_new (p := p) (f := f) hc0 hk ht)
  have H2 := Lib.hid (fun (hk : pickS (cls size) L = none) ht => take_full (p := p) hc0 hk ht)
  have HH := Lib.hid (And.intro h hf)
  have HP := Lib.hid hp
  have hll := hp.len
  have hn64 := hf.ok.n64
  generalize cls size = C at *
  obtain ⟨K, hK, hq⟩ : ∃ K : Nat, nsl C = K ∧ Int.tdiv 64 C = (K : Int) := by rcases hcc with rfl | rfl | rfl <;> exact ⟨_, rfl, rfl⟩
  have hK4 : 1 ≤ K ∧ K ≤ 4 := by rcases hcc with rfl | rfl | rfl <;> subst hK <;> decide
  have tc0 : (C == 0) = false := by simpa using hc0
  have HCC := Lib.hid hcc
  clear h hf hp hcc
  go_enter Try.func44, Try.ntmps44
  go_wp2_with (first
    | (refine wpl_alloc_own _ rfl 58 rfl (.agg #[.int .i64 0, .int .i64 0, .int .i64 0]) zero_rref ?_; intro w1 o1 b1 s1)
    | ((with_reducible go_at_call 55); (with_reducible refine (HC.out _).mono ?_); rintro e w' ⟨rfl, rfl⟩))
  have HS := Lib.hid (HH.out.1.keep b1)
  have HF := Lib.hid (HH.out.2.keep b1)
  have v1 := HS.out.l_
  have v0 := HS.out.f_
  have O1 := Lib.hid o1
  have hge := Row.le' HS.out.row
  clear o1 HC
  go_loop [7] (fun q => ∃ i : Nat, q = .int .i64 (i : Int) ∧ i ≤ L.length ∧ ∀ a ∈ L.take i, fitS C a = none) (fun q => L.length - (intOf q).toNat)
  case atStart => exact ⟨0, rfl, by omega, by simp⟩
  case round =>
    obtain ⟨i, rfl, hi, hno⟩ := hrel
    have i0' : (0 : Int) ≤ (i : Int) := by omega
    by_cases hlt : i < L.length
    · obtain ⟨g, rfl, d0, d1, d2⟩ := HS.out.cut hlt
      have i1' : (i : Int) < (L.length : Int) := by omega
      have HNO := Lib.hid (fun (hx : fitS C L[i] = none) => show ∀ r ∈ L.take (i + 1), fitS C r = none from fun r hr => by
        rw [List.take_succ_eq_append_getElem hlt, List.mem_append, List.mem_singleton] at hr
        rcases hr with hr | rfl
        · exact hno r hr
        · exact hx)
      have HHIT := Lib.hid (fun k (hk : fitS C L[i] = some k) => pickS_some hlt hno hk)
      have HMK := Lib.hid (fun (k : Nat) (hk : k < 4) => HS.out.mark HP.out hlt hk true _ (cutV_put L[i] hk))
      have HFT := Lib.hid (show fitS C L[i] = if L[i].sz = C then frS K L[i].sl else none by rw [← hK]; rfl)
      generalize L[i] = a at *
      generalize hft : fitS C a = ft at *
      clear hno hft
      obtain ⟨af, az, al⟩ := a
      simp only at d0 d1 d2 HFT
      go_wp2
      go_loop [8] (fun q => ∃ k : Nat, q = .int .i64 (k : Int) ∧ k ≤ K ∧ ∀ j, j < k → (j : Int) ∈ al) (fun q => K - (intOf q).toNat)
      case atStart => exact ⟨0, rfl, by omega, fun j hj => by omega⟩
      case round =>
        obtain ⟨k, rfl, hk, hin⟩ := hrel
        have k0' : (0 : Int) ≤ (k : Int) := by omega
        by_cases hkl : k < K
        · have k1' : (k : Int) < (K : Int) := by omega
          have k4' : (k : Int) < 4 := by omega
          by_cases hz : az = C
          · subst hz
            have d3 := d2 k (by omega)
            by_cases hm : (k : Int) ∈ al
            · rw [decide_eq_true hm] at d3
              have HN := Lib.hid (show ∀ j, j < k + 1 → (j : Int) ∈ al from fun j hj => by
                rcases Nat.lt_succ_iff_lt_or_eq.1 hj with q | rfl
                · exact hin j q
                · exact hm)
              clear hin hm d2
              go_wp2
              go_round
              case rel => exact ⟨k + 1, by go_num, by omega, HN.out⟩
              case measure => simp [intOf]; omega
            · rw [decide_eq_false hm] at d3
              have HPK := Lib.hid (HHIT.out k (by rw [HFT.out, if_pos rfl]; exact frS_some hkl hin hm))
              obtain ⟨M1, M2, M3, M4⟩ := HMK.out k (by omega)
              have HM := Lib.hid (And.intro M1 M2)
              have HHP := Lib.hid (H0.out _ _ HPK.out)
              have O2 := Lib.hid (O1.out.far (p := ⟨g, i * 6 + 2 + k, none⟩) (fun q => row_ne HS.out.row O1.out (by decide) g rfl q.symm) (.bool true))
              have v1' := M1.l_
              rw [show (updS L af (sins (k : Int) al)).length = L.length by simp [updS]] at v1'
              have F2 := Lib.hid (HF.out.other M2 (fun j hj q => HS.out.apart HF.out j q hj))
              have T2 := Lib.hid ((Tr.ext (P := Un (RSB gs (some ⟨g, 0, none⟩)) (RFB gr ga gB A)) b1).trans (M2.mono (Q := Un (RSB gs (some ⟨g, 0, none⟩)) (RFB gr ga gB A)) (Q' := Un (RSB gs (some ⟨g, 0, none⟩)) (RFB gr ga gB A)) (fun _ q => .inl q) (fun _ q => .inr (.inl q))))
              clear hin hm d2 M1 M2
              go_upto_region 12 with fail
              generalize w1.setCell { block := g, off := i * 6 + 2 + k } (Value.bool true) = w2 at *
              clear d0 d1 d3 v0 v1 M3
              go_wp2_with (refine wpl_store_own _ rfl 58 _ _ rfl 3 size_rref _ rfl [.int .i64 (af : Int), .int .i64 (k : Int), .int .i64 az] rfl _ _ O2.out rfl rfl (by simp [Value.oneCell']) ?_; intro w3 o3 g3 s3; clear s3)
              have hlo : w.heap.size ≤ w.heap.size := Nat.le_refl _
              have e23 : Tr w2 w3 (fun j => j = w.heap.size) (fun j => j = w.heap.size) := Tr.grown g3 (fun g' q => .inl (by injection q with q; exact q.symm))
              have hns : ∀ j, RSB gs (some ⟨g, 0, none⟩) j → ¬ j = w.heap.size := fun j hj q => by have := HH.out.1.lt j hj; omega
              have hnf : ∀ j, RFB gr ga gB A j → ¬ j = w.heap.size := fun j hj q => by have := HH.out.2.lt j hj; omega
              refine bodyPost_ret (v := .tuple #[.agg #[.int .i64 (af : Int), .int .i64 (k : Int), .int .i64 az], .int .i64 0]) (results_own2 Try.results44 (by kernel_rfl) 3 size_rref _ _ _ _ _ _ rfl rfl o3 rfl) rfl ⟨by rw [HHP.out.1], ?_⟩
              rw [HHP.out.2]
              exact ⟨_, _, _, _, HM.out.1.other e23 hns, F2.out.other e23 hnf, T2.out.step g3 (fun g' q => .inr (by injection q with q; omega))⟩
          · have tz : (az == C) = false := by simp [hz]
            have HF0 := Lib.hid (show ft = none by rw [HFT.out, if_neg hz])
            clear hin d2 hz
            go_wp2
            go_round
            case rel => exact ⟨i + 1, by go_num, by omega, HNO.out HF0.out⟩
            case measure => simp [intOf]; omega
        · obtain rfl : k = K := by omega
          have tk1 : decide ((k : Int) < (k : Int)) = false := by simp
          have HF0 := Lib.hid (show ft = none by
            rw [HFT.out]
            split
            · exact frS_none hin
            · rfl)
          clear hin d2
          go_wp2
          go_round
          case rel => exact ⟨i + 1, by go_num, by omega, HNO.out HF0.out⟩
          case measure => simp [intOf]; omega
    · obtain rfl : i = L.length := by omega
      have hpk : pickS C L = none := pickS_none fun a ha => hno a (by rwa [List.take_of_length_le (Nat.le_refl _)])
      have tl : decide ((L.length : Int) < (L.length : Int)) = false := by simp
      clear hno
      cases ht : p.top with
      | none =>
        have HE := Lib.hid (H2.out hpk ht)
        have HT := Lib.hid (r4_take_full B gr ga gB A c p w1 HF.out ht)
        go_wp2_with (first
          | ((with_reducible go_at_call 56); (with_reducible refine HT.out.mono ?_); rintro e w3 ⟨rfl, b3⟩; have O3 := O1.out.keep b3; have b13 := Ext.trans b1 b3)
          | (refine wpl_store_own _ rfl 58 _ _ rfl 3 size_rref _ rfl [.int .i64 0, .int .i64 0, .int .i64 0] rfl _ _ O3 rfl rfl (by simp [Value.oneCell']) ?_; intro w4 o4 g4 s4; clear s4))
        have b4 := below_of_grown b13 g4 (Nat.le_refl _) b13.size
        refine bodyPost_ret (v := .tuple #[.agg #[.int .i64 0, .int .i64 0, .int .i64 0], .int .i64 3]) (results_own2 Try.results44 (by kernel_rfl) 3 size_rref _ _ _ _ _ _ rfl rfl o4 rfl) rfl ⟨by rw [HE.out.1], ?_⟩
        rw [HE.out.2]
        exact ⟨_, _, _, _, HH.out.1.keep b4, HH.out.2.keep b4, Tr.ext b4⟩
      | some f =>
        have HE := Lib.hid (H1.out f hpk ht)
        have HT := Lib.hid (r4_take B gr ga gB A c p f w1 HF.out ht (by omega))
        have hRC := Lib.hid (fun w => run_cut (f : Int) C w)
        have hRR := Lib.hid (fun w => run_rref (f : Int) C w)
        have hf64 : f < 64 := by have := (FP.top_lt HH.out.2.ok ht).1; omega
        have HNX := Lib.hid (show cuts [⟨f, C, [0]⟩] = [.int .i64 (f : Int), .int .i64 C, .bool true, .bool false, .bool false, .bool false] by simp [cuts, cutV])
        clear hpk ht H0 H1 H2
        go_upto_region 16 with ((with_reducible go_at_call 56); (with_reducible refine HT.out.mono ?_); rintro e w3 ⟨rfl, A3, c3, f3, t3⟩)
        have O3 := Lib.hid (t3.own O1.out (fun q => by have := HH.out.2.lt _ q; omega))
        have S3 := Lib.hid (HS.out.other t3 (fun j hj => HS.out.apart HF.out j hj))
        have F3 := Lib.hid f3
        have T3 := Lib.hid ((Tr.ext (P := Un (RSB gs S) (RFB gr ga gB A)) b1).trans (t3.mono (Q := Un (RSB gs S) (RFB gr ga gB A)) (Q' := Un (RSB gs S) (RFB gr ga gB A3)) (fun _ q => .inr q) (fun j q => by
          rcases q with q | q
          · exact .inr (.inl (.inl q))
          · exact .inl q)))
        have hs3 := t3.base.size
        have HT3 := Lib.hid t3.fr
        clear f3 t3 v0 v1
        go_upto_region 18 with (first
          | (refine wpl_build2 _ rfl 124 0 1 _ _ rfl (.int .i64 (f : Int)) (.int .i64 C) rfl rfl _ (hRC.out _) ?_)
          | (refine wpl_alloc_own _ rfl 124 rfl (.agg #[.int .i64 0, .int .i64 0, .bool false, .bool false, .bool false, .bool false]) zero_cut ?_; intro w4 o4 b4 s4)
          | (refine wpl_store_own _ rfl 124 _ _ rfl 6 size_cut _ rfl [.int .i64 (f : Int), .int .i64 C, .bool false, .bool false, .bool false, .bool false] rfl _ _ o4 rfl rfl (by simp [Value.oneCell']) ?_; intro w5 o5 g5 s5; have q5 := o5.cell 2; have f5 := o5.frozen 2; simp only [List.getElem?_cons_zero, List.getElem?_cons_succ] at q5))
        have b5 : Ext w3 w5 := below_of_grown b4 g5 (Nat.le_refl _) b4.size
        have o6 := o5.set 2 (.bool true)
        simp only [List.set_cons_succ, List.set_cons_zero] at o6
        have b6 : Ext w3 (w5.setCell ⟨w3.heap.size, 2, none⟩ (.bool true)) := below_of_grown b5 (setCell_grown w5 ⟨w3.heap.size, 2, none⟩ (.bool true)) (Nat.le_refl _) b5.size
        have s6 : (w5.setCell ⟨w3.heap.size, 2, none⟩ (.bool true)).heap.size = w3.heap.size + 1 := by simp; omega
        generalize w5.setCell { block := w3.heap.size, off := 2 } (Value.bool true) = w6 at *
        have O6 := Lib.hid o6
        have HS6 := Lib.hid (S3.out.keep b6)
        have B6 := Lib.hid b6
        clear o4 b4 s4 o5 g5 s5 q5 f5 b5 o6 b6 HS hRC
        have HSN := Lib.hid (fun y l => insG_snoc ⟨f, C, [0]⟩ y l)
        have HEN := Lib.hid (insG_end ⟨f, C, [0]⟩ L)
        have HLE := Lib.hid (fun l => insG_len ⟨f, C, [0]⟩ l)
        obtain ⟨j0, hj0, hz0, hz1, hz2⟩ := info_parts info_cut
        have HI := Lib.hid hj0
        clear hj0
        go_wp2
        go_loopw [12, 13, 14] (fun v u q wr => ∃ (i : Nat) (S1 : Option Addr) (c1 : Nat), v = .slice S1 (insG ⟨f, C, [0]⟩ (L.take i)).1.length c1 ∧ u = .bool (insG ⟨f, C, [0]⟩ (L.take i)).2 ∧ q = .int .i64 (i : Int) ∧ i ≤ L.length ∧ Row wr w6.heap.size 124 6 S1 (insG ⟨f, C, [0]⟩ (L.take i)).1.length c1 (cuts (insG ⟨f, C, [0]⟩ (L.take i)).1) ∧ Ext w6 wr) (fun _ _ q _ => L.length - (intOf q).toNat)
        case atStart => exact ⟨0, none, 0, rfl, rfl, rfl, by omega, Row.nil _ _ _ _, Ext.refl _⟩
        case round =>
          obtain ⟨i, S1, c1, rfl, rfl, rfl, hi, q1, q2⟩ := hrel
          have hws := q2.size
          have hle := HLE.out (L.take i)
          rw [List.length_take] at hle
          have v1 := (HS6.out.keep q2).l_
          by_cases hlt : i < L.length
          · have hsn := HSN.out L[i] (L.take i)
            rw [← List.take_succ_eq_append_getElem hlt] at hsn
            obtain ⟨g, rfl, _⟩ := HS6.out.cut hlt
            have hce : cutV L[i] = [.int .i64 (L[i].f : Int), .int .i64 L[i].sz, .bool (decide ((0 : Int) ∈ L[i].sl)), .bool (decide ((1 : Int) ∈ L[i].sl)), .bool (decide ((2 : Int) ∈ L[i].sl)), .bool (decide ((3 : Int) ∈ L[i].sl))] := rfl
            have HOX := Lib.hid (show cuts [L[i]] = cutV L[i] by simp [cuts])
            have HEL := Lib.hid (fun wz (hz : Ext w6 wz) => (HS6.out.keep hz).cells hlt)
            have HVL := Lib.hid (fun wz (hz : Ext w6 wz) => (HS6.out.keep hz).l_)
            have i0' : (0 : Int) ≤ (i : Int) := by omega
            have i1' : (i : Int) < (L.length : Int) := by omega
            generalize hN : insG ⟨f, C, [0]⟩ (L.take (i + 1)) = N1 at *
            have HN := Lib.hid hN
            generalize insG ⟨f, C, [0]⟩ (L.take i) = N0 at *
            rw [hce] at HEL HOX
            generalize L[i] = y at *
            obtain ⟨yf, yz, yl⟩ := y
            simp only at HEL HOX hsn
            generalize decide ((0 : Int) ∈ yl) = y0 at *
            generalize decide ((1 : Int) ∈ yl) = y1 at *
            generalize decide ((2 : Int) ∈ yl) = y2 at *
            generalize decide ((3 : Int) ∈ yl) = y3 at *
            have e0 := HEL.out _ q2 0 _ rfl
            rw [Nat.add_zero] at e0
            obtain ⟨xs, bb⟩ := N0
            simp only at hsn q1 hle
            clear hN hce
            have HAP := Lib.hid (fun (zs : List Pc) (z : Pc) => cuts_app zs [z])
            cases bb
            · by_cases hgt : f < yf
              · have tg : decide ((f : Int) < (yf : Int)) = true := decide_eq_true (by omega)
                have tg' : decide (f < yf) = true := decide_eq_true hgt
                have tg2 : (f : Int) < (yf : Int) := by omega
                have tg3 := hgt
                have HX := Lib.hid (show N1 = (xs ++ [⟨f, C, [0]⟩] ++ [⟨yf, yz, yl⟩], true) by rw [hsn, if_neg (by simp), if_pos hgt])
                clear hsn hgt
                go_wp2_with (first
                  | (refine wpl_load_own _ rfl 124 _ rfl (by kernel_rfl) 6 size_cut _ rfl _ _ (O6.out.keep q2) rfl ?_)
                  | (refine wpl_load_rd _ rfl 124 _ rfl (by kernel_rfl) 6 size_cut g (i * 6) rfl [.int .i64 (yf : Int), .int .i64 yz, .bool y0, .bool y1, .bool y2, .bool y3] rfl (HEL.out _ (by first | exact eA | exact q2)) ?_)
                  | (at_builtin; have r7 := (q1.alloc (.cells #[.int .i64 (f : Int), .int .i64 C, .bool true, .bool false, .bool false, .bool false] 124)); refine wpl_append _ rfl (.tmp 118) (.tmp 120) 54 rfl 124 j0 _ 6 24 Try.underlying54 HI.out hz0 hz1 hz2 rfl (by omega) w6.heap.size S1 xs.length c1 _ rfl r7 _ 1 1 (cuts [⟨f, C, [0]⟩]) rfl (cuts_len _) (by rw [HNX.out]; exact (Own.new wr 124 [.int .i64 (f : Int), .int .i64 C, .bool true, .bool false, .bool false, .bool false]).rd0) (cuts_one _) (xs.length + 1) _ rfl (HAP.out xs ⟨f, C, [0]⟩) (by omega) (by omega) (by simp; omega) ?_; intro A2' c2' wA oA gA kA; have eA : Ext w6 wA := below_grown (Ext.trans q2 (Ext.alloc wr (.cells #[.int .i64 (f : Int), .int .i64 C, .bool true, .bool false, .bool false, .bool false] 124))) gA (by simp; omega) (fun gg hg => (r7.at_ gg hg).1); have seA := eA.size; have vA := HVL.out _ eA; clear r7)
                  | (at_builtin; have r7 := (oA.alloc (.cells #[.int .i64 (yf : Int), .int .i64 yz, .bool y0, .bool y1, .bool y2, .bool y3] 124)); refine wpl_append _ rfl (.tmp 122) (.tmp 130) 54 rfl 124 j0 _ 6 24 Try.underlying54 HI.out hz0 hz1 hz2 rfl (by omega) w6.heap.size A2' (xs.length + 1) c2' _ rfl r7 _ 1 1 (cuts [⟨yf, yz, yl⟩]) rfl (cuts_len _) (by rw [HOX.out]; exact (Own.new wA 124 [.int .i64 (yf : Int), .int .i64 yz, .bool y0, .bool y1, .bool y2, .bool y3]).rd0) (cuts_one _) ((xs.length + 1) + 1) _ rfl (HAP.out (xs ++ [⟨f, C, [0]⟩]) ⟨yf, yz, yl⟩) (by omega) (by omega) (by simp; omega) ?_; intro A3' c3' w7 o6 g6 k6; have e6 : Ext w6 w7 := below_grown (Ext.trans eA (Ext.alloc wA (.cells #[.int .i64 (yf : Int), .int .i64 yz, .bool y0, .bool y1, .bool y2, .bool y3] 124))) g6 (by simp; omega) (fun gg hg => (r7.at_ gg hg).1); have se6 := e6.size; clear r7))
                go_roundw
                case rel => exact ⟨i + 1, A3', c3', by rw [HN.out, HX.out]; simp, by rw [HN.out, HX.out], by go_num, by omega, by rw [HN.out, HX.out]; simpa using o6, e6⟩
                case measure => simp [intOf]; omega
              · have tg : decide ((f : Int) < (yf : Int)) = false := decide_eq_false (by omega)
                have tg' : decide (f < yf) = false := decide_eq_false hgt
                have tg2 : yf ≤ f := by omega
                have tg3 : ¬ (f : Int) < (yf : Int) := by omega
                have HX := Lib.hid (show N1 = (xs ++ [⟨yf, yz, yl⟩], false) by rw [hsn, if_neg (by simp), if_neg hgt])
                clear hsn hgt
                go_wp2_with (first
                  | (refine wpl_load_rd _ rfl 124 _ rfl (by kernel_rfl) 6 size_cut g (i * 6) rfl [.int .i64 (yf : Int), .int .i64 yz, .bool y0, .bool y1, .bool y2, .bool y3] rfl (HEL.out _ (by first | exact eA | exact q2)) ?_)
                  | (at_builtin; have r7 := (q1.alloc (.cells #[.int .i64 (yf : Int), .int .i64 yz, .bool y0, .bool y1, .bool y2, .bool y3] 124)); refine wpl_append _ rfl (.tmp 122) (.tmp 130) 54 rfl 124 j0 _ 6 24 Try.underlying54 HI.out hz0 hz1 hz2 rfl (by omega) w6.heap.size S1 xs.length c1 _ rfl r7 _ 1 1 (cuts [⟨yf, yz, yl⟩]) rfl (cuts_len _) (by rw [HOX.out]; exact (Own.new wr 124 [.int .i64 (yf : Int), .int .i64 yz, .bool y0, .bool y1, .bool y2, .bool y3]).rd0) (cuts_one _) (xs.length + 1) _ rfl (HAP.out xs ⟨yf, yz, yl⟩) (by omega) (by omega) (by simp; omega) ?_; intro A3' c3' w7 o6 g6 k6; have e6 : Ext w6 w7 := below_grown (Ext.trans q2 (Ext.alloc wr (.cells #[.int .i64 (yf : Int), .int .i64 yz, .bool y0, .bool y1, .bool y2, .bool y3] 124))) g6 (by simp; omega) (fun gg hg => (r7.at_ gg hg).1); have se6 := e6.size; clear r7))
                go_roundw
                case rel => exact ⟨i + 1, A3', c3', by rw [HN.out, HX.out]; simp, by rw [HN.out, HX.out], by go_num, by omega, by rw [HN.out, HX.out]; simpa using o6, e6⟩
                case measure => simp [intOf]; omega
            · have HX := Lib.hid (show N1 = (xs ++ [⟨yf, yz, yl⟩], true) by rw [hsn, if_pos rfl])
              clear hsn
              go_wp2_with (first
                | (refine wpl_load_rd _ rfl 124 _ rfl (by kernel_rfl) 6 size_cut g (i * 6) rfl [.int .i64 (yf : Int), .int .i64 yz, .bool y0, .bool y1, .bool y2, .bool y3] rfl (HEL.out _ (by first | exact eA | exact q2)) ?_)
                | (at_builtin; have r7 := (q1.alloc (.cells #[.int .i64 (yf : Int), .int .i64 yz, .bool y0, .bool y1, .bool y2, .bool y3] 124)); refine wpl_append _ rfl (.tmp 122) (.tmp 130) 54 rfl 124 j0 _ 6 24 Try.underlying54 HI.out hz0 hz1 hz2 rfl (by omega) w6.heap.size S1 xs.length c1 _ rfl r7 _ 1 1 (cuts [⟨yf, yz, yl⟩]) rfl (cuts_len _) (by rw [HOX.out]; exact (Own.new wr 124 [.int .i64 (yf : Int), .int .i64 yz, .bool y0, .bool y1, .bool y2, .bool y3]).rd0) (cuts_one _) (xs.length + 1) _ rfl (HAP.out xs ⟨yf, yz, yl⟩) (by omega) (by omega) (by simp; omega) ?_; intro A3' c3' w7 o6 g6 k6; have e6 : Ext w6 w7 := below_grown (Ext.trans q2 (Ext.alloc wr (.cells #[.int .i64 (yf : Int), .int .i64 yz, .bool y0, .bool y1, .bool y2, .bool y3] 124))) g6 (by simp; omega) (fun gg hg => (r7.at_ gg hg).1); have se6 := e6.size; clear r7))
              go_roundw
              case rel => exact ⟨i + 1, A3', c3', by rw [HN.out, HX.out]; simp, by rw [HN.out, HX.out], by go_num, by omega, by rw [HN.out, HX.out]; simpa using o6, e6⟩
              case measure => simp [intOf]; omega
          · obtain rfl : i = L.length := by omega
            rw [List.take_of_length_le (Nat.le_refl _)] at q1 hle ⊢
            generalize insG ⟨f, C, [0]⟩ L = N0 at *
            obtain ⟨xs, bb⟩ := N0
            simp only at HEN q1 hle
            have HAP := Lib.hid (fun (zs : List Pc) (z : Pc) => cuts_app zs [z])
            have HVL := Lib.hid (fun wz (hz : Ext w6 wz) => (HS6.out.keep hz).own.frozen 1)
            have HVM := Lib.hid (fun wz (hz : Ext w6 wz) => (HS6.out.keep hz).l_)
            have tl2 : decide ((L.length : Int) < (L.length : Int)) = false := by simp
            cases bb
            · have HX := Lib.hid (show insP ⟨f, C, [0]⟩ L = xs ++ [⟨f, C, [0]⟩] by rw [HEN.out, if_neg (by simp)])
              go_upto_region 29 with (first
                | (refine wpl_load_own _ rfl 124 _ rfl (by kernel_rfl) 6 size_cut _ rfl _ _ (O6.out.keep q2) rfl ?_)
                | (at_builtin; have r7 := (q1.alloc (.cells #[.int .i64 (f : Int), .int .i64 C, .bool true, .bool false, .bool false, .bool false] 124)); refine wpl_append _ rfl (.tmp 134) (.tmp 136) 54 rfl 124 j0 _ 6 24 Try.underlying54 HI.out hz0 hz1 hz2 rfl (by omega) w6.heap.size S1 xs.length c1 _ rfl r7 _ 1 1 (cuts [⟨f, C, [0]⟩]) rfl (cuts_len _) (by rw [HNX.out]; exact (Own.new wr 124 [.int .i64 (f : Int), .int .i64 C, .bool true, .bool false, .bool false, .bool false]).rd0) (cuts_one _) (xs.length + 1) _ rfl (HAP.out xs ⟨f, C, [0]⟩) (by omega) (by omega) (by simp; omega) ?_; intro A3' c3' w7 o6 g6 k6; have e6 : Ext w6 w7 := below_grown (Ext.trans q2 (Ext.alloc wr (.cells #[.int .i64 (f : Int), .int .i64 C, .bool true, .bool false, .bool false, .bool false] 124))) g6 (by simp; omega) (fun gg hg => (r7.at_ gg hg).1); have se6 := e6.size; have f6 := HVL.out _ e6; clear r7))
              have HRW := Lib.hid (show Row w7 w6.heap.size 124 6 A3' (xs ++ [⟨f, C, [0]⟩] : List Pc).length c3' (cuts (xs ++ [⟨f, C, [0]⟩])) by simpa using o6)
              have HLN := Lib.hid (show (xs ++ [(⟨f, C, [0]⟩ : Pc)]).length = xs.length + 1 by simp)
              have e7 := e6
              generalize xs ++ [(⟨f, C, [0]⟩ : Pc)] = X7 at *
              rw [← HLN.out]
              have v6 := HVM.out _ e7
              have hst := RS.store (B := B) (S := A3') (d := c3') (L := X7) S3.out (Ext.trans B6.out e7) (by omega) (HRW.out.mono (by omega))
              have HST := Lib.hid hst
              have OR := Lib.hid (((O3.out.keep B6.out).keep e7).far (p := ⟨gs, 1, none⟩) (fun q => by have := HH.out.1.own.lt; simp only at q; omega) (.slice A3' X7.length c3'))
              have FR := Lib.hid (((F3.out.keep B6.out).keep e7).other (Tr.set (P := fun j => j = gs) ⟨gs, 1, none⟩ (.slice A3' X7.length c3') rfl) (fun j hj q => S3.out.apart F3.out j (.inl q) hj))
              clear hst
              go_upto_region 30 with fail
              generalize w7.setCell { block := gs, off := 1 } (Value.slice A3' X7.length c3') = w8 at *
              go_wp2_with (first
                | (refine wpl_build2 _ rfl 58 0 2 _ _ rfl (.int .i64 (f : Int)) (.int .i64 C) rfl rfl _ (hRR.out _) ?_)
                | (refine wpl_store_own _ rfl 58 _ _ rfl 3 size_rref _ rfl [.int .i64 (f : Int), .int .i64 0, .int .i64 C] rfl _ _ OR.out rfl rfl (by simp [Value.oneCell']) ?_; intro w9 o9 g9 s9; clear s9))
              have e89 : Tr w8 w9 (fun j => j = w.heap.size) (fun j => j = w.heap.size) := Tr.grown g9 (fun g' q => .inl (by injection q with q; exact q.symm))
              have hT8 : Tr w w8 (Un (RSB gs S) (RFB gr ga gB A)) (Un (RSB gs A3') (RFB gr ga gB A3)) := T3.out.trans (HST.out.2.mono (Q := Un (RSB gs S) (RFB gr ga gB A3)) (fun _ q => .inl q) (fun j q => by
                rcases q with q | q
                · exact .inl q
                · exact .inr (.inl (.inr q))))
              refine bodyPost_ret (v := .tuple #[.agg #[.int .i64 (f : Int), .int .i64 0, .int .i64 C], .int .i64 0]) (results_own2 Try.results44 (by kernel_rfl) 3 size_rref _ _ _ _ _ _ rfl rfl o9 rfl) rfl ⟨by rw [HE.out.1], ?_⟩
              rw [HE.out.2, HX.out]
              have hgr : ∀ j, Un (RSB gs A3') (RFB gr ga gB A3) j → j ≠ w.heap.size := fun j hj q => by
                rcases hj with h1 | h1
                · rcases HST.out.2.fr j h1 with h2 | h2
                  · have := HH.out.1.lt j h2; omega
                  · omega
                · rcases HT3.out j h1 with h2 | h2
                  · have := HH.out.2.lt j h2; omega
                  · omega
              exact ⟨_, _, _, _, HST.out.1.other e89 (fun j hj q => hgr j (.inl hj) q), FR.out.other e89 (fun j hj q => hgr j (.inr hj) q), hT8.step g9 (fun g' q => .inr (by injection q with q; omega))⟩
            · have HX := Lib.hid (show insP ⟨f, C, [0]⟩ L = xs by rw [HEN.out, if_pos rfl])
              have f6 := HVL.out _ q2
              have HRW := Lib.hid q1
              have e7 := q2
              go_upto_region 29 with fail
              have v6 := HVM.out _ e7
              have hst := RS.store (B := B) (S := S1) (d := c1) (L := xs) S3.out (Ext.trans B6.out e7) (by omega) (HRW.out.mono (by omega))
              have HST := Lib.hid hst
              have OR := Lib.hid (((O3.out.keep B6.out).keep e7).far (p := ⟨gs, 1, none⟩) (fun q => by have := HH.out.1.own.lt; simp only at q; omega) (.slice S1 xs.length c1))
              have FR := Lib.hid (((F3.out.keep B6.out).keep e7).other (Tr.set (P := fun j => j = gs) ⟨gs, 1, none⟩ (.slice S1 xs.length c1) rfl) (fun j hj q => S3.out.apart F3.out j (.inl q) hj))
              clear hst
              go_upto_region 30 with fail
              generalize wr.setCell { block := gs, off := 1 } (Value.slice S1 xs.length c1) = w8 at *
              go_wp2_with (first
                | (refine wpl_build2 _ rfl 58 0 2 _ _ rfl (.int .i64 (f : Int)) (.int .i64 C) rfl rfl _ (hRR.out _) ?_)
                | (refine wpl_store_own _ rfl 58 _ _ rfl 3 size_rref _ rfl [.int .i64 (f : Int), .int .i64 0, .int .i64 C] rfl _ _ OR.out rfl rfl (by simp [Value.oneCell']) ?_; intro w9 o9 g9 s9; clear s9))
              have e89 : Tr w8 w9 (fun j => j = w.heap.size) (fun j => j = w.heap.size) := Tr.grown g9 (fun g' q => .inl (by injection q with q; exact q.symm))
              have hT8 : Tr w w8 (Un (RSB gs S) (RFB gr ga gB A)) (Un (RSB gs S1) (RFB gr ga gB A3)) := T3.out.trans (HST.out.2.mono (Q := Un (RSB gs S) (RFB gr ga gB A3)) (fun _ q => .inl q) (fun j q => by
                rcases q with q | q
                · exact .inl q
                · exact .inr (.inl (.inr q))))
              refine bodyPost_ret (v := .tuple #[.agg #[.int .i64 (f : Int), .int .i64 0, .int .i64 C], .int .i64 0]) (results_own2 Try.results44 (by kernel_rfl) 3 size_rref _ _ _ _ _ _ rfl rfl o9 rfl) rfl ⟨by rw [HE.out.1], ?_⟩
              rw [HE.out.2, HX.out]
              have hgr : ∀ j, Un (RSB gs S1) (RFB gr ga gB A3) j → j ≠ w.heap.size := fun j hj q => by
                rcases hj with h1 | h1
                · rcases HST.out.2.fr j h1 with h2 | h2
                  · have := HH.out.1.lt j h2; omega
                  · omega
                · rcases HT3.out j h1 with h2 | h2
                  · have := HH.out.2.lt j h2; omega
                  · omega
              exact ⟨_, _, _, _, HST.out.1.other e89 (fun j hj q => hgr j (.inl hj) q), FR.out.other e89 (fun j hj q => hgr j (.inr hj) q), hT8.step g9 (fun g' q => .inr (by injection q with q; omega))⟩

end Go.Proofs.Ytebkknkgkjblnaa
