/-
  WALKS of package ideal: Waits, Effective.
-/
import Derived.Test.YtpaoolcnoflhiaaIdlA
namespace Go.Proofs.Ytpaoolcnoflhiaa
open Go.RowKit
attribute [local go_sem] depUpon Sp.ok

/-- What a thread waits for. -/
def waitOf (x : TH) : Int := if x.st = 2 then x.on else -1
theorem wait_take {ths : List TH} {k : Nat} (hk : k < ths.length) {z : Int} (h : waitOf ths[k] = z) : ints ((ths.take k).map waitOf) ++ ints [z] = ints ((ths.take (k + 1)).map waitOf) := by
  have e : ths.take (k + 1) = ths.take k ++ [ths[k]] := by rw [List.take_add_one, List.getElem?_eq_getElem hk]; rfl
  rw [e, List.map_append, ← h, ints_app']; rfl
theorem base_take {ths : List TH} {k : Nat} (hk : k < ths.length) {z : P3} (h : ths[k].b = z) : trips ((ths.take k).map (·.b)) ++ trips [z] = trips ((ths.take (k + 1)).map (·.b)) := by
  have e : ths.take (k + 1) = ths.take k ++ [ths[k]] := by rw [List.take_add_one, List.getElem?_eq_getElem hk]; rfl
  rw [e, List.map_append, ← h, trips_app]; rfl
/-- The zero of a thread. -/
def zth : Value := .agg #[.int .i64 0, .int .i64 0, .int .i64 0, .int .i64 0, .int .i64 0, .int .i64 0, .int .i64 0, .int .i64 0, .int .i64 0, .bool false, .int .i64 0, .int .i64 0, .int .i64 0, .string ByteArray.empty, .bool false, .int .i64 0, .int .i64 0, .int .i64 0, .int .i64 0, .int .i64 0, .slice none 0 0]
set_option maxRecDepth 100000 in
theorem zero_thread : (Try.prog.info? 44).map (·.zero) = some (some zth) := by kernel_rfl
set_option maxRecDepth 100000 in
theorem size_thread : (Try.prog.info? 44).map (·.size) = some 21 := by kernel_rfl
/-- A thread of a view: where it lies. -/
theorem ViewArg.thread {w : World} {A B : Option Addr} {n nb : Nat} {ths : List TH} {os : List Int} (h : ViewArg w A n ths B nb os) {k : Nat} (hk : k < ths.length) :
    ∃ b off, A = some ⟨b, off, none⟩ ∧ ∀ j v, ths[k].cs[j]? = some v → w.cell? ⟨b, off + k * 21 + j, none⟩ = some v := by
  obtain ⟨b, off, rfl, he⟩ := h.rd.elem (k := 21) (i := k) (fun x hx => by simp only [List.mem_map] at hx; obtain ⟨y, hy, rfl⟩ := hx; exact (h.ok y hy).len) (by omega) (by simpa using hk)
  exact ⟨b, off, rfl, fun j v hv => he j v (by simpa using hv)⟩

set_option maxRecDepth 100000 in
set_option maxHeartbeats 2000000 in
theorem i_waits (tick : Int) (A : Option Addr) (n c : Nat) (B : Option Addr) (nb cb : Nat) (P : Option Addr) (np cp : Nat) (F : Option Addr) (nf cf : Nat) (ths : List TH) (os : List Int) (w : World) (h : ViewArg w A n ths B nb os) (hn : n ≤ 60000) :
    Calls Try.prog 15 #[.agg #[.int .i64 tick, .slice A n c, .slice B nb cb, .slice P np cp, .slice F nf cf]] w fun e w' => ∃ S c', e = .returned (.slice S n c') ∧ Row w' w.heap.size 3 1 S n c' (ints (ths.map waitOf)) ∧ Below w.heap.size w w' := by
  obtain ⟨i0, hi, hz0, hz1, hz2⟩ := info_parts info_int
  have HI := Lib.hid hi
  have HV := Lib.hid h
  have HL := Lib.hid h.len
  clear hi h
  go_enter Try.func15, Try.ntmps15
  go_wp2
  go_loopw [3, 10] (fun v q wr => ∃ (k : Nat) (S : Option Addr) (c1 : Nat), v = .slice S k c1 ∧ q = .int .i64 k ∧ k ≤ n ∧ Row wr w.heap.size 3 1 S k c1 (ints ((ths.take k).map waitOf)) ∧ Ext w wr) (fun _ q _ => n - (intOf q).toNat)
  case atStart => exact ⟨0, none, 0, rfl, rfl, by omega, Row.nil _ _ _ _, Ext.alloc _ _⟩
  case round =>
    obtain ⟨k, S, c1, rfl, rfl, hk, q1, q2⟩ := hrel
    by_cases hlt : k < n
    · have hkl : k < ths.length := by rw [HL.out]; exact hlt
      obtain ⟨b, off, rfl, he⟩ := (HV.out.keep q2).thread hkl
      have hX := Lib.hid (HV.out.ok _ (List.getElem_mem hkl))
      have HK := Lib.hid (fun z => @wait_take ths k hkl z)
      have hsz := q2.size
      have hne : blk S = none ∨ blk S ≠ some wr.heap.size := .inr fun h => by have := (q1.at_ _ h).2; omega
      have i0' : (0 : Int) ≤ (k : Int) := by omega
      have i1' : (k : Int) < (n : Int) := by omega
      generalize hXX : ths[k]'hkl = x at *
      clear hXX hkl
      obtain ⟨cs, bs, st, on, hh⟩ := x
      by_cases hst : st = 2
      · have hb : (st == 2) = true := by simp [hst]
        have HP := Lib.hid (HK.out on (by simp [waitOf, hst]))
        clear hst
        go_wp2_with (first
          | (refine wpl_load_rd _ rfl 44 _ rfl (by kernel_rfl) 21 size_thread b (off + k * 21) rfl cs hX.out.len he ?_)
          | (refine wpl_alloc_own _ rfl 44 rfl zth zero_thread ?_; intro w2 o2 b2 s2; clear s2)
          | (refine wpl_store_own _ rfl 44 _ _ rfl 21 size_thread _ rfl cs rfl _ _ o2 hX.out.len rfl hX.out.one ?_; intro w3 o3 g3 s3; clear s3; have d2 := o3.cell 2; have d3 := o3.cell 3; have d4 := o3.cell 4; have d5 := o3.cell 5; have d6 := o3.cell 6; rw [show cs[2]? = _ from hX.out.b0] at d2; rw [show cs[3]? = _ from hX.out.b1] at d3; rw [show cs[4]? = _ from hX.out.b2] at d4; rw [show cs[5]? = _ from hX.out.s] at d5; rw [show cs[6]? = _ from hX.out.o] at d6; have r3 := (q1.keep b2).grown g3 hne; have e3 := below_of_grown (Ext.trans q2 b2) g3 q2.size (Ext.trans q2 b2).size)
          | (at_builtin; have r7 := (r3.alloc (.cells #[.int .i64 on] 3)); refine wpl_append _ rfl (.tmp 19) (.tmp 21) 23 rfl 3 i0 _ 1 8 Try.underlying23 HI.out hz0 hz1 hz2 rfl (by omega) w.heap.size S k c1 _ rfl r7 _ 1 1 (ints [on]) rfl rfl (rd1i _ _) (ints_one _) (k + 1) (ints ((ths.take (k + 1)).map waitOf)) rfl HP.out (by omega) (by omega) (by simp; have := e3.size; omega) ?_; intro A2 c2 w4 o4 g4 e4))
        have e5 := below_grown (Ext.trans e3 (Ext.alloc w3 (.cells #[.int .i64 on] 3))) g4 (by simp; have := e3.size; omega) (fun g' hg' => (q1.at_ g' hg').1)
        go_roundw
        case rel => exact ⟨k + 1, A2, c2, rfl, by go_num, by omega, o4, e5⟩
        case measure => simp [intOf]; omega
      · have hb : (st == 2) = false := by simp [hst]
        have HP := Lib.hid (HK.out (-1) (by simp [waitOf, hst]))
        clear hst
        go_wp2_with (first
          | (refine wpl_load_rd _ rfl 44 _ rfl (by kernel_rfl) 21 size_thread b (off + k * 21) rfl cs hX.out.len he ?_)
          | (refine wpl_alloc_own _ rfl 44 rfl zth zero_thread ?_; intro w2 o2 b2 s2; clear s2)
          | (refine wpl_store_own _ rfl 44 _ _ rfl 21 size_thread _ rfl cs rfl _ _ o2 hX.out.len rfl hX.out.one ?_; intro w3 o3 g3 s3; clear s3; have d2 := o3.cell 2; have d3 := o3.cell 3; have d4 := o3.cell 4; have d5 := o3.cell 5; have d6 := o3.cell 6; rw [show cs[2]? = _ from hX.out.b0] at d2; rw [show cs[3]? = _ from hX.out.b1] at d3; rw [show cs[4]? = _ from hX.out.b2] at d4; rw [show cs[5]? = _ from hX.out.s] at d5; rw [show cs[6]? = _ from hX.out.o] at d6; have r3 := (q1.keep b2).grown g3 hne; have e3 := below_of_grown (Ext.trans q2 b2) g3 q2.size (Ext.trans q2 b2).size)
          | (at_builtin; have r7 := (r3.alloc (.cells #[.int .i64 (-1)] 3)); refine wpl_append _ rfl (.tmp 19) (.tmp 21) 23 rfl 3 i0 _ 1 8 Try.underlying23 HI.out hz0 hz1 hz2 rfl (by omega) w.heap.size S k c1 _ rfl r7 _ 1 1 (ints [(-1)]) rfl rfl (rd1i _ _) (ints_one _) (k + 1) (ints ((ths.take (k + 1)).map waitOf)) rfl HP.out (by omega) (by omega) (by simp; have := e3.size; omega) ?_; intro A2 c2 w4 o4 g4 e4))
        have e5 := below_grown (Ext.trans e3 (Ext.alloc w3 (.cells #[.int .i64 (-1)] 3))) g4 (by simp; have := e3.size; omega) (fun g' hg' => (q1.at_ g' hg').1)
        go_roundw
        case rel => exact ⟨k + 1, A2, c2, rfl, by go_num, by omega, o4, e5⟩
        case measure => simp [intOf]; omega
    · obtain rfl : k = n := by omega
      have hT : (ths.take k).map waitOf = ths.map waitOf := by rw [List.take_of_length_le (by rw [HL.out]; omega)]
      rw [hT] at q1
      clear hT
      go_wp2
      go_ret
      exact ⟨S, c1, rfl, q1, q2⟩

theorem rd_prio1 (w : World) (a b c : Int) : Rd (w.alloc (.cells #[.int .i64 a, .int .i64 b, .int .i64 c] 38)) (some ⟨w.heap.size, 0, none⟩) (trips [(a, b, c)]) := (Own.new w 38 (trips [(a, b, c)])).rd0

/-- What the threads count, from what each counts of itself and whom each waits for. -/
def ieff (ths : List TH) (os : List Int) : List P3 := geff (ths.map (·.b)) (chs (ths.map waitOf) os ths.length)

set_option maxRecDepth 100000 in
set_option maxHeartbeats 2000000 in
theorem i_effective (tick : Int) (A : Option Addr) (n c : Nat) (B : Option Addr) (nb cb : Nat) (P : Option Addr) (np cp : Nat) (F : Option Addr) (nf cf : Nat) (ths : List TH) (os : List Int) (w : World) (h : ViewArg w A n ths B nb os) (hn : n ≤ 60000) :
    Calls Try.prog 8 #[.agg #[.int .i64 tick, .slice A n c, .slice B nb cb, .slice P np cp, .slice F nf cf]] w fun e w' => ∃ S c', e = .returned (.slice S n c') ∧ Rd w' S (trips (ieff ths os)) ∧ Below w.heap.size w w' := by
  obtain ⟨i0, hi, hz0, hz1, hz2⟩ := info_parts info_prio
  have HI := Lib.hid hi
  have HV := Lib.hid h
  have HL := Lib.hid h.len
  have oV := (Own.new w 26 [.int .i64 tick, .slice A n c, .slice B nb cb, .slice P np cp, .slice F nf cf])
  clear hi h
  go_enter Try.func8, Try.ntmps8
  go_wp2
  go_loopw [3, 9] (fun v q wr => ∃ (k : Nat) (S : Option Addr) (c1 : Nat), v = .slice S k c1 ∧ q = .int .i64 k ∧ k ≤ n ∧ Own wr w.heap.size 26 [.int .i64 tick, .slice A n c, .slice B nb cb, .slice P np cp, .slice F nf cf] ∧ Row wr (w.heap.size + 1) 38 3 S k c1 (trips ((ths.take k).map (·.b))) ∧ Ext w wr ∧ w.heap.size + 1 ≤ wr.heap.size) (fun _ q _ => n - (intOf q).toNat)
  case atStart => exact ⟨0, none, 0, rfl, rfl, by omega, oV, Row.nil _ _ _ _, Ext.alloc _ _, by simp⟩
  case round =>
    obtain ⟨k, S, c1, rfl, rfl, hk, q0, q1, q2, hsz⟩ := hrel
    clear oV
    by_cases hlt : k < n
    · have hkl : k < ths.length := by rw [HL.out]; exact hlt
      obtain ⟨b, off, rfl, he⟩ := (HV.out.keep q2).thread hkl
      have hX := Lib.hid (HV.out.ok _ (List.getElem_mem hkl))
      have HK := Lib.hid (fun z => @base_take ths k hkl z)
      have hne : blk S = none ∨ blk S ≠ some wr.heap.size := .inr fun h => by have := (q1.at_ _ h).2; omega
      have i0' : (0 : Int) ≤ (k : Int) := by omega
      have i1' : (k : Int) < (n : Int) := by omega
      generalize hXX : ths[k]'hkl = x at *
      clear hXX hkl
      obtain ⟨cs, ⟨b1, b2, b3⟩, st, on, hh⟩ := x
      have HP := Lib.hid (HK.out (b1, b2, b3) rfl)
      go_wp2_with (first
          | (refine wpl_load_rd _ rfl 44 _ rfl (by kernel_rfl) 21 size_thread b (off + k * 21) rfl cs hX.out.len he ?_)
          | (refine wpl_alloc_own _ rfl 44 rfl zth zero_thread ?_; intro w2 o2 bb s2)
          | (refine wpl_store_own _ rfl 44 _ _ rfl 21 size_thread _ rfl cs rfl _ _ o2 hX.out.len rfl hX.out.one ?_; intro w3 o3 g3 s3; clear s3; have d2 := o3.cell 2; have d3 := o3.cell 3; have d4 := o3.cell 4; have d5 := o3.cell 5; have d6 := o3.cell 6; rw [show cs[2]? = _ from hX.out.b0] at d2; rw [show cs[3]? = _ from hX.out.b1] at d3; rw [show cs[4]? = _ from hX.out.b2] at d4; rw [show cs[5]? = _ from hX.out.s] at d5; rw [show cs[6]? = _ from hX.out.o] at d6; have r3 := (q1.keep bb).grown g3 hne; have oV3 := (q0.keep bb).grown g3 (by simp; omega); have e3 := below_of_grown (Ext.trans q2 bb) g3 (by omega) (Nat.le_trans (Nat.le_of_lt hsz) bb.size))
          | (at_builtin; have r7 := (r3.alloc (.cells #[.int .i64 b1, .int .i64 b2, .int .i64 b3] 38)); go_loud (refine wpl_append _ rfl (.tmp 13) (.tmp 16) 31 rfl 38 i0 _ 3 24 Try.underlying31 HI.out hz0 hz1 hz2 rfl (by omega) (w.heap.size + 1) S k c1 _ rfl r7 _ 1 1 (trips [(b1, b2, b3)]) rfl rfl (rd_prio1 _ _ _ _) (trips_one _) (k + 1) (trips ((ths.take (k + 1)).map (·.b))) rfl HP.out (by omega) (by omega) (by simp; have := e3.size; omega) ?_; intro A2 c2 w4 o4 g4 e4)))
      have e5 := below_grown (Ext.trans e3 (Ext.alloc w3 (.cells #[.int .i64 b1, .int .i64 b2, .int .i64 b3] 38))) g4 (by simp; have := e3.size; omega) (fun g' hg' => by have := (q1.at_ g' hg').1; omega)
      have oV4 := (oV3.alloc (.cells #[.int .i64 b1, .int .i64 b2, .int .i64 b3] 38)).grown g4 (by intro q; have := (q1.at_ _ q.symm).1; omega)
      go_roundw
      case rel => exact ⟨k + 1, A2, c2, rfl, by go_num, by omega, oV4, o4, e5, by have := oV4.lt; omega⟩
      case measure => simp [intOf]; omega
    · obtain rfl : k = n := by omega
      have hT : (ths.take k).map (·.b) = ths.map (·.b) := by rw [List.take_of_length_le (by rw [HL.out]; omega)]
      rw [hT] at q1
      clear hT
      have HR := Lib.hid q1.rd
      have h1 := q0.cell 1
      have h2 := q0.cell 2
      have h0 := q0.cell 0
      have h3 := q0.cell 3
      have h4 := q0.cell 4
      simp only [List.getElem?_cons_zero, List.getElem?_cons_succ] at h0 h1 h2 h3 h4
      clear q0 q1
      go_wp2
      refine wp_region_dep (S := Ext) (C := Ext (wr)) (by kernel_rfl) (by kernel_rfl) rfl Ext.refl (Ext.drew _) ?_
      repeat (refine dep_det (by rfl) (fun K hK => ?_); go_simp; first
        | ((with_reducible refine hK _ ?_); clear hK K)
        | (rw [if_neg (by decide)]; (with_reducible refine hK _ ?_); clear hK K)
        | (refine ⟨_, fun w1 hw1 => ⟨Ext.refl w1, hw1, rfl⟩, hK _ ?_⟩; clear hK K)
        | (apply Exists.intro; refine ⟨fun w1 hw1 => ?_, hK _ ?_⟩
           first
             | (have c_h0 := cell_keep hw1 h0; have c_h1 := cell_keep hw1 h1; have c_h2 := cell_keep hw1 h2; have c_h3 := cell_keep hw1 h3; have c_h4 := cell_keep hw1 h4; go_simp; first | exact ⟨Ext.refl _, hw1, rfl⟩ | exact ⟨Ext.refl _, rfl⟩)
           clear hK K))
      refine dep_var (RdSl (ints (ths.map waitOf)) k) 21 rfl (by rfl) RdSl.keep (by go_simp) (fun w1 hw1 => ?_) ?_
      · go_simp
        refine (i_waits tick A k c B nb cb P np cp F nf cf ths os w1 (HV.out.keep (Ext.trans q2 hw1)) hn).mono ?_
        rintro e w' ⟨S', c', rfl, hr, hb'⟩
        exact ⟨_, rfl, hb', Ext.trans hw1 hb', S', c', rfl, hr.rd⟩
      repeat (refine dep_det (by rfl) (fun K hK => ?_); go_simp; first
        | ((with_reducible refine hK _ ?_); clear hK K)
        | (rw [if_neg (by decide)]; (with_reducible refine hK _ ?_); clear hK K)
        | (refine ⟨_, fun w1 hw1 => ⟨Ext.refl w1, hw1, rfl⟩, hK _ ?_⟩; clear hK K)
        | (apply Exists.intro; refine ⟨fun w1 hw1 => ?_, hK _ ?_⟩
           first
             | (have c_h0 := cell_keep hw1 h0; have c_h1 := cell_keep hw1 h1; have c_h2 := cell_keep hw1 h2; have c_h3 := cell_keep hw1 h3; have c_h4 := cell_keep hw1 h4; go_simp; first | exact ⟨Ext.refl _, hw1, rfl⟩ | exact ⟨Ext.refl _, rfl⟩)
           clear hK K))
      refine dep_var1 21 _ (RdSl (trips (ieff ths os)) k) 24 rfl (by rfl) (by intro V' h; simpa using h) (List.mem_cons_self ..) (by first | (simp; done) | simp [Act.put]) RdSl.keep (fun w1 v hw1 hV => ?_) ?_
      · obtain ⟨S', c', rfl, hr⟩ := hV
        go_simp
        refine (g_effective S k c1 (ths.map (·.b)) S' k c' (ths.map waitOf) B nb cb os w1 ⟨hr, by simp [HL.out], HV.out.own.rd.keep (Ext.trans q2 hw1), HV.out.own.len⟩ (HR.out.keep hw1) (by simp [HL.out]) hn).mono ?_
        rintro e w' ⟨O, c'', rfl, hr2, hb'⟩
        refine ⟨_, rfl, hb', Ext.trans hw1 hb', O, c'', rfl, ?_⟩
        have := hr2.rd
        rwa [show k = ths.length from HL.out.symm] at this
      refine dep_var1 24 (RdSl (trips (ieff ths os)) k) (RdSl (trips (ieff ths os)) k) 2 rfl (by rfl) (by intro V' h; simpa using h) (List.mem_cons_self ..) (by first | (simp; done) | simp [Act.put]) RdSl.keep (fun w1 v hw1 hV => ?_) ?_
      · go_simp
        first | exact Ext.refl _ | exact ⟨Ext.refl _, hV⟩ | exact ⟨Ext.refl _, hw1, hV⟩
      refine dep_nil ?_
      intro a' w' hC hE
      obtain ⟨v, ⟨S1, d1, rfl, p1⟩, hE⟩ := atEnd_cons hE (by simp) (by first | (simp; done) | simp [Act.put])
      obtain ⟨v, ⟨S2, d2, rfl, p2⟩, hE⟩ := atEnd_cons hE (by simp) (by first | (simp; done) | simp [Act.put])
      obtain ⟨v, ⟨S3, d3, rfl, p3⟩, hE⟩ := atEnd_cons hE (by simp) (by first | (simp; done) | simp [Act.put])
      obtain rfl := atEnd_nil hE
      clear hE
      go_wp2
      go_ret
      exact ⟨S1, d1, rfl, p1, Ext.trans q2 hC⟩

end Go.Proofs.Ytpaoolcnoflhiaa
