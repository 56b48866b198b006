/-
  WALKS of package admit: ahead, some.
-/
import Derived.Test.YtdninhdabeddeaaAdmJ
import Derived.Test.YtdninhdabeddeaaAdmK
import Derived.Test.YtdninhdabeddeaaAppB
namespace Go.Proofs.Ytdninhdabeddeaa
open Go.RowKit
attribute [local go_sem] depUpon Sp.ok

/-- Loads of whole structs, guarded or not. -/
theorem wpl_load_w {P : Program} (w : World) {ops : Array Oper} {rest : List Oper} {o : Oper} {a : Act} {Q : Exit → Act → World → Prop} (hw : Region.wanted o (yielded ops a.tmps) = true) (ty : TypeId) (x : Operand) (hop : o.op = .load ty x) (hd : aggB (P.underlying ty) = true) (n : Nat) (hi : (P.info? ty).map (·.size) = some n)
    (g : Nat) (hx : a.eval x = .pointer (some ⟨g, 0, none⟩)) (t : TypeId) (xs : List Value) (hO : Own w g t xs) (hn : xs.length = n)
    (h : wpList P ops Q rest (a.put o.dst (.agg xs.toArray)) w) : wpList P ops Q (o :: rest) a w := by
  refine wpList_step fun K' hK' => ?_
  rw [if_pos hw]
  have hrun := run_load_rd (P := P) w ty hd n hi g 0 xs hn (fun j v hv => by rw [Nat.zero_add, hO.cell j]; exact hv)
  unfold Oper.wp
  simp [execOp, hop, hx, hrun, Result.andThen]
  exact hK' _ _ h

set_option maxRecDepth 100000 in
set_option maxHeartbeats 1000000 in
theorem a_ahead (x y : TK) (w : World) :
    Calls Try.prog 43 #[.agg #[.int .i64 x.cls, .int .i64 x.lvl, .int .i64 x.per, .int .i64 x.ddl, .int .i64 x.bud, .int .i64 x.line, .slice x.U x.un x.uc, .slice x.O x.on x.oc], .agg #[.int .i64 y.cls, .int .i64 y.lvl, .int .i64 y.per, .int .i64 y.ddl, .int .i64 y.bud, .int .i64 y.line, .slice y.U y.un y.uc, .slice y.O y.on y.oc]] w fun e w' => e = .returned (.bool (ahdB x y)) ∧ Below w.heap.size w w' := by
  have hb0 : Ext w ((w.alloc (.cells #[.int .i64 x.cls, .int .i64 x.lvl, .int .i64 x.per, .int .i64 x.ddl, .int .i64 x.bud, .int .i64 x.line, .slice x.U x.un x.uc, .slice x.O x.on x.oc] 77)).alloc (.cells #[.int .i64 y.cls, .int .i64 y.lvl, .int .i64 y.per, .int .i64 y.ddl, .int .i64 y.bud, .int .i64 y.line, .slice y.U y.un y.uc, .slice y.O y.on y.oc] 47)) := Ext.trans (Ext.alloc _ _) (Ext.alloc _ _)
  have oX := (Own.new w 77 [.int .i64 x.cls, .int .i64 x.lvl, .int .i64 x.per, .int .i64 x.ddl, .int .i64 x.bud, .int .i64 x.line, .slice x.U x.un x.uc, .slice x.O x.on x.oc]).alloc (.cells #[.int .i64 y.cls, .int .i64 y.lvl, .int .i64 y.per, .int .i64 y.ddl, .int .i64 y.bud, .int .i64 y.line, .slice y.U y.un y.uc, .slice y.O y.on y.oc] 47)
  have oY := Own.new (w.alloc (.cells #[.int .i64 x.cls, .int .i64 x.lvl, .int .i64 x.per, .int .i64 x.ddl, .int .i64 x.bud, .int .i64 x.line, .slice x.U x.un x.uc, .slice x.O x.on x.oc] 77)) 47 [.int .i64 y.cls, .int .i64 y.lvl, .int .i64 y.per, .int .i64 y.ddl, .int .i64 y.bud, .int .i64 y.line, .slice y.U y.un y.uc, .slice y.O y.on y.oc]
  rw [World.size_alloc] at oY
  have y0 := oY.cell 0
  simp only [List.getElem?_cons_zero] at y0
  have HB := Lib.hid (fun w => a_blocks x y w)
  by_cases h2 : y.cls = 2
  · have t2 : (y.cls == 2) = true := by simp [h2]
    have HQ := Lib.hid (show ahdB x y = cntB x y by simp [ahdB, h2])
    generalize cntB x y = q at *
    clear h2
    go_enter Try.func43, Try.ntmps43
    go_wp2_with (first
      | (refine wpl_load_w _ (by go_simp) 77 _ rfl (by kernel_rfl) 8 size_asker _ rfl _ _ oX rfl ?_)
      | (refine wpl_load_w _ (by go_simp) 47 _ rfl (by kernel_rfl) 8 size_task _ rfl _ _ oY rfl ?_))
    refine (HB.out _).mono ?_
    rintro e w1 ⟨rfl, b1⟩
    go_wp2
    go_ret
    exact ⟨by rw [HQ.out]; rfl, Ext.trans hb0 b1⟩
  · have t2 : (y.cls == 2) = false := by simp [h2]
    have HQ := Lib.hid (show ahdB x y = false by simp [ahdB, h2])
    clear h2
    go_enter Try.func43, Try.ntmps43
    go_wp2
    go_ret
    exact ⟨by rw [HQ.out]; rfl, hb0⟩

/-- Those of the first k that count. -/
def someT (f : TK → Bool) (ts : List TK) : Nat → List Int
  | 0 => []
  | k + 1 => match ts[k]? with
    | some x => if f x then someT f ts k ++ [(k : Int)] else someT f ts k
    | none => someT f ts k
def someL (f : TK → Bool) (ts : List TK) : List Int := someT f ts ts.length
theorem someT_yes {f : TK → Bool} {ts : List TK} {k : Nat} (hk : k < ts.length) (h : f ts[k] = true) : someT f ts (k + 1) = someT f ts k ++ [(k : Int)] := by
  rw [someT, List.getElem?_eq_getElem hk]; simp [h]
theorem someT_no {f : TK → Bool} {ts : List TK} {k : Nat} (hk : k < ts.length) (h : f ts[k] = false) : someT f ts (k + 1) = someT f ts k := by
  rw [someT, List.getElem?_eq_getElem hk]; simp [h]
theorem someT_len (f : TK → Bool) (ts : List TK) : ∀ k, (someT f ts k).length ≤ k
  | 0 => by simp [someT]
  | k + 1 => by
    have := someT_len f ts k
    rw [someT]
    split
    · split
      · simp; omega
      · omega
    · omega
theorem someT_mem (f : TK → Bool) (ts : List TK) (z : Int) : ∀ k, z ∈ someT f ts k → ∃ j : Nat, z = (j : Int) ∧ j < k ∧ ∃ h : j < ts.length, f ts[j] = true
  | 0 => by simp [someT]
  | k + 1 => by
    intro hz
    rw [someT] at hz
    split at hz
    · rename_i x hx
      obtain ⟨hk, rfl⟩ := List.getElem?_eq_some_iff.1 hx
      split at hz
      · rename_i hf
        rcases List.mem_append.1 hz with h | h
        · obtain ⟨j, e, hj, r⟩ := someT_mem f ts z k h
          exact ⟨j, e, by omega, r⟩
        · simp at h
          exact ⟨k, h, by omega, hk, hf⟩
      · obtain ⟨j, e, hj, r⟩ := someT_mem f ts z k hz
        exact ⟨j, e, by omega, r⟩
    · obtain ⟨j, e, hj, r⟩ := someT_mem f ts z k hz
      exact ⟨j, e, by omega, r⟩

set_option maxRecDepth 100000 in
set_option maxHeartbeats 2000000 in
theorem a_some_blocks (A : Option Addr) (nt ct : Nat) (ts : List TK) (B : Option Addr) (nb cb : Nat) (bs : List EF) (M : Option Addr) (nm cm : Nat) (ms : List (Int × Int)) (G : Option Addr) (ng cg : Nat) (gs : List Int) (fr dog : Int) (x : TK) (w : World) (h : ConfArg w A nt ts B nb bs M nm ms G ng gs fr dog) (hn : nt ≤ 65536) :
    Calls Try.prog 34 #[.agg #[.slice A nt ct, .slice B nb cb, .slice M nm cm, .slice G ng cg, .int .i64 fr, .int .i64 dog], .func (.func 35) #[.agg #[.int .i64 x.cls, .int .i64 x.lvl, .int .i64 x.per, .int .i64 x.ddl, .int .i64 x.bud, .int .i64 x.line, .slice x.U x.un x.uc, .slice x.O x.on x.oc]] #[]] w fun e w' => ∃ S c', e = .returned (.slice S (someL (cntB x) ts).length c') ∧ Row w' w.heap.size 3 1 S (someL (cntB x) ts).length c' (ints (someL (cntB x) ts)) ∧ Below w.heap.size w w' := by
  obtain ⟨i0, hi, hz0, hz1, hz2⟩ := info_parts info_int
  have HI := Lib.hid hi
  have HT := Lib.hid h.tasks
  have HL := Lib.hid h.tasks.len
  have hT2 := HL.out
  clear hi h
  unfold someL
  rw [hT2]
  clear hT2
  go_enter Try.func34, Try.ntmps34
  go_wp2
  go_loopw [5, 11] (fun v q wr => ∃ (k : Nat) (S : Option Addr) (c1 : Nat), v = .slice S (someT (cntB x) ts k).length c1 ∧ q = .int .i64 k ∧ k ≤ nt ∧ Row wr w.heap.size 3 1 S (someT (cntB x) ts k).length c1 (ints (someT (cntB x) ts k)) ∧ Ext w wr) (fun _ q _ => nt - (intOf q).toNat)
  case atStart => exact ⟨0, none, 0, rfl, rfl, by omega, Row.nil _ _ _ _, Ext.alloc _ _⟩
  case round =>
    obtain ⟨k, S, c1, rfl, rfl, hk, q1, q2⟩ := hrel
    by_cases hlt : k < nt
    · have hkl : k < ts.length := by rw [HL.out]; exact hlt
      have hTY := @someT_yes (cntB x) ts k hkl
      have hTN := @someT_no (cntB x) ts k hkl
      have hcl := fun w => a_blocks x ts[k] w
      have hle := someT_len (cntB x) ts k
      obtain ⟨b0, off, rfl, he⟩ := flat_at (k := 8) (HT.out.keep q2).rd (fun _ _ => rfl) (by omega) hkl
      generalize hYY : ts[k]'hkl = y at *
      clear hYY
      have hsz := q2.size
      have hne : blk S = none ∨ blk S ≠ some wr.heap.size := .inr fun h => by have := (q1.at_ _ h).2; omega
      have i0' : (0 : Int) ≤ (k : Int) := by omega
      have i1' : (k : Int) < (nt : Int) := by omega
      generalize hL1 : someT (cntB x) ts (k + 1) = L1 at *
      have HL1 := Lib.hid hL1
      clear hL1
      generalize someT (cntB x) ts k = L0 at *
      have HTY := Lib.hid hTY
      have HTN := Lib.hid hTN
      clear hTY hTN hkl
      generalize cntB x y = q at *
      have HCL := Lib.hid hcl
      clear hcl
      cases q
      · obtain rfl := HTN.out rfl
        go_wp2_with (first
          | (refine wpl_load_rd _ rfl 47 _ rfl (by kernel_rfl) 8 size_task b0 (off + k * 8) rfl [.int .i64 y.cls, .int .i64 y.lvl, .int .i64 y.per, .int .i64 y.ddl, .int .i64 y.bud, .int .i64 y.line, .slice y.U y.un y.uc, .slice y.O y.on y.oc] rfl he ?_)
          | (refine wpl_alloc_own _ rfl 47 rfl ztk zero_task ?_; intro w2 o2 b2 s2; clear s2)
          | (refine wpl_store_own _ rfl 47 _ _ rfl 8 size_task _ rfl [.int .i64 y.cls, .int .i64 y.lvl, .int .i64 y.per, .int .i64 y.ddl, .int .i64 y.bud, .int .i64 y.line, .slice y.U y.un y.uc, .slice y.O y.on y.oc] rfl _ _ o2 rfl rfl (TK.one y) ?_; intro w3 o3 g3 s3; clear s3; have e3' := below_of_grown b2 g3 (Nat.le_refl _) b2.size; have e3 := Ext.trans q2 e3'; have r3 := (q1.keep b2).grown g3 hne)
          | (refine wpl_load_own _ rfl 47 _ rfl (by kernel_rfl) 8 size_task _ rfl _ _ o3 rfl ?_))
        refine (HCL.out _).mono ?_
        rintro e w4 ⟨rfl, b4⟩
        have r4 := r3.keep b4
        have e4 := Ext.trans e3 b4
        go_wp2
        go_roundw
        case rel => exact ⟨k + 1, S, c1, by rw [HL1.out], by go_num, by omega, by rw [HL1.out]; exact r4, e4⟩
        case measure => simp [intOf]; omega
      · obtain rfl := HTY.out rfl
        have HP := Lib.hid (show ints L0 ++ ints [(k : Int)] = ints (L0 ++ [(k : Int)]) from ints_app' _ _)
        have HPL := Lib.hid (show L0.length + 1 = (L0 ++ [(k : Int)]).length by simp)
        go_wp2_with (first
          | (refine wpl_load_rd _ rfl 47 _ rfl (by kernel_rfl) 8 size_task b0 (off + k * 8) rfl [.int .i64 y.cls, .int .i64 y.lvl, .int .i64 y.per, .int .i64 y.ddl, .int .i64 y.bud, .int .i64 y.line, .slice y.U y.un y.uc, .slice y.O y.on y.oc] rfl he ?_)
          | (refine wpl_alloc_own _ rfl 47 rfl ztk zero_task ?_; intro w2 o2 b2 s2; clear s2)
          | (refine wpl_store_own _ rfl 47 _ _ rfl 8 size_task _ rfl [.int .i64 y.cls, .int .i64 y.lvl, .int .i64 y.per, .int .i64 y.ddl, .int .i64 y.bud, .int .i64 y.line, .slice y.U y.un y.uc, .slice y.O y.on y.oc] rfl _ _ o2 rfl rfl (TK.one y) ?_; intro w3 o3 g3 s3; clear s3; have e3' := below_of_grown b2 g3 (Nat.le_refl _) b2.size; have e3 := Ext.trans q2 e3'; have r3 := (q1.keep b2).grown g3 hne)
          | (refine wpl_load_own _ rfl 47 _ rfl (by kernel_rfl) 8 size_task _ rfl _ _ o3 rfl ?_))
        refine (HCL.out _).mono ?_
        rintro e w4 ⟨rfl, b4⟩
        have r4 := r3.keep b4
        have e4 := Ext.trans e3 b4
        go_wp2_with (at_builtin; have r7 := (r4.alloc (.cells #[.int .i64 (k : Int)] 3)); refine wpl_append _ rfl (.tmp 19) (.tmp 21) 25 rfl 3 i0 _ 1 8 Try.underlying25 HI.out hz0 hz1 hz2 rfl (by omega) w.heap.size S L0.length c1 _ rfl r7 _ 1 1 (ints [(k : Int)]) rfl rfl (rd1i _ _) (ints_one _) (L0.length + 1) _ rfl HP.out (by omega) (by omega) (by simp; have := e4.size; omega) ?_; intro A2 c2 w5 o5 g5 k5)
        have e5 := below_grown (Ext.trans e4 (Ext.alloc w4 (.cells #[.int .i64 (k : Int)] 3))) g5 (by simp; have := e4.size; omega) (fun g' hg' => (q1.at_ g' hg').1)
        have o6 := o5
        rw [HPL.out] at o6
        go_roundw
        case rel => exact ⟨k + 1, A2, c2, by rw [HL1.out, HPL.out], by go_num, by omega, by rw [HL1.out]; exact o6, e5⟩
        case measure => simp [intOf]; omega
    · obtain rfl : nt = k := by omega
      go_wp2
      go_ret
      exact ⟨S, c1, rfl, q1, q2⟩

set_option maxRecDepth 100000 in
set_option maxHeartbeats 2000000 in
theorem a_some_ahead (A : Option Addr) (nt ct : Nat) (ts : List TK) (B : Option Addr) (nb cb : Nat) (bs : List EF) (M : Option Addr) (nm cm : Nat) (ms : List (Int × Int)) (G : Option Addr) (ng cg : Nat) (gs : List Int) (fr dog : Int) (x : TK) (w : World) (h : ConfArg w A nt ts B nb bs M nm ms G ng gs fr dog) (hn : nt ≤ 65536) :
    Calls Try.prog 34 #[.agg #[.slice A nt ct, .slice B nb cb, .slice M nm cm, .slice G ng cg, .int .i64 fr, .int .i64 dog], .func (.func 43) #[.agg #[.int .i64 x.cls, .int .i64 x.lvl, .int .i64 x.per, .int .i64 x.ddl, .int .i64 x.bud, .int .i64 x.line, .slice x.U x.un x.uc, .slice x.O x.on x.oc]] #[]] w fun e w' => ∃ S c', e = .returned (.slice S (someL (ahdB x) ts).length c') ∧ Row w' w.heap.size 3 1 S (someL (ahdB x) ts).length c' (ints (someL (ahdB x) ts)) ∧ Below w.heap.size w w' := by
  obtain ⟨i0, hi, hz0, hz1, hz2⟩ := info_parts info_int
  have HI := Lib.hid hi
  have HT := Lib.hid h.tasks
  have HL := Lib.hid h.tasks.len
  have hT2 := HL.out
  clear hi h
  unfold someL
  rw [hT2]
  clear hT2
  go_enter Try.func34, Try.ntmps34
  go_wp2
  go_loopw [5, 11] (fun v q wr => ∃ (k : Nat) (S : Option Addr) (c1 : Nat), v = .slice S (someT (ahdB x) ts k).length c1 ∧ q = .int .i64 k ∧ k ≤ nt ∧ Row wr w.heap.size 3 1 S (someT (ahdB x) ts k).length c1 (ints (someT (ahdB x) ts k)) ∧ Ext w wr) (fun _ q _ => nt - (intOf q).toNat)
  case atStart => exact ⟨0, none, 0, rfl, rfl, by omega, Row.nil _ _ _ _, Ext.alloc _ _⟩
  case round =>
    obtain ⟨k, S, c1, rfl, rfl, hk, q1, q2⟩ := hrel
    by_cases hlt : k < nt
    · have hkl : k < ts.length := by rw [HL.out]; exact hlt
      have hTY := @someT_yes (ahdB x) ts k hkl
      have hTN := @someT_no (ahdB x) ts k hkl
      have hcl := fun w => a_ahead x ts[k] w
      have hle := someT_len (ahdB x) ts k
      obtain ⟨b0, off, rfl, he⟩ := flat_at (k := 8) (HT.out.keep q2).rd (fun _ _ => rfl) (by omega) hkl
      generalize hYY : ts[k]'hkl = y at *
      clear hYY
      have hsz := q2.size
      have hne : blk S = none ∨ blk S ≠ some wr.heap.size := .inr fun h => by have := (q1.at_ _ h).2; omega
      have i0' : (0 : Int) ≤ (k : Int) := by omega
      have i1' : (k : Int) < (nt : Int) := by omega
      generalize hL1 : someT (ahdB x) ts (k + 1) = L1 at *
      have HL1 := Lib.hid hL1
      clear hL1
      generalize someT (ahdB x) ts k = L0 at *
      have HTY := Lib.hid hTY
      have HTN := Lib.hid hTN
      clear hTY hTN hkl
      generalize ahdB x y = q at *
      have HCL := Lib.hid hcl
      clear hcl
      cases q
      · obtain rfl := HTN.out rfl
        go_wp2_with (first
          | (refine wpl_load_rd _ rfl 47 _ rfl (by kernel_rfl) 8 size_task b0 (off + k * 8) rfl [.int .i64 y.cls, .int .i64 y.lvl, .int .i64 y.per, .int .i64 y.ddl, .int .i64 y.bud, .int .i64 y.line, .slice y.U y.un y.uc, .slice y.O y.on y.oc] rfl he ?_)
          | (refine wpl_alloc_own _ rfl 47 rfl ztk zero_task ?_; intro w2 o2 b2 s2; clear s2)
          | (refine wpl_store_own _ rfl 47 _ _ rfl 8 size_task _ rfl [.int .i64 y.cls, .int .i64 y.lvl, .int .i64 y.per, .int .i64 y.ddl, .int .i64 y.bud, .int .i64 y.line, .slice y.U y.un y.uc, .slice y.O y.on y.oc] rfl _ _ o2 rfl rfl (TK.one y) ?_; intro w3 o3 g3 s3; clear s3; have e3' := below_of_grown b2 g3 (Nat.le_refl _) b2.size; have e3 := Ext.trans q2 e3'; have r3 := (q1.keep b2).grown g3 hne)
          | (refine wpl_load_own _ rfl 47 _ rfl (by kernel_rfl) 8 size_task _ rfl _ _ o3 rfl ?_))
        refine (HCL.out _).mono ?_
        rintro e w4 ⟨rfl, b4⟩
        have r4 := r3.keep b4
        have e4 := Ext.trans e3 b4
        go_wp2
        go_roundw
        case rel => exact ⟨k + 1, S, c1, by rw [HL1.out], by go_num, by omega, by rw [HL1.out]; exact r4, e4⟩
        case measure => simp [intOf]; omega
      · obtain rfl := HTY.out rfl
        have HP := Lib.hid (show ints L0 ++ ints [(k : Int)] = ints (L0 ++ [(k : Int)]) from ints_app' _ _)
        have HPL := Lib.hid (show L0.length + 1 = (L0 ++ [(k : Int)]).length by simp)
        go_wp2_with (first
          | (refine wpl_load_rd _ rfl 47 _ rfl (by kernel_rfl) 8 size_task b0 (off + k * 8) rfl [.int .i64 y.cls, .int .i64 y.lvl, .int .i64 y.per, .int .i64 y.ddl, .int .i64 y.bud, .int .i64 y.line, .slice y.U y.un y.uc, .slice y.O y.on y.oc] rfl he ?_)
          | (refine wpl_alloc_own _ rfl 47 rfl ztk zero_task ?_; intro w2 o2 b2 s2; clear s2)
          | (refine wpl_store_own _ rfl 47 _ _ rfl 8 size_task _ rfl [.int .i64 y.cls, .int .i64 y.lvl, .int .i64 y.per, .int .i64 y.ddl, .int .i64 y.bud, .int .i64 y.line, .slice y.U y.un y.uc, .slice y.O y.on y.oc] rfl _ _ o2 rfl rfl (TK.one y) ?_; intro w3 o3 g3 s3; clear s3; have e3' := below_of_grown b2 g3 (Nat.le_refl _) b2.size; have e3 := Ext.trans q2 e3'; have r3 := (q1.keep b2).grown g3 hne)
          | (refine wpl_load_own _ rfl 47 _ rfl (by kernel_rfl) 8 size_task _ rfl _ _ o3 rfl ?_))
        refine (HCL.out _).mono ?_
        rintro e w4 ⟨rfl, b4⟩
        have r4 := r3.keep b4
        have e4 := Ext.trans e3 b4
        go_wp2_with (at_builtin; have r7 := (r4.alloc (.cells #[.int .i64 (k : Int)] 3)); refine wpl_append _ rfl (.tmp 19) (.tmp 21) 25 rfl 3 i0 _ 1 8 Try.underlying25 HI.out hz0 hz1 hz2 rfl (by omega) w.heap.size S L0.length c1 _ rfl r7 _ 1 1 (ints [(k : Int)]) rfl rfl (rd1i _ _) (ints_one _) (L0.length + 1) _ rfl HP.out (by omega) (by omega) (by simp; have := e4.size; omega) ?_; intro A2 c2 w5 o5 g5 k5)
        have e5 := below_grown (Ext.trans e4 (Ext.alloc w4 (.cells #[.int .i64 (k : Int)] 3))) g5 (by simp; have := e4.size; omega) (fun g' hg' => (q1.at_ g' hg').1)
        have o6 := o5
        rw [HPL.out] at o6
        go_roundw
        case rel => exact ⟨k + 1, A2, c2, by rw [HL1.out, HPL.out], by go_num, by omega, by rw [HL1.out]; exact o6, e5⟩
        case measure => simp [intOf]; omega
    · obtain rfl : nt = k := by omega
      go_wp2
      go_ret
      exact ⟨S, c1, rfl, q1, q2⟩

end Go.Proofs.Ytdninhdabeddeaa
