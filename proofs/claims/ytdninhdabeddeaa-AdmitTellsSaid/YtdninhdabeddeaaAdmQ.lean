/-
  WALKS of package admit: Admit.
-/
import Derived.Test.YtdninhdabeddeaaAdmP
namespace Go.Proofs.Ytdninhdabeddeaa
open Go.RowKit
attribute [local go_sem] depUpon Sp.ok

def respAt (ts : List TK) (ms : List (Int × Int)) (gs : List Int) (k : Nat) : Int × Bool := match ts[k]? with
  | some x => respV ts ms gs k x
  | none => (0, false)
def okOf (gs : List Int) (dog : Int) (x : TK) (b : Bool) : Bool := b && !(decide (0 ≤ x.line) && decide (gs.getD x.line.toNat 0 < x.per)) && !decide (dog ≤ x.ddl)
def okAt (ts : List TK) (ms : List (Int × Int)) (gs : List Int) (dog : Int) (k : Nat) : Bool := match ts[k]? with
  | some x => okOf gs dog x (respV ts ms gs k x).2
  | none => true
def okTo (ts : List TK) (ms : List (Int × Int)) (gs : List Int) (dog : Int) (k : Nat) : Bool := (List.range k).all (okAt ts ms gs dog)
def respTo (ts : List TK) (ms : List (Int × Int)) (gs : List Int) (k : Nat) : List Int := (List.range k).map fun j => (respAt ts ms gs j).1
theorem respTo_len (ts : List TK) (ms : List (Int × Int)) (gs : List Int) (k : Nat) : (respTo ts ms gs k).length = k := by simp [respTo]
theorem respTo_snoc {ts : List TK} {ms : List (Int × Int)} {gs : List Int} {k : Nat} (hk : k < ts.length) : respTo ts ms gs (k + 1) = respTo ts ms gs k ++ [(respV ts ms gs k ts[k]).1] := by
  simp [respTo, List.range_succ, respAt, hk]
theorem okTo_snoc {ts : List TK} {ms : List (Int × Int)} {gs : List Int} {dog : Int} {k : Nat} (hk : k < ts.length) : okTo ts ms gs dog (k + 1) = (okTo ts ms gs dog k && okOf gs dog ts[k] (respV ts ms gs k ts[k]).2) := by
  simp [okTo, List.range_succ, List.all_append, okAt, hk]
theorem okTo_not {ts : List TK} {ms : List (Int × Int)} {gs : List Int} {dog : Int} {k n : Nat} (hk : k < ts.length) (hn : k < n) (h : okOf gs dog ts[k] (respV ts ms gs k ts[k]).2 = false) : okTo ts ms gs dog n = false := by
  unfold okTo
  rw [List.all_eq_false]
  exact ⟨k, List.mem_range.2 hn, by simp [okAt, hk, h]⟩
/-- Is a configuration admitted? -/
def admB (nt nb nm ng : Nat) (ts : List TK) (bs : List EF) (ms : List (Int × Int)) (gs : List Int) (fr dog : Int) : Bool := mayC nt nb nm ng ts bs ms gs fr dog && okTo ts ms gs dog nt
def admR (nt nb nm ng : Nat) (ts : List TK) (bs : List EF) (ms : List (Int × Int)) (gs : List Int) (fr dog : Int) : List Int := if admB nt nb nm ng ts bs ms gs fr dog = true then respTo ts ms gs nt else []
def AdmPost (q : Bool) (L : List Int) (w : World) (e : Ending) (w' : World) : Prop := ∃ S c', e = .returned (.tuple #[.bool q, .slice S L.length c']) ∧ Rd w' S (ints L) ∧ Below w.heap.size w w'
theorem AdmPost.no {q : Bool} {L : List Int} {w w' : World} (h1 : q = false) (h2 : L = []) (hb : Below w.heap.size w w') : AdmPost q L w (.returned (.tuple #[.bool false, .slice none 0 0])) w' := by
  subst h1; subst h2
  exact ⟨none, 0, rfl, Rd.nil _ _, hb⟩
theorem mayT_line {nm ng : Nat} {x : TK} (h : mayT nm ng x = true) : -1 ≤ x.line ∧ x.line ≤ (ng : Int) - 1 := by
  unfold mayT at h
  simp only [Bool.and_eq_true] at h
  have := h.1.2
  unfold inB at this
  simpa using this

set_option maxRecDepth 100000 in
set_option maxHeartbeats 4000000 in
theorem a_admit (A : Option Addr) (nt ct : Nat) (ts : List TK) (B : Option Addr) (nb cb : Nat) (bs : List EF) (M : Option Addr) (nm cm : Nat) (ms : List (Int × Int)) (G : Option Addr) (ng cg : Nat) (gs : List Int) (fr dog : Int) (w : World) (h : ConfArg w A nt ts B nb bs M nm ms G ng gs fr dog) (h12 : nm ≤ 65536) :
    Calls Try.prog 18 #[.agg #[.slice A nt ct, .slice B nb cb, .slice M nm cm, .slice G ng cg, .int .i64 fr, .int .i64 dog]] w (AdmPost (admB nt nb nm ng ts bs ms gs fr dog) (admR nt nb nm ng ts bs ms gs fr dog) w) := by
  have HM := Lib.hid (fun w' (h' : Ext w w') => a_may A nt ct ts B nb cb bs M nm cm ms G ng cg gs fr dog w' (h.keep h') h12)
  have oV := Own.new w 27 [.slice A nt ct, .slice B nb cb, .slice M nm cm, .slice G ng cg, .int .i64 fr, .int .i64 dog]
  have bV : Ext w (w.alloc (.cells #[.slice A nt ct, .slice B nb cb, .slice M nm cm, .slice G ng cg, .int .i64 fr, .int .i64 dog] 27)) := Ext.alloc _ _
  have HBB := Lib.hid (show admB nt nb nm ng ts bs ms gs fr dog = (mayC nt nb nm ng ts bs ms gs fr dog && okTo ts ms gs dog nt) from rfl)
  have HRR := Lib.hid (show admR nt nb nm ng ts bs ms gs fr dog = if admB nt nb nm ng ts bs ms gs fr dog = true then respTo ts ms gs nt else [] from rfl)
  cases hm : mayC nt nb nm ng ts bs ms gs fr dog
  · rw [hm] at HM HBB
    have HB := Lib.hid (by rw [HBB.out]; rfl : admB nt nb nm ng ts bs ms gs fr dog = false)
    have HR := Lib.hid (by rw [HRR.out, HB.out]; rfl : admR nt nb nm ng ts bs ms gs fr dog = [])
    clear hm h h12
    go_enter Try.func18, Try.ntmps18
    go_wp2_with (refine wpl_load_own _ rfl 27 _ rfl (by kernel_rfl) 6 size_conf _ rfl _ _ oV rfl ?_)
    refine (HM.out _ bV).mono ?_
    rintro e w3 ⟨rfl, b3⟩
    go_wp2
    go_ret2
    exact AdmPost.no HB.out HR.out (Ext.trans bV b3)
  · obtain ⟨n8, _, n4, hok, hmt, _, _⟩ := may_conf hm
    have HRS := Lib.hid (fun (k : Nat) (hk : k < ts.length) w' (h' : Ext w w') => a_resp_yes A nt ct ts B nb cb bs M nm cm ms G ng cg gs fr dog k ts[k] w' (h.keep h') hk rfl hm h12)
    have HMT := Lib.hid (fun (k : Nat) (hk : k < ts.length) (hn : k < nt) => mayT_line (may_task hmt hk hn))
    rw [hm] at HM HBB
    have HB := Lib.hid (by rw [HBB.out]; rfl : admB nt nb nm ng ts bs ms gs fr dog = okTo ts ms gs dog nt)
    have HC := Lib.hid h.tasks
    have HG := Lib.hid h.gaps
    have hTL := h.tasks.len
    have hGL := h.gaps.len
    have v0 := oV.cell 0
    simp only [List.getElem?_cons_zero] at v0
    obtain ⟨i0, hi, hz0, hz1, hz2⟩ := info_parts info_int
    have HI := Lib.hid hi
    clear hm h h12 hok hmt hi HBB
    go_enter Try.func18, Try.ntmps18
    go_wp2_with (refine wpl_load_own _ rfl 27 _ rfl (by kernel_rfl) 6 size_conf _ rfl _ _ oV rfl ?_)
    refine (HM.out _ bV).mono ?_
    rintro e w3 ⟨rfl, b3⟩
    replace bV := Ext.trans bV b3
    have oV3 := oV.keep b3
    replace v0 := cell_keep b3 v0
    clear oV b3
    go_wp2
    go_loopw [4, 15] (fun v q wr => ∃ (k : Nat) (S : Option Addr) (c1 : Nat), v = .slice S k c1 ∧ q = .int .i64 k ∧ k ≤ nt ∧ Hid (okTo ts ms gs dog k = true) ∧ Row wr w3.heap.size 3 1 S k c1 (ints (respTo ts ms gs k)) ∧ Ext w3 wr) (fun _ q _ => nt - (intOf q).toNat)
    case atStart => exact ⟨0, none, 0, rfl, rfl, by omega, Lib.hid rfl, Row.nil _ _ _ _, Ext.refl _⟩
    case round =>
      obtain ⟨k, S, c1, rfl, rfl, hk, HOK, q1, q2⟩ := hrel
      clear v0
      by_cases hlt : k < nt
      · have hkl : k < ts.length := by omega
        have hcr := HRS.out k hkl
        have hrs := respTo_snoc (ms := ms) (gs := gs) hkl
        have hos := okTo_snoc (ms := ms) (gs := gs) (dog := dog) hkl
        rw [HOK.out, Bool.true_and] at hos
        have hon := fun h => okTo_not (ms := ms) (gs := gs) (dog := dog) (n := nt) hkl hlt h
        have hln := HMT.out k hkl hlt
        have v3' : wr.cell? ⟨w.heap.size, 3, none⟩ = some (.slice G ng cg) := (oV3.keep q2).cell 3
        have v5' : wr.cell? ⟨w.heap.size, 5, none⟩ = some (.int .i64 dog) := (oV3.keep q2).cell 5
        have oVr := oV3.keep q2
        obtain ⟨b0, off, rfl, he⟩ := flat_at (k := 8) (HC.out.keep (Ext.trans bV q2)).rd (fun _ _ => rfl) (by omega) hkl
        generalize hYY : ts[k]'hkl = x at *
        clear hYY
        have hsz := q2.size
        have hne : blk S = none ∨ blk S ≠ some wr.heap.size := .inr fun h => by have := (q1.at_ _ h).2; omega
        have i0' : (0 : Int) ≤ (k : Int) := by omega
        have i1' : (k : Int) < (nt : Int) := by omega
        generalize hR1 : respTo ts ms gs (k + 1) = R1 at *
        have HR1 := Lib.hid hR1
        clear hR1
        generalize respTo ts ms gs k = R0 at *
        generalize respV ts ms gs k x = rv at *
        obtain ⟨r, b⟩ := rv
        have HCR := Lib.hid hcr
        have HRN := Lib.hid hrs
        have HOS := Lib.hid hos
        have HON := Lib.hid hon
        have hgd : 0 ≤ x.line → ∃ m : Nat, x.line = (m : Int) ∧ ∃ h : m < gs.length, gs.getD x.line.toNat 0 = gs[m] := fun h => by
          have hm : x.line.toNat < gs.length := by omega
          refine ⟨x.line.toNat, by omega, hm, ?_⟩
          simp [hm]
        have HGD := Lib.hid hgd
        clear hcr hrs hos hon hkl hgd
        cases b
        · have HF := Lib.hid (HON.out rfl)
          have HB2 := Lib.hid (by rw [HB.out]; exact HF.out : admB nt nb nm ng ts bs ms gs fr dog = false)
          have HR := Lib.hid (by rw [HRR.out, HB2.out]; rfl : admR nt nb nm ng ts bs ms gs fr dog = [])
          go_wp2_with (first
            | (refine wpl_load_rd _ rfl 47 _ rfl (by kernel_rfl) 8 size_task b0 (off + k * 8) rfl [.int .i64 x.cls, .int .i64 x.lvl, .int .i64 x.per, .int .i64 x.ddl, .int .i64 x.bud, .int .i64 x.line, .slice x.U x.un x.uc, .slice x.O x.on x.oc] rfl he ?_)
            | (refine wpl_alloc_own _ rfl 47 rfl ztk zero_task ?_; intro w2 o2 b2 s2; clear s2)
            | (refine wpl_store_own _ rfl 47 _ _ rfl 8 size_task _ rfl [.int .i64 x.cls, .int .i64 x.lvl, .int .i64 x.per, .int .i64 x.ddl, .int .i64 x.bud, .int .i64 x.line, .slice x.U x.un x.uc, .slice x.O x.on x.oc] rfl _ _ o2 rfl rfl (TK.one x) ?_; intro w3' o3 g3 s3; clear s3; have e3' := below_of_grown b2 g3 (Nat.le_refl _) b2.size; have oW3 := oVr.keep e3'; have r3 := (q1.keep b2).grown g3 hne)
            | (refine wpl_load_own _ rfl 27 _ rfl (by kernel_rfl) 6 size_conf _ rfl _ _ oW3 rfl ?_))
          refine (HCR.out _ (Ext.trans (Ext.trans bV q2) e3')).mono ?_
          rintro e w4 ⟨rfl, b4⟩
          have d2 : w4.cell? ⟨wr.heap.size, 2, none⟩ = some (.int .i64 x.per) := (o3.keep b4).cell 2
          have d3 : w4.cell? ⟨wr.heap.size, 3, none⟩ = some (.int .i64 x.ddl) := (o3.keep b4).cell 3
          have d5 : w4.cell? ⟨wr.heap.size, 5, none⟩ = some (.int .i64 x.line) := (o3.keep b4).cell 5
          have g3' := cell_keep (Ext.trans e3' b4) v3'
          have g5' := cell_keep (Ext.trans e3' b4) v5'
          have e4 := Ext.trans (Ext.trans q2 e3') b4
          have r4 := r3.keep b4
          clear o3
          go_wp2
          refine wp_region_dep (S := Ext) (C := Ext (w4)) (by kernel_rfl) (by kernel_rfl) rfl Ext.refl (Ext.drew _) ?_
          repeat (refine dep_det (by rfl) (fun K hK => ?_); go_simp; first
            | ((with_reducible refine hK _ ?_); clear hK K)
            | (rw [if_neg (by decide)]; (with_reducible refine hK _ ?_); clear hK K)
            | (refine ⟨_, fun w1 hw1 => ⟨Ext.refl w1, hw1, rfl⟩, hK _ ?_⟩; clear hK K)
            | (apply Exists.intro; refine ⟨fun w1 hw1 => ?_, hK _ ?_⟩
               first
                 | (have c_d2 := cell_keep hw1 d2; have c_d3 := cell_keep hw1 d3; have c_d5 := cell_keep hw1 d5; have c_g3' := cell_keep hw1 g3'; have c_g5' := cell_keep hw1 g5'; go_simp; first | exact ⟨Ext.refl _, hw1, rfl⟩ | exact ⟨Ext.refl _, rfl⟩)
               clear hK K))
          refine dep_nil ?_
          intro a' w' hC hE
          obtain rfl := atEnd_nil hE
          clear hE
          have e5 := Ext.trans e4 hC
          have r5 := r4.keep hC
          clear d2 d3 d5 g3' g5' hC
          go_wp2
          go_ret2
          exact AdmPost.no HB2.out HR.out (Ext.trans bV e5)
        · by_cases hl : 0 ≤ x.line
          · obtain ⟨m, hm, hml, hgm⟩ := HGD.out hl
            obtain ⟨bg, og, rfl, hcg⟩ := (HG.out.rd.keep (Ext.trans bV q2)).int hml
            have hd : okOf gs dog x true = (!decide (gs[m] < x.per) && !decide (dog ≤ x.ddl)) := by unfold okOf; rw [hgm]; simp [hl]
            have m0' : (0 : Int) ≤ (m : Int) := by omega
            have m1' : (m : Int) < (gs.length : Int) := by omega
            generalize gs[m] = g at *
            have HD := Lib.hid hd
            have HML := Lib.hid hm
            have hl' : (0 : Int) ≤ x.line := hl
            have hl1 : x.line < (ng : Int) := by omega
            have htn : x.line.toNat = m := by omega
            have HTN := Lib.hid htn
            have hcg' : wr.cell? ⟨bg, og + x.line.toNat, none⟩ = some (.int .i64 g) := by rw [htn]; exact hcg
            clear hd hm hgm htn hcg
            by_cases hgp : g < x.per
            · have HF := Lib.hid (HON.out (by rw [HD.out]; simp [hgp]))
              have HB2 := Lib.hid (by rw [HB.out]; exact HF.out : admB nt nb nm ng ts bs ms gs fr dog = false)
              have HR := Lib.hid (by rw [HRR.out, HB2.out]; rfl : admR nt nb nm ng ts bs ms gs fr dog = [])
              clear hl
              go_wp2_with (first
                | (refine wpl_load_rd _ rfl 47 _ rfl (by kernel_rfl) 8 size_task b0 (off + k * 8) rfl [.int .i64 x.cls, .int .i64 x.lvl, .int .i64 x.per, .int .i64 x.ddl, .int .i64 x.bud, .int .i64 x.line, .slice x.U x.un x.uc, .slice x.O x.on x.oc] rfl he ?_)
                | (refine wpl_alloc_own _ rfl 47 rfl ztk zero_task ?_; intro w2 o2 b2 s2; clear s2)
                | (refine wpl_store_own _ rfl 47 _ _ rfl 8 size_task _ rfl [.int .i64 x.cls, .int .i64 x.lvl, .int .i64 x.per, .int .i64 x.ddl, .int .i64 x.bud, .int .i64 x.line, .slice x.U x.un x.uc, .slice x.O x.on x.oc] rfl _ _ o2 rfl rfl (TK.one x) ?_; intro w3' o3 g3 s3; clear s3; have e3' := below_of_grown b2 g3 (Nat.le_refl _) b2.size; have oW3 := oVr.keep e3'; have r3 := (q1.keep b2).grown g3 hne)
                | (refine wpl_load_own _ rfl 27 _ rfl (by kernel_rfl) 6 size_conf _ rfl _ _ oW3 rfl ?_))
              refine (HCR.out _ (Ext.trans (Ext.trans bV q2) e3')).mono ?_
              rintro e w4 ⟨rfl, b4⟩
              have d2 : w4.cell? ⟨wr.heap.size, 2, none⟩ = some (.int .i64 x.per) := (o3.keep b4).cell 2
              have d3 : w4.cell? ⟨wr.heap.size, 3, none⟩ = some (.int .i64 x.ddl) := (o3.keep b4).cell 3
              have d5 : w4.cell? ⟨wr.heap.size, 5, none⟩ = some (.int .i64 x.line) := (o3.keep b4).cell 5
              have g3' := cell_keep (Ext.trans e3' b4) v3'
              have g5' := cell_keep (Ext.trans e3' b4) v5'
              have gx := cell_keep (Ext.trans e3' b4) hcg'
              have e4 := Ext.trans (Ext.trans q2 e3') b4
              have r4 := r3.keep b4
              clear o3
              go_wp2
              refine wp_region_dep (S := Ext) (C := Ext (w4)) (by kernel_rfl) (by kernel_rfl) rfl Ext.refl (Ext.drew _) ?_
              repeat (refine dep_det (by rfl) (fun K hK => ?_); go_simp; first
                | ((with_reducible refine hK _ ?_); clear hK K)
                | (rw [if_neg (by decide)]; (with_reducible refine hK _ ?_); clear hK K)
                | (refine ⟨_, fun w1 hw1 => ⟨Ext.refl w1, hw1, rfl⟩, hK _ ?_⟩; clear hK K)
                | (apply Exists.intro; refine ⟨fun w1 hw1 => ?_, hK _ ?_⟩
                   first
                     | (have c_d2 := cell_keep hw1 d2; have c_d3 := cell_keep hw1 d3; have c_d5 := cell_keep hw1 d5; have c_g3' := cell_keep hw1 g3'; have c_g5' := cell_keep hw1 g5'; have c_gx := cell_keep hw1 gx; go_simp; first | exact ⟨Ext.refl _, hw1, rfl⟩ | exact ⟨Ext.refl _, rfl⟩)
                   clear hK K))
              refine dep_nil ?_
              intro a' w' hC hE
              obtain rfl := atEnd_nil hE
              clear hE
              have e5 := Ext.trans e4 hC
              have r5 := r4.keep hC
              clear d2 d3 d5 g3' g5' gx hC
              go_wp2
              go_ret2
              exact AdmPost.no HB2.out HR.out (Ext.trans bV e5)
            · by_cases hdg : dog ≤ x.ddl
              · have HF := Lib.hid (HON.out (by rw [HD.out]; simp [hdg]))
                have HB2 := Lib.hid (by rw [HB.out]; exact HF.out : admB nt nb nm ng ts bs ms gs fr dog = false)
                have HR := Lib.hid (by rw [HRR.out, HB2.out]; rfl : admR nt nb nm ng ts bs ms gs fr dog = [])
                clear hl
                go_wp2_with (first
                  | (refine wpl_load_rd _ rfl 47 _ rfl (by kernel_rfl) 8 size_task b0 (off + k * 8) rfl [.int .i64 x.cls, .int .i64 x.lvl, .int .i64 x.per, .int .i64 x.ddl, .int .i64 x.bud, .int .i64 x.line, .slice x.U x.un x.uc, .slice x.O x.on x.oc] rfl he ?_)
                  | (refine wpl_alloc_own _ rfl 47 rfl ztk zero_task ?_; intro w2 o2 b2 s2; clear s2)
                  | (refine wpl_store_own _ rfl 47 _ _ rfl 8 size_task _ rfl [.int .i64 x.cls, .int .i64 x.lvl, .int .i64 x.per, .int .i64 x.ddl, .int .i64 x.bud, .int .i64 x.line, .slice x.U x.un x.uc, .slice x.O x.on x.oc] rfl _ _ o2 rfl rfl (TK.one x) ?_; intro w3' o3 g3 s3; clear s3; have e3' := below_of_grown b2 g3 (Nat.le_refl _) b2.size; have oW3 := oVr.keep e3'; have r3 := (q1.keep b2).grown g3 hne)
                  | (refine wpl_load_own _ rfl 27 _ rfl (by kernel_rfl) 6 size_conf _ rfl _ _ oW3 rfl ?_))
                refine (HCR.out _ (Ext.trans (Ext.trans bV q2) e3')).mono ?_
                rintro e w4 ⟨rfl, b4⟩
                have d2 : w4.cell? ⟨wr.heap.size, 2, none⟩ = some (.int .i64 x.per) := (o3.keep b4).cell 2
                have d3 : w4.cell? ⟨wr.heap.size, 3, none⟩ = some (.int .i64 x.ddl) := (o3.keep b4).cell 3
                have d5 : w4.cell? ⟨wr.heap.size, 5, none⟩ = some (.int .i64 x.line) := (o3.keep b4).cell 5
                have g3' := cell_keep (Ext.trans e3' b4) v3'
                have g5' := cell_keep (Ext.trans e3' b4) v5'
                have gx := cell_keep (Ext.trans e3' b4) hcg'
                have e4 := Ext.trans (Ext.trans q2 e3') b4
                have r4 := r3.keep b4
                clear o3
                go_wp2
                refine wp_region_dep (S := Ext) (C := Ext (w4)) (by kernel_rfl) (by kernel_rfl) rfl Ext.refl (Ext.drew _) ?_
                repeat (refine dep_det (by rfl) (fun K hK => ?_); go_simp; first
                  | ((with_reducible refine hK _ ?_); clear hK K)
                  | (rw [if_neg (by decide)]; (with_reducible refine hK _ ?_); clear hK K)
                  | (refine ⟨_, fun w1 hw1 => ⟨Ext.refl w1, hw1, rfl⟩, hK _ ?_⟩; clear hK K)
                  | (apply Exists.intro; refine ⟨fun w1 hw1 => ?_, hK _ ?_⟩
                     first
                       | (have c_d2 := cell_keep hw1 d2; have c_d3 := cell_keep hw1 d3; have c_d5 := cell_keep hw1 d5; have c_g3' := cell_keep hw1 g3'; have c_g5' := cell_keep hw1 g5'; have c_gx := cell_keep hw1 gx; go_simp; first | exact ⟨Ext.refl _, hw1, rfl⟩ | exact ⟨Ext.refl _, rfl⟩)
                     clear hK K))
                refine dep_nil ?_
                intro a' w' hC hE
                obtain rfl := atEnd_nil hE
                clear hE
                have e5 := Ext.trans e4 hC
                have r5 := r4.keep hC
                clear d2 d3 d5 g3' g5' gx hC
                go_wp2
                go_ret2
                exact AdmPost.no HB2.out HR.out (Ext.trans bV e5)
              · have HO2 : Hid (okTo ts ms gs dog (k + 1) = true) := Lib.hid (by rw [HOS.out, HD.out]; simp [hgp, hdg])
                clear hl
                go_wp2_with (first
                  | (refine wpl_load_rd _ rfl 47 _ rfl (by kernel_rfl) 8 size_task b0 (off + k * 8) rfl [.int .i64 x.cls, .int .i64 x.lvl, .int .i64 x.per, .int .i64 x.ddl, .int .i64 x.bud, .int .i64 x.line, .slice x.U x.un x.uc, .slice x.O x.on x.oc] rfl he ?_)
                  | (refine wpl_alloc_own _ rfl 47 rfl ztk zero_task ?_; intro w2 o2 b2 s2; clear s2)
                  | (refine wpl_store_own _ rfl 47 _ _ rfl 8 size_task _ rfl [.int .i64 x.cls, .int .i64 x.lvl, .int .i64 x.per, .int .i64 x.ddl, .int .i64 x.bud, .int .i64 x.line, .slice x.U x.un x.uc, .slice x.O x.on x.oc] rfl _ _ o2 rfl rfl (TK.one x) ?_; intro w3' o3 g3 s3; clear s3; have e3' := below_of_grown b2 g3 (Nat.le_refl _) b2.size; have oW3 := oVr.keep e3'; have r3 := (q1.keep b2).grown g3 hne)
                  | (refine wpl_load_own _ rfl 27 _ rfl (by kernel_rfl) 6 size_conf _ rfl _ _ oW3 rfl ?_))
                refine (HCR.out _ (Ext.trans (Ext.trans bV q2) e3')).mono ?_
                rintro e w4 ⟨rfl, b4⟩
                have d2 : w4.cell? ⟨wr.heap.size, 2, none⟩ = some (.int .i64 x.per) := (o3.keep b4).cell 2
                have d3 : w4.cell? ⟨wr.heap.size, 3, none⟩ = some (.int .i64 x.ddl) := (o3.keep b4).cell 3
                have d5 : w4.cell? ⟨wr.heap.size, 5, none⟩ = some (.int .i64 x.line) := (o3.keep b4).cell 5
                have g3' := cell_keep (Ext.trans e3' b4) v3'
                have g5' := cell_keep (Ext.trans e3' b4) v5'
                have gx := cell_keep (Ext.trans e3' b4) hcg'
                have e4 := Ext.trans (Ext.trans q2 e3') b4
                have r4 := r3.keep b4
                clear o3
                go_wp2
                refine wp_region_dep (S := Ext) (C := Ext (w4)) (by kernel_rfl) (by kernel_rfl) rfl Ext.refl (Ext.drew _) ?_
                repeat (refine dep_det (by rfl) (fun K hK => ?_); go_simp; first
                  | ((with_reducible refine hK _ ?_); clear hK K)
                  | (rw [if_neg (by decide)]; (with_reducible refine hK _ ?_); clear hK K)
                  | (refine ⟨_, fun w1 hw1 => ⟨Ext.refl w1, hw1, rfl⟩, hK _ ?_⟩; clear hK K)
                  | (apply Exists.intro; refine ⟨fun w1 hw1 => ?_, hK _ ?_⟩
                     first
                       | (have c_d2 := cell_keep hw1 d2; have c_d3 := cell_keep hw1 d3; have c_d5 := cell_keep hw1 d5; have c_g3' := cell_keep hw1 g3'; have c_g5' := cell_keep hw1 g5'; have c_gx := cell_keep hw1 gx; go_simp; first | exact ⟨Ext.refl _, hw1, rfl⟩ | exact ⟨Ext.refl _, rfl⟩)
                     clear hK K))
                refine dep_nil ?_
                intro a' w' hC hE
                obtain rfl := atEnd_nil hE
                clear hE
                have e5 := Ext.trans e4 hC
                have r5 := r4.keep hC
                clear d2 d3 d5 g3' g5' gx hC
                have HP := Lib.hid (show ints R0 ++ ints [r] = ints R1 by rw [HRN.out]; exact ints_app' _ _)
                go_wp2_with (at_builtin; have r7 := (r5.alloc (.cells #[.int .i64 r] 3)); refine wpl_append _ rfl (.tmp 51) (.tmp 53) 25 rfl 3 i0 _ 1 8 Try.underlying25 HI.out hz0 hz1 hz2 rfl (by omega) w3.heap.size S k c1 _ rfl r7 _ 1 1 (ints [r]) rfl rfl (rd1i _ _) (ints_one _) (k + 1) _ rfl HP.out (by omega) (by omega) (by simp; have := e5.size; omega) ?_; intro A2 c2 w6 o6 g6 k6)
                have e6 := below_grown (Ext.trans e5 (Ext.alloc w' (.cells #[.int .i64 r] 3))) g6 (by simp; have := e5.size; omega) (fun g' hg' => (q1.at_ g' hg').1)
                go_roundw
                case rel => exact ⟨k + 1, A2, c2, rfl, by go_num, by omega, HO2, by rw [HR1.out]; exact o6, e6⟩
                case measure => simp [intOf]; omega
          · have hl2 : decide (0 ≤ x.line) = false := by simp; omega
            by_cases hdg : dog ≤ x.ddl
            · have HF := Lib.hid (HON.out (by unfold okOf; simp [hl, hdg]))
              have HB2 := Lib.hid (by rw [HB.out]; exact HF.out : admB nt nb nm ng ts bs ms gs fr dog = false)
              have HR := Lib.hid (by rw [HRR.out, HB2.out]; rfl : admR nt nb nm ng ts bs ms gs fr dog = [])
              go_wp2_with (first
                | (refine wpl_load_rd _ rfl 47 _ rfl (by kernel_rfl) 8 size_task b0 (off + k * 8) rfl [.int .i64 x.cls, .int .i64 x.lvl, .int .i64 x.per, .int .i64 x.ddl, .int .i64 x.bud, .int .i64 x.line, .slice x.U x.un x.uc, .slice x.O x.on x.oc] rfl he ?_)
                | (refine wpl_alloc_own _ rfl 47 rfl ztk zero_task ?_; intro w2 o2 b2 s2; clear s2)
                | (refine wpl_store_own _ rfl 47 _ _ rfl 8 size_task _ rfl [.int .i64 x.cls, .int .i64 x.lvl, .int .i64 x.per, .int .i64 x.ddl, .int .i64 x.bud, .int .i64 x.line, .slice x.U x.un x.uc, .slice x.O x.on x.oc] rfl _ _ o2 rfl rfl (TK.one x) ?_; intro w3' o3 g3 s3; clear s3; have e3' := below_of_grown b2 g3 (Nat.le_refl _) b2.size; have oW3 := oVr.keep e3'; have r3 := (q1.keep b2).grown g3 hne)
                | (refine wpl_load_own _ rfl 27 _ rfl (by kernel_rfl) 6 size_conf _ rfl _ _ oW3 rfl ?_))
              refine (HCR.out _ (Ext.trans (Ext.trans bV q2) e3')).mono ?_
              rintro e w4 ⟨rfl, b4⟩
              have d2 : w4.cell? ⟨wr.heap.size, 2, none⟩ = some (.int .i64 x.per) := (o3.keep b4).cell 2
              have d3 : w4.cell? ⟨wr.heap.size, 3, none⟩ = some (.int .i64 x.ddl) := (o3.keep b4).cell 3
              have d5 : w4.cell? ⟨wr.heap.size, 5, none⟩ = some (.int .i64 x.line) := (o3.keep b4).cell 5
              have g3' := cell_keep (Ext.trans e3' b4) v3'
              have g5' := cell_keep (Ext.trans e3' b4) v5'
              have e4 := Ext.trans (Ext.trans q2 e3') b4
              have r4 := r3.keep b4
              clear o3
              go_wp2
              refine wp_region_dep (S := Ext) (C := Ext (w4)) (by kernel_rfl) (by kernel_rfl) rfl Ext.refl (Ext.drew _) ?_
              repeat (refine dep_det (by rfl) (fun K hK => ?_); go_simp; first
                | ((with_reducible refine hK _ ?_); clear hK K)
                | (rw [if_neg (by decide)]; (with_reducible refine hK _ ?_); clear hK K)
                | (refine ⟨_, fun w1 hw1 => ⟨Ext.refl w1, hw1, rfl⟩, hK _ ?_⟩; clear hK K)
                | (apply Exists.intro; refine ⟨fun w1 hw1 => ?_, hK _ ?_⟩
                   first
                     | (have c_d2 := cell_keep hw1 d2; have c_d3 := cell_keep hw1 d3; have c_d5 := cell_keep hw1 d5; have c_g3' := cell_keep hw1 g3'; have c_g5' := cell_keep hw1 g5'; go_simp; first | exact ⟨Ext.refl _, hw1, rfl⟩ | exact ⟨Ext.refl _, rfl⟩)
                   clear hK K))
              refine dep_nil ?_
              intro a' w' hC hE
              obtain rfl := atEnd_nil hE
              clear hE
              have e5 := Ext.trans e4 hC
              have r5 := r4.keep hC
              clear d2 d3 d5 g3' g5' hC
              go_wp2
              go_ret2
              exact AdmPost.no HB2.out HR.out (Ext.trans bV e5)
            · have HO2 : Hid (okTo ts ms gs dog (k + 1) = true) := Lib.hid (by rw [HOS.out]; unfold okOf; simp [hl, hdg])
              go_wp2_with (first
                | (refine wpl_load_rd _ rfl 47 _ rfl (by kernel_rfl) 8 size_task b0 (off + k * 8) rfl [.int .i64 x.cls, .int .i64 x.lvl, .int .i64 x.per, .int .i64 x.ddl, .int .i64 x.bud, .int .i64 x.line, .slice x.U x.un x.uc, .slice x.O x.on x.oc] rfl he ?_)
                | (refine wpl_alloc_own _ rfl 47 rfl ztk zero_task ?_; intro w2 o2 b2 s2; clear s2)
                | (refine wpl_store_own _ rfl 47 _ _ rfl 8 size_task _ rfl [.int .i64 x.cls, .int .i64 x.lvl, .int .i64 x.per, .int .i64 x.ddl, .int .i64 x.bud, .int .i64 x.line, .slice x.U x.un x.uc, .slice x.O x.on x.oc] rfl _ _ o2 rfl rfl (TK.one x) ?_; intro w3' o3 g3 s3; clear s3; have e3' := below_of_grown b2 g3 (Nat.le_refl _) b2.size; have oW3 := oVr.keep e3'; have r3 := (q1.keep b2).grown g3 hne)
                | (refine wpl_load_own _ rfl 27 _ rfl (by kernel_rfl) 6 size_conf _ rfl _ _ oW3 rfl ?_))
              refine (HCR.out _ (Ext.trans (Ext.trans bV q2) e3')).mono ?_
              rintro e w4 ⟨rfl, b4⟩
              have d2 : w4.cell? ⟨wr.heap.size, 2, none⟩ = some (.int .i64 x.per) := (o3.keep b4).cell 2
              have d3 : w4.cell? ⟨wr.heap.size, 3, none⟩ = some (.int .i64 x.ddl) := (o3.keep b4).cell 3
              have d5 : w4.cell? ⟨wr.heap.size, 5, none⟩ = some (.int .i64 x.line) := (o3.keep b4).cell 5
              have g3' := cell_keep (Ext.trans e3' b4) v3'
              have g5' := cell_keep (Ext.trans e3' b4) v5'
              have e4 := Ext.trans (Ext.trans q2 e3') b4
              have r4 := r3.keep b4
              clear o3
              go_wp2
              refine wp_region_dep (S := Ext) (C := Ext (w4)) (by kernel_rfl) (by kernel_rfl) rfl Ext.refl (Ext.drew _) ?_
              repeat (refine dep_det (by rfl) (fun K hK => ?_); go_simp; first
                | ((with_reducible refine hK _ ?_); clear hK K)
                | (rw [if_neg (by decide)]; (with_reducible refine hK _ ?_); clear hK K)
                | (refine ⟨_, fun w1 hw1 => ⟨Ext.refl w1, hw1, rfl⟩, hK _ ?_⟩; clear hK K)
                | (apply Exists.intro; refine ⟨fun w1 hw1 => ?_, hK _ ?_⟩
                   first
                     | (have c_d2 := cell_keep hw1 d2; have c_d3 := cell_keep hw1 d3; have c_d5 := cell_keep hw1 d5; have c_g3' := cell_keep hw1 g3'; have c_g5' := cell_keep hw1 g5'; go_simp; first | exact ⟨Ext.refl _, hw1, rfl⟩ | exact ⟨Ext.refl _, rfl⟩)
                   clear hK K))
              refine dep_nil ?_
              intro a' w' hC hE
              obtain rfl := atEnd_nil hE
              clear hE
              have e5 := Ext.trans e4 hC
              have r5 := r4.keep hC
              clear d2 d3 d5 g3' g5' hC
              have HP := Lib.hid (show ints R0 ++ ints [r] = ints R1 by rw [HRN.out]; exact ints_app' _ _)
              go_wp2_with (at_builtin; have r7 := (r5.alloc (.cells #[.int .i64 r] 3)); refine wpl_append _ rfl (.tmp 51) (.tmp 53) 25 rfl 3 i0 _ 1 8 Try.underlying25 HI.out hz0 hz1 hz2 rfl (by omega) w3.heap.size S k c1 _ rfl r7 _ 1 1 (ints [r]) rfl rfl (rd1i _ _) (ints_one _) (k + 1) _ rfl HP.out (by omega) (by omega) (by simp; have := e5.size; omega) ?_; intro A2 c2 w6 o6 g6 k6)
              have e6 := below_grown (Ext.trans e5 (Ext.alloc w' (.cells #[.int .i64 r] 3))) g6 (by simp; have := e5.size; omega) (fun g' hg' => (q1.at_ g' hg').1)
              go_roundw
              case rel => exact ⟨k + 1, A2, c2, rfl, by go_num, by omega, HO2, by rw [HR1.out]; exact o6, e6⟩
              case measure => simp [intOf]; omega
      · obtain rfl : nt = k := by omega
        have hB2 : admB nt nb nm ng ts bs ms gs fr dog = true := by rw [HB.out]; exact HOK.out
        have hR2 : admR nt nb nm ng ts bs ms gs fr dog = respTo ts ms gs nt := by rw [HRR.out, if_pos hB2]
        have hlen := respTo_len ts ms gs nt
        have HP := Lib.hid (show AdmPost (admB nt nb nm ng ts bs ms gs fr dog) (admR nt nb nm ng ts bs ms gs fr dog) w (.returned (.tuple #[.bool true, .slice S nt c1])) wr from ⟨S, c1, by rw [hB2, hR2, hlen], by rw [hR2]; exact q1.rd, Ext.trans bV q2⟩)
        clear hB2 hR2 hlen
        go_wp2
        go_ret2
        exact HP.out

end Go.Proofs.Ytdninhdabeddeaa
