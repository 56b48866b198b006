/-
  WALKS of package ideal: Acyclic, great, Right.
-/
import Derived.Test.YtpaoolcnoflhiaaIdlC
namespace Go.Proofs.Ytpaoolcnoflhiaa
open Go.RowKit
attribute [local go_sem] depUpon Sp.ok

def iacy (ths : List TH) (os : List Int) : Bool := gacyclic (ths.map waitOf) os ths.length

set_option maxRecDepth 100000 in
set_option maxHeartbeats 2000000 in
theorem i_acyclic (tick : Int) (A : Option Addr) (n c : Nat) (B : Option Addr) (nb cb : Nat) (P : Option Addr) (np cp : Nat) (F : Option Addr) (nf cf : Nat) (ths : List TH) (os : List Int) (w : World) (h : ViewArg w A n ths B nb os) (hn : n ≤ 60000) :
    Calls Try.prog 12 #[.agg #[.int .i64 tick, .slice A n c, .slice B nb cb, .slice P np cp, .slice F nf cf]] w fun e w' => e = .returned (.bool (iacy ths os)) ∧ Below w.heap.size w w' := by
  have HV := Lib.hid h
  have HL := Lib.hid h.len
  have oV := (Own.new w 26 [.int .i64 tick, .slice A n c, .slice B nb cb, .slice P np cp, .slice F nf cf])
  have h1 := oV.cell 1
  have h2 := oV.cell 2
  have h0 := oV.cell 0
  have h3 := oV.cell 3
  have h4 := oV.cell 4
  simp only [List.getElem?_cons_zero, List.getElem?_cons_succ] at h0 h1 h2 h3 h4
  have hb0 : Ext w (w.alloc (.cells #[.int .i64 tick, .slice A n c, .slice B nb cb, .slice P np cp, .slice F nf cf] 26)) := Ext.alloc _ _
  have hI : iacy ths os = gacyclic (ths.map waitOf) os (n : Int) := by unfold iacy; rw [h.len]
  clear h oV
  generalize iacy ths os = q at *
  have HI := Lib.hid hI
  clear hI
  go_enter Try.func12, Try.ntmps12
  go_wp2
  refine wp_region_dep (S := Ext) (C := Ext (w.alloc (.cells #[.int .i64 tick, .slice A n c, .slice B nb cb, .slice P np cp, .slice F nf cf] 26))) (by kernel_rfl) (by kernel_rfl) rfl Ext.refl (Ext.drew _) ?_
  repeat (refine dep_det (by rfl) (fun K hK => ?_); go_simp; first
    | ((with_reducible refine hK _ ?_); clear hK K)
    | (rw [if_neg (by decide)]; (with_reducible refine hK _ ?_); clear hK K)
    | (refine ⟨_, fun w1 hw1 => ⟨Ext.refl w1, hw1, rfl⟩, hK _ ?_⟩; clear hK K)
    | (apply Exists.intro; refine ⟨fun w1 hw1 => ?_, hK _ ?_⟩
       first
         | (have c_h0 := cell_keep hw1 h0; have c_h1 := cell_keep hw1 h1; have c_h2 := cell_keep hw1 h2; have c_h3 := cell_keep hw1 h3; have c_h4 := cell_keep hw1 h4; go_simp; first | exact ⟨Ext.refl _, hw1, rfl⟩ | exact ⟨Ext.refl _, rfl⟩)
       clear hK K))
  refine dep_var (RdSl (ints (ths.map waitOf)) n) 4 rfl (by rfl) RdSl.keep (by go_simp) (fun w1 hw1 => ?_) ?_
  · go_simp
    refine (i_waits tick A n c B nb cb P np cp F nf cf ths os w1 (HV.out.keep (Ext.trans hb0 hw1)) hn).mono ?_
    rintro e w' ⟨S', c', rfl, hr, hb'⟩
    exact ⟨_, rfl, hb', Ext.trans hw1 hb', S', c', rfl, hr.rd⟩
  repeat (refine dep_det (by rfl) (fun K hK => ?_); go_simp; first
    | ((with_reducible refine hK _ ?_); clear hK K)
    | (rw [if_neg (by decide)]; (with_reducible refine hK _ ?_); clear hK K)
    | (refine ⟨_, fun w1 hw1 => ⟨Ext.refl w1, hw1, rfl⟩, hK _ ?_⟩; clear hK K)
    | (apply Exists.intro; refine ⟨fun w1 hw1 => ?_, hK _ ?_⟩
       first
         | (have c_h0 := cell_keep hw1 h0; have c_h1 := cell_keep hw1 h1; have c_h2 := cell_keep hw1 h2; have c_h3 := cell_keep hw1 h3; have c_h4 := cell_keep hw1 h4; go_simp; first | exact ⟨Ext.refl _, hw1, rfl⟩ | exact ⟨Ext.refl _, rfl⟩)
       clear hK K))
  refine dep_det1 4 _ (by rfl) (by intro V' h; simpa using h) (List.mem_cons_self ..) (by first | (simp; done) | simp [Act.put]) (fun K hK => ?_)
  apply Exists.intro
  refine ⟨fun w1 v hw1 hV => ?_, hK _ ?_⟩
  · obtain ⟨S', c', rfl, hr⟩ := hV
    go_simp
    refine (g_acyclic S' n c' (ths.map waitOf) B nb cb os (n : Int) w1 ⟨hr, by simp [HL.out], HV.out.own.rd.keep (Ext.trans hb0 hw1), HV.out.own.len⟩ (by omega)).mono ?_
    rintro e w' ⟨rfl, hb'⟩
    exact ⟨_, rfl, hb', Ext.trans hw1 hb', rfl⟩
  clear hK K
  repeat (refine dep_det (by rfl) (fun K hK => ?_); go_simp; first
    | ((with_reducible refine hK _ ?_); clear hK K)
    | (rw [if_neg (by decide)]; (with_reducible refine hK _ ?_); clear hK K)
    | (refine ⟨_, fun w1 hw1 => ⟨Ext.refl w1, hw1, rfl⟩, hK _ ?_⟩; clear hK K)
    | (apply Exists.intro; refine ⟨fun w1 hw1 => ?_, hK _ ?_⟩
       first
         | (have c_h0 := cell_keep hw1 h0; have c_h1 := cell_keep hw1 h1; have c_h2 := cell_keep hw1 h2; have c_h3 := cell_keep hw1 h3; have c_h4 := cell_keep hw1 h4; go_simp; first | exact ⟨Ext.refl _, hw1, rfl⟩ | exact ⟨Ext.refl _, rfl⟩)
       clear hK K))
  refine dep_nil ?_
  intro a' w' hC hE
  obtain ⟨v, ⟨S1, d1, rfl, p1⟩, hE⟩ := atEnd_cons hE (by simp) (by first | (simp; done) | simp [Act.put])
  obtain rfl := atEnd_nil hE
  clear hE
  go_wp2
  go_ret
  exact ⟨by rw [HI.out]; rfl, Ext.trans hb0 hC⟩

/-- A bool came back; 'false' says that the view is small. -/
def GP (n : Nat) (e : Ending) : Prop := ∃ b : Bool, e = .returned (.bool b) ∧ (b = false → n ≤ 25)

set_option maxRecDepth 100000 in
set_option maxHeartbeats 2000000 in
theorem l_igreat (tick : Int) (A : Option Addr) (n c : Nat) (B : Option Addr) (nb cb : Nat) (P : Option Addr) (np cp : Nat) (F : Option Addr) (nf cf : Nat) (ths : List TH) (os : List Int) (w : World) (h : ViewArg w A n ths B nb os) :
    Calls Try.prog 5 #[.agg #[.int .i64 tick, .slice A n c, .slice B nb cb, .slice P np cp, .slice F nf cf]] w fun e w' => GP n e ∧ Below w.heap.size w w' := by
  have HV := Lib.hid h
  have HL := Lib.hid h.len
  have oV := (Own.new w 26 [.int .i64 tick, .slice A n c, .slice B nb cb, .slice P np cp, .slice F nf cf])
  have h1 := oV.cell 1
  have h2 := oV.cell 2
  simp only [List.getElem?_cons_zero, List.getElem?_cons_succ] at h1 h2
  have hb0 : Ext w (w.alloc (.cells #[.int .i64 tick, .slice A n c, .slice B nb cb, .slice P np cp, .slice F nf cf] 26)) := Ext.alloc _ _
  have hmax := h.max
  clear h oV
  by_cases hbig : (25 : Int) < (n : Int)
  · go_enter Try.func5, Try.ntmps5
    go_wp2
    go_ret
    exact ⟨⟨true, rfl, fun h => by cases h⟩, hb0⟩
  have hsm : n ≤ 25 := by omega
  by_cases hbig2 : (25 : Int) < (nb : Int)
  · go_enter Try.func5, Try.ntmps5
    go_wp2
    go_ret
    exact ⟨⟨_, rfl, fun _ => hsm⟩, hb0⟩
  go_enter Try.func5, Try.ntmps5
  go_wp2
  go_loop [3] (fun i => ∃ k : Nat, k ≤ n ∧ i = .int .i64 k) (fun i => n - (intOf i).toNat)
  case atStart => exact ⟨0, by omega, rfl⟩
  case round =>
    obtain ⟨k, hk, rfl⟩ := hrel
    by_cases hlt : k < n
    · have hkl : k < ths.length := by rw [HL.out]; exact hlt
      obtain ⟨b, off, rfl, he⟩ := (HV.out.keep hb0).thread hkl
      obtain ⟨H, hc, hh⟩ := (HV.out.ok _ (List.getElem_mem hkl)).h
      have d20 := he 20 _ hh
      have i0' : (0 : Int) ≤ (k : Int) := by omega
      have i1' : (k : Int) < (n : Int) := by omega
      clear he hh
      generalize ths[k].hn = m at *
      clear hkl
      by_cases h12 : (12 : Int) < (m : Int)
      · go_wp2
        go_ret
        exact ⟨⟨_, rfl, fun _ => hsm⟩, hb0⟩
      · go_wp2
        go_round
        case rel => exact ⟨k + 1, by omega, by go_num⟩
        case measure => simp [intOf]; omega
    · obtain rfl : k = n := by omega
      go_wp2
      go_ret
      exact ⟨⟨_, rfl, fun _ => hsm⟩, hb0⟩

end Go.Proofs.Ytpaoolcnoflhiaa
