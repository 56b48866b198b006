/-
  THE STATEMENT AdmitTells: the walk.
-/
import Derived.Test.YtdninhdabeddeaaRefJ
namespace Go.Proofs.Ytdninhdabeddeaa
open Go.RowKit
attribute [local go_sem] depUpon Sp.ok

theorem tells_key (A : Option Addr) (nt ct : Nat) (ts : List TK) (B : Option Addr) (nb cb : Nat) (bs : List EF) (M : Option Addr) (nm cm : Nat) (ms : List (Int × Int)) (G : Option Addr) (ng cg : Nat) (gs : List Int) (fr dog : Int) (tk : Int) (w : World) (h : ConfArg w A nt ts B nb bs M nm ms G ng gs fr dog) (h12 : nm ≤ 65536) :
    ∃ (bl : Int) (PA : List (Int × Int)) (rv : Int × Bool), PA.length ≤ 65536 ∧ (∀ w', Ext w w' → Calls Try.prog 12 #[.agg #[.slice A nt ct, .slice B nb cb, .slice M nm cm, .slice G ng cg, .int .i64 fr, .int .i64 dog], .int .i64 tk] w' fun e w'' => e = .returned (.int .i64 bl) ∧ Below w'.heap.size w' w'') ∧ (∀ w', Ext w w' → Calls Try.prog 13 #[.agg #[.slice A nt ct, .slice B nb cb, .slice M nm cm, .slice G ng cg, .int .i64 fr, .int .i64 dog], .int .i64 tk] w' fun e w'' => e = .returned (.int .i64 bl) ∧ Below w'.heap.size w' w'') ∧ (∀ w', Ext w w' → Calls Try.prog 14 #[.agg #[.slice A nt ct, .slice B nb cb, .slice M nm cm, .slice G ng cg, .int .i64 fr, .int .i64 dog], .int .i64 tk] w' fun e w'' => ∃ S c', e = .returned (.slice S PA.length c') ∧ Rd w'' S (pairs PA) ∧ Below w'.heap.size w' w'') ∧ (∀ w', Ext w w' → Calls Try.prog 15 #[.agg #[.slice A nt ct, .slice B nb cb, .slice M nm cm, .slice G ng cg, .int .i64 fr, .int .i64 dog], .int .i64 tk] w' fun e w'' => ∃ S c', e = .returned (.slice S PA.length c') ∧ Rd w'' S (pairs PA) ∧ Below w'.heap.size w' w'') ∧ (∀ w', Ext w w' → Calls Try.prog 16 #[.agg #[.slice A nt ct, .slice B nb cb, .slice M nm cm, .slice G ng cg, .int .i64 fr, .int .i64 dog], .int .i64 tk] w' fun e w'' => e = .returned (.tuple #[.int .i64 rv.1, .bool rv.2]) ∧ Below w'.heap.size w' w'') ∧ (∀ w', Ext w w' → Calls Try.prog 17 #[.agg #[.slice A nt ct, .slice B nb cb, .slice M nm cm, .slice G ng cg, .int .i64 fr, .int .i64 dog], .int .i64 tk] w' fun e w'' => e = .returned (.tuple #[.int .i64 rv.1, .bool rv.2]) ∧ Below w'.heap.size w' w'') := by
  by_cases hv : 0 ≤ tk ∧ tk < (nt : Int) ∧ mayC nt nb nm ng ts bs ms gs fr dog = true
  · obtain ⟨k0, k1, hm⟩ := hv
    obtain ⟨k, rfl⟩ : ∃ k : Nat, tk = (k : Int) := ⟨tk.toNat, by omega⟩
    obtain ⟨n8, _, n4, _, _, _, _⟩ := may_conf hm
    have hTL := h.tasks.len
    have hGL := h.gaps.len
    have hk : k < ts.length := by omega
    refine ⟨blkV ts ms ts[k], partsV ts gs (k : Int) ts[k], respV ts ms gs k ts[k], ?_, fun w' h' => ?_, fun w' h' => ?_, fun w' h' => ?_, fun w' h' => ?_, fun w' h' => ?_, fun w' h' => ?_⟩
    · have := partsV_len (ts := ts) (gs := gs) (i := (k : Int)) (x := ts[k]) (by omega) (by omega)
      omega
    · exact a_block_yes A nt ct ts B nb cb bs M nm cm ms G ng cg gs fr dog k ts[k] w' (h.keep h') hk rfl hm h12
    · exact r_block_yes A nt ct ts B nb cb bs M nm cm ms G ng cg gs fr dog k ts[k] w' (h.keep h') hk rfl hm h12
    · exact a_parts_yes A nt ct ts B nb cb bs M nm cm ms G ng cg gs fr dog k ts[k] w' (h.keep h') hk rfl hm h12
    · exact r_parts_yes A nt ct ts B nb cb bs M nm cm ms G ng cg gs fr dog k ts[k] w' (h.keep h') hk rfl hm h12
    · exact a_resp_yes A nt ct ts B nb cb bs M nm cm ms G ng cg gs fr dog k ts[k] w' (h.keep h') hk rfl hm h12
    · exact r_resp_yes A nt ct ts B nb cb bs M nm cm ms G ng cg gs fr dog k ts[k] w' (h.keep h') hk rfl hm h12
  · refine ⟨0, [], (0, false), by simp, fun w' h' => ?_, fun w' h' => ?_, fun w' h' => ?_, fun w' h' => ?_, fun w' h' => ?_, fun w' h' => ?_⟩
    · exact a_block_no A nt ct ts B nb cb bs M nm cm ms G ng cg gs fr dog tk w' (h.keep h') hv h12
    · exact r_block_no A nt ct ts B nb cb bs M nm cm ms G ng cg gs fr dog tk w' (h.keep h') hv h12
    · exact (a_parts_no A nt ct ts B nb cb bs M nm cm ms G ng cg gs fr dog tk w' (h.keep h') hv h12).mono fun e w1 ⟨h1, h2⟩ => ⟨none, 0, h1, Rd.nil _ _, h2⟩
    · exact (r_parts_no A nt ct ts B nb cb bs M nm cm ms G ng cg gs fr dog tk w' (h.keep h') hv h12).mono fun e w1 ⟨h1, h2⟩ => ⟨none, 0, h1, Rd.nil _ _, h2⟩
    · exact a_resp_no A nt ct ts B nb cb bs M nm cm ms G ng cg gs fr dog tk w' (h.keep h') hv h12
    · exact r_resp_no A nt ct ts B nb cb bs M nm cm ms G ng cg gs fr dog tk w' (h.keep h') hv h12
theorem Row.overKeep {w w' : World} {base n c size : Nat} {e : TypeId} {A A' : Option Addr} {xs : List Value} (h : Row w base e size A n c xs) (hk : ∀ g t ys, blk A' ≠ some g → Own w g t ys → Own w' g t ys) (hne : ∀ g, blk A = some g → blk A' ≠ some g) : Row w' base e size A n c xs := by
  refine ⟨h.1, ?_⟩
  rcases h.2 with hn | ⟨g, cap, cur, hv, hg, hc, rest⟩
  · exact .inl hn
  · refine .inr ⟨g, cap, cur, hv, hg, ?_, rest⟩
    have ho : Own w g e cur.toList := by unfold Own; rw [Array.toArray_toList]; exact hc
    injection hv with hv
    have hb : blk A = some g := by rw [hv]; rfl
    have h2 := hk g e cur.toList (hne g hb) ho
    unfold Own at h2
    rw [Array.toArray_toList] at h2
    exact h2

set_option maxRecDepth 100000 in
set_option maxHeartbeats 8000000 in
theorem law_admittells (A : Option Addr) (nt ct : Nat) (ts : List TK) (B : Option Addr) (nb cb : Nat) (bs : List EF) (M : Option Addr) (nm cm : Nat) (ms : List (Int × Int)) (G : Option Addr) (ng cg : Nat) (gs : List Int) (fr dog : Int) (tk : Int) (w : World) (h : ConfArg w A nt ts B nb bs M nm ms G ng gs fr dog) (_ : nt ≤ ct ∧ nb ≤ cb ∧ nm ≤ cm ∧ ng ≤ cg) (_ : I64 tk) :
    Calls Try.prog 3 #[.agg #[.slice A nt ct, .slice B nb cb, .slice M nm cm, .slice G ng cg, .int .i64 fr, .int .i64 dog], .int .i64 tk] w fun e w' => e = .returned (.bool true) ∧ Below w.heap.size w w' := by
  have HG := Lib.hid (fun w' (h' : Ext w w') => l_conf A nt ct ts B nb cb bs M nm cm ms G ng cg gs fr dog w' (h.keep h'))
  have HAW := Lib.hid (fun w => adm_awake w)
  have oV := Own.new w 27 [.slice A nt ct, .slice B nb cb, .slice M nm cm, .slice G ng cg, .int .i64 fr, .int .i64 dog]
  have bV : Ext w (w.alloc (.cells #[.slice A nt ct, .slice B nb cb, .slice M nm cm, .slice G ng cg, .int .i64 fr, .int .i64 dog] 27)) := Ext.alloc _ _
  have HH := Lib.hid h
  clear h
  go_enter Try.func3, Try.ntmps3
  go_wp2_with (refine wpl_load_w _ ?_ 27 _ rfl (by kernel_rfl) 6 size_conf _ rfl _ _ oV rfl ?_; focus (go_simp; done))
  refine (HG.out _ bV).mono ?_
  rintro e w1 ⟨⟨b, rfl, hs⟩, b1⟩
  replace oV := oV.keep b1
  replace bV := Ext.trans bV b1
  cases b
  case true =>
    clear hs oV
    go_wp2_with ((with_reducible go_at_call 9); (with_reducible refine (HAW.out _).mono ?_); rintro e w2 ⟨rfl, b2⟩)
    go_ret
    exact ⟨rfl, Ext.trans bV b2⟩
  obtain ⟨n12, nb12, nm12, ng12⟩ := hs rfl
  clear hs HG b1
  obtain ⟨bl, PA, rv, hpl, k1, k2, k3, k4, k5, k6⟩ := tells_key A nt ct ts B nb cb bs M nm cm ms G ng cg gs fr dog tk w HH.out (by omega)
  have K1 := Lib.hid k1
  have K2 := Lib.hid k2
  have K3 := Lib.hid k3
  have K4 := Lib.hid k4
  have K5 := Lib.hid k5
  have K6 := Lib.hid k6
  clear k1 k2 k3 k4 k5 k6
  have hm1 := fun w' (h' : Ext w w') => a_may A nt ct ts B nb cb bs M nm cm ms G ng cg gs fr dog w' (HH.out.keep h') (by omega)
  have hm2 := fun w' (h' : Ext w w') => r_may A nt ct ts B nb cb bs M nm cm ms G ng cg gs fr dog w' (HH.out.keep h') (by omega)
  generalize mayC nt nb nm ng ts bs ms gs fr dog = qm at *
  have HM1 := Lib.hid hm1
  have HM2 := Lib.hid hm2
  have ha1 := fun w' (h' : Ext w w') => a_admit2 A nt ct ts B nb cb bs M nm cm ms G ng cg gs fr dog w' (HH.out.keep h') (by omega)
  have ha2 := fun w' (h' : Ext w w') => r_admit2 A nt ct ts B nb cb bs M nm cm ms G ng cg gs fr dog w' (HH.out.keep h') (by omega)
  generalize hLL : admR nt nb nm ng ts bs ms gs fr dog = L at *
  have hLn : L.length ≤ 12 := by
    rw [← hLL]; unfold admR
    split
    · rw [respTo_len]; exact n12
    · simp
  generalize admB nt nb nm ng ts bs ms gs fr dog = qa at *
  have HA1 := Lib.hid ha1
  have HA2 := Lib.hid ha2
  obtain ⟨r, ok⟩ := rv
  have tneq : ((bl : Int) != bl) = false := by simp
  have tneqb : (qm != qm) = false := by simp
  clear hm1 hm2 ha1 ha2 hLL HH
  obtain ⟨wq, rfl⟩ : ∃ wq : World, wq = w1 := ⟨_, rfl⟩
  have OV := Lib.hid oV
  go_wp2
  cases qm
  all_goals
    refine wp_region_dep (S := Ext) (C := Ext (wq)) (by kernel_rfl) (by kernel_rfl) rfl Ext.refl (Ext.drew _) ?_
    refine dep_load_rd (by rfl) 27 _ rfl (by kernel_rfl) 6 size_conf w.heap.size 0 (by rfl) [.slice A nt ct, .slice B nb cb, .slice M nm cm, .slice G ng cg, .int .i64 fr, .int .i64 dog] rfl (by go_simp) Ext.refl (fun w1 hw1 j v hv => by rw [Nat.zero_add, (OV.out.keep hw1).cell j]; exact hv) ?_
    repeat (refine dep_det (by rfl) (fun K hK => ?_); go_simp; first
      | ((with_reducible refine hK _ ?_); clear hK K)
      | (rw [if_neg (by decide)]; (with_reducible refine hK _ ?_); clear hK K)
      | (refine ⟨_, fun w1 hw1 => ⟨Ext.refl w1, hw1, rfl⟩, hK _ ?_⟩; clear hK K)
      | (apply Exists.intro; refine ⟨fun w1 hw1 => ?_, hK _ ?_⟩
         first
           | (go_at_call 10; ((with_reducible refine (HM1.out _ (Ext.trans bV hw1)).mono ?_); rintro e w' ⟨rfl, hb'⟩; exact ⟨_, rfl, hb', Ext.trans hw1 hb', rfl⟩))
         clear hK K))
    refine dep_load_rd (by rfl) 27 _ rfl (by kernel_rfl) 6 size_conf w.heap.size 0 (by rfl) [.slice A nt ct, .slice B nb cb, .slice M nm cm, .slice G ng cg, .int .i64 fr, .int .i64 dog] rfl (by go_simp) Ext.refl (fun w1 hw1 j v hv => by rw [Nat.zero_add, (OV.out.keep hw1).cell j]; exact hv) ?_
    repeat (refine dep_det (by rfl) (fun K hK => ?_); go_simp; first
      | ((with_reducible refine hK _ ?_); clear hK K)
      | (rw [if_neg (by decide)]; (with_reducible refine hK _ ?_); clear hK K)
      | (refine ⟨_, fun w1 hw1 => ⟨Ext.refl w1, hw1, rfl⟩, hK _ ?_⟩; clear hK K)
      | (apply Exists.intro; refine ⟨fun w1 hw1 => ?_, hK _ ?_⟩
         first
           | (go_at_call 11; ((with_reducible refine (HM2.out _ (Ext.trans bV hw1)).mono ?_); rintro e w' ⟨rfl, hb'⟩; exact ⟨_, rfl, hb', Ext.trans hw1 hb', rfl⟩))
         clear hK K))
    refine dep_load_rd (by rfl) 27 _ rfl (by kernel_rfl) 6 size_conf w.heap.size 0 (by rfl) [.slice A nt ct, .slice B nb cb, .slice M nm cm, .slice G ng cg, .int .i64 fr, .int .i64 dog] rfl (by go_simp) Ext.refl (fun w1 hw1 j v hv => by rw [Nat.zero_add, (OV.out.keep hw1).cell j]; exact hv) ?_
    repeat (refine dep_det (by rfl) (fun K hK => ?_); go_simp; first
      | ((with_reducible refine hK _ ?_); clear hK K)
      | (rw [if_neg (by decide)]; (with_reducible refine hK _ ?_); clear hK K)
      | (refine ⟨_, fun w1 hw1 => ⟨Ext.refl w1, hw1, rfl⟩, hK _ ?_⟩; clear hK K)
      | (apply Exists.intro; refine ⟨fun w1 hw1 => ?_, hK _ ?_⟩
         first
           | (go_at_call 12; ((with_reducible refine (K1.out _ (Ext.trans bV hw1)).mono ?_); rintro e w' ⟨rfl, hb'⟩; exact ⟨_, rfl, hb', Ext.trans hw1 hb', rfl⟩))
         clear hK K))
    refine dep_load_rd (by rfl) 27 _ rfl (by kernel_rfl) 6 size_conf w.heap.size 0 (by rfl) [.slice A nt ct, .slice B nb cb, .slice M nm cm, .slice G ng cg, .int .i64 fr, .int .i64 dog] rfl (by go_simp) Ext.refl (fun w1 hw1 j v hv => by rw [Nat.zero_add, (OV.out.keep hw1).cell j]; exact hv) ?_
    repeat (refine dep_det (by rfl) (fun K hK => ?_); go_simp; first
      | ((with_reducible refine hK _ ?_); clear hK K)
      | (rw [if_neg (by decide)]; (with_reducible refine hK _ ?_); clear hK K)
      | (refine ⟨_, fun w1 hw1 => ⟨Ext.refl w1, hw1, rfl⟩, hK _ ?_⟩; clear hK K)
      | (apply Exists.intro; refine ⟨fun w1 hw1 => ?_, hK _ ?_⟩
         first
           | (go_at_call 13; ((with_reducible refine (K2.out _ (Ext.trans bV hw1)).mono ?_); rintro e w' ⟨rfl, hb'⟩; exact ⟨_, rfl, hb', Ext.trans hw1 hb', rfl⟩))
         clear hK K))
    refine dep_nil ?_
    intro a' w' hC hE
    obtain rfl := atEnd_nil hE
    clear hE
    clear HM1 HM2 K1 K2 tneqb
    replace OV := Lib.hid (OV.out.keep hC)
    replace bV := Ext.trans bV hC
    clear hC oV
    obtain ⟨wp, rfl⟩ : ∃ wp : World, wp = w' := ⟨_, rfl⟩
    go_wp2
    refine wp_region_dep (S := Ext) (C := Ext (wp)) (by kernel_rfl) (by kernel_rfl) rfl Ext.refl (Ext.drew _) ?_
    refine dep_load_rd (by rfl) 27 _ rfl (by kernel_rfl) 6 size_conf w.heap.size 0 (by rfl) [.slice A nt ct, .slice B nb cb, .slice M nm cm, .slice G ng cg, .int .i64 fr, .int .i64 dog] rfl (by go_simp) Ext.refl (fun w1 hw1 j v hv => by rw [Nat.zero_add, (OV.out.keep hw1).cell j]; exact hv) ?_
    repeat (refine dep_det (by rfl) (fun K hK => ?_); go_simp; first
      | ((with_reducible refine hK _ ?_); clear hK K)
      | (rw [if_neg (by decide)]; (with_reducible refine hK _ ?_); clear hK K)
      | (refine ⟨_, fun w1 hw1 => ⟨Ext.refl w1, hw1, rfl⟩, hK _ ?_⟩; clear hK K))
    refine dep_var (RdSl (pairs PA) PA.length) 36 rfl (by rfl) RdSl.keep (by go_simp) (fun w1 hw1 => ?_) ?_
    · go_simp
      refine (K3.out w1 (Ext.trans bV hw1)).mono ?_
      rintro e w' ⟨S, c', rfl, hr, hb'⟩
      exact ⟨_, rfl, hb', Ext.trans hw1 hb', S, c', rfl, hr⟩
    refine dep_load_rd (by rfl) 27 _ rfl (by kernel_rfl) 6 size_conf w.heap.size 0 (by rfl) [.slice A nt ct, .slice B nb cb, .slice M nm cm, .slice G ng cg, .int .i64 fr, .int .i64 dog] rfl (by go_simp) Ext.refl (fun w1 hw1 j v hv => by rw [Nat.zero_add, (OV.out.keep hw1).cell j]; exact hv) ?_
    repeat (refine dep_det (by rfl) (fun K hK => ?_); go_simp; first
      | ((with_reducible refine hK _ ?_); clear hK K)
      | (rw [if_neg (by decide)]; (with_reducible refine hK _ ?_); clear hK K)
      | (refine ⟨_, fun w1 hw1 => ⟨Ext.refl w1, hw1, rfl⟩, hK _ ?_⟩; clear hK K))
    refine dep_var (RdSl (pairs PA) PA.length) 39 rfl (by rfl) RdSl.keep (by go_simp) (fun w1 hw1 => ?_) ?_
    · go_simp
      refine (K4.out w1 (Ext.trans bV hw1)).mono ?_
      rintro e w' ⟨S, c', rfl, hr, hb'⟩
      exact ⟨_, rfl, hb', Ext.trans hw1 hb', S, c', rfl, hr⟩
    refine dep_var1 36 (RdSl (pairs PA) PA.length) (RdSl (pairs PA) PA.length) 5 rfl (by rfl) (by intro V' h; simpa using h) (by simp) (by first | (simp; done) | simp [Act.put]) RdSl.keep (fun w1 v hw1 hV => ?_) ?_
    · go_simp
      first | exact Ext.refl _ | exact ⟨Ext.refl _, hV⟩ | exact ⟨Ext.refl _, hw1, hV⟩
    refine dep_var1 39 (RdSl (pairs PA) PA.length) (RdSl (pairs PA) PA.length) 6 rfl (by rfl) (by intro V' h; simpa using h) (by simp) (by first | (simp; done) | simp [Act.put]) RdSl.keep (fun w1 v hw1 hV => ?_) ?_
    · go_simp
      first | exact Ext.refl _ | exact ⟨Ext.refl _, hV⟩ | exact ⟨Ext.refl _, hw1, hV⟩
    refine dep_nil ?_
    intro a' w' hC hE
    obtain ⟨v, ⟨SB, dB, rfl, rB⟩, hE⟩ := atEnd_cons hE (by simp) (by first | (simp; done) | simp [Act.put])
    obtain ⟨v, ⟨SA, dA, rfl, rA⟩, hE⟩ := atEnd_cons hE (by simp) (by first | (simp; done) | simp [Act.put])
    obtain ⟨v, ⟨SB', dB', rfl, _⟩, hE⟩ := atEnd_cons hE (by simp) (by first | (simp; done) | simp [Act.put])
    obtain ⟨v, ⟨SA', dA', rfl, _⟩, hE⟩ := atEnd_cons hE (by simp) (by first | (simp; done) | simp [Act.put])
    obtain rfl := atEnd_nil hE
    clear hE K3 K4
    obtain ⟨wb, rfl⟩ : ∃ wb : World, wb = w' := ⟨_, rfl⟩
    replace OV := Lib.hid (OV.out.keep hC)
    replace bV := Ext.trans bV hC
    have tlen : ((PA.length : Int) != (PA.length : Int)) = false := by simp
    clear hC
    go_wp2
    go_loopw [7] (fun i wr => ∃ j : Nat, j ≤ PA.length ∧ i = .int .i64 j ∧ Ext wb wr) (fun i _ => PA.length - (intOf i).toNat)
    case atStart => exact ⟨0, by omega, rfl, Ext.refl _⟩
    case round =>
      obtain ⟨j, hj, rfl, q1⟩ := hrel
      by_cases hlt : j < PA.length
      · obtain ⟨ba, oa, rfl, a1, a2⟩ := (rA.keep q1).pair hlt
        obtain ⟨bb, ob, rfl, b1, b2⟩ := (rB.keep q1).pair hlt
        generalize PA[j] = pq at *
        obtain ⟨pa, pb⟩ := pq
        simp only at a1 a2 b1 b2
        have d1 : (pa != pa) = false := by simp
        have d2 : (pb != pb) = false := by simp
        have j0' : (0 : Int) ≤ (j : Int) := by omega
        have j1' : (j : Int) < (PA.length : Int) := by omega
        go_wp2
        go_quiet (fail)
        go_wp2
        go_roundw
        case rel => exact ⟨j + 1, by omega, by go_num, Ext.trans q1 (Ext.drewN _ _)⟩
        case measure => simp [intOf]; omega
      · obtain rfl : PA.length = j := by omega
        have oV := OV.out.keep q1
        replace bV := Ext.trans bV q1
        clear rA rB q1 OV
        go_wp2_with (refine wpl_load_w _ ?_ 27 _ rfl (by kernel_rfl) 6 size_conf _ rfl _ _ oV rfl ?_; focus (go_simp; done))
        refine (K5.out _ bV).mono ?_
        rintro e w2 ⟨rfl, b2⟩
        replace oV := oV.keep b2
        replace bV := Ext.trans bV b2
        clear b2
        go_wp2_with (refine wpl_load_w _ ?_ 27 _ rfl (by kernel_rfl) 6 size_conf _ rfl _ _ oV rfl ?_; focus (go_simp; done))
        refine (K6.out _ bV).mono ?_
        rintro e w3 ⟨rfl, b3⟩
        replace oV := oV.keep b3
        replace bV := Ext.trans bV b3
        clear b3 K5 K6
        have hlt3 := (Own.lt oV)
        go_wp2_with (refine wpl_load_w _ ?_ 27 _ rfl (by kernel_rfl) 6 size_conf _ rfl _ _ oV rfl ?_; focus (go_simp; done))
        refine (HA1.out _ bV).mono ?_
        rintro e w4 ⟨S1, c1, rfl, r1, b4⟩
        have oV4 := oV.keep b4
        have bV4 := Ext.trans bV b4
        clear oV
        go_wp2_with (refine wpl_load_w _ ?_ 27 _ rfl (by kernel_rfl) 6 size_conf _ rfl _ _ oV4 rfl ?_; focus (go_simp; done))
        refine (HA2.out _ bV4).mono ?_
        rintro e w5 ⟨S2, c2, rfl, r2, b5⟩
        have r1' := r1.keep b5
        have oV5 := oV4.keep b5
        have e35 := Ext.trans b4 b5
        have bV5 := Ext.trans bV e35
        have hne : ∀ g, blk S2 = some g → blk S1 ≠ some g := fun g h1 h2 => by
          have := (r2.at_ g h1).1
          have := (r1.at_ g h2).2
          omega
        clear b4 b5 r1 oV4 bV4
        have HSI := Lib.hid (fun w' (a : Rd w' S1 (ints L)) (b : Rd w' S2 (ints L)) => same_ints S1 S2 L.length L.length c1 c2 L L w' (by omega) (by omega) a b rfl rfl)
        have HOV := Lib.hid (fun w' (a : Row w' w3.heap.size 3 1 S1 L.length c1 (ints L)) hB => over_ints2 S1 L.length c1 w3.heap.size L w' a hB (by omega))
        simp only [decide_true] at HSI
        have HR1 := Lib.hid r1'
        have HR2 := Lib.hid r2
        have te1 : (r == r) = true := by simp
        have HSZ := Lib.hid e35.size
        clear r1' r2
        cases ok
        all_goals
          cases qa
          all_goals
            go_wp2_with ((with_reducible go_at_call 20); (with_reducible refine (HSI.out _ HR1.out.rd HR2.out.rd).mono ?_); rintro e w6 ⟨rfl, qn, rfl⟩)
            refine (HOV.out _ (HR1.out.drewN qn) HSZ.out).mono ?_
            rintro e w7 ⟨rfl, b7, hk⟩
            have e37 : Ext w3 w7 := Below.trans (below_drewN e35 qn) b7
            have bV7 := Ext.trans bV e37
            have oV7 := (oV5.drewN qn).below b7 hlt3
            have HR3 := Lib.hid ((HR2.out.drewN qn).overKeep hk hne)
            have HSJ := Lib.hid (fun S c w' (a : Rd w' S (ints L)) (b : Rd w' S2 (ints L)) => same_ints S S2 L.length L.length c c2 L L w' (by omega) (by omega) a b rfl rfl)
            simp only [decide_true] at HSJ
            clear HOV HR1 HR2 HSI b7 hk e35 oV5 bV5 e37
            go_wp2_with (refine wpl_load_w _ ?_ 27 _ rfl (by kernel_rfl) 6 size_conf _ rfl _ _ oV7 rfl ?_; focus (go_simp; done))
            refine (HA1.out _ bV7).mono ?_
            rintro e w8 ⟨S3, c3, rfl, r3, b8⟩
            have HR4 := Lib.hid (HR3.out.keep b8)
            have HR5 := Lib.hid r3
            have bV8 := Ext.trans bV7 b8
            clear r3 b8 HR3 oV7
            go_wp2_with (first
              | ((with_reducible go_at_call 20); (with_reducible refine (HSJ.out _ _ _ HR5.out.rd HR4.out.rd).mono ?_); rintro e w9 ⟨rfl, qk, rfl⟩)
              | ((with_reducible go_at_call 9); (with_reducible refine (HAW.out _).mono ?_); rintro e w10 ⟨rfl, b10⟩))
            go_ret
            exact ⟨rfl, Ext.trans bV8 (Ext.trans (Ext.drewN _ qk) b10)⟩

end Go.Proofs.Ytdninhdabeddeaa
