/-
  WALKS of package slab: Take (the walk).
-/
import Derived.Test.YtebkknkgkjblnaaSlbD
namespace Go.Proofs.Ytebkknkgkjblnaa
open Go.RowKit Go.Maps
attribute [local go_sem] depUpon Sp.ok

theorem results_own2 {P : Program} {fn : Func} {p q : Tmp} {ty : TypeId} (h : fn.results = #[.cell p ty, .tmp q]) (hd : aggB (P.underlying ty) = true) (n : Nat) (hi : (P.info? ty).map (·.size) = some n)
    (tmps : Array Value) (w : World) (g : Nat) (t : TypeId) (xs : List Value) (v : Value) (hp : tmps.getD p undef = .pointer (some ⟨g, 0, none⟩)) (hq : tmps.getD q undef = v) (hO : Own w g t xs) (hn : xs.length = n) :
    (results fn tmps).run P w = .ok (.tuple #[.agg xs.toArray, v]) w := by
  obtain ⟨d, h1, h2⟩ := aggB_spec hd
  have hp' : tmps[p]?.getD undef = .pointer (some ⟨g, 0, none⟩) := by simpa using hp
  have hq' : tmps[q]?.getD undef = v := by simpa using hq
  simp [results, h, hp', hq', asAddr, run_loadVar_row w g t ty xs.toArray (0, 0) d hO h1 (by cases d <;> first | rfl | cases h2) (by simp [hi, hn])]
set_option maxRecDepth 100000 in
theorem zero_ref : (Try.prog.info? 84).map (·.zero) = some (some (.agg #[.int .i64 0, .int .i64 0, .int .i64 0])) := by kernel_rfl
set_option maxRecDepth 100000 in
theorem size_ref : (Try.prog.info? 84).map (·.size) = some 3 := by kernel_rfl
theorem len_le {n : Nat} : ∀ {L : List Pc} (k : Nat), (L.Pairwise fun a b => a.f < b.f) → (∀ a ∈ L, k ≤ a.f ∧ a.f < n) → k ≤ n → L.length + k ≤ n
  | [], k, _, _, hk => by simpa using hk
  | a :: r, k, h, ha, _ => by
    obtain ⟨h1, h2⟩ := List.pairwise_cons.1 h
    have := ha a (by simp)
    have := len_le (L := r) (a.f + 1) h2 (fun b hb => ⟨h1 b hb, (ha b (by simp [hb])).2⟩) (by omega)
    rw [List.length_cons]; omega
theorem SP.len {p : FP} {L : List Pc} (h : SP p L) : L.length ≤ p.n := by
  have := len_le (n := p.n) 0 h.srt (fun a ha => ⟨Nat.zero_le _, (h.ok a ha).lt⟩) (Nat.zero_le _)
  omega
theorem sl_len {K : Int} : ∀ {sl : List Int} (k : Int), LS sl → (∀ i ∈ sl, k ≤ i ∧ i < K) → k ≤ K → (sl.length : Int) + k ≤ K
  | [], k, _, _, hk => by simpa using hk
  | a :: r, k, h, ha, _ => by
    obtain ⟨h1, h2⟩ := List.pairwise_cons.1 h
    have := ha a (by simp)
    have := sl_len (sl := r) (a + 1) h2 (fun b hb => ⟨by have := h1 b hb; omega, (ha b (by simp [hb])).2⟩) (by omega)
    rw [List.length_cons]; omega
theorem Pc.ok.len {n : Nat} {tk : List Bool} {a : Pc} (h : a.ok n tk) : a.sl.length ≤ 4 := by
  have := sl_len (K := (nsl a.sz : Int)) 0 h.ls h.sl (by omega)
  have : nsl a.sz ≤ 4 := by unfold nsl; split <;> (try split) <;> omega
  omega
/-- What Take answers and leaves. -/
structure STook (w w' : World) (B gs gm gf gb gt : Nat) (A : Option Addr) (c : Nat) (ad : AD) (p : FP) (L : List Pc) (size : Int) (e : Ending) : Prop where
  ret : e = .returned (.tuple #[.agg #[.int .i64 (takeV p L size).1, .int .i64 (takeV p L size).2.1, .int .i64 (takeV p L size).2.2.1], .int .i64 (takeV p L size).2.2.2])
  st : ∃ ad', SS w' B gs gm gf ad' (takeL p L size).2 ∧ FS w' B gf gb gt A c (takeL p L size).1 ∧ Tr w w' (Un (SB gs gm ad L) (FB gf gb gt A)) (Un (SB gs gm ad' (takeL p L size).2) (FB gf gb gt A))
theorem nsl_of {sz : Int} (h : sz = 16 ∨ sz = 32 ∨ sz = 64) : sz = 16 ∧ nsl sz = 4 ∨ sz = 32 ∧ nsl sz = 2 ∨ sz = 64 ∧ nsl sz = 1 := by
  rcases h with rfl | rfl | rfl
  · exact .inl ⟨rfl, rfl⟩
  · exact .inr (.inl ⟨rfl, rfl⟩)
  · exact .inr (.inr ⟨rfl, rfl⟩)
theorem cls_of {s : Int} (h : cls s ≠ 0) : cls s = 16 ∨ cls s = 32 ∨ cls s = 64 := by
  unfold cls at *
  split at h
  · exact absurd rfl h
  · rename_i h1
    split at h
    · rename_i h2; rw [if_neg h1, if_pos h2]; exact .inl rfl
    · rename_i h2
      split at h
      · rename_i h3; rw [if_neg h1, if_neg h2, if_pos h3]; exact .inr (.inl rfl)
      · rename_i h3
        split at h
        · rename_i h4; rw [if_neg h1, if_neg h2, if_neg h3, if_pos h4]; exact .inr (.inr rfl)
        · exact absurd rfl h

set_option maxRecDepth 100000 in
set_option maxHeartbeats 8000000 in
theorem s_take (B gs gm gf gb gt : Nat) (A : Option Addr) (c : Nat) (ad : AD) (p : FP) (L : List Pc) (size : Int) (w : World) (h : SS w B gs gm gf ad L) (hf : FS w B gf gb gt A c p) (hp : SP p L) (hB : B ≤ w.heap.size) :
    Calls Try.prog 38 #[.pointer (some ⟨gs, 0, none⟩), .int .i64 size] w fun e w' => STook w w' B gs gm gf gb gt A c ad p L size e := by
  have HCL := Lib.hid (fun w => s_class size w)
  have HTV := Lib.hid (show takeV p L size = if cls size = 0 then ((0, 0, 0, 2) : Int × Int × Int × Int) else match pickS (cls size) L with
    | some (a, i) => ((a.f : Int), (i : Int), cls size, 0)
    | none => match p.top with
      | some f => ((f : Int), 0, cls size, 0)
      | none => (0, 0, 0, 3) from rfl)
  have HTL := Lib.hid (show takeL p L size = if cls size = 0 then (p, L) else match pickS (cls size) L with
    | some (a, i) => (p, updS L a.f (sins (i : Int) a.sl))
    | none => match p.top with
      | some f => (p.tkd f, insP ⟨f, cls size, [0]⟩ L)
      | none => (p, L) from rfl)
  have HH := Lib.hid h
  have HF := Lib.hid hf
  have HP := Lib.hid hp
  have HC4 := Lib.hid (fun h => @cls_of size h)
  have hlen := hp.len
  have hn64 := hf.ok.n64
  have HSAME := Lib.hid (fun w' (hb : Ext w w') (hl : takeL p L size = (p, L)) => show ∃ ad', SS w' B gs gm gf ad' (takeL p L size).2 ∧ FS w' B gf gb gt A c (takeL p L size).1 ∧ Tr w w' (Un (SB gs gm ad L) (FB gf gb gt A)) (Un (SB gs gm ad' (takeL p L size).2) (FB gf gb gt A)) from ⟨ad, by rw [hl]; exact h.keep hb, by rw [hl]; exact hf.keep hb, by rw [hl]; exact Tr.ext hb⟩)
  generalize cls size = cl at *
  by_cases hcl : cl = 0
  · have HV := Lib.hid (show takeV p L size = (0, 0, 0, 2) by rw [HTV.out, if_pos hcl])
    have HL := Lib.hid (show takeL p L size = (p, L) by rw [HTL.out, if_pos hcl])
    subst hcl
    clear h hf hp
    go_enter Try.func38, Try.ntmps38
    go_wp2_with (first
      | (refine wpl_alloc_own _ rfl 84 rfl (.agg #[.int .i64 0, .int .i64 0, .int .i64 0]) zero_ref ?_; intro w1 o1 b1 s1)
      | ((with_reducible go_at_call 49); (with_reducible refine (HCL.out _).mono ?_); rintro e w' ⟨rfl, rfl⟩)
      | (refine wpl_store_own _ rfl 84 _ _ rfl 3 size_ref _ rfl [.int .i64 0, .int .i64 0, .int .i64 0] rfl _ _ o1 rfl rfl (by simp [Value.oneCell']) ?_; intro w4 o4 g4 s4; clear s4))
    have b4 := below_of_grown b1 g4 (Nat.le_refl _) b1.size
    exact bodyPost_ret (v := .tuple #[.agg #[.int .i64 0, .int .i64 0, .int .i64 0], .int .i64 2]) (results_own2 Try.results38 (by kernel_rfl) 3 size_ref _ _ _ _ _ _ rfl rfl o4 rfl) rfl ⟨by rw [HV.out], HSAME.out _ b4 HL.out⟩
  have tcl : (cl == 0) = false := by simp [hcl]
  have h4 := HC4.out hcl
  rw [if_neg hcl] at HTV HTL
  clear h hf hp HC4 hcl
  go_enter Try.func38, Try.ntmps38
  go_wp2_with (first
    | (refine wpl_alloc_own _ rfl 84 rfl (.agg #[.int .i64 0, .int .i64 0, .int .i64 0]) zero_ref ?_; intro w1 o1 b1 s1; clear s1; have v2 := (HH.out.keep b1).own.cell 2; simp only [List.getElem?_cons_zero, List.getElem?_cons_succ] at v2)
    | ((with_reducible go_at_call 49); (with_reducible refine (HCL.out _).mono ?_); rintro e w' ⟨rfl, rfl⟩))
  refine (keys_callA _ _).mono ?_
  rintro e w2 ⟨rfl, rfl⟩
  go_wp2_with fail
  refine (sorted_callA gm (sm ad L).length (vmap (sm ad L)) vrd w1 (HH.out.keep b1).map.map (by rw [vmap_size]; unfold sm maxLen; rw [List.length_map]; omega) (by rw [vmap_size]; unfold sm; rw [List.length_map]; omega)).mono ?_
  rintro e w3 ⟨v, ss, rfl, hS, hrow, _, b3⟩
  rw [vmap_keys] at hS
  have hkeys : (sm ad L).map Prod.fst = L.map fun a => (a.f : Int) := by unfold sm; rw [List.map_map]; rfl
  have hsl : ss.length = L.length := by have := hS.length_eq; rw [hkeys] at this; simpa using this
  rw [sorted_keys HH.out.map.srt hS, hsl, hkeys] at hrow
  obtain ⟨S0, c0, rfl, r0⟩ := row_form hrow
  have e3 : Ext w w3 := Ext.trans b1 (Ext.trans (Ext.alloc _ _) b3)
  have rd0 : Rd w3 S0 (ints (L.map fun a => (a.f : Int))) := r0.rd
  have O3 := Lib.hid ((o1.alloc (.cells #[.map (some gm)] 108)).keep b3)
  clear hrow r0 b3 hS v2 hkeys hsl
  clear o1
  go_wp2
  go_loopw [29] (fun q wr => ∃ j : Nat, q = .int .i64 (j : Int) ∧ j ≤ L.length ∧ (∀ a ∈ L.take j, fitS cl a = none) ∧ Ext w3 wr) (fun q _ => L.length - (intOf q).toNat)
  case atStart => exact ⟨0, rfl, by omega, by simp, Ext.refl _⟩
  case round =>
    obtain ⟨j, rfl, hj, hno, q2⟩ := hrel
    have hE := Ext.trans e3 q2
    by_cases hlt : j < L.length
    · obtain ⟨bs, os, rfl, hcS⟩ := (rd0.keep q2).int (k := j) (by simpa using hlt)
      rw [List.getElem_map] at hcS
      have ha : L[j] ∈ L := List.getElem_mem hlt
      have hok := HP.out.ok _ ha
      have hW := HH.out.keep hE
      have v2 := hW.own.cell 2
      simp only [List.getElem?_cons_zero, List.getElem?_cons_succ] at v2
      have hlk := hW.map.look Try.underlying108 (zero_ptr wr) (k := (L[j].f : Int)) ⟨by omega, by have := hok.lt; omega⟩
      rw [sm_get ha] at hlk
      simp only [Option.getD_some, pv_] at hlk
      obtain ⟨hS1, hS2⟩ := hW.shs _ ha
      have HFR := Lib.hid (s_free _ _ (nsl L[j].sz) _ _ wr hS1 hS2 (nsl_of hok.sz))
      have x0 := hS1.cell 0
      have x1 := hS1.cell 1
      simp only [List.getElem?_cons_zero, List.getElem?_cons_succ] at x0 x1
      have hfit : fitS cl L[j] = if L[j].sz = cl then frS (nsl L[j].sz) L[j].sl else none := by
        unfold fitS
        split
        · rename_i e; rw [e]
        · rfl
      have HNX := Lib.hid (fun (hn : fitS cl L[j] = none) => show ∀ a ∈ L.take (j + 1), fitS cl a = none from fun a hm => by
        rw [take_succ' L j hlt, List.mem_append, List.mem_singleton] at hm
        rcases hm with hm | rfl
        · exact hno a hm
        · exact hn)
      have HPK := Lib.hid (fun i (hi : fitS cl L[j] = some i) => pickS_some hlt hno hi)
      have HAM := Lib.hid ha
      have HSH := Lib.hid hS2
      have hlt1 := hW.lt _ (.inr (.inr ⟨_, ha, .inr rfl⟩))
      have j0' : (0 : Int) ≤ (j : Int) := by omega
      have j1' : (j : Int) < (L.length : Int) := by omega
      have HE := Lib.hid hE
      have HWW := Lib.hid hW
      have hold := HH.out.lt _ (.inr (.inr ⟨_, ha, .inr rfl⟩))
      clear hno hW hS1 hS2 hok hE ha
      generalize hA : L[j] = a at *
      cases hfr : frS (nsl a.sz) a.sl with
      | none =>
        rw [hfr] at HFR hfit
        have HN := Lib.hid (HNX.out (by rw [hfit]; split <;> rfl))
        simp only [frV] at HFR
        clear hfit hfr HNX HPK
        generalize a.sz = sz at *
        go_wp2_with ((with_reducible go_at_call 52); (with_reducible refine (HFR.out).mono ?_); rintro e w' ⟨rfl, rfl⟩)
        go_roundw
        case rel => exact ⟨j + 1, by go_num, by omega, HN.out, q2⟩
        case measure => simp [intOf]; omega
      | some i =>
        rw [hfr] at HFR hfit
        simp only [frV] at HFR
        by_cases hsz : a.sz = cl
        · have HPI := Lib.hid (HPK.out i (by rw [hfit, if_pos hsz]))
          have HHIT := Lib.hid (HP.out.hit HAM.out (c := cl) (i := i) (by rw [hfit, if_pos hsz]))
          have tz : (a.sz == cl) = true := by simp [hsz]
          have tz' : (cl == cl) = true := by simp
          rw [hsz] at x0
          have HV := Lib.hid (show takeV p L size = ((a.f : Int), (i : Int), cl, 0) by rw [HTV.out, HPI.out])
          have HL := Lib.hid (show takeL p L size = (p, updS L a.f (sins (i : Int) a.sl)) by rw [HTL.out, HPI.out])
          have hi4 := HHIT.out.2.2.2
          have hsl4 : (sq a.sl).length ≤ 65536 := by
            rw [sq_len]
            have := (HP.out.ok a HAM.out).len
            omega
          have or_ := O3.out.keep q2
          clear hfit hfr HNX HPK tz hsz
          go_wp2_with (first
            | ((with_reducible go_at_call 52); (with_reducible refine (HFR.out).mono ?_); rintro e w' ⟨rfl, rfl⟩)
            | (at_mapUpdate; go_loud (refine wpl_put_kv _ rfl _ _ _ 118 (.inl rfl) 3 Try.underlying118 (ad a.f).2 (sq a.sl) rfl HSH.out (i : Int) ⟨by omega, by omega⟩ rfl one_ rfl hsl4 ?_); intro w5 m5 g5; have o5 := or_.grown g5 (fun q => by injection q with q; omega))
            | (refine wpl_store_own _ rfl 84 _ _ rfl 3 size_ref _ rfl [.int .i64 (a.f : Int), .int .i64 (i : Int), .int .i64 cl] rfl _ _ o5 rfl rfl (by simp [Value.oneCell']) ?_; intro w6 o6 g6 s6; clear s6))
          have hSl := HWW.out.slots HP.out HAM.out (w' := w5) (sl := sins (i : Int) a.sl) (by rw [← sq_put HHIT.out.2.2.1]; exact m5) g5
          have hP6 : Tr w5 w6 (fun x => x = w.heap.size) (fun x => x = w.heap.size) := Tr.grown g6 (fun g q => .inl (by injection q with q; exact q.symm))
          have hP5 : Tr wr w5 (fun x => x = (ad a.f).2) (fun x => x = (ad a.f).2) := Tr.grown g5 (fun g q => .inl (by injection q with q; exact q.symm))
          have hap := HH.out.apart HF.out
          have hU : ∀ x, SB gs gm ad (updS L a.f (sins (i : Int) a.sl)) x → SB gs gm ad L x := fun x hx => SB_upd HP.out HAM.out hx
          have hS6 := hSl.1.other hP6 (fun x hx q => by have := HH.out.lt x (hU x hx); omega)
          have hF6 := ((HF.out.keep HE.out).other hP5 (fun x hx q => hap x (.inr (.inr ⟨a, HAM.out, .inr q⟩)) hx)).other hP6 (fun x hx q => by have := HF.out.lt x hx; omega)
          have hT6 : Tr w w6 (Un (SB gs gm ad L) (FB gf gb gt A)) (Un (SB gs gm ad (updS L a.f (sins (i : Int) a.sl))) (FB gf gb gt A)) :=
            (((Tr.ext HE.out).step g5 (fun g q => .inl (.inl (by injection q with q; rw [← q]; exact .inr (.inr ⟨a, HAM.out, .inr rfl⟩))))).step g6 (fun g q => .inr (by injection q with q; omega))).to (fun x hx => by
              rcases hx with hx | hx
              · exact .inl (.inl (hU x hx))
              · exact .inl (.inr hx))
          exact bodyPost_ret (v := .tuple #[.agg #[.int .i64 (a.f : Int), .int .i64 (i : Int), .int .i64 cl], .int .i64 0]) (results_own2 Try.results38 (by kernel_rfl) 3 size_ref _ _ _ _ _ _ rfl rfl o6 rfl) rfl ⟨by rw [HV.out], ad, by rw [HL.out]; exact hS6, by rw [HL.out]; exact hF6, by rw [HL.out]; exact hT6⟩
        · have HN := Lib.hid (HNX.out (by rw [hfit, if_neg hsz]))
          have tz : (a.sz == cl) = false := by simp [hsz]
          clear hfit hfr HNX HPK hsz
          go_wp2_with ((with_reducible go_at_call 52); (with_reducible refine (HFR.out).mono ?_); rintro e w' ⟨rfl, rfl⟩)
          go_roundw
          case rel => exact ⟨j + 1, by go_num, by omega, HN.out, q2⟩
          case measure => simp [intOf]; omega
    · obtain rfl : j = L.length := by omega
      rw [List.take_length] at hno
      have hpk := pickS_none hno
      rw [hpk] at HTV HTL
      have hW := HH.out.keep hE
      have v0 := hW.own.cell 0
      have v2 := hW.own.cell 2
      simp only [List.getElem?_cons_zero, List.getElem?_cons_succ] at v0 v2
      have HE := Lib.hid hE
      have HW := Lib.hid hW
      have hFW := HF.out.keep hE
      have or_ := O3.out.keep q2
      have hwr := hE.size
      cases ht : p.top with
      | none =>
        rw [ht] at HTV HTL
        have HFT := Lib.hid (f_take_full B gf gb gt A c p wr hFW ht)
        clear hno hpk hW hFW hE v2
        go_wp2_with (first
          | ((with_reducible go_at_call 47); (with_reducible refine HFT.out.mono ?_); rintro e w5 ⟨rfl, b5⟩; have o5 := or_.keep b5)
          | (refine wpl_store_own _ rfl 84 _ _ rfl 3 size_ref _ rfl [.int .i64 0, .int .i64 0, .int .i64 0] rfl _ _ o5 rfl rfl (by simp [Value.oneCell']) ?_; intro w6 o6 g6 s6; clear s6))
        have b6 : Ext w w6 := below_of_grown (Ext.trans HE.out b5) g6 (Nat.le_refl _) (Ext.trans HE.out b5).size
        exact bodyPost_ret (v := .tuple #[.agg #[.int .i64 0, .int .i64 0, .int .i64 0], .int .i64 3]) (results_own2 Try.results38 (by kernel_rfl) 3 size_ref _ _ _ _ _ _ rfl rfl o6 rfl) rfl ⟨by rw [HTV.out], HSAME.out _ b6 HTL.out⟩
      | some f =>
        rw [ht] at HTV HTL
        have hm := @run_makeMap Try.prog
        have HFT := Lib.hid (f_take B gf gb gt A c p f wr hFW ht)
        obtain ⟨hflt, hftk⟩ := FP.top_lt HF.out.ok ht
        have HFR := Lib.hid (HP.out.fresh hftk)
        have HAPT := Lib.hid (HW.out.apart hFW)
        have HHT := Lib.hid ht
        have hsm : (sm ad L).length ≤ 65536 := by unfold sm; rw [List.length_map]; omega
        clear hno hpk hW hFW hE v2 hftk ht
        go_wp2_with (first
          | ((with_reducible go_at_call 47); (with_reducible refine HFT.out.mono ?_); rintro e w5 ⟨rfl, f5, t5⟩; have S5 := Lib.hid (HW.out.other t5 HAPT.out); have v5 := S5.out.own.cell 2; simp only [List.getElem?_cons_zero, List.getElem?_cons_succ] at v5; have F5 := Lib.hid f5; have T5 := Lib.hid t5; have z5 := t5.base.size; have o5 := Lib.hid (t5.own or_ (fun q => by have := HF.out.lt _ q; omega)); clear f5 t5)
          | (refine wpl_put_kv _ rfl _ _ _ 118 (.inr rfl) 3 Try.underlying118 w5.heap.size [] rfl (MS.made w5) 0 ⟨by omega, by omega⟩ rfl one_ rfl (by simp) ?_; intro w6 m6 g6; have E6 := Lib.hid (show Ext w5 w6 from below_grown (Ext.alloc w5 (.map #[] 0)) g6 (by simp) (fun g q => by injection q with q; omega)); have M6 := Lib.hid m6; clear m6)
          | (refine wpl_box_own _ rfl 120 _ rfl [.int .i64 cl, .map (some w5.heap.size)] rfl ?_; intro w7 o7 b7 s7; have E7 := Lib.hid (Ext.trans E6.out b7); have O7 := Lib.hid o7; clear o7)
          | (refine wpl_put_kv _ rfl _ _ _ 108 (.inl rfl) 115 Try.underlying108 gm (sm ad L) rfl ((S5.out.keep E7.out).map) (f : Int) ⟨by omega, by omega⟩ rfl (.pointer (some ⟨w6.heap.size, 0, none⟩)) rfl hsm ?_; intro w8 m8 g8; have o8 := (o5.out.keep E7.out).grown g8 (fun q => by injection q with q; have := HH.out.map.lt; omega))
          | (refine wpl_store_own _ rfl 84 _ _ rfl 3 size_ref _ rfl [.int .i64 (f : Int), .int .i64 0, .int .i64 cl] rfl _ _ o8 rfl rfl (by simp [Value.oneCell']) ?_; intro w9 o9 g9 s9; clear s9))
        have hE67 : w5.heap.size ≤ w6.heap.size := E6.out.size
        have hgm6 := HH.out.map.lt
        have hS7 := S5.out.keep E7.out
        have hA := hS7.add (x := ⟨f, cl, [0]⟩) HFR.out m8 g8 (O7.out.grown g8 (fun q => by injection q with q; omega)) ((M6.out.keep b7).grown g8 (fun q => by injection q with q; omega)) (m := w5.heap.size) (fun x hx => S5.out.lt x hx) hE67 (Nat.le_refl _) (by omega)
        have hP9 : Tr w8 w9 (fun x => x = w.heap.size) (fun x => x = w.heap.size) := Tr.grown g9 (fun g q => .inl (by injection q with q; exact q.symm))
        have hP8 : Tr w7 w8 (fun x => x = gm) (fun x => x = gm) := Tr.grown g8 (fun g q => .inl (by injection q with q; exact q.symm))
        have hS9 := hA.1.other hP9 (fun x hx q => by
          rcases hA.2 x hx with hx | hx
          · have := HH.out.lt x hx; omega
          · have := Own.lt o5.out; omega)
        have hF9 := ((F5.out.keep E7.out).other hP8 (fun x hx q => HAPT.out x (.inr (.inl q)) hx)).other hP9 (fun x hx q => by have := HF.out.lt x hx; omega)
        have hT5 : Tr w w5 (Un (SB gs gm ad L) (FB gf gb gt A)) (Un (SB gs gm ad L) (FB gf gb gt A)) := (Tr.ext HE.out).trans (T5.out.mono (fun _ q => .inr q) (fun x hx => by
          rcases hx with hx | hx
          · exact .inr (.inl (.inl hx))
          · exact .inl hx))
        have hT9 := (((hT5.stepE E7.out).step g8 (fun g q => .inl (.inl (by injection q with q; exact .inr (.inl q.symm))))).step g9 (fun g q => .inr (by injection q with q; omega))).to (Q' := Un (SB gs gm (fun j => if j = f then (w6.heap.size, w5.heap.size) else ad j) (insP ⟨f, cl, [0]⟩ L)) (FB gf gb gt A)) (fun x hx => by
          rcases hx with hx | hx
          · rcases hA.2 x hx with hx | hx
            · exact .inl (.inl hx)
            · exact .inr (.inr (by omega))
          · exact .inl (.inr hx))
        exact bodyPost_ret (v := .tuple #[.agg #[.int .i64 (f : Int), .int .i64 0, .int .i64 cl], .int .i64 0]) (results_own2 Try.results38 (by kernel_rfl) 3 size_ref _ _ _ _ _ _ rfl rfl o9 rfl) rfl ⟨by rw [HTV.out], _, by rw [HTL.out]; exact hS9, by rw [HTL.out]; exact hF9, by rw [HTL.out]; exact hT9⟩

end Go.Proofs.Ytebkknkgkjblnaa
