/-
  WALKS of package wheel: Tick.
-/
import Derived.Test.YtjipkgnkabocjaaWhlI
namespace Go.Proofs.Ytjipkgnkabocjaa
open Go.RowKit
attribute [local go_sem] depUpon Sp.ok

theorem row_row {w : World} {B1 B2 n1 c1 s1 n2 c2 s2 : Nat} {e1 e2 : TypeId} {A1 A2 : Option Addr} {xs ys : List Value} (h1 : Row w B1 e1 s1 A1 n1 c1 xs) (h2 : Row w B2 e2 s2 A2 n2 c2 ys) (ht : e1 ≠ e2) : ∀ b, blk A1 = some b → blk A2 ≠ some b := by
  intro b hb hb2
  rcases h1.2 with ⟨hv, _⟩ | ⟨g1, cap1, cur1, hv1, _, hc1, _⟩
  · injection hv with q1 q2 q3
    subst q1; cases hb
  rcases h2.2 with ⟨hv, _⟩ | ⟨g2, cap2, cur2, hv2, _, hc2, _⟩
  · injection hv with q1 q2 q3
    subst q1; cases hb2
  injection hv1 with q1 q2 q3
  injection hv2 with p1 p2 p3
  subst q1; subst p1
  have r1 : g1 = b := by simpa [blk] using hb
  have r2 : g2 = b := by simpa [blk] using hb2
  subst r1; subst r2
  have := hc1.symm.trans hc2
  injection this with this
  injection this with _ q _
  exact ht q
/-- The wheel while a tick is under way, and the list of who goes off. -/
structure TI (w0 w : World) (B g : Nat) (m n : Int) (F0 F : FW) (R : RW) (A : Option Addr) (no co : Nat) (off : List Int) : Prop where
  ws : WS w B g m n F R
  wt : WT w0 w g F0 F
  row : Row w w0.heap.size 3 1 A no co (ints off)
  lo : B ≤ w0.heap.size
  gl : g < w0.heap.size
/-- The timers of the slot that has come up. -/
structure LK (w : World) (B : Nat) (A : Option Addr) (c : Nat) (l : TL) (F : FW) : Prop where
  row : Row w B 62 2 A l.length c (pairs l)
  sep : ∀ k, k < 256 → ∀ b, blk A = some b → blk (F k).1 ≠ some b
section
variable {w0 w w' : World} {B g : Nat} {m n : Int} {F0 F F' : FW} {R R' : RW} {A : Option Addr} {no co : Nat} {off : List Int} {Al : Option Addr} {cl : Nat} {l : TL}
theorem TI.len (h : TI w0 w B g m n F0 F R A no co off) : off.length = no := by
  have := h.row.len
  rw [Nat.mul_one] at this
  simpa [ints] using this
theorem TI.keep (h : TI w0 w B g m n F0 F R A no co off) (hb : Ext w w') : TI w0 w' B g m n F0 F R A no co off := ⟨h.ws.keep hb, h.wt.trans (WT.ext hb), h.row.keep hb, h.lo, h.gl⟩
theorem TI.put (h : TI w0 w B g m n F0 F R A no co off) {n' : Int} (h1 : WS w' B g m n' F' R') (h2 : WT w w' g F F') : TI w0 w' B g m n' F0 F' R' A no co off :=
  ⟨h1, h.wt.trans h2, h2.row h.row (fun e => by have := (h.row.at_ _ e).1; have := h.gl; omega) (fun k hk i hi => row_row h.row (h.ws.row k hk) (by decide) i hi), h.lo, h.gl⟩
theorem TI.app (h : TI w0 w B g m n F0 F R A no co off) (hg : w.grownBy w' (blk A)) {A' : Option Addr} {no' co' : Nat} {off' : List Int} (hr : Row w' w0.heap.size 3 1 A' no' co' (ints off')) : TI w0 w' B g m n F0 F R A' no' co' off' := by
  have hA : ∀ i, blk A = some i → w0.heap.size ≤ i := fun i hi => (h.row.at_ i hi).1
  refine ⟨⟨h.ws.own.grown hg (fun q => ?_), fun k hk => (h.ws.row k hk).grown hg ?_, h.ws.sep, h.ws.lo⟩, ⟨Below.trans h.wt.base ⟨hg.os, hg.tape, hg.output, hg.size, fun i hi => by omega⟩, fun i hi hig hF => ?_, h.wt.fr⟩, hr, h.lo, h.gl⟩
  · have := hA g q.symm; have := h.gl; omega
  · cases hb : blk (F k).1 with
    | none => exact .inl rfl
    | some b => exact .inr fun q => row_row (h.ws.row k hk) h.row (by decide) b hb q.symm
  · exact (hg.block i (Nat.lt_of_lt_of_le hi h.wt.base.size) (fun q => by have := hA i q.symm; omega)).trans (h.wt.block i hi hig hF)
theorem TI.nTo (h : TI w0 w B g m n F0 F R A no co off) (v : Int) : TI w0 (w.setCell ⟨g, 257, none⟩ (.int .i64 v)) B g m v F0 F R A no co off := by
  obtain ⟨h1, h2⟩ := h.ws.nTo v
  exact h.put h1 h2
theorem TI.ne (h : TI w0 w B g m n F0 F R A no co off) (hK : Row w B 62 2 Al l.length cl (pairs l)) : ∀ b, blk Al = some b → b ≠ g := row_ne hK h.ws.own (by decide)
theorem LK.keep (h : LK w B Al cl l F) (hb : Ext w w') : LK w' B Al cl l F := ⟨h.row.keep hb, h.sep⟩
theorem LK.put (h : LK w B Al cl l F) (hT : TI w0 w B g m n F0 F R A no co off) (h2 : WT w w' g F F') : LK w' B Al cl l F' := by
  refine ⟨h2.row h.row (fun e => hT.ne h.row _ e rfl) (fun k hk i hi => h.sep k hk i hi), fun k hk b hb hb2 => ?_⟩
  rcases h2.fr k hk b hb2 with ⟨j, hj, q⟩ | q
  · exact h.sep j hj b hb q
  · have := (h.row.at_ b hb).2; omega
theorem LK.app (h : LK w B Al cl l F) (hT : TI w0 w B g m n F0 F R A no co off) (hg : w.grownBy w' (blk A)) : LK w' B Al cl l F := by
  refine ⟨h.row.grown hg ?_, h.sep⟩
  cases hb : blk Al with
  | none => exact .inl rfl
  | some b => exact .inr fun q => row_row h.row hT.row (by decide) b hb q.symm
theorem LK.nTo (h : LK w B Al cl l F) (hT : TI w0 w B g m n F0 F R A no co off) (v : Int) : LK (w.setCell ⟨g, 257, none⟩ (.int .i64 v)) B Al cl l F :=
  ⟨h.row.grown (setCell_grown w ⟨g, 257, none⟩ (.int .i64 v)) (.inr fun q => hT.ne h.row _ q rfl), h.sep⟩
theorem TI.clear (h : TI w0 w B g m n F0 F R A no co off) {k : Nat} (hk : k < 256) (o : Nat) (ho : o = 1 + k) :
    TI w0 (w.setCell ⟨g, o, none⟩ (.slice none 0 0)) B g m n F0 (updF F k (none, 0)) (updR R k []) A no co off ∧ LK (w.setCell ⟨g, o, none⟩ (.slice none 0 0)) B (F k).1 (F k).2 (R k) (updF F k (none, 0)) := by
  have hs := h.ws.slotTo hk (World.grownBy.refl w (blk (F k).1)) (A := none) (m := 0) (c := 0) (ys := []) (Row.nil _ _ _ _) rfl (fun i q => by cases q) o ho
  refine ⟨h.put hs.1 hs.2, (h.ws.row k hk).grown (setCell_grown w ⟨g, o, none⟩ (.slice none 0 0)) (.inr fun q => row_ne (h.ws.row k hk) h.ws.own (by decide) _ q rfl), fun j hj b hb => ?_⟩
  unfold updF
  by_cases e : j = k
  · rw [if_pos e]; simp [blk]
  · rw [if_neg e]; exact h.ws.sep k j hk hj (fun q => e q.symm) b hb
end
theorem take_last (l : TL) : l.take l.length = l := List.take_length
theorem and_pw (x : Int) (h0 : 0 ≤ x) (h1 : x ≤ 9223372036854775807) :
    bits .and .i64 x 262143 = x % 262144 ∧ bits .and .i64 x 4095 = x % 4096 ∧ bits .and .i64 x 63 = x % 64 ∧ bits .and .i64 x 0 = 0 := by
  obtain ⟨n, rfl⟩ : ∃ n : Nat, x = (n : Int) := ⟨x.toNat, by omega⟩
  have key : ∀ k : Nat, k ≤ 18 → bits .and .i64 (n : Int) ((2 ^ k - 1 : Nat) : Int) = ((n % 2 ^ k : Nat) : Int) := fun k hk => by
    have hp : 2 ^ k ≤ 2 ^ 18 := Nat.pow_le_pow_right (by omega) hk
    show IntKind.i64.wrap (((BitVec.ofInt 64 (n : Int) &&& BitVec.ofInt 64 ((2 ^ k - 1 : Nat) : Int)).toNat : Nat) : Int) = _
    rw [BitVec.ofInt_natCast, BitVec.ofInt_natCast, BitVec.toNat_and, BitVec.toNat_ofNat, BitVec.toNat_ofNat, Nat.mod_eq_of_lt (by omega), Nat.mod_eq_of_lt (by omega), Nat.and_two_pow_sub_one_eq_mod]
    have h2 : n % 2 ^ k < 2 ^ k := Nat.mod_lt _ (Nat.two_pow_pos k)
    rw [IntWalk.i64_in _ ⟨by omega, by omega⟩]
  refine ⟨(key 18 (by omega)).trans ?_, (key 12 (by omega)).trans ?_, (key 6 (by omega)).trans ?_, (key 0 (by omega)).trans ?_⟩
  · omega
  · omega
  · omega
  · omega

set_option maxRecDepth 100000 in
set_option maxHeartbeats 8000000 in
theorem w_tick (B g : Nat) (now : Int) (F : FW) (R : RW) (L : TL) (w : World) (h : WS w B g now (L.length : Int) F R) (hF : Fits now R L) (hB : B ≤ w.heap.size) (h1 : now < 16777215) :
    Calls Try.prog 13 #[.pointer (some ⟨g, 0, none⟩)] w fun e w' => ∃ A c F' R', e = .returned (.tuple #[.slice A (goneF now L).length c, .int .i64 (movA now L : Nat)]) ∧ Row w' w.heap.size 3 1 A (goneF now L).length c (ints (goneF now L)) ∧
      WS w' B g (now + 1) ((stayF now L).length : Int) F' R' ∧ Fits (now + 1) R' (stayF now L) ∧ WT w w' g F F' := by
  have n0 := hF.lo
  have v0 := h.now_
  have f0 := h.own.frozen 0
  have tm : (now == 16777215) = false := by simp; omega
  have HF := Lib.hid hF
  have hS := h.nowTo (now + 1)
  have HT0 := Lib.hid (show TI w (w.setCell ⟨g, 0, none⟩ (.int .i64 (now + 1))) B g (now + 1) ((L.length : Int) - (([] : List Int).length : Int)) F F R none 0 0 [] from ⟨by simpa using hS.1, hS.2, Row.nil _ _ _ _, hB, h.own.lt⟩)
  have hR0 := Ring.start hF
  have HFU := Lib.hid (fun x hx => (⟨hF.lo, (hF.fut x hx).1, (hF.fut x hx).2⟩ : Fut now x))
  have HDN := Lib.hid (fun R off mv (hM : Ring now 0 R L off mv) => hM.done hF.srt hF.fut hF.lo h1 hF.len)
  have HAN := Lib.hid (and_pw (now + 1) (by omega) (by omega))
  have HLEN := Lib.hid hF.len
  obtain ⟨i0, hi, hz0, hz1, hz2⟩ := info_parts info_int
  have HI := Lib.hid hi
  clear hF h hS hB hi
  go_enter Try.func13, Try.ntmps13
  go_wp2
  generalize w.setCell ⟨g, 0, none⟩ (.int .i64 (now + 1)) = w1 at *
  clear v0 f0
  go_loopw [4, 5, 6] (fun v4 v5 v6 wr => ∃ (j : Nat) (A : Option Addr) (no co mv : Nat) (F' : FW) (R' : RW) (off : List Int), v4 = .slice A no co ∧ v5 = .int .i64 (mv : Int) ∧ v6 = .int .i64 ((j : Int) - 1) ∧ j ≤ 4 ∧ TI w wr B g (now + 1) ((L.length : Int) - (off.length : Int)) F F' R' A no co off ∧ Ring now j R' L off mv) (fun _ _ q _ => (intOf q + 1).toNat)
  case atStart => exact ⟨4, none, 0, 0, 0, F, R, [], rfl, rfl, rfl, by omega, HT0.out, hR0⟩
  case round =>
    clear hR0 HT0
    obtain ⟨j, A, no, co, mv, F1, R1, off, rfl, rfl, rfl, hj, hT, hM⟩ := hrel
    have HM := Lib.hid hM
    have HT := Lib.hid hT
    have hno := hT.len
    have hol : off.length ≤ 64 := by
      have h1 := hM.off.length_eq
      rw [List.length_map] at h1
      have h2 := List.length_filter_le (fun x : Int × Int => decide (j ≤ rg now x.2 ∧ x.2 = now + 1)) L
      have h3 := HLEN.out
      omega
    have hml : mv ≤ 64 := by
      rw [hM.mv]
      exact Nat.le_trans (List.length_filter_le _ _) HLEN.out
    clear hM hT
    have hcase : j = 0 ∨ j = 1 ∨ j = 2 ∨ j = 3 ∨ j = 4 := by omega
    rcases hcase with rfl | rfl | rfl | rfl | rfl
    · rw [show (((0 : Nat) : Int) - 1) = -1 from rfl]
      obtain ⟨d1, d2, d3, d4⟩ := HDN.out _ _ _ HM.out
      have HD := Lib.hid (And.intro d1 (And.intro d2 d3))
      obtain rfl : no = (goneF now L).length := by omega
      have hsort := sort_row w.heap.size A (goneF now L).length co off wr HT.out.row (by omega)
      rw [d2] at hsort
      have HST := Lib.hid hsort
      have HN := Lib.hid (show (L.length : Int) - (off.length : Int) = ((stayF now L).length : Int) by have := stay_len now L; omega)
      rw [d3]
      clear d1 d2 d3 d4 hsort hno hol hml
      go_wp2_with ((with_reducible go_at_call 32); (with_reducible refine HST.out.mono ?_); rintro e w3 ⟨rfl, r3, g3⟩)
      go_ret2
      have h3 := HT.out.app g3 r3
      rw [HN.out] at h3
      exact ⟨A, co, F1, R1, rfl, r3, h3.ws, HD.out.1, h3.wt⟩
    · rw [show (((1 : Nat) : Int) - 1) = 0 from rfl]
      have hand := HAN.out.2.2.2
      have v0 := HT.out.ws.now_
      have HX := Lib.hid (HM.out.next HFU.out (by omega))
      obtain ⟨s, hs, hs64⟩ : ∃ s : Nat, dg (now + 1) 0 = (s : Int) ∧ s < 64 := by
        have h1 := dg_lo (now + 1) 0
        have h2 := dg_hi (now + 1) 0
        exact ⟨(dg (now + 1) 0).toNat, by omega, by omega⟩
      have hsl : sl now 0 = 0 + s := by unfold sl; omega
      have hdg := fun w => w_digit (now + 1) 0 w (by omega) (by omega) (by omega)
      rw [hs, show ((0 : Nat) : Int) = 0 from rfl] at hdg
      rw [hsl] at HX
      have HDG := Lib.hid hdg
      have s0 : (0 : Int) ≤ (s : Int) := by omega
      have s1 : (s : Int) < 64 := by omega
      clear hs hsl hdg
      go_upto_region 10 with fail
      refine wp_region_dep (S := Ext) (C := Ext (wr)) (by kernel_rfl) (by kernel_rfl) rfl Ext.refl (Ext.drew _) ?_
      repeat (refine dep_det (by rfl) (fun K hK => ?_); go_simp; first
        | ((with_reducible refine hK _ ?_); clear hK K)
        | (rw [if_neg (by decide)]; (with_reducible refine hK _ ?_); clear hK K)
        | (refine ⟨_, fun w1 hw1 => ⟨Ext.refl w1, hw1, rfl⟩, hK _ ?_⟩; clear hK K)
        | (apply Exists.intro; refine ⟨fun w1 hw1 => ?_, hK _ ?_⟩
           first
             | (have c_v0 := cell_keep hw1 v0; go_simp; first | exact ⟨Ext.refl _, hw1, rfl⟩ | exact ⟨Ext.refl _, rfl⟩)
             | (go_at_call 30; ((with_reducible refine (HDG.out _).mono ?_); rintro e w' ⟨rfl, rfl⟩; exact ⟨_, rfl, Ext.refl _, hw1, rfl⟩))
           clear hK K))
      refine dep_nil ?_
      intro a' w' hC hE
      obtain rfl := atEnd_nil hE
      clear hE
      have hT2 := HT.out.keep hC
      have hl64 : (R1 (0 + s)).length ≤ 64 := by
        rw [(HM.out.perm (0 + s) (by omega)).length_eq]
        exact Nat.le_trans (List.length_filter_le _ _) HLEN.out
      have HRL := Lib.hid (show ∀ k, k < 256 → (updR R1 (0 + s) [] k).length ≤ 64 from fun k hk => by
        unfold updR
        split
        · simp
        · rw [(HM.out.perm k hk).length_eq]
          exact Nat.le_trans (List.length_filter_le _ _) HLEN.out)
      have HML := Lib.hid (show ∀ x ∈ R1 (0 + s), Fut now x from fun x hx => HFU.out x (List.mem_filter.1 ((HM.out.perm (0 + s) (by omega)).mem_iff.1 hx)).1)
      have v1 : w'.cell? ⟨g, 1 + s, none⟩ = some (.slice (F1 (0 + s)).1 (R1 (0 + s)).length (F1 (0 + s)).2) := by
        have := hT2.ws.slot (k := 0 + s) (by omega)
        rw [show 1 + (0 + s) = 1 + s by omega] at this
        exact this
      have f1 := hT2.ws.own.frozen (1 + s)
      have HCL := Lib.hid (hT2.clear (k := 0 + s) (by omega) (1 + s) (by omega))
      clear HT HM hT2 v0
      generalize R1 (0 + s) = l at *
      generalize (F1 (0 + s)).1 = Al at *
      generalize (F1 (0 + s)).2 = cl at *
      go_wp2
      generalize w'.setCell ⟨g, 1 + s, none⟩ (.slice none 0 0) = w2 at *
      generalize updR R1 (0 + s) [] = R2 at *
      generalize updF F1 (0 + s) (none, 0) = F2 at *
      clear v1 f1 hC
      go_loopw [4, 5, 63] (fun v4 v5 q wi => ∃ (i : Nat) (A : Option Addr) (no co : Nat) (F' : FW), v4 = .slice A no co ∧ v5 = .int .i64 ((mv + movF now 0 (l.take i) : Nat) : Int) ∧ q = .int .i64 (i : Int) ∧ i ≤ l.length ∧ TI w wi B g (now + 1) ((L.length : Int) - ((off ++ goneF now (l.take i)).length : Int)) F F' (Rt now R2 (l.take i)) A no co (off ++ goneF now (l.take i)) ∧ LK wi B Al cl l F') (fun _ _ q _ => l.length - (intOf q).toNat)
      case atStart => exact ⟨0, A, no, co, F2, rfl, rfl, rfl, by omega, by rw [List.take_zero, Rt_nil, show goneF now [] = [] from rfl, List.append_nil]; exact HCL.out.1, HCL.out.2⟩
      case round =>
        clear HCL hno
        obtain ⟨i, A, no, co, F3, rfl, rfl, rfl, hi, hT, hK⟩ := hrel
        have hoi : (goneF now (l.take i)).length ≤ 64 := Nat.le_trans (goneF_le _ _) (by rw [List.length_take]; omega)
        have hmi : movF now 0 (l.take i) ≤ 64 := Nat.le_trans (movF_le _ _ _) (by rw [List.length_take]; omega)
        have hno := hT.len
        rw [List.length_append] at hno
        by_cases hil : i < l.length
        · have HTK := Lib.hid (take_succ' l i hil)
          obtain ⟨b, o, rfl, d0, d1⟩ := hK.row.rd.pair hil
          obtain ⟨_, y0, y1⟩ := HML.out _ (List.getElem_mem hil)
          generalize hy : l[i] = y at *
          obtain ⟨yi, ya⟩ := y
          simp only at d0 d1 y0 y1
          have i0' : (0 : Int) ≤ (i : Int) := by omega
          have i1' : (i : Int) < (l.length : Int) := by omega
          have bX := Ext.alloc wr (.cells #[.int .i64 yi, .int .i64 ya] 62)
          have oX := Own.new wr 62 [.int .i64 yi, .int .i64 ya]
          have v0 := (hT.keep bX).ws.now_
          have HT := Lib.hid (hT.keep bX)
          have HK := Lib.hid (hK.keep bX)
          have hwl := hT.wt.base.size
          have hwz := bX.size
          have hrl := HRL.out (ix (now + 1) ya) (ix_hi _ _)
          have HRN := Lib.hid (show (Rt now R2 (l.take i) (ix (now + 1) ya)).length ≤ 65536 by
            unfold Rt
            rw [List.length_append]
            have := List.length_filter_le (fun x : Int × Int => decide (x.2 ≠ now + 1 ∧ ix (now + 1) x.2 = ix (now + 1) ya)) (l.take i)
            rw [List.length_take] at this
            omega)
          clear hT hK bX hy hrl
          go_upto_region 20 with fail
          generalize wr.alloc (.cells #[.int .i64 yi, .int .i64 ya] 62) = w4 at *
          have x0 := oX.cell 0
          have x1 := oX.cell 1
          simp only [List.getElem?_cons_zero, List.getElem?_cons_succ] at x0 x1
          clear oX d0 d1
          by_cases ha : ya = now + 1
          · subst ha
            have HG1 := Lib.hid (gone_off now (l.take i) (yi, now + 1) rfl)
            have HM1 := Lib.hid (mov_off now 0 (l.take i) (yi, now + 1) rfl)
            have HR1 := Lib.hid (Rt_off now R2 (l.take i) (yi, now + 1) rfl)
            have HAP := Lib.hid (ints_app' (off ++ goneF now (l.take i)) [yi])
            have HNV := Lib.hid (show (L.length : Int) - ((off ++ goneF now (l.take i)).length : Int) - 1 = (L.length : Int) - ((off ++ goneF now (l.take i) ++ [yi]).length : Int) by simp; omega)
            have nv0 : -200 ≤ (L.length : Int) - ((off ++ goneF now (l.take i)).length : Int) := by rw [List.length_append]; omega
            have nv1 : (L.length : Int) - ((off ++ goneF now (l.take i)).length : Int) ≤ 200 := by have := HLEN.out; omega
            generalize (L.length : Int) - ((off ++ goneF now (l.take i)).length : Int) = nv at *
            refine wp_region_dep (S := Ext) (C := Ext (w4)) (by kernel_rfl) (by kernel_rfl) rfl Ext.refl (Ext.drew _) ?_
            repeat (refine dep_det (by rfl) (fun K hK => ?_); go_simp; first
              | ((with_reducible refine hK _ ?_); clear hK K)
              | (rw [if_neg (by decide)]; (with_reducible refine hK _ ?_); clear hK K)
              | (refine ⟨_, fun w1 hw1 => ⟨Ext.refl w1, hw1, rfl⟩, hK _ ?_⟩; clear hK K)
              | (apply Exists.intro; refine ⟨fun w1 hw1 => ?_, hK _ ?_⟩
                 first
                   | (have c_x1 := cell_keep hw1 x1; have c_v0 := cell_keep hw1 v0; go_simp; first | exact ⟨Ext.refl _, hw1, rfl⟩ | exact ⟨Ext.refl _, rfl⟩)
                 clear hK K))
            refine dep_nil ?_
            intro a' w' hC hE
            obtain rfl := atEnd_nil hE
            clear hE
            replace x0 := cell_keep hC x0
            have hT5 := HT.out.keep hC
            have HK5 := Lib.hid (HK.out.keep hC)
            have HT5 := Lib.hid hT5
            have hw5 := hC.size
            have r5 := hT5.row
            clear hT5
            go_wp2_with (at_builtin; have r7 := (r5.alloc (.cells #[.int .i64 yi] 3)); refine wpl_append _ rfl (.tmp 90) (.tmp 93) 22 rfl 3 i0 _ 1 8 Try.underlying22 HI.out hz0 hz1 hz2 rfl (by omega) w.heap.size A no co _ rfl r7 _ 1 1 (ints [yi]) rfl rfl (rd1i _ _) (ints_one _) (no + 1) _ rfl HAP.out (by omega) (by omega) (by simp; omega) ?_; intro A2 c2 w6 o6 g6 k6; have hT6 := (HT5.out.keep (Ext.alloc _ _)).app g6 o6; have v257 := hT6.ws.n_; have f257 := hT6.ws.own.frozen 257; have HT6 := Lib.hid hT6; have HK6 := Lib.hid ((HK5.out.keep (Ext.alloc _ _)).app (HT5.out.keep (Ext.alloc _ _)) g6); clear hT6 r5 r7 x0 o6 g6 k6)
            go_roundw
            case rel => exact ⟨i + 1, A2, no + 1, c2, F3, rfl, by rw [HTK.out, HM1.out, Int.natCast_add], by go_num, by omega, by rw [HTK.out, HG1.out, HR1.out, ← List.append_assoc, ← HNV.out]; exact HT6.out.nTo _, HK6.out.nTo HT6.out _⟩
            case measure => simp [intOf]; omega
          · have ta : (ya == now + 1) = false := by simp [ha]
            have HG1 := Lib.hid (gone_put now (l.take i) (yi, ya) ha)
            have HM1 := Lib.hid (mov_put now 0 (l.take i) (yi, ya) ha)
            have HR1 := Lib.hid (Rt_put now R2 (l.take i) (yi, ya) ha)
            have hpl := fun w' (h' : Ext w4 w') => w_place g (now + 1) ya w' ((HT.out.keep h').ws.now_) (by omega) (by omega) (by omega) (by omega)
            have HTU := Lib.hid (fun w' (h' : Ext w4 w') => w_turn_put B g (now + 1) _ F3 (Rt now R2 (l.take i)) yi ya w' ((HT.out.keep h').ws) (by omega) (by omega) (by omega) (by omega) HRN.out (Nat.le_trans HT.out.lo (HT.out.keep h').wt.base.size))
            have hpb : ((mv + movF now 0 (l.take i) : Nat) : Int) ≤ 200 := by omega
            have hpa : 0 ≤ ((mv + movF now 0 (l.take i) : Nat) : Int) := by omega
            by_cases hr : rg (now + 1) ya = 0
            · have HM2 := Lib.hid (show movF now 0 (l.take i ++ [(yi, ya)]) = movF now 0 (l.take i) by rw [HM1.out, if_neg (by simp [hr])]; rfl)
              rw [hr, show ((0 : Nat) : Int) = 0 from rfl] at hpl
              have HPL := Lib.hid hpl
              clear hpl ha hr
              generalize dg ya 0 = dv at *
              refine wp_region_dep (S := Ext) (C := Ext (w4)) (by kernel_rfl) (by kernel_rfl) rfl Ext.refl (Ext.drew _) ?_
              repeat (refine dep_det (by rfl) (fun K hK => ?_); go_simp; first
                | ((with_reducible refine hK _ ?_); clear hK K)
                | (rw [if_neg (by decide)]; (with_reducible refine hK _ ?_); clear hK K)
                | (refine ⟨_, fun w1 hw1 => ⟨Ext.refl w1, hw1, rfl⟩, hK _ ?_⟩; clear hK K)
                | (apply Exists.intro; refine ⟨fun w1 hw1 => ?_, hK _ ?_⟩
                   first
                     | (have c_x1 := cell_keep hw1 x1; have c_v0 := cell_keep hw1 v0; go_simp; first | exact ⟨Ext.refl _, hw1, rfl⟩ | exact ⟨Ext.refl _, rfl⟩)
                   clear hK K))
              refine dep_nil ?_
              intro a' w' hC hE
              obtain rfl := atEnd_nil hE
              clear hE
              replace x0 := cell_keep hC x0
              replace x1 := cell_keep hC x1
              go_wp2_with (first
                | ((with_reducible go_at_call 31); (with_reducible refine (HPL.out _ hC).mono ?_); rintro e w6 ⟨rfl, b6⟩; replace x0 := cell_keep b6 x0; replace x1 := cell_keep b6 x1)
                | ((with_reducible go_at_call 28); (with_reducible refine (HTU.out _ (Ext.trans hC b6)).mono ?_); rintro e w7 ⟨rfl, F4, h7, t7⟩))
              go_roundw
              case rel => exact ⟨i + 1, A, no, co, F4, rfl, by rw [HTK.out, HM2.out, Int.natCast_add], by go_num, by omega, by rw [HTK.out, HG1.out, ← HR1.out]; exact (HT.out.keep (Ext.trans hC b6)).put h7 t7, (HK.out.keep (Ext.trans hC b6)).put (HT.out.keep (Ext.trans hC b6)) t7⟩
              case measure => simp [intOf]; omega
            · have HM2 := Lib.hid (show movF now 0 (l.take i ++ [(yi, ya)]) = movF now 0 (l.take i) + 1 by rw [HM1.out, if_pos hr])
              have HPL := Lib.hid hpl
              have tr : (((rg (now + 1) ya : Nat) : Int) != 0) = true := by simp; omega
              clear hpl ha hr
              generalize dg ya (rg (now + 1) ya) = dv at *
              generalize rg (now + 1) ya = rv at *
              refine wp_region_dep (S := Ext) (C := Ext (w4)) (by kernel_rfl) (by kernel_rfl) rfl Ext.refl (Ext.drew _) ?_
              repeat (refine dep_det (by rfl) (fun K hK => ?_); go_simp; first
                | ((with_reducible refine hK _ ?_); clear hK K)
                | (rw [if_neg (by decide)]; (with_reducible refine hK _ ?_); clear hK K)
                | (refine ⟨_, fun w1 hw1 => ⟨Ext.refl w1, hw1, rfl⟩, hK _ ?_⟩; clear hK K)
                | (apply Exists.intro; refine ⟨fun w1 hw1 => ?_, hK _ ?_⟩
                   first
                     | (have c_x1 := cell_keep hw1 x1; have c_v0 := cell_keep hw1 v0; go_simp; first | exact ⟨Ext.refl _, hw1, rfl⟩ | exact ⟨Ext.refl _, rfl⟩)
                   clear hK K))
              refine dep_nil ?_
              intro a' w' hC hE
              obtain rfl := atEnd_nil hE
              clear hE
              replace x0 := cell_keep hC x0
              replace x1 := cell_keep hC x1
              go_wp2_with (first
                | ((with_reducible go_at_call 31); (with_reducible refine (HPL.out _ hC).mono ?_); rintro e w6 ⟨rfl, b6⟩; replace x0 := cell_keep b6 x0; replace x1 := cell_keep b6 x1)
                | ((with_reducible go_at_call 28); (with_reducible refine (HTU.out _ (Ext.trans hC b6)).mono ?_); rintro e w7 ⟨rfl, F4, h7, t7⟩))
              go_roundw
              case rel => exact ⟨i + 1, A, no, co, F4, rfl, by rw [HTK.out, HM2.out]; go_num, by go_num, by omega, by rw [HTK.out, HG1.out, ← HR1.out]; exact (HT.out.keep (Ext.trans hC b6)).put h7 t7, (HK.out.keep (Ext.trans hC b6)).put (HT.out.keep (Ext.trans hC b6)) t7⟩
              case measure => simp [intOf]; omega
        · obtain rfl : i = l.length := by omega
          rw [take_last] at hT ⊢
          have HT := Lib.hid hT
          clear hT hK
          go_wp2
          go_roundw
          case rel => exact ⟨0, A, no, co, mv + movF now 0 l, F3, Rt now R2 l, off ++ goneF now l, rfl, rfl, by go_num, by omega, HT.out, HX.out⟩
          case measure => simp [intOf]

    · rw [show (((2 : Nat) : Int) - 1) = 1 from rfl]
      have hand := HAN.out.2.2.1
      have v0 := HT.out.ws.now_
      by_cases hp : (now + 1) % 64 = 0
      case neg =>
        have tp : ((now + 1) % 64 != 0) = true := by simp [hp]
        have HX := Lib.hid (HM.out.idle HFU.out (by unfold pw; exact hp))
        clear hp
        go_wp2
        go_roundw
        case rel => exact ⟨1, A, no, co, mv, F1, R1, off, rfl, rfl, by go_num, by omega, HT.out, HX.out⟩
        case measure => simp [intOf]
      have tp : ((now + 1) % 64 != 0) = false := by simp [hp]
      clear hp
      have HX := Lib.hid (HM.out.next HFU.out (by omega))
      obtain ⟨s, hs, hs64⟩ : ∃ s : Nat, dg (now + 1) 1 = (s : Int) ∧ s < 64 := by
        have h1 := dg_lo (now + 1) 1
        have h2 := dg_hi (now + 1) 1
        exact ⟨(dg (now + 1) 1).toNat, by omega, by omega⟩
      have hsl : sl now 1 = 64 + s := by unfold sl; omega
      have hdg := fun w => w_digit (now + 1) 1 w (by omega) (by omega) (by omega)
      rw [hs, show ((1 : Nat) : Int) = 1 from rfl] at hdg
      rw [hsl] at HX
      have HDG := Lib.hid hdg
      have s0 : (0 : Int) ≤ (s : Int) := by omega
      have s1 : (s : Int) < 64 := by omega
      clear hs hsl hdg
      go_upto_region 10 with fail
      refine wp_region_dep (S := Ext) (C := Ext (wr)) (by kernel_rfl) (by kernel_rfl) rfl Ext.refl (Ext.drew _) ?_
      repeat (refine dep_det (by rfl) (fun K hK => ?_); go_simp; first
        | ((with_reducible refine hK _ ?_); clear hK K)
        | (rw [if_neg (by decide)]; (with_reducible refine hK _ ?_); clear hK K)
        | (refine ⟨_, fun w1 hw1 => ⟨Ext.refl w1, hw1, rfl⟩, hK _ ?_⟩; clear hK K)
        | (apply Exists.intro; refine ⟨fun w1 hw1 => ?_, hK _ ?_⟩
           first
             | (have c_v0 := cell_keep hw1 v0; go_simp; first | exact ⟨Ext.refl _, hw1, rfl⟩ | exact ⟨Ext.refl _, rfl⟩)
             | (go_at_call 30; ((with_reducible refine (HDG.out _).mono ?_); rintro e w' ⟨rfl, rfl⟩; exact ⟨_, rfl, Ext.refl _, hw1, rfl⟩))
           clear hK K))
      refine dep_nil ?_
      intro a' w' hC hE
      obtain rfl := atEnd_nil hE
      clear hE
      have hT2 := HT.out.keep hC
      have hl64 : (R1 (64 + s)).length ≤ 64 := by
        rw [(HM.out.perm (64 + s) (by omega)).length_eq]
        exact Nat.le_trans (List.length_filter_le _ _) HLEN.out
      have HRL := Lib.hid (show ∀ k, k < 256 → (updR R1 (64 + s) [] k).length ≤ 64 from fun k hk => by
        unfold updR
        split
        · simp
        · rw [(HM.out.perm k hk).length_eq]
          exact Nat.le_trans (List.length_filter_le _ _) HLEN.out)
      have HML := Lib.hid (show ∀ x ∈ R1 (64 + s), Fut now x from fun x hx => HFU.out x (List.mem_filter.1 ((HM.out.perm (64 + s) (by omega)).mem_iff.1 hx)).1)
      have v1 : w'.cell? ⟨g, 65 + s, none⟩ = some (.slice (F1 (64 + s)).1 (R1 (64 + s)).length (F1 (64 + s)).2) := by
        have := hT2.ws.slot (k := 64 + s) (by omega)
        rw [show 1 + (64 + s) = 65 + s by omega] at this
        exact this
      have f1 := hT2.ws.own.frozen (65 + s)
      have HCL := Lib.hid (hT2.clear (k := 64 + s) (by omega) (65 + s) (by omega))
      clear HT HM hT2 v0
      generalize R1 (64 + s) = l at *
      generalize (F1 (64 + s)).1 = Al at *
      generalize (F1 (64 + s)).2 = cl at *
      go_wp2
      generalize w'.setCell ⟨g, 65 + s, none⟩ (.slice none 0 0) = w2 at *
      generalize updR R1 (64 + s) [] = R2 at *
      generalize updF F1 (64 + s) (none, 0) = F2 at *
      clear v1 f1 hC
      go_loopw [4, 5, 63] (fun v4 v5 q wi => ∃ (i : Nat) (A : Option Addr) (no co : Nat) (F' : FW), v4 = .slice A no co ∧ v5 = .int .i64 ((mv + movF now 1 (l.take i) : Nat) : Int) ∧ q = .int .i64 (i : Int) ∧ i ≤ l.length ∧ TI w wi B g (now + 1) ((L.length : Int) - ((off ++ goneF now (l.take i)).length : Int)) F F' (Rt now R2 (l.take i)) A no co (off ++ goneF now (l.take i)) ∧ LK wi B Al cl l F') (fun _ _ q _ => l.length - (intOf q).toNat)
      case atStart => exact ⟨0, A, no, co, F2, rfl, rfl, rfl, by omega, by rw [List.take_zero, Rt_nil, show goneF now [] = [] from rfl, List.append_nil]; exact HCL.out.1, HCL.out.2⟩
      case round =>
        clear HCL hno
        obtain ⟨i, A, no, co, F3, rfl, rfl, rfl, hi, hT, hK⟩ := hrel
        have hoi : (goneF now (l.take i)).length ≤ 64 := Nat.le_trans (goneF_le _ _) (by rw [List.length_take]; omega)
        have hmi : movF now 1 (l.take i) ≤ 64 := Nat.le_trans (movF_le _ _ _) (by rw [List.length_take]; omega)
        have hno := hT.len
        rw [List.length_append] at hno
        by_cases hil : i < l.length
        · have HTK := Lib.hid (take_succ' l i hil)
          obtain ⟨b, o, rfl, d0, d1⟩ := hK.row.rd.pair hil
          obtain ⟨_, y0, y1⟩ := HML.out _ (List.getElem_mem hil)
          generalize hy : l[i] = y at *
          obtain ⟨yi, ya⟩ := y
          simp only at d0 d1 y0 y1
          have i0' : (0 : Int) ≤ (i : Int) := by omega
          have i1' : (i : Int) < (l.length : Int) := by omega
          have bX := Ext.alloc wr (.cells #[.int .i64 yi, .int .i64 ya] 62)
          have oX := Own.new wr 62 [.int .i64 yi, .int .i64 ya]
          have v0 := (hT.keep bX).ws.now_
          have HT := Lib.hid (hT.keep bX)
          have HK := Lib.hid (hK.keep bX)
          have hwl := hT.wt.base.size
          have hwz := bX.size
          have hrl := HRL.out (ix (now + 1) ya) (ix_hi _ _)
          have HRN := Lib.hid (show (Rt now R2 (l.take i) (ix (now + 1) ya)).length ≤ 65536 by
            unfold Rt
            rw [List.length_append]
            have := List.length_filter_le (fun x : Int × Int => decide (x.2 ≠ now + 1 ∧ ix (now + 1) x.2 = ix (now + 1) ya)) (l.take i)
            rw [List.length_take] at this
            omega)
          clear hT hK bX hy hrl
          go_upto_region 20 with fail
          generalize wr.alloc (.cells #[.int .i64 yi, .int .i64 ya] 62) = w4 at *
          have x0 := oX.cell 0
          have x1 := oX.cell 1
          simp only [List.getElem?_cons_zero, List.getElem?_cons_succ] at x0 x1
          clear oX d0 d1
          by_cases ha : ya = now + 1
          · subst ha
            have HG1 := Lib.hid (gone_off now (l.take i) (yi, now + 1) rfl)
            have HM1 := Lib.hid (mov_off now 1 (l.take i) (yi, now + 1) rfl)
            have HR1 := Lib.hid (Rt_off now R2 (l.take i) (yi, now + 1) rfl)
            have HAP := Lib.hid (ints_app' (off ++ goneF now (l.take i)) [yi])
            have HNV := Lib.hid (show (L.length : Int) - ((off ++ goneF now (l.take i)).length : Int) - 1 = (L.length : Int) - ((off ++ goneF now (l.take i) ++ [yi]).length : Int) by simp; omega)
            have nv0 : -200 ≤ (L.length : Int) - ((off ++ goneF now (l.take i)).length : Int) := by rw [List.length_append]; omega
            have nv1 : (L.length : Int) - ((off ++ goneF now (l.take i)).length : Int) ≤ 200 := by have := HLEN.out; omega
            generalize (L.length : Int) - ((off ++ goneF now (l.take i)).length : Int) = nv at *
            refine wp_region_dep (S := Ext) (C := Ext (w4)) (by kernel_rfl) (by kernel_rfl) rfl Ext.refl (Ext.drew _) ?_
            repeat (refine dep_det (by rfl) (fun K hK => ?_); go_simp; first
              | ((with_reducible refine hK _ ?_); clear hK K)
              | (rw [if_neg (by decide)]; (with_reducible refine hK _ ?_); clear hK K)
              | (refine ⟨_, fun w1 hw1 => ⟨Ext.refl w1, hw1, rfl⟩, hK _ ?_⟩; clear hK K)
              | (apply Exists.intro; refine ⟨fun w1 hw1 => ?_, hK _ ?_⟩
                 first
                   | (have c_x1 := cell_keep hw1 x1; have c_v0 := cell_keep hw1 v0; go_simp; first | exact ⟨Ext.refl _, hw1, rfl⟩ | exact ⟨Ext.refl _, rfl⟩)
                 clear hK K))
            refine dep_nil ?_
            intro a' w' hC hE
            obtain rfl := atEnd_nil hE
            clear hE
            replace x0 := cell_keep hC x0
            have hT5 := HT.out.keep hC
            have HK5 := Lib.hid (HK.out.keep hC)
            have HT5 := Lib.hid hT5
            have hw5 := hC.size
            have r5 := hT5.row
            clear hT5
            go_wp2_with (at_builtin; have r7 := (r5.alloc (.cells #[.int .i64 yi] 3)); refine wpl_append _ rfl (.tmp 90) (.tmp 93) 22 rfl 3 i0 _ 1 8 Try.underlying22 HI.out hz0 hz1 hz2 rfl (by omega) w.heap.size A no co _ rfl r7 _ 1 1 (ints [yi]) rfl rfl (rd1i _ _) (ints_one _) (no + 1) _ rfl HAP.out (by omega) (by omega) (by simp; omega) ?_; intro A2 c2 w6 o6 g6 k6; have hT6 := (HT5.out.keep (Ext.alloc _ _)).app g6 o6; have v257 := hT6.ws.n_; have f257 := hT6.ws.own.frozen 257; have HT6 := Lib.hid hT6; have HK6 := Lib.hid ((HK5.out.keep (Ext.alloc _ _)).app (HT5.out.keep (Ext.alloc _ _)) g6); clear hT6 r5 r7 x0 o6 g6 k6)
            go_roundw
            case rel => exact ⟨i + 1, A2, no + 1, c2, F3, rfl, by rw [HTK.out, HM1.out, Int.natCast_add], by go_num, by omega, by rw [HTK.out, HG1.out, HR1.out, ← List.append_assoc, ← HNV.out]; exact HT6.out.nTo _, HK6.out.nTo HT6.out _⟩
            case measure => simp [intOf]; omega
          · have ta : (ya == now + 1) = false := by simp [ha]
            have HG1 := Lib.hid (gone_put now (l.take i) (yi, ya) ha)
            have HM1 := Lib.hid (mov_put now 1 (l.take i) (yi, ya) ha)
            have HR1 := Lib.hid (Rt_put now R2 (l.take i) (yi, ya) ha)
            have hpl := fun w' (h' : Ext w4 w') => w_place g (now + 1) ya w' ((HT.out.keep h').ws.now_) (by omega) (by omega) (by omega) (by omega)
            have HTU := Lib.hid (fun w' (h' : Ext w4 w') => w_turn_put B g (now + 1) _ F3 (Rt now R2 (l.take i)) yi ya w' ((HT.out.keep h').ws) (by omega) (by omega) (by omega) (by omega) HRN.out (Nat.le_trans HT.out.lo (HT.out.keep h').wt.base.size))
            have hpb : ((mv + movF now 1 (l.take i) : Nat) : Int) ≤ 200 := by omega
            have hpa : 0 ≤ ((mv + movF now 1 (l.take i) : Nat) : Int) := by omega
            by_cases hr : rg (now + 1) ya = 1
            · have HM2 := Lib.hid (show movF now 1 (l.take i ++ [(yi, ya)]) = movF now 1 (l.take i) by rw [HM1.out, if_neg (by simp [hr])]; rfl)
              rw [hr, show ((1 : Nat) : Int) = 1 from rfl] at hpl
              have HPL := Lib.hid hpl
              clear hpl ha hr
              generalize dg ya 1 = dv at *
              refine wp_region_dep (S := Ext) (C := Ext (w4)) (by kernel_rfl) (by kernel_rfl) rfl Ext.refl (Ext.drew _) ?_
              repeat (refine dep_det (by rfl) (fun K hK => ?_); go_simp; first
                | ((with_reducible refine hK _ ?_); clear hK K)
                | (rw [if_neg (by decide)]; (with_reducible refine hK _ ?_); clear hK K)
                | (refine ⟨_, fun w1 hw1 => ⟨Ext.refl w1, hw1, rfl⟩, hK _ ?_⟩; clear hK K)
                | (apply Exists.intro; refine ⟨fun w1 hw1 => ?_, hK _ ?_⟩
                   first
                     | (have c_x1 := cell_keep hw1 x1; have c_v0 := cell_keep hw1 v0; go_simp; first | exact ⟨Ext.refl _, hw1, rfl⟩ | exact ⟨Ext.refl _, rfl⟩)
                   clear hK K))
              refine dep_nil ?_
              intro a' w' hC hE
              obtain rfl := atEnd_nil hE
              clear hE
              replace x0 := cell_keep hC x0
              replace x1 := cell_keep hC x1
              go_wp2_with (first
                | ((with_reducible go_at_call 31); (with_reducible refine (HPL.out _ hC).mono ?_); rintro e w6 ⟨rfl, b6⟩; replace x0 := cell_keep b6 x0; replace x1 := cell_keep b6 x1)
                | ((with_reducible go_at_call 28); (with_reducible refine (HTU.out _ (Ext.trans hC b6)).mono ?_); rintro e w7 ⟨rfl, F4, h7, t7⟩))
              go_roundw
              case rel => exact ⟨i + 1, A, no, co, F4, rfl, by rw [HTK.out, HM2.out, Int.natCast_add], by go_num, by omega, by rw [HTK.out, HG1.out, ← HR1.out]; exact (HT.out.keep (Ext.trans hC b6)).put h7 t7, (HK.out.keep (Ext.trans hC b6)).put (HT.out.keep (Ext.trans hC b6)) t7⟩
              case measure => simp [intOf]; omega
            · have HM2 := Lib.hid (show movF now 1 (l.take i ++ [(yi, ya)]) = movF now 1 (l.take i) + 1 by rw [HM1.out, if_pos hr])
              have HPL := Lib.hid hpl
              have tr : (((rg (now + 1) ya : Nat) : Int) != 1) = true := by simp; omega
              clear hpl ha hr
              generalize dg ya (rg (now + 1) ya) = dv at *
              generalize rg (now + 1) ya = rv at *
              refine wp_region_dep (S := Ext) (C := Ext (w4)) (by kernel_rfl) (by kernel_rfl) rfl Ext.refl (Ext.drew _) ?_
              repeat (refine dep_det (by rfl) (fun K hK => ?_); go_simp; first
                | ((with_reducible refine hK _ ?_); clear hK K)
                | (rw [if_neg (by decide)]; (with_reducible refine hK _ ?_); clear hK K)
                | (refine ⟨_, fun w1 hw1 => ⟨Ext.refl w1, hw1, rfl⟩, hK _ ?_⟩; clear hK K)
                | (apply Exists.intro; refine ⟨fun w1 hw1 => ?_, hK _ ?_⟩
                   first
                     | (have c_x1 := cell_keep hw1 x1; have c_v0 := cell_keep hw1 v0; go_simp; first | exact ⟨Ext.refl _, hw1, rfl⟩ | exact ⟨Ext.refl _, rfl⟩)
                   clear hK K))
              refine dep_nil ?_
              intro a' w' hC hE
              obtain rfl := atEnd_nil hE
              clear hE
              replace x0 := cell_keep hC x0
              replace x1 := cell_keep hC x1
              go_wp2_with (first
                | ((with_reducible go_at_call 31); (with_reducible refine (HPL.out _ hC).mono ?_); rintro e w6 ⟨rfl, b6⟩; replace x0 := cell_keep b6 x0; replace x1 := cell_keep b6 x1)
                | ((with_reducible go_at_call 28); (with_reducible refine (HTU.out _ (Ext.trans hC b6)).mono ?_); rintro e w7 ⟨rfl, F4, h7, t7⟩))
              go_roundw
              case rel => exact ⟨i + 1, A, no, co, F4, rfl, by rw [HTK.out, HM2.out]; go_num, by go_num, by omega, by rw [HTK.out, HG1.out, ← HR1.out]; exact (HT.out.keep (Ext.trans hC b6)).put h7 t7, (HK.out.keep (Ext.trans hC b6)).put (HT.out.keep (Ext.trans hC b6)) t7⟩
              case measure => simp [intOf]; omega
        · obtain rfl : i = l.length := by omega
          rw [take_last] at hT ⊢
          have HT := Lib.hid hT
          clear hT hK
          go_wp2
          go_roundw
          case rel => exact ⟨1, A, no, co, mv + movF now 1 l, F3, Rt now R2 l, off ++ goneF now l, rfl, rfl, by go_num, by omega, HT.out, HX.out⟩
          case measure => simp [intOf]

    · rw [show (((3 : Nat) : Int) - 1) = 2 from rfl]
      have hand := HAN.out.2.1
      have v0 := HT.out.ws.now_
      by_cases hp : (now + 1) % 4096 = 0
      case neg =>
        have tp : ((now + 1) % 4096 != 0) = true := by simp [hp]
        have HX := Lib.hid (HM.out.idle HFU.out (by unfold pw; exact hp))
        clear hp
        go_wp2
        go_roundw
        case rel => exact ⟨2, A, no, co, mv, F1, R1, off, rfl, rfl, by go_num, by omega, HT.out, HX.out⟩
        case measure => simp [intOf]
      have tp : ((now + 1) % 4096 != 0) = false := by simp [hp]
      clear hp
      have HX := Lib.hid (HM.out.next HFU.out (by omega))
      obtain ⟨s, hs, hs64⟩ : ∃ s : Nat, dg (now + 1) 2 = (s : Int) ∧ s < 64 := by
        have h1 := dg_lo (now + 1) 2
        have h2 := dg_hi (now + 1) 2
        exact ⟨(dg (now + 1) 2).toNat, by omega, by omega⟩
      have hsl : sl now 2 = 128 + s := by unfold sl; omega
      have hdg := fun w => w_digit (now + 1) 2 w (by omega) (by omega) (by omega)
      rw [hs, show ((2 : Nat) : Int) = 2 from rfl] at hdg
      rw [hsl] at HX
      have HDG := Lib.hid hdg
      have s0 : (0 : Int) ≤ (s : Int) := by omega
      have s1 : (s : Int) < 64 := by omega
      clear hs hsl hdg
      go_upto_region 10 with fail
      refine wp_region_dep (S := Ext) (C := Ext (wr)) (by kernel_rfl) (by kernel_rfl) rfl Ext.refl (Ext.drew _) ?_
      repeat (refine dep_det (by rfl) (fun K hK => ?_); go_simp; first
        | ((with_reducible refine hK _ ?_); clear hK K)
        | (rw [if_neg (by decide)]; (with_reducible refine hK _ ?_); clear hK K)
        | (refine ⟨_, fun w1 hw1 => ⟨Ext.refl w1, hw1, rfl⟩, hK _ ?_⟩; clear hK K)
        | (apply Exists.intro; refine ⟨fun w1 hw1 => ?_, hK _ ?_⟩
           first
             | (have c_v0 := cell_keep hw1 v0; go_simp; first | exact ⟨Ext.refl _, hw1, rfl⟩ | exact ⟨Ext.refl _, rfl⟩)
             | (go_at_call 30; ((with_reducible refine (HDG.out _).mono ?_); rintro e w' ⟨rfl, rfl⟩; exact ⟨_, rfl, Ext.refl _, hw1, rfl⟩))
           clear hK K))
      refine dep_nil ?_
      intro a' w' hC hE
      obtain rfl := atEnd_nil hE
      clear hE
      have hT2 := HT.out.keep hC
      have hl64 : (R1 (128 + s)).length ≤ 64 := by
        rw [(HM.out.perm (128 + s) (by omega)).length_eq]
        exact Nat.le_trans (List.length_filter_le _ _) HLEN.out
      have HRL := Lib.hid (show ∀ k, k < 256 → (updR R1 (128 + s) [] k).length ≤ 64 from fun k hk => by
        unfold updR
        split
        · simp
        · rw [(HM.out.perm k hk).length_eq]
          exact Nat.le_trans (List.length_filter_le _ _) HLEN.out)
      have HML := Lib.hid (show ∀ x ∈ R1 (128 + s), Fut now x from fun x hx => HFU.out x (List.mem_filter.1 ((HM.out.perm (128 + s) (by omega)).mem_iff.1 hx)).1)
      have v1 : w'.cell? ⟨g, 129 + s, none⟩ = some (.slice (F1 (128 + s)).1 (R1 (128 + s)).length (F1 (128 + s)).2) := by
        have := hT2.ws.slot (k := 128 + s) (by omega)
        rw [show 1 + (128 + s) = 129 + s by omega] at this
        exact this
      have f1 := hT2.ws.own.frozen (129 + s)
      have HCL := Lib.hid (hT2.clear (k := 128 + s) (by omega) (129 + s) (by omega))
      clear HT HM hT2 v0
      generalize R1 (128 + s) = l at *
      generalize (F1 (128 + s)).1 = Al at *
      generalize (F1 (128 + s)).2 = cl at *
      go_wp2
      generalize w'.setCell ⟨g, 129 + s, none⟩ (.slice none 0 0) = w2 at *
      generalize updR R1 (128 + s) [] = R2 at *
      generalize updF F1 (128 + s) (none, 0) = F2 at *
      clear v1 f1 hC
      go_loopw [4, 5, 63] (fun v4 v5 q wi => ∃ (i : Nat) (A : Option Addr) (no co : Nat) (F' : FW), v4 = .slice A no co ∧ v5 = .int .i64 ((mv + movF now 2 (l.take i) : Nat) : Int) ∧ q = .int .i64 (i : Int) ∧ i ≤ l.length ∧ TI w wi B g (now + 1) ((L.length : Int) - ((off ++ goneF now (l.take i)).length : Int)) F F' (Rt now R2 (l.take i)) A no co (off ++ goneF now (l.take i)) ∧ LK wi B Al cl l F') (fun _ _ q _ => l.length - (intOf q).toNat)
      case atStart => exact ⟨0, A, no, co, F2, rfl, rfl, rfl, by omega, by rw [List.take_zero, Rt_nil, show goneF now [] = [] from rfl, List.append_nil]; exact HCL.out.1, HCL.out.2⟩
      case round =>
        clear HCL hno
        obtain ⟨i, A, no, co, F3, rfl, rfl, rfl, hi, hT, hK⟩ := hrel
        have hoi : (goneF now (l.take i)).length ≤ 64 := Nat.le_trans (goneF_le _ _) (by rw [List.length_take]; omega)
        have hmi : movF now 2 (l.take i) ≤ 64 := Nat.le_trans (movF_le _ _ _) (by rw [List.length_take]; omega)
        have hno := hT.len
        rw [List.length_append] at hno
        by_cases hil : i < l.length
        · have HTK := Lib.hid (take_succ' l i hil)
          obtain ⟨b, o, rfl, d0, d1⟩ := hK.row.rd.pair hil
          obtain ⟨_, y0, y1⟩ := HML.out _ (List.getElem_mem hil)
          generalize hy : l[i] = y at *
          obtain ⟨yi, ya⟩ := y
          simp only at d0 d1 y0 y1
          have i0' : (0 : Int) ≤ (i : Int) := by omega
          have i1' : (i : Int) < (l.length : Int) := by omega
          have bX := Ext.alloc wr (.cells #[.int .i64 yi, .int .i64 ya] 62)
          have oX := Own.new wr 62 [.int .i64 yi, .int .i64 ya]
          have v0 := (hT.keep bX).ws.now_
          have HT := Lib.hid (hT.keep bX)
          have HK := Lib.hid (hK.keep bX)
          have hwl := hT.wt.base.size
          have hwz := bX.size
          have hrl := HRL.out (ix (now + 1) ya) (ix_hi _ _)
          have HRN := Lib.hid (show (Rt now R2 (l.take i) (ix (now + 1) ya)).length ≤ 65536 by
            unfold Rt
            rw [List.length_append]
            have := List.length_filter_le (fun x : Int × Int => decide (x.2 ≠ now + 1 ∧ ix (now + 1) x.2 = ix (now + 1) ya)) (l.take i)
            rw [List.length_take] at this
            omega)
          clear hT hK bX hy hrl
          go_upto_region 20 with fail
          generalize wr.alloc (.cells #[.int .i64 yi, .int .i64 ya] 62) = w4 at *
          have x0 := oX.cell 0
          have x1 := oX.cell 1
          simp only [List.getElem?_cons_zero, List.getElem?_cons_succ] at x0 x1
          clear oX d0 d1
          by_cases ha : ya = now + 1
          · subst ha
            have HG1 := Lib.hid (gone_off now (l.take i) (yi, now + 1) rfl)
            have HM1 := Lib.hid (mov_off now 2 (l.take i) (yi, now + 1) rfl)
            have HR1 := Lib.hid (Rt_off now R2 (l.take i) (yi, now + 1) rfl)
            have HAP := Lib.hid (ints_app' (off ++ goneF now (l.take i)) [yi])
            have HNV := Lib.hid (show (L.length : Int) - ((off ++ goneF now (l.take i)).length : Int) - 1 = (L.length : Int) - ((off ++ goneF now (l.take i) ++ [yi]).length : Int) by simp; omega)
            have nv0 : -200 ≤ (L.length : Int) - ((off ++ goneF now (l.take i)).length : Int) := by rw [List.length_append]; omega
            have nv1 : (L.length : Int) - ((off ++ goneF now (l.take i)).length : Int) ≤ 200 := by have := HLEN.out; omega
            generalize (L.length : Int) - ((off ++ goneF now (l.take i)).length : Int) = nv at *
            refine wp_region_dep (S := Ext) (C := Ext (w4)) (by kernel_rfl) (by kernel_rfl) rfl Ext.refl (Ext.drew _) ?_
            repeat (refine dep_det (by rfl) (fun K hK => ?_); go_simp; first
              | ((with_reducible refine hK _ ?_); clear hK K)
              | (rw [if_neg (by decide)]; (with_reducible refine hK _ ?_); clear hK K)
              | (refine ⟨_, fun w1 hw1 => ⟨Ext.refl w1, hw1, rfl⟩, hK _ ?_⟩; clear hK K)
              | (apply Exists.intro; refine ⟨fun w1 hw1 => ?_, hK _ ?_⟩
                 first
                   | (have c_x1 := cell_keep hw1 x1; have c_v0 := cell_keep hw1 v0; go_simp; first | exact ⟨Ext.refl _, hw1, rfl⟩ | exact ⟨Ext.refl _, rfl⟩)
                 clear hK K))
            refine dep_nil ?_
            intro a' w' hC hE
            obtain rfl := atEnd_nil hE
            clear hE
            replace x0 := cell_keep hC x0
            have hT5 := HT.out.keep hC
            have HK5 := Lib.hid (HK.out.keep hC)
            have HT5 := Lib.hid hT5
            have hw5 := hC.size
            have r5 := hT5.row
            clear hT5
            go_wp2_with (at_builtin; have r7 := (r5.alloc (.cells #[.int .i64 yi] 3)); refine wpl_append _ rfl (.tmp 90) (.tmp 93) 22 rfl 3 i0 _ 1 8 Try.underlying22 HI.out hz0 hz1 hz2 rfl (by omega) w.heap.size A no co _ rfl r7 _ 1 1 (ints [yi]) rfl rfl (rd1i _ _) (ints_one _) (no + 1) _ rfl HAP.out (by omega) (by omega) (by simp; omega) ?_; intro A2 c2 w6 o6 g6 k6; have hT6 := (HT5.out.keep (Ext.alloc _ _)).app g6 o6; have v257 := hT6.ws.n_; have f257 := hT6.ws.own.frozen 257; have HT6 := Lib.hid hT6; have HK6 := Lib.hid ((HK5.out.keep (Ext.alloc _ _)).app (HT5.out.keep (Ext.alloc _ _)) g6); clear hT6 r5 r7 x0 o6 g6 k6)
            go_roundw
            case rel => exact ⟨i + 1, A2, no + 1, c2, F3, rfl, by rw [HTK.out, HM1.out, Int.natCast_add], by go_num, by omega, by rw [HTK.out, HG1.out, HR1.out, ← List.append_assoc, ← HNV.out]; exact HT6.out.nTo _, HK6.out.nTo HT6.out _⟩
            case measure => simp [intOf]; omega
          · have ta : (ya == now + 1) = false := by simp [ha]
            have HG1 := Lib.hid (gone_put now (l.take i) (yi, ya) ha)
            have HM1 := Lib.hid (mov_put now 2 (l.take i) (yi, ya) ha)
            have HR1 := Lib.hid (Rt_put now R2 (l.take i) (yi, ya) ha)
            have hpl := fun w' (h' : Ext w4 w') => w_place g (now + 1) ya w' ((HT.out.keep h').ws.now_) (by omega) (by omega) (by omega) (by omega)
            have HTU := Lib.hid (fun w' (h' : Ext w4 w') => w_turn_put B g (now + 1) _ F3 (Rt now R2 (l.take i)) yi ya w' ((HT.out.keep h').ws) (by omega) (by omega) (by omega) (by omega) HRN.out (Nat.le_trans HT.out.lo (HT.out.keep h').wt.base.size))
            have hpb : ((mv + movF now 2 (l.take i) : Nat) : Int) ≤ 200 := by omega
            have hpa : 0 ≤ ((mv + movF now 2 (l.take i) : Nat) : Int) := by omega
            by_cases hr : rg (now + 1) ya = 2
            · have HM2 := Lib.hid (show movF now 2 (l.take i ++ [(yi, ya)]) = movF now 2 (l.take i) by rw [HM1.out, if_neg (by simp [hr])]; rfl)
              rw [hr, show ((2 : Nat) : Int) = 2 from rfl] at hpl
              have HPL := Lib.hid hpl
              clear hpl ha hr
              generalize dg ya 2 = dv at *
              refine wp_region_dep (S := Ext) (C := Ext (w4)) (by kernel_rfl) (by kernel_rfl) rfl Ext.refl (Ext.drew _) ?_
              repeat (refine dep_det (by rfl) (fun K hK => ?_); go_simp; first
                | ((with_reducible refine hK _ ?_); clear hK K)
                | (rw [if_neg (by decide)]; (with_reducible refine hK _ ?_); clear hK K)
                | (refine ⟨_, fun w1 hw1 => ⟨Ext.refl w1, hw1, rfl⟩, hK _ ?_⟩; clear hK K)
                | (apply Exists.intro; refine ⟨fun w1 hw1 => ?_, hK _ ?_⟩
                   first
                     | (have c_x1 := cell_keep hw1 x1; have c_v0 := cell_keep hw1 v0; go_simp; first | exact ⟨Ext.refl _, hw1, rfl⟩ | exact ⟨Ext.refl _, rfl⟩)
                   clear hK K))
              refine dep_nil ?_
              intro a' w' hC hE
              obtain rfl := atEnd_nil hE
              clear hE
              replace x0 := cell_keep hC x0
              replace x1 := cell_keep hC x1
              go_wp2_with (first
                | ((with_reducible go_at_call 31); (with_reducible refine (HPL.out _ hC).mono ?_); rintro e w6 ⟨rfl, b6⟩; replace x0 := cell_keep b6 x0; replace x1 := cell_keep b6 x1)
                | ((with_reducible go_at_call 28); (with_reducible refine (HTU.out _ (Ext.trans hC b6)).mono ?_); rintro e w7 ⟨rfl, F4, h7, t7⟩))
              go_roundw
              case rel => exact ⟨i + 1, A, no, co, F4, rfl, by rw [HTK.out, HM2.out, Int.natCast_add], by go_num, by omega, by rw [HTK.out, HG1.out, ← HR1.out]; exact (HT.out.keep (Ext.trans hC b6)).put h7 t7, (HK.out.keep (Ext.trans hC b6)).put (HT.out.keep (Ext.trans hC b6)) t7⟩
              case measure => simp [intOf]; omega
            · have HM2 := Lib.hid (show movF now 2 (l.take i ++ [(yi, ya)]) = movF now 2 (l.take i) + 1 by rw [HM1.out, if_pos hr])
              have HPL := Lib.hid hpl
              have tr : (((rg (now + 1) ya : Nat) : Int) != 2) = true := by simp; omega
              clear hpl ha hr
              generalize dg ya (rg (now + 1) ya) = dv at *
              generalize rg (now + 1) ya = rv at *
              refine wp_region_dep (S := Ext) (C := Ext (w4)) (by kernel_rfl) (by kernel_rfl) rfl Ext.refl (Ext.drew _) ?_
              repeat (refine dep_det (by rfl) (fun K hK => ?_); go_simp; first
                | ((with_reducible refine hK _ ?_); clear hK K)
                | (rw [if_neg (by decide)]; (with_reducible refine hK _ ?_); clear hK K)
                | (refine ⟨_, fun w1 hw1 => ⟨Ext.refl w1, hw1, rfl⟩, hK _ ?_⟩; clear hK K)
                | (apply Exists.intro; refine ⟨fun w1 hw1 => ?_, hK _ ?_⟩
                   first
                     | (have c_x1 := cell_keep hw1 x1; have c_v0 := cell_keep hw1 v0; go_simp; first | exact ⟨Ext.refl _, hw1, rfl⟩ | exact ⟨Ext.refl _, rfl⟩)
                   clear hK K))
              refine dep_nil ?_
              intro a' w' hC hE
              obtain rfl := atEnd_nil hE
              clear hE
              replace x0 := cell_keep hC x0
              replace x1 := cell_keep hC x1
              go_wp2_with (first
                | ((with_reducible go_at_call 31); (with_reducible refine (HPL.out _ hC).mono ?_); rintro e w6 ⟨rfl, b6⟩; replace x0 := cell_keep b6 x0; replace x1 := cell_keep b6 x1)
                | ((with_reducible go_at_call 28); (with_reducible refine (HTU.out _ (Ext.trans hC b6)).mono ?_); rintro e w7 ⟨rfl, F4, h7, t7⟩))
              go_roundw
              case rel => exact ⟨i + 1, A, no, co, F4, rfl, by rw [HTK.out, HM2.out]; go_num, by go_num, by omega, by rw [HTK.out, HG1.out, ← HR1.out]; exact (HT.out.keep (Ext.trans hC b6)).put h7 t7, (HK.out.keep (Ext.trans hC b6)).put (HT.out.keep (Ext.trans hC b6)) t7⟩
              case measure => simp [intOf]; omega
        · obtain rfl : i = l.length := by omega
          rw [take_last] at hT ⊢
          have HT := Lib.hid hT
          clear hT hK
          go_wp2
          go_roundw
          case rel => exact ⟨2, A, no, co, mv + movF now 2 l, F3, Rt now R2 l, off ++ goneF now l, rfl, rfl, by go_num, by omega, HT.out, HX.out⟩
          case measure => simp [intOf]

    · rw [show (((4 : Nat) : Int) - 1) = 3 from rfl]
      have hand := HAN.out.1
      have v0 := HT.out.ws.now_
      by_cases hp : (now + 1) % 262144 = 0
      case neg =>
        have tp : ((now + 1) % 262144 != 0) = true := by simp [hp]
        have HX := Lib.hid (HM.out.idle HFU.out (by unfold pw; exact hp))
        clear hp
        go_wp2
        go_roundw
        case rel => exact ⟨3, A, no, co, mv, F1, R1, off, rfl, rfl, by go_num, by omega, HT.out, HX.out⟩
        case measure => simp [intOf]
      have tp : ((now + 1) % 262144 != 0) = false := by simp [hp]
      clear hp
      have HX := Lib.hid (HM.out.next HFU.out (by omega))
      obtain ⟨s, hs, hs64⟩ : ∃ s : Nat, dg (now + 1) 3 = (s : Int) ∧ s < 64 := by
        have h1 := dg_lo (now + 1) 3
        have h2 := dg_hi (now + 1) 3
        exact ⟨(dg (now + 1) 3).toNat, by omega, by omega⟩
      have hsl : sl now 3 = 192 + s := by unfold sl; omega
      have hdg := fun w => w_digit (now + 1) 3 w (by omega) (by omega) (by omega)
      rw [hs, show ((3 : Nat) : Int) = 3 from rfl] at hdg
      rw [hsl] at HX
      have HDG := Lib.hid hdg
      have s0 : (0 : Int) ≤ (s : Int) := by omega
      have s1 : (s : Int) < 64 := by omega
      clear hs hsl hdg
      go_upto_region 10 with fail
      refine wp_region_dep (S := Ext) (C := Ext (wr)) (by kernel_rfl) (by kernel_rfl) rfl Ext.refl (Ext.drew _) ?_
      repeat (refine dep_det (by rfl) (fun K hK => ?_); go_simp; first
        | ((with_reducible refine hK _ ?_); clear hK K)
        | (rw [if_neg (by decide)]; (with_reducible refine hK _ ?_); clear hK K)
        | (refine ⟨_, fun w1 hw1 => ⟨Ext.refl w1, hw1, rfl⟩, hK _ ?_⟩; clear hK K)
        | (apply Exists.intro; refine ⟨fun w1 hw1 => ?_, hK _ ?_⟩
           first
             | (have c_v0 := cell_keep hw1 v0; go_simp; first | exact ⟨Ext.refl _, hw1, rfl⟩ | exact ⟨Ext.refl _, rfl⟩)
             | (go_at_call 30; ((with_reducible refine (HDG.out _).mono ?_); rintro e w' ⟨rfl, rfl⟩; exact ⟨_, rfl, Ext.refl _, hw1, rfl⟩))
           clear hK K))
      refine dep_nil ?_
      intro a' w' hC hE
      obtain rfl := atEnd_nil hE
      clear hE
      have hT2 := HT.out.keep hC
      have hl64 : (R1 (192 + s)).length ≤ 64 := by
        rw [(HM.out.perm (192 + s) (by omega)).length_eq]
        exact Nat.le_trans (List.length_filter_le _ _) HLEN.out
      have HRL := Lib.hid (show ∀ k, k < 256 → (updR R1 (192 + s) [] k).length ≤ 64 from fun k hk => by
        unfold updR
        split
        · simp
        · rw [(HM.out.perm k hk).length_eq]
          exact Nat.le_trans (List.length_filter_le _ _) HLEN.out)
      have HML := Lib.hid (show ∀ x ∈ R1 (192 + s), Fut now x from fun x hx => HFU.out x (List.mem_filter.1 ((HM.out.perm (192 + s) (by omega)).mem_iff.1 hx)).1)
      have v1 : w'.cell? ⟨g, 193 + s, none⟩ = some (.slice (F1 (192 + s)).1 (R1 (192 + s)).length (F1 (192 + s)).2) := by
        have := hT2.ws.slot (k := 192 + s) (by omega)
        rw [show 1 + (192 + s) = 193 + s by omega] at this
        exact this
      have f1 := hT2.ws.own.frozen (193 + s)
      have HCL := Lib.hid (hT2.clear (k := 192 + s) (by omega) (193 + s) (by omega))
      clear HT HM hT2 v0
      generalize R1 (192 + s) = l at *
      generalize (F1 (192 + s)).1 = Al at *
      generalize (F1 (192 + s)).2 = cl at *
      go_wp2
      generalize w'.setCell ⟨g, 193 + s, none⟩ (.slice none 0 0) = w2 at *
      generalize updR R1 (192 + s) [] = R2 at *
      generalize updF F1 (192 + s) (none, 0) = F2 at *
      clear v1 f1 hC
      go_loopw [4, 5, 63] (fun v4 v5 q wi => ∃ (i : Nat) (A : Option Addr) (no co : Nat) (F' : FW), v4 = .slice A no co ∧ v5 = .int .i64 ((mv + movF now 3 (l.take i) : Nat) : Int) ∧ q = .int .i64 (i : Int) ∧ i ≤ l.length ∧ TI w wi B g (now + 1) ((L.length : Int) - ((off ++ goneF now (l.take i)).length : Int)) F F' (Rt now R2 (l.take i)) A no co (off ++ goneF now (l.take i)) ∧ LK wi B Al cl l F') (fun _ _ q _ => l.length - (intOf q).toNat)
      case atStart => exact ⟨0, A, no, co, F2, rfl, rfl, rfl, by omega, by rw [List.take_zero, Rt_nil, show goneF now [] = [] from rfl, List.append_nil]; exact HCL.out.1, HCL.out.2⟩
      case round =>
        clear HCL hno
        obtain ⟨i, A, no, co, F3, rfl, rfl, rfl, hi, hT, hK⟩ := hrel
        have hoi : (goneF now (l.take i)).length ≤ 64 := Nat.le_trans (goneF_le _ _) (by rw [List.length_take]; omega)
        have hmi : movF now 3 (l.take i) ≤ 64 := Nat.le_trans (movF_le _ _ _) (by rw [List.length_take]; omega)
        have hno := hT.len
        rw [List.length_append] at hno
        by_cases hil : i < l.length
        · have HTK := Lib.hid (take_succ' l i hil)
          obtain ⟨b, o, rfl, d0, d1⟩ := hK.row.rd.pair hil
          obtain ⟨_, y0, y1⟩ := HML.out _ (List.getElem_mem hil)
          generalize hy : l[i] = y at *
          obtain ⟨yi, ya⟩ := y
          simp only at d0 d1 y0 y1
          have i0' : (0 : Int) ≤ (i : Int) := by omega
          have i1' : (i : Int) < (l.length : Int) := by omega
          have bX := Ext.alloc wr (.cells #[.int .i64 yi, .int .i64 ya] 62)
          have oX := Own.new wr 62 [.int .i64 yi, .int .i64 ya]
          have v0 := (hT.keep bX).ws.now_
          have HT := Lib.hid (hT.keep bX)
          have HK := Lib.hid (hK.keep bX)
          have hwl := hT.wt.base.size
          have hwz := bX.size
          have hrl := HRL.out (ix (now + 1) ya) (ix_hi _ _)
          have HRN := Lib.hid (show (Rt now R2 (l.take i) (ix (now + 1) ya)).length ≤ 65536 by
            unfold Rt
            rw [List.length_append]
            have := List.length_filter_le (fun x : Int × Int => decide (x.2 ≠ now + 1 ∧ ix (now + 1) x.2 = ix (now + 1) ya)) (l.take i)
            rw [List.length_take] at this
            omega)
          clear hT hK bX hy hrl
          go_upto_region 20 with fail
          generalize wr.alloc (.cells #[.int .i64 yi, .int .i64 ya] 62) = w4 at *
          have x0 := oX.cell 0
          have x1 := oX.cell 1
          simp only [List.getElem?_cons_zero, List.getElem?_cons_succ] at x0 x1
          clear oX d0 d1
          by_cases ha : ya = now + 1
          · subst ha
            have HG1 := Lib.hid (gone_off now (l.take i) (yi, now + 1) rfl)
            have HM1 := Lib.hid (mov_off now 3 (l.take i) (yi, now + 1) rfl)
            have HR1 := Lib.hid (Rt_off now R2 (l.take i) (yi, now + 1) rfl)
            have HAP := Lib.hid (ints_app' (off ++ goneF now (l.take i)) [yi])
            have HNV := Lib.hid (show (L.length : Int) - ((off ++ goneF now (l.take i)).length : Int) - 1 = (L.length : Int) - ((off ++ goneF now (l.take i) ++ [yi]).length : Int) by simp; omega)
            have nv0 : -200 ≤ (L.length : Int) - ((off ++ goneF now (l.take i)).length : Int) := by rw [List.length_append]; omega
            have nv1 : (L.length : Int) - ((off ++ goneF now (l.take i)).length : Int) ≤ 200 := by have := HLEN.out; omega
            generalize (L.length : Int) - ((off ++ goneF now (l.take i)).length : Int) = nv at *
            refine wp_region_dep (S := Ext) (C := Ext (w4)) (by kernel_rfl) (by kernel_rfl) rfl Ext.refl (Ext.drew _) ?_
            repeat (refine dep_det (by rfl) (fun K hK => ?_); go_simp; first
              | ((with_reducible refine hK _ ?_); clear hK K)
              | (rw [if_neg (by decide)]; (with_reducible refine hK _ ?_); clear hK K)
              | (refine ⟨_, fun w1 hw1 => ⟨Ext.refl w1, hw1, rfl⟩, hK _ ?_⟩; clear hK K)
              | (apply Exists.intro; refine ⟨fun w1 hw1 => ?_, hK _ ?_⟩
                 first
                   | (have c_x1 := cell_keep hw1 x1; have c_v0 := cell_keep hw1 v0; go_simp; first | exact ⟨Ext.refl _, hw1, rfl⟩ | exact ⟨Ext.refl _, rfl⟩)
                 clear hK K))
            refine dep_nil ?_
            intro a' w' hC hE
            obtain rfl := atEnd_nil hE
            clear hE
            replace x0 := cell_keep hC x0
            have hT5 := HT.out.keep hC
            have HK5 := Lib.hid (HK.out.keep hC)
            have HT5 := Lib.hid hT5
            have hw5 := hC.size
            have r5 := hT5.row
            clear hT5
            go_wp2_with (at_builtin; have r7 := (r5.alloc (.cells #[.int .i64 yi] 3)); refine wpl_append _ rfl (.tmp 90) (.tmp 93) 22 rfl 3 i0 _ 1 8 Try.underlying22 HI.out hz0 hz1 hz2 rfl (by omega) w.heap.size A no co _ rfl r7 _ 1 1 (ints [yi]) rfl rfl (rd1i _ _) (ints_one _) (no + 1) _ rfl HAP.out (by omega) (by omega) (by simp; omega) ?_; intro A2 c2 w6 o6 g6 k6; have hT6 := (HT5.out.keep (Ext.alloc _ _)).app g6 o6; have v257 := hT6.ws.n_; have f257 := hT6.ws.own.frozen 257; have HT6 := Lib.hid hT6; have HK6 := Lib.hid ((HK5.out.keep (Ext.alloc _ _)).app (HT5.out.keep (Ext.alloc _ _)) g6); clear hT6 r5 r7 x0 o6 g6 k6)
            go_roundw
            case rel => exact ⟨i + 1, A2, no + 1, c2, F3, rfl, by rw [HTK.out, HM1.out, Int.natCast_add], by go_num, by omega, by rw [HTK.out, HG1.out, HR1.out, ← List.append_assoc, ← HNV.out]; exact HT6.out.nTo _, HK6.out.nTo HT6.out _⟩
            case measure => simp [intOf]; omega
          · have ta : (ya == now + 1) = false := by simp [ha]
            have HG1 := Lib.hid (gone_put now (l.take i) (yi, ya) ha)
            have HM1 := Lib.hid (mov_put now 3 (l.take i) (yi, ya) ha)
            have HR1 := Lib.hid (Rt_put now R2 (l.take i) (yi, ya) ha)
            have hpl := fun w' (h' : Ext w4 w') => w_place g (now + 1) ya w' ((HT.out.keep h').ws.now_) (by omega) (by omega) (by omega) (by omega)
            have HTU := Lib.hid (fun w' (h' : Ext w4 w') => w_turn_put B g (now + 1) _ F3 (Rt now R2 (l.take i)) yi ya w' ((HT.out.keep h').ws) (by omega) (by omega) (by omega) (by omega) HRN.out (Nat.le_trans HT.out.lo (HT.out.keep h').wt.base.size))
            have hpb : ((mv + movF now 3 (l.take i) : Nat) : Int) ≤ 200 := by omega
            have hpa : 0 ≤ ((mv + movF now 3 (l.take i) : Nat) : Int) := by omega
            by_cases hr : rg (now + 1) ya = 3
            · have HM2 := Lib.hid (show movF now 3 (l.take i ++ [(yi, ya)]) = movF now 3 (l.take i) by rw [HM1.out, if_neg (by simp [hr])]; rfl)
              rw [hr, show ((3 : Nat) : Int) = 3 from rfl] at hpl
              have HPL := Lib.hid hpl
              clear hpl ha hr
              generalize dg ya 3 = dv at *
              refine wp_region_dep (S := Ext) (C := Ext (w4)) (by kernel_rfl) (by kernel_rfl) rfl Ext.refl (Ext.drew _) ?_
              repeat (refine dep_det (by rfl) (fun K hK => ?_); go_simp; first
                | ((with_reducible refine hK _ ?_); clear hK K)
                | (rw [if_neg (by decide)]; (with_reducible refine hK _ ?_); clear hK K)
                | (refine ⟨_, fun w1 hw1 => ⟨Ext.refl w1, hw1, rfl⟩, hK _ ?_⟩; clear hK K)
                | (apply Exists.intro; refine ⟨fun w1 hw1 => ?_, hK _ ?_⟩
                   first
                     | (have c_x1 := cell_keep hw1 x1; have c_v0 := cell_keep hw1 v0; go_simp; first | exact ⟨Ext.refl _, hw1, rfl⟩ | exact ⟨Ext.refl _, rfl⟩)
                   clear hK K))
              refine dep_nil ?_
              intro a' w' hC hE
              obtain rfl := atEnd_nil hE
              clear hE
              replace x0 := cell_keep hC x0
              replace x1 := cell_keep hC x1
              go_wp2_with (first
                | ((with_reducible go_at_call 31); (with_reducible refine (HPL.out _ hC).mono ?_); rintro e w6 ⟨rfl, b6⟩; replace x0 := cell_keep b6 x0; replace x1 := cell_keep b6 x1)
                | ((with_reducible go_at_call 28); (with_reducible refine (HTU.out _ (Ext.trans hC b6)).mono ?_); rintro e w7 ⟨rfl, F4, h7, t7⟩))
              go_roundw
              case rel => exact ⟨i + 1, A, no, co, F4, rfl, by rw [HTK.out, HM2.out, Int.natCast_add], by go_num, by omega, by rw [HTK.out, HG1.out, ← HR1.out]; exact (HT.out.keep (Ext.trans hC b6)).put h7 t7, (HK.out.keep (Ext.trans hC b6)).put (HT.out.keep (Ext.trans hC b6)) t7⟩
              case measure => simp [intOf]; omega
            · have HM2 := Lib.hid (show movF now 3 (l.take i ++ [(yi, ya)]) = movF now 3 (l.take i) + 1 by rw [HM1.out, if_pos hr])
              have HPL := Lib.hid hpl
              have tr : (((rg (now + 1) ya : Nat) : Int) != 3) = true := by simp; omega
              clear hpl ha hr
              generalize dg ya (rg (now + 1) ya) = dv at *
              generalize rg (now + 1) ya = rv at *
              refine wp_region_dep (S := Ext) (C := Ext (w4)) (by kernel_rfl) (by kernel_rfl) rfl Ext.refl (Ext.drew _) ?_
              repeat (refine dep_det (by rfl) (fun K hK => ?_); go_simp; first
                | ((with_reducible refine hK _ ?_); clear hK K)
                | (rw [if_neg (by decide)]; (with_reducible refine hK _ ?_); clear hK K)
                | (refine ⟨_, fun w1 hw1 => ⟨Ext.refl w1, hw1, rfl⟩, hK _ ?_⟩; clear hK K)
                | (apply Exists.intro; refine ⟨fun w1 hw1 => ?_, hK _ ?_⟩
                   first
                     | (have c_x1 := cell_keep hw1 x1; have c_v0 := cell_keep hw1 v0; go_simp; first | exact ⟨Ext.refl _, hw1, rfl⟩ | exact ⟨Ext.refl _, rfl⟩)
                   clear hK K))
              refine dep_nil ?_
              intro a' w' hC hE
              obtain rfl := atEnd_nil hE
              clear hE
              replace x0 := cell_keep hC x0
              replace x1 := cell_keep hC x1
              go_wp2_with (first
                | ((with_reducible go_at_call 31); (with_reducible refine (HPL.out _ hC).mono ?_); rintro e w6 ⟨rfl, b6⟩; replace x0 := cell_keep b6 x0; replace x1 := cell_keep b6 x1)
                | ((with_reducible go_at_call 28); (with_reducible refine (HTU.out _ (Ext.trans hC b6)).mono ?_); rintro e w7 ⟨rfl, F4, h7, t7⟩))
              go_roundw
              case rel => exact ⟨i + 1, A, no, co, F4, rfl, by rw [HTK.out, HM2.out]; go_num, by go_num, by omega, by rw [HTK.out, HG1.out, ← HR1.out]; exact (HT.out.keep (Ext.trans hC b6)).put h7 t7, (HK.out.keep (Ext.trans hC b6)).put (HT.out.keep (Ext.trans hC b6)) t7⟩
              case measure => simp [intOf]; omega
        · obtain rfl : i = l.length := by omega
          rw [take_last] at hT ⊢
          have HT := Lib.hid hT
          clear hT hK
          go_wp2
          go_roundw
          case rel => exact ⟨3, A, no, co, mv + movF now 3 l, F3, Rt now R2 l, off ++ goneF now l, rfl, rfl, by go_num, by omega, HT.out, HX.out⟩
          case measure => simp [intOf]


end Go.Proofs.Ytjipkgnkabocjaa
