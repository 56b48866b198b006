/-
  WALKS of package graph: along with priorities; Effective.
-/
import Derived.Test.YtpaoolcnoflhiaaGphC
import Derived.Test.YtpaoolcnoflhiaaOver
import Derived.Test.YtpaoolcnoflhiaaPrioC
namespace Go.Proofs.Ytpaoolcnoflhiaa
open Go.RowKit
attribute [local go_sem] depUpon Sp.ok

abbrev P3 := Int × Int × Int
/-- Thread i's priority behind the first j threads; in the midst of thread j's chain. -/
def effAt (base : List P3) (ch : Nat → List Int) : Nat → Nat → P3
  | 0, i => base.getD i (0, 0, 0)
  | j + 1, i => if (i : Int) ∈ ch j then pmaxStep (effAt base ch j i) (base.getD j (0, 0, 0)) else effAt base ch j i
def effMid (base : List P3) (ch : Nat → List Int) (j : Nat) (zs : List Int) (i : Nat) : P3 := if (i : Int) ∈ zs then pmaxStep (effAt base ch j i) (base.getD j (0, 0, 0)) else effAt base ch j i
def effL (base : List P3) (ch : Nat → List Int) (j : Nat) (zs : List Int) : List P3 := (List.range base.length).map (effMid base ch j zs)
def geff (base : List P3) (ch : Nat → List Int) : List P3 := (List.range base.length).map (effAt base ch base.length)
theorem effL_len (base : List P3) (ch : Nat → List Int) (j : Nat) (zs : List Int) : (effL base ch j zs).length = base.length := by simp [effL]
theorem effL_zero (base : List P3) (ch : Nat → List Int) : effL base ch 0 [] = base := by
  refine List.ext_getElem (by simp [effL]) fun i h1 h2 => ?_
  simp [effL, effMid, effAt, h2]
theorem effL_next (base : List P3) (ch : Nat → List Int) (j : Nat) : effL base ch j (ch j) = effL base ch (j + 1) [] := by
  refine List.ext_getElem (by simp [effL]) fun i h1 h2 => ?_
  simp [effL, effMid, effAt]
theorem effL_end (base : List P3) (ch : Nat → List Int) : effL base ch base.length [] = geff base ch := by
  refine List.ext_getElem (by simp [effL, geff]) fun i h1 h2 => ?_
  simp [effL, effMid, geff]
theorem effL_get (base : List P3) (ch : Nat → List Int) (j : Nat) (zs : List Int) (k : Nat) (hk : k < base.length) (hz : (k : Int) ∉ zs) : (effL base ch j zs)[k]'(by rw [effL_len]; exact hk) = effAt base ch j k := by
  simp [effL, effMid, hz]
theorem effL_set (base : List P3) (ch : Nat → List Int) (j : Nat) (zs : List Int) (k : Nat) : (effL base ch j zs).set k (pmaxStep (effAt base ch j k) (base.getD j (0, 0, 0))) = effL base ch j (zs ++ [(k : Int)]) := by
  refine List.ext_getElem (by simp [effL]) fun i h1 h2 => ?_
  rw [List.getElem_set]
  by_cases h : k = i
  · subst h; simp [effL, effMid]
  · have h3 : ¬ (i : Int) = (k : Int) := by omega
    simp [effL, effMid, h, h3]

set_option maxRecDepth 100000 in
set_option maxHeartbeats 1000000 in
theorem eff_fn (k : Nat) (p : P3) (B gout gp : Nat) (O : Option Addr) (n c : Nat) (ps : List P3) (w : World) (ho : Own w gout 31 [.slice O n c]) (hp : Own w gp 38 (pv p)) (hr : Row w B 38 3 O n c (trips ps))
    (hk : k < n) (hl : ps.length = n) (h1 : blk O ≠ some gout) (h2 : blk O ≠ some gp) :
    Calls Try.prog 22 #[.int .i64 (k : Int), .pointer (some ⟨gout, 0, none⟩), .pointer (some ⟨gp, 0, none⟩)] w fun e w' => e = .returned (.tuple #[]) ∧
      Row w' B 38 3 O n c (trips (ps.set k (pmaxStep (ps[k]'(by omega)) p))) ∧ Own w' gout 31 [.slice O n c] ∧ Own w' gp 38 (pv p) ∧ Below B w w' ∧
      ∀ B2 S m d ys, Row w B2 3 1 S m d ys → blk S ≠ blk O → Row w' B2 3 1 S m d ys := by
  subst hl
  obtain ⟨go, rfl⟩ := hr.addr (by omega)
  obtain ⟨b, off, eO, c0, c1, c2⟩ := hr.rd.trip hk
  injection eO with eO; injection eO with e1 e2
  subst e1; subst e2
  have hB := hr.at_ go rfl
  have hco := ho.cell 0
  simp only [List.getElem?_cons_zero] at hco
  obtain ⟨d0, d1, d2, _, _, _⟩ := hp.pv3
  generalize ps[k] = q at *
  have cM0 : ∀ (D : Option Addr) (d : Nat) (w1 : World), Rd w1 D (trips [p]) → Calls Try.prog 23 #[.agg #[.int .i64 q.1, .int .i64 q.2.1, .int .i64 q.2.2], .slice D 1 d] w1 fun e w' => e = .returned (.agg #[.int .i64 (pmaxStep q p).1, .int .i64 (pmaxStep q p).2.1, .int .i64 (pmaxStep q p).2.2]) ∧ Below w1.heap.size w1 w' :=
    fun D d w1 h => prio_max q D 1 d [p] w1 (by omega) h rfl
  generalize pmaxStep q p = m at *
  obtain ⟨q1, q2, q3⟩ := q
  obtain ⟨p1, p2, p3⟩ := p
  obtain ⟨m1, m2, m3⟩ := m
  simp only [Nat.zero_add] at c0 c1 c2 d0 d1 d2
  have CM := Lib.hid cM0
  have HR := Lib.hid hr
  have HO := Lib.hid ho
  have HP := Lib.hid hp
  have hk0 : (0 : Int) ≤ (k : Int) := by omega
  have hk1 : (k : Int) < (ps.length : Int) := by omega
  clear cM0 hr ho hp
  go_enter Try.func22, Try.ntmps22
  go_wp2
  refine wp_region_dep_tail 10 (S := Ext) (C := Ext (w)) (by kernel_rfl) (by kernel_rfl) rfl Ext.refl (Ext.drew _) ?_
  simp only [List.take_succ_cons, List.take_zero]
  repeat (refine dep_det (by rfl) (fun K hK => ?_); go_simp; first
    | ((with_reducible refine hK _ ?_); clear hK K)
    | (rw [if_neg (by decide)]; (with_reducible refine hK _ ?_); clear hK K)
    | (refine ⟨_, fun w1 hw1 => ⟨Ext.refl w1, hw1, rfl⟩, hK _ ?_⟩; clear hK K)
    | (apply Exists.intro; refine ⟨fun w1 hw1 => ?_, hK _ ?_⟩
       first
         | (have c_hco := cell_keep hw1 hco; have c_c0 := cell_keep hw1 c0; have c_c1 := cell_keep hw1 c1; have c_c2 := cell_keep hw1 c2; have c_d0 := cell_keep hw1 d0; have c_d1 := cell_keep hw1 d1; have c_d2 := cell_keep hw1 d2; go_simp; first | exact ⟨Ext.refl _, hw1, rfl⟩ | exact ⟨Ext.refl _, rfl⟩)
       clear hK K))
  refine dep_var (SlAt 38 (trips [(p1, p2, p3)]) 1 1) 11 rfl (by rfl) SlAt.keep (by go_simp) (fun w1 hw1 => ?_) ?_
  · go_simp
    exact ⟨Ext.alloc _ _, Ext.trans hw1 (Ext.alloc _ _), SlAt.new w1 38 (trips [(p1, p2, p3)]) 1 1⟩
  refine dep_det1 11 _ (by rfl) (by intro V' h; simpa using h) (List.mem_cons_self ..) (by first | (simp; done) | simp [Act.put]) (fun K hK => ?_)
  apply Exists.intro
  refine ⟨fun w1 v hw1 hV => ?_, hK _ ?_⟩
  · obtain ⟨g, rfl, ho⟩ := hV
    go_simp
    refine (CM.out _ _ _ ho.rd0).mono ?_
    rintro e w' ⟨rfl, hb'⟩
    exact ⟨_, rfl, hb', Ext.trans hw1 hb', rfl⟩
  clear hK K
  repeat (refine dep_det (by rfl) (fun K hK => ?_); go_simp; first
    | ((with_reducible refine hK _ ?_); clear hK K)
    | (rw [if_neg (by decide)]; (with_reducible refine hK _ ?_); clear hK K)
    | (refine ⟨_, fun w1 hw1 => ⟨Ext.refl w1, hw1, rfl⟩, hK _ ?_⟩; clear hK K)
    | (apply Exists.intro; refine ⟨fun w1 hw1 => ?_, hK _ ?_⟩
       first
         | (have c_hco := cell_keep hw1 hco; go_simp; first | exact ⟨Ext.refl _, hw1, rfl⟩ | exact ⟨Ext.refl _, rfl⟩)
       clear hK K))
  refine dep_nil ?_
  intro a' w' hC hE
  obtain ⟨v, ⟨g, rfl, _⟩, hE⟩ := atEnd_cons hE (by simp) (by first | (simp; done) | simp [Act.put])
  obtain rfl := atEnd_nil hE
  clear hE
  simp only [List.drop_succ_cons, List.drop_zero]
  have r1 := HR.out.keep hC
  have o1 := HO.out.keep hC
  have o2 := HP.out.keep hC
  have hx := hC.size
  clear hco c0 c1 c2 d0 d1 d2
  obtain ⟨⟨u0, u1, u2, c0, c1, c2⟩, f0, f1, f2, q5⟩ := r1.set3 k hk (m1, m2, m3)
  simp only at q5
  go_wp2
  refine bodyPost_end (results_none rfl _ _ _) rfl ⟨rfl, q5, ?_, ?_, ?_, fun B2 S m' d ys hS hne => ?_⟩
  · have n1 : gout ≠ go := fun e => h1 (by rw [e]; rfl)
    exact ((o1.far (p := ⟨go, k * 3, none⟩) n1 _).far (p := ⟨go, k * 3 + 1, none⟩) n1 _).far (p := ⟨go, k * 3 + 2, none⟩) n1 _
  · have n2 : gp ≠ go := fun e => h2 (by rw [e]; rfl)
    exact ((o2.far (p := ⟨go, k * 3, none⟩) n2 _).far (p := ⟨go, k * 3 + 1, none⟩) n2 _).far (p := ⟨go, k * 3 + 2, none⟩) n2 _
  · exact (((Below.mono hC (by omega)).setCell (p := ⟨go, k * 3, none⟩) hB.1 _).setCell (p := ⟨go, k * 3 + 1, none⟩) hB.1 _).setCell (p := ⟨go, k * 3 + 2, none⟩) hB.1 _
  · have n3 : blk S ≠ some go := hne
    exact (((hS.keep hC).far (p := ⟨go, k * 3, none⟩) n3 _).far (p := ⟨go, k * 3 + 1, none⟩) n3 _).far (p := ⟨go, k * 3 + 2, none⟩) n3 _

end Go.Proofs.Ytpaoolcnoflhiaa
