/-
  PIPES: the openers of bytes and acts; the statement PipeNone.
-/
import Derived.Test.YtebkknkgkjblnaaPipI
namespace Go.Proofs.Ytebkknkgkjblnaa
open Go.ChangeShapes Go.WideShapes Go.ChangeAt Go.RowKit Go.Maps
attribute [local go_sem] depUpon Sp.ok

/-- Bytes that came in. -/
structure BytesArg (w : World) (A : Option Addr) (n : Nat) (bs : List Int) : Prop where
  len : bs.length = n
  max : n ≤ 9223372036854775807
  rd : Rd w A (u8s bs)
/-- An act of chapter 23. -/
structure A23 where
  d : Int
  i : Int
  n : Int
  w : Bool
  A : Option Addr
  m : Nat
  c : Nat
  bs : List Int
def A23.cs (x : A23) : List Value := [.int .i64 x.d, .int .i64 x.i, .int .i64 x.n, .bool x.w, .slice x.A x.m x.c]
structure A23.Ok (w : World) (x : A23) : Prop where
  d64 : I64 x.d
  i64 : I64 x.i
  n64 : I64 x.n
  b : BytesArg w x.A x.m x.bs
  cap : x.m ≤ x.c
structure Acts23 (w : World) (A : Option Addr) (n : Nat) (X : Nat → A23) : Prop where
  max : n ≤ 9223372036854775807
  at_ : ∀ i, i < n → (X i).Ok w ∧ ∃ b off, A = some ⟨b, off, none⟩ ∧ ∀ j v, (X i).cs[j]? = some v → w.cell? ⟨b, off + (i * 5 + j), none⟩ = some v
section
variable {H : Type} {enc : TypeId × Value → H} {P : Program} {W : World} {b0 : Nat} {sp : Nat → Bool} {hd : Bool}
theorem field_bool {t : TypeId} {fs : Array Field} {fuel : Nat} {cs : List Value} {x : DataW H × List MemPlace} (hs : P.underlying t = some (.struct fs)) (h : DataW.trod enc P W b0 sp hd fuel t cs = some x) (i o : Nat) (ft : TypeId)
    (hf : (fs[i]?).map (fun f => (f.offset, f.type)) = some (o, ft)) (hk : P.cellsOf ft = 1) (hu : P.underlying ft = some .bool) : ∃ z, cs[o]? = some (.bool z) := by
  obtain ⟨n, y, hy⟩ := field_trod hs h i o 1 ft hf hk
  obtain ⟨z, hz, _⟩ := DataW.trod_bool hu hy
  exact ⟨z, take_one hz⟩
end
section
variable {H : Type} {enc : TypeId × Value → H} {W : World} {base : Nat} {v : Value} {d : DataW H} {p : List MemPlace}
set_option maxRecDepth 100000 in
theorem bytes_of_trod {fuel : Nat} {A : Option Addr} {m c : Nat} {x : DataW H × List MemPlace} {hd : Bool} (hf : DataW.trod enc Try.prog W 0 (fun _ => true) hd fuel 32 [.slice A m c] = some x) : ∃ bs, BytesArg W A m bs ∧ m ≤ c := by
  obtain ⟨hmax, hcap, L, hL⟩ := open_elems Try.underlying32 (by kernel_rfl : Try.prog.cellsOf 5 = 1) (by omega) hf
  have hz : ∀ i, ∃ z : Int, i < m → L i = [.int .u8 z] := fun i => by
    by_cases hi : i < m
    · obtain ⟨_, ⟨n, y, hy⟩, _⟩ := hL i hi
      obtain ⟨z, hz, _⟩ := DataW.trod_int Try.underlying5 hy
      exact ⟨z, fun _ => hz⟩
    · exact ⟨0, fun h => absurd h hi⟩
  obtain ⟨Z, hZ⟩ := Classical.axiomOfChoice hz
  refine ⟨(List.range m).map Z, ⟨by simp, hmax, fun k u hk => ?_⟩, hcap⟩
  have hkm : k < m := by
    have := (List.getElem?_eq_some_iff.1 hk).1
    simpa [u8s] using this
  have hu : u = .int .u8 (Z k) := by
    rw [u8s_get _ (by simpa using hkm)] at hk
    injection hk with hk
    rw [← hk]; simp
  obtain ⟨_, _, h3⟩ := hL k hkm
  obtain ⟨b, off, e, hc⟩ := h3 0 u (by rw [hZ k hkm, hu]; rfl)
  exact ⟨b, off, e, by rw [Nat.mul_one, Nat.add_zero] at hc; exact hc⟩
set_option maxRecDepth 100000 in
theorem open_bytes (hv : Value.okWide Try.prog W .any base 32 v) (h : DataW.Trod enc Try.prog W 0 (fun _ => true) true 32 v d p) : ∃ A n c bs, v = .slice A n c ∧ BytesArg W A n bs := by
  obtain ⟨A, n, c, rfl⟩ := okWide_slice Try.underlying32 hv
  obtain ⟨fuel, hf⟩ := h
  simp only [Value.cells] at hf
  obtain ⟨bs, h1, _⟩ := bytes_of_trod hf
  exact ⟨A, n, c, bs, rfl, h1⟩
set_option maxRecDepth 100000 in
theorem act_of {fuel : Nat} {cs : List Value} {x : DataW H × List MemPlace} {hd : Bool} (h : DataW.trod enc Try.prog W 0 (fun _ => true) hd fuel 34 cs = some x) : ∃ y : A23, y.cs = cs ∧ y.Ok W := by
  have hu := Try.underlying34
  obtain ⟨d, h0, i0⟩ := field_int hu h 0 0 3 (by kernel_rfl) (by kernel_rfl) Try.underlying3
  obtain ⟨i, h1, i1⟩ := field_int hu h 1 1 3 (by kernel_rfl) (by kernel_rfl) Try.underlying3
  obtain ⟨n, h2, i2⟩ := field_int hu h 2 2 3 (by kernel_rfl) (by kernel_rfl) Try.underlying3
  obtain ⟨w, h3⟩ := field_bool hu h 3 3 4 (by kernel_rfl) (by kernel_rfl) Try.underlying4
  obtain ⟨n1, y1, A, m, c, t1, h4⟩ := field_slice hu h 4 4 32 (by kernel_rfl) (by kernel_rfl) Try.underlying32
  obtain ⟨bs, hb, hcap⟩ := bytes_of_trod t1
  have hlen : cs.length = 5 := by
    obtain ⟨_, _, _, _, hl, _⟩ := DataW.trod_struct hu h
    have : Try.prog.cellsOf 34 = 5 := by kernel_rfl
    omega
  refine ⟨⟨d, i, n, w, A, m, c, bs⟩, ?_, i0, i1, i2, hb, hcap⟩
  refine List.ext_getElem? fun j => ?_
  match j with
  | 0 => exact h0.symm
  | 1 => exact h1.symm
  | 2 => exact h2.symm
  | 3 => exact h3.symm
  | 4 => exact h4.symm
  | j + 5 => rw [List.getElem?_eq_none (show cs.length ≤ j + 5 by omega), List.getElem?_eq_none (show 5 ≤ j + 5 by omega)]
set_option maxRecDepth 100000 in
theorem open_act23 (hv : Value.okWide Try.prog W .any base 34 v) (h : DataW.Trod enc Try.prog W 0 (fun _ => true) true 34 v d p) : ∃ y : A23, v = .agg #[.int .i64 y.d, .int .i64 y.i, .int .i64 y.n, .bool y.w, .slice y.A y.m y.c] ∧ y.Ok W := by
  obtain ⟨cs, rfl, _⟩ := okWide_struct Try.underlying34 hv
  obtain ⟨fuel, hf⟩ := h
  simp only [Value.cells] at hf
  obtain ⟨y, hy, hok⟩ := act_of hf
  refine ⟨y, ?_, hok⟩
  have e : cs = y.cs.toArray := Array.ext' (by rw [← hy])
  rw [e]; rfl
set_option maxRecDepth 100000 in
theorem open_acts23 (hv : Value.okWide Try.prog W .any base 22 v) (h : DataW.Trod enc Try.prog W 0 (fun _ => true) true 22 v d p) : ∃ A n c X, v = .slice A n c ∧ Acts23 W A n X := by
  obtain ⟨A, n, c, rfl⟩ := okWide_slice Try.underlying22 hv
  obtain ⟨fuel, hf⟩ := h
  simp only [Value.cells] at hf
  obtain ⟨hmax, _, L, hL⟩ := open_elems Try.underlying22 (by kernel_rfl : Try.prog.cellsOf 34 = 5) (by omega) hf
  have hth : ∀ i, ∃ y : A23, i < n → y.cs = L i ∧ y.Ok W := fun i => by
    by_cases hi : i < n
    · obtain ⟨_, ⟨m, y, hy⟩, _⟩ := hL i hi
      obtain ⟨z, hz⟩ := act_of hy
      exact ⟨z, fun _ => hz⟩
    · exact ⟨⟨0, 0, 0, false, none, 0, 0, []⟩, fun h => absurd h hi⟩
  obtain ⟨X, hX⟩ := Classical.axiomOfChoice hth
  refine ⟨A, n, c, X, rfl, hmax, fun i hi => ⟨(hX i hi).2, ?_⟩⟩
  obtain ⟨hlen, _, hr⟩ := hL i hi
  obtain ⟨b, off, rfl, _⟩ := hr 0 _ (List.getElem?_eq_getElem (by omega))
  refine ⟨b, off, rfl, fun j v hj => ?_⟩
  rw [(hX i hi).1] at hj
  obtain ⟨b', off', e, hc⟩ := hr j v hj
  injection e with e; injection e with e1 e2
  subst e1; subst e2
  exact hc
end

set_option maxRecDepth 100000 in
set_option maxHeartbeats 4000000 in
theorem law_pipenone (x : A23) (w : World) (_ : x.Ok w) :
    Calls Try.prog 6 #[.agg #[.int .i64 x.d, .int .i64 x.i, .int .i64 x.n, .bool x.w, .slice x.A x.m x.c]] w fun e w' => e = .returned (.bool true) ∧ Below w.heap.size w w' := by
  have HAW := Lib.hid (fun w => pip_awake w)
  have oX := Own.new w 34 [.int .i64 x.d, .int .i64 x.i, .int .i64 x.n, .bool x.w, .slice x.A x.m x.c]
  have bX := Ext.alloc w (.cells #[.int .i64 x.d, .int .i64 x.i, .int .i64 x.n, .bool x.w, .slice x.A x.m x.c] 34)
  have y1 := oX.cell 1
  have y2 := oX.cell 2
  have y3 := oX.cell 3
  simp only [List.getElem?_cons_zero, List.getElem?_cons_succ] at y1 y2 y3
  clear oX
  go_enter Try.func6, Try.ntmps6
  go_wp2_with (first
    | ((with_reducible go_at_call 11); (with_reducible refine (n_make _).mono ?_); rintro e w' ⟨rfl, rfl⟩)
    | ((with_reducible go_at_call 13); (with_reducible refine (n_read _ _ _).mono ?_); rintro e w' ⟨rfl, rfl⟩)
    | ((with_reducible go_at_call 19); (with_reducible refine (n_ends _ _).mono ?_); rintro e w' ⟨rfl, rfl⟩)
    | ((with_reducible go_at_call 20); (with_reducible refine (n_open _ _ _).mono ?_); rintro e w' ⟨rfl, rfl⟩)
    | ((with_reducible go_at_call 17); (with_reducible refine (n_close _ _ _).mono ?_); rintro e w' ⟨rfl, rfl⟩)
    | ((with_reducible go_at_call 12); (with_reducible refine (n_write _ _ _ _ _).mono ?_); rintro e w' ⟨rfl, rfl⟩)
    | ((with_reducible go_at_call 16); (with_reducible refine (n_len _ _).mono ?_); rintro e w' ⟨rfl, rfl⟩)
    | ((with_reducible go_at_call 9); (with_reducible refine (HAW.out _).mono ?_); rintro e w5 ⟨rfl, b5⟩))
  go_ret
  exact ⟨rfl, Ext.trans bX b5⟩

end Go.Proofs.Ytebkknkgkjblnaa
