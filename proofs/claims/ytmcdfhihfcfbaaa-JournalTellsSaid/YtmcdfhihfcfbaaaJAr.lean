/-
  Calls that came in: the frame's openers; the walks of few and pick.
-/
import Derived.Test.YtmcdfhihfcfbaaaArgS
import Derived.Test.YtmcdfhihfcfbaaaJW
namespace Go.Proofs.Ytmcdfhihfcfbaaa.W
open Go.RowKit Go.ChangeShapes Go.WideShapes
set_option linter.unusedVariables false
set_option maxRecDepth 100000

/-- a call -/
structure Dd where
  d : Int
  row : ByteArray
  rows : List ByteArray
  keep : List Int
  n : Int

def ddCells (a : Dd) (rv kv : Value) : List Value := [.int .i64 a.d, .string a.row, rv, kv, .int .i64 a.n]
def i64R (x : Int) : Prop := -9223372036854775808 ≤ x ∧ x ≤ 9223372036854775807
structure DdOk (a : Dd) : Prop where
  d : i64R a.d
  n : i64R a.n
  row : a.row.size ≤ 140737488351232
  rows : a.rows.length ≤ 140737488351232
  each : ∀ r ∈ a.rows, r.size ≤ 140737488351232
  keep : a.keep.length ≤ 140737488351232
def ddE (w : World) (cs : List Value) (a : Dd) : Prop := ∃ rv kv, cs = ddCells a rv kv ∧ Rw 1 strE w rv a.rows ∧ Rw 1 intE w kv a.keep
theorem ddE_stays : Stays ddE := by
  rintro w w' cs x hb ⟨rv, kv, h1, h2, h3⟩
  exact ⟨rv, kv, h1, h2.below strE_stays hb, h3.below intE_stays hb⟩

theorem SliceAt.rw {α β : Type} {W : World} {m : Nat} {E : List Value → α → Prop} {E' : World → List Value → α → Prop} {v : Value} {xs : List α} (h : SliceAt W m E v xs) (hE : ∀ cs x, E cs x → E' W cs x) : Rw m E' W v xs := by
  refine ⟨h.is.imp_right ?_⟩
  rintro ⟨g, o, cap, e, hg, hc⟩
  exact ⟨g, o, cap, e, hg, fun j x hx => by obtain ⟨cs, h1, h2, h3⟩ := hc j x hx; exact ⟨cs, h1, hE cs x h2, h3⟩⟩
theorem SliceAt.mem {α : Type} {W : World} {m : Nat} {E : List Value → α → Prop} {v : Value} {xs : List α} (h : SliceAt W m E v xs) {x : α} (hx : x ∈ xs) : ∃ cs, E cs x := by
  obtain ⟨j, hj⟩ := List.mem_iff_getElem?.1 hx
  rcases h.is with ⟨rfl, _⟩ | ⟨g, o, cap, e, hg, hc⟩
  · simp at hx
  · obtain ⟨cs, _, h2, _⟩ := hc j x hj
    exact ⟨cs, h2⟩

theorem cellsInt : Try.prog.cellsOf 3 = 1 := by kernel_rfl
theorem cellsStr : Try.prog.cellsOf 9 = 1 := by kernel_rfl
theorem cellsInts : Try.prog.cellsOf 32 = 1 := by kernel_rfl
theorem cellsStrs : Try.prog.cellsOf 31 = 1 := by kernel_rfl
theorem cellsDeed : Try.prog.cellsOf 34 = 5 := by kernel_rfl
theorem bytesInt : Try.prog.bytesOf 3 = 8 := by kernel_rfl
theorem bytesStr : Try.prog.bytesOf 9 = 16 := by kernel_rfl
theorem bytesDeed : Try.prog.bytesOf 34 = 80 := by kernel_rfl

section
variable {H : Type} {enc : TypeId × Value → H}

theorem elem_ints {W : World} (fuel : Nat) (cs : List Value) (d : DataW H) (p : List MemPlace) (h : DataW.trod enc Try.prog W 0 (fun _ => true) true fuel 32 cs = some (d, p)) (hz : ∀ x ∈ d.weights Try.prog 32, x ≤ reachBytes) :
    ∃ (v : Value) (ks : List Int), cs = [v] ∧ Rw 1 intE W v ks ∧ ks.length ≤ 140737488351232 := by
  obtain ⟨v, ks, hv, h1, h2⟩ := arg_slice_cells (P := Try.prog) (m := 1) (fun cs (x : Int) => cs = [.int .i64 x] ∧ (Lit.int .i64 x).wf = true) Try.underlying32 cellsInt (by decide) (elem_int Try.underlying3) h hz
  rw [bytesInt] at h2
  have hr : reachBytes = 140737488351232 := by decide
  exact ⟨v, ks, hv, h1.rw (β := Int) (fun _ _ h => h.1), by omega⟩
theorem elem_strs {W : World} (fuel : Nat) (cs : List Value) (d : DataW H) (p : List MemPlace) (h : DataW.trod enc Try.prog W 0 (fun _ => true) true fuel 31 cs = some (d, p)) (hz : ∀ x ∈ d.weights Try.prog 31, x ≤ reachBytes) :
    ∃ (v : Value) (ss : List ByteArray), cs = [v] ∧ Rw 1 strE W v ss ∧ ss.length ≤ 140737488351232 ∧ ∀ s ∈ ss, s.size ≤ 140737488351232 := by
  obtain ⟨v, ss, hv, h1, h2⟩ := arg_slice_cells (P := Try.prog) (m := 1) (fun cs s => cs = [.string s] ∧ s.size ≤ 140737488351232) Try.underlying31 cellsStr (by decide) (elem_string Try.underlying9) h hz
  rw [bytesStr] at h2
  have hr : reachBytes = 140737488351232 := by decide
  exact ⟨v, ss, hv, h1.rw (β := Int) (fun _ _ h => h.1), by omega, fun s hs => by obtain ⟨cs, h⟩ := h1.mem hs; exact h.2⟩

theorem wf64 {x : Int} (h : (Lit.int .i64 x).wf = true) : i64R x := by
  simp [Lit.wf, IntKind.min, IntKind.max, IntKind.signed, IntKind.bits] at h
  unfold i64R; omega

theorem elem_deed {W : World} (fuel : Nat) (cs : List Value) (d : DataW H) (p : List MemPlace) (h : DataW.trod enc Try.prog W 0 (fun _ => true) true fuel 34 cs = some (d, p)) (hz : ∀ x ∈ d.weights Try.prog 34, x ≤ reachBytes) :
    ∃ a : Dd, DdOk a ∧ ddE W cs a := by
  obtain ⟨xs, n, rfl, hx, hl, hxl, hall⟩ := DataW.trod_struct Try.underlying34 h
  rw [cellsDeed] at hl
  match cs, hl with
  | [c0, c1, c2, c3, c4], _ =>
    have hxl' : xs.length = 5 := hxl
    match xs, hxl' with
    | [x0, x1, x2, x3, x4], _ =>
      injection hx with hd _
      have f0 : DataW.trod enc Try.prog W 0 (fun _ => true) true n 3 (List.take (Try.prog.cellsOf 3) (List.drop 0 [c0, c1, c2, c3, c4])) = some x0 := hall 0 _ rfl
      have f1 : DataW.trod enc Try.prog W 0 (fun _ => true) true n 9 (List.take (Try.prog.cellsOf 9) (List.drop 1 [c0, c1, c2, c3, c4])) = some x1 := hall 1 _ rfl
      have f2 : DataW.trod enc Try.prog W 0 (fun _ => true) true n 31 (List.take (Try.prog.cellsOf 31) (List.drop 2 [c0, c1, c2, c3, c4])) = some x2 := hall 2 _ rfl
      have f3 : DataW.trod enc Try.prog W 0 (fun _ => true) true n 32 (List.take (Try.prog.cellsOf 32) (List.drop 3 [c0, c1, c2, c3, c4])) = some x3 := hall 3 _ rfl
      have f4 : DataW.trod enc Try.prog W 0 (fun _ => true) true n 3 (List.take (Try.prog.cellsOf 3) (List.drop 4 [c0, c1, c2, c3, c4])) = some x4 := hall 4 _ rfl
      simp only [cellsInt, cellsStr, cellsInts, cellsStrs, List.drop_succ_cons, List.take_succ_cons, List.take_zero, List.drop_zero] at f0 f1 f2 f3 f4
      obtain ⟨i0, e0, _, w0⟩ := DataW.trod_int Try.underlying3 f0
      obtain ⟨i4, e4, _, w4⟩ := DataW.trod_int Try.underlying3 f4
      have hw : ∀ {j : Nat} {t : TypeId} {y : DataW H}, [3, 9, 31, 32, 3][j]? = some t → [x0.1, x1.1, x2.1, x3.1, x4.1][j]? = some y → ∀ x ∈ y.weights Try.prog t, x ≤ reachBytes := by
        intro j t y ht hy x hxx
        apply hz
        subst hd
        rw [DataW.weights, Try.underlying34]
        exact DataW.weights_mem_each ht hy x hxx
      obtain ⟨s, e1, hs⟩ := elem_string (P := Try.prog) Try.underlying9 n [c1] x1.1 x1.2 f1 (hw (j := 1) rfl rfl)
      obtain ⟨rv, ss, e2, hR, hR2, hR3⟩ := elem_strs n [c2] x2.1 x2.2 f2 (hw (j := 2) rfl rfl)
      obtain ⟨kv, ks, e3, hI, hk⟩ := elem_ints n [c3] x3.1 x3.2 f3 (hw (j := 3) rfl rfl)
      simp only [List.cons.injEq, and_true] at e0 e1 e2 e3 e4
      subst e0 e1 e2 e3 e4
      exact ⟨⟨i0, s, ss, ks, i4⟩, ⟨wf64 w0, wf64 w4, hs, hR2, hR3, hk⟩, _, _, rfl, hR, hI⟩

structure ArgDeeds (W : World) (v : Value) (l : List Dd) : Prop where
  row : Rw 5 ddE W v l
  ok : ∀ a ∈ l, DdOk a
  len : l.length ≤ 140737488351232

theorem args_deeds {base : Nat} {W : World} {v : Value} {d : DataW H} {p : List MemPlace} (hval : Value.okWide Try.prog W .any base 22 v) (h : DataW.Trod enc Try.prog W 0 (fun _ => true) true 22 v d p)
    (hz : ∀ n ∈ d.weights Try.prog 22, n ≤ reachBytes) : ∃ l : List Dd, ArgDeeds W v l := by
  obtain ⟨l, h1, h2⟩ := arg_slice (P := Try.prog) (m := 5) (fun cs (a : Dd) => DdOk a ∧ ddE W cs a) Try.underlying22 cellsDeed (by decide) elem_deed (okWide_slice Try.underlying22 hval) h hz
  rw [bytesDeed] at h2
  have hr : reachBytes = 140737488351232 := by decide
  exact ⟨l, ⟨h1.rw (β := Int) (fun _ _ h => h.2), fun a ha => by obtain ⟨cs, h⟩ := h1.mem ha; exact h.1, by omega⟩⟩
structure ArgI (W : World) (v : Value) (ks : List Int) : Prop where
  row : Rw 1 intE W v ks
  len : ks.length ≤ 140737488351232
  each : ∀ k ∈ ks, i64R k
structure ArgR (W : World) (v : Value) (ss : List ByteArray) : Prop where
  row : Rw 1 strE W v ss
  len : ss.length ≤ 140737488351232
  each : ∀ s ∈ ss, s.size ≤ 140737488351232

theorem args_ints {base : Nat} {W : World} {v : Value} {d : DataW H} {p : List MemPlace} (hval : Value.okWide Try.prog W .any base 32 v) (h : DataW.Trod enc Try.prog W 0 (fun _ => true) true 32 v d p)
    (hz : ∀ n ∈ d.weights Try.prog 32, n ≤ reachBytes) : ∃ ks : List Int, ArgI W v ks := by
  obtain ⟨ks, h1, h2⟩ := arg_slice (P := Try.prog) (m := 1) (fun cs (x : Int) => cs = [.int .i64 x] ∧ (Lit.int .i64 x).wf = true) Try.underlying32 cellsInt (by decide) (elem_int Try.underlying3) (okWide_slice Try.underlying32 hval) h hz
  rw [bytesInt] at h2
  have hr : reachBytes = 140737488351232 := by decide
  exact ⟨ks, h1.rw (β := Int) (fun _ _ h => h.1), by omega, fun k hk => by obtain ⟨cs, h⟩ := h1.mem hk; exact wf64 h.2⟩
theorem args_strs {base : Nat} {W : World} {v : Value} {d : DataW H} {p : List MemPlace} (hval : Value.okWide Try.prog W .any base 31 v) (h : DataW.Trod enc Try.prog W 0 (fun _ => true) true 31 v d p)
    (hz : ∀ n ∈ d.weights Try.prog 31, n ≤ reachBytes) : ∃ ss : List ByteArray, ArgR W v ss := by
  obtain ⟨ss, h1, h2⟩ := arg_slice (P := Try.prog) (m := 1) (fun cs s => cs = [.string s] ∧ s.size ≤ 140737488351232) Try.underlying31 cellsStr (by decide) (elem_string Try.underlying9) (okWide_slice Try.underlying31 hval) h hz
  rw [bytesStr] at h2
  have hr : reachBytes = 140737488351232 := by decide
  exact ⟨ss, h1.rw (β := Int) (fun _ _ h => h.1), by omega, fun s hs => by obtain ⟨cs, h⟩ := h1.mem hs; exact h.2⟩
end

/-- a row of ints of the old world, where the disk is new -/
theorem Rw.ir {W w : World} {v : Value} {ks : List Int} (h : Rw 1 intE W v ks) (hb : Below W.heap.size W w) : IR (fun g => W.heap.size ≤ g) w v ks := by
  rcases h.is with h0 | ⟨g, o, cap, e, hg, hc⟩
  · exact ⟨.inl h0⟩
  · refine ⟨.inr ⟨g, o, cap, e, Nat.not_le.2 hg, fun j x hj => ?_⟩⟩
    obtain ⟨cs, _, he, h3⟩ := hc j x hj
    have he : cs = [.int .i64 x] := he
    subst he
    have := h3 0 _ rfl
    rw [Nat.mul_one, Nat.add_zero] at this
    rw [hb.cell (p := ⟨g, o + j, none⟩) hg]
    exact this

def pickI (n m : Int) : Int := n % m

theorem pick_any (n m : Int) (w : World) (h : i64R n) (hm : 1 ≤ m ∧ m ≤ 1000) : Calls Try.prog 29 #[.int .i64 n, .int .i64 m] w fun e w' => e = .returned (.int .i64 (pickI n m)) ∧ w = w' := by
  obtain ⟨h1, h2⟩ := h
  obtain ⟨m1, m2⟩ := hm
  have hmz : (m == 0) = false := by simp; omega
  have hb := Int.emod_nonneg n (show m ≠ 0 by omega)
  have hb2 := Int.emod_lt_of_pos n (show 0 < m by omega)
  have hmne : ¬ m = 0 := by omega
  rcases Int.lt_or_le n 0 with hn | hn
  · have htm : n.tmod m = -((-n) % m) := by
      rw [← Int.tmod_eq_emod_of_nonneg (by omega : 0 ≤ -n), Int.neg_tmod, Int.neg_neg]
    have c1 := Int.emod_nonneg (-n) (show m ≠ 0 by omega)
    have c2 := Int.emod_lt_of_pos (-n) (show 0 < m by omega)
    have key : n % m = if (-n) % m = 0 then 0 else m - (-n) % m := by
      have e1 := Int.mul_ediv_add_emod (-n) m
      obtain ⟨r, hr⟩ : ∃ r, (-n) % m = r := ⟨_, rfl⟩
      obtain ⟨q, hq⟩ : ∃ q, (-n) / m = q := ⟨_, rfl⟩
      rw [hr, hq] at e1
      rw [hr] at c1 c2 ⊢
      have : n = -r + m * (-q) := by rw [Int.mul_neg]; omega
      rw [this, Int.add_mul_emod_self_left]
      split
      · rename_i h0; rw [h0]; simp
      · have : (-r) % m = (m - r) % m := by rw [show m - r = -r + m * 1 by omega, Int.add_mul_emod_self_left]
        rw [this]
        exact Int.emod_eq_of_lt (by omega) (by omega)
    obtain ⟨r, hr⟩ : ∃ r, (-n) % m = r := ⟨_, rfl⟩
    rw [hr] at htm c1 c2 key
    by_cases h0 : r = 0
    · subst h0
      have e : n.tmod m = 0 := by omega
      clear htm
      have hp : Hd (pickI n m = 0) := ⟨by unfold pickI; rw [key]; rfl⟩
      clear key hr hb hb2
      go_enter Try.func29, Try.ntmps29
      go_wp2
      go_ret
      exact ⟨ret_i (by rw [hp.out]), rfl⟩
    · obtain ⟨t, ht⟩ : ∃ t, n.tmod m = t := ⟨_, rfl⟩
      have hp : Hd (pickI n m = t + m) := ⟨by unfold pickI; rw [key, if_neg h0]; omega⟩
      have h3 : t < 0 := by omega
      have h4 : -1000 ≤ t := by omega
      have w1 : wrap64 (t + m) = t + m := by unfold wrap64; omega
      clear h0 htm key hr hb hb2 c1 c2
      go_enter Try.func29, Try.ntmps29
      go_wp2
      go_ret
      exact ⟨ret_i (by rw [hp.out]), rfl⟩
  · have htm : n.tmod m = n % m := Int.tmod_eq_emod_of_nonneg hn
    have hp : Hd (pickI n m = n % m) := ⟨rfl⟩
    obtain ⟨t, ht⟩ : ∃ t, n % m = t := ⟨_, rfl⟩
    rw [ht] at hp htm hb
    have h3 : ¬ t < 0 := by omega
    clear ht hb2
    go_enter Try.func29, Try.ntmps29
    go_wp2
    go_ret
    exact ⟨ret_i (by rw [hp.out]), rfl⟩

theorem i64_and_7 (x : Int) : bits .and .i64 x 7 = x % 8 := by
  show IntKind.i64.wrap ((BitVec.ofInt 64 x &&& BitVec.ofInt 64 7).toNat : Int) = _
  have e : (BitVec.ofInt 64 x &&& BitVec.ofInt 64 7).toNat = (BitVec.ofInt 64 x).toNat % 8 := by
    rw [BitVec.toNat_and, show (BitVec.ofInt 64 7).toNat = 2 ^ 3 - 1 from rfl, Nat.and_two_pow_sub_one_eq_mod]
  have e2 : ((BitVec.ofInt 64 x).toNat : Int) = x % 18446744073709551616 := by
    rw [BitVec.toNat_ofInt]; omega
  rw [e]
  have : ((((BitVec.ofInt 64 x).toNat % 8 : Nat)) : Int) = x % 8 := by omega
  rw [this]
  exact IntWalk.i64_in _ (by omega)

end Go.Proofs.Ytmcdfhihfcfbaaa.W
