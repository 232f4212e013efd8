/-
  The reference of version: Line.
-/
import Derived.Test.YtmgkoocpnakanaaVra
import Derived.Test.YtmgkoocpnakanaaEachJ
namespace Go.Proofs.Ytmgkoocpnakanaa.W
open Go.RowKit
set_option linter.unusedVariables false

/-! ### a row with one more string in the middle, made in any order -/
structure SJ (B : Nat) (ls : List ByteArray) (x : ByteArray) (bs : List ByteArray) (w0 : World) (done : Nat → Bool) (s : Nat → Value) (w : World) : Prop where
  bel : Below B w0 w
  o4 : done 4 = true → done 0 = true
  o10 : done 10 = true → done 4 = true ∧ done 9 = true
  o14 : done 14 = true → done 10 = true
  o15 : done 15 = true → done 14 = true
  a : done 0 = true → done 4 = false → w.ownsRow B 9 1 (s 0) 0 (strs [])
  b : done 4 = true → done 10 = false → w.ownsRow B 9 1 (s 4) ls.length (strs ls)
  c : done 9 = true → done 10 = false → ∃ k, s 9 = .slice (some ⟨k, 0, none⟩) 1 1 ∧ Blk w k 9 [.string x] ∧ (done 0 = true → done 4 = false → (s 0).ownBlock ≠ some k) ∧ (done 4 = true → (s 4).ownBlock ≠ some k)
  d : done 10 = true → done 14 = false → w.ownsRow B 9 1 (s 10) (ls.length + 1) (strs (ls ++ [x]))
  e : done 14 = true → done 15 = false → w.ownsRow B 9 1 (s 14) (ls.length + 1 + bs.length) (strs (ls ++ [x] ++ bs))
  f : done 15 = true → w.ownsRow B 9 1 (s 15) (ls.length + 1 + bs.length) (strs (ls ++ [x] ++ bs))
section
variable {B : Nat} {ls bs : List ByteArray} {x : ByteArray} {w0 w : World} {done : Nat → Bool} {s : Nat → Value}
theorem no_of {a b : Bool} {P : Prop} (h : a = true → b = true) (hb : b = false) : a = false := by
  rcases e : a with _ | _
  · rfl
  · rw [h e] at hb; cases hb
theorem SJ.step0 (h : SJ B ls x bs w0 done s w) (hd : done 0 = false) (hB : B ≤ w0.heap.size) : SJ B ls x bs w0 (setD done 0) (upd s 0 (.slice (some ⟨w.heap.size, 0, none⟩) 0 0)) (w.alloc (.cells #[] 9)) := by
  have hw : B ≤ w.heap.size := Nat.le_trans hB h.bel.size
  have n4 := no_of (P := True) h.o4 hd
  have n10 := no_of (P := True) (fun e => (h.o10 e).1) n4
  have n14 := no_of (P := True) h.o14 n10
  have n15 := no_of (P := True) h.o15 n14
  refine ⟨h.bel.trans ((below_alloc w _).mono hw), ?_, ?_, ?_, ?_, ?_, ?_, ?_, ?_, ?_, ?_⟩ <;> simp only [setD, upd, n4, n10, n14, n15, reduceIte, Nat.reduceEqDiff, ↓reduceIte]
  · intro h; cases h
  · intro h; cases h
  · intro h; cases h
  · intro h; cases h
  · intro _ _; exact World.ownsRow_lit w #[] 0 hw (Nat.zero_le _) rfl
  · intro h; cases h
  · intro h9 _
    obtain ⟨k, e1, e3, e4, e5⟩ := h.c h9 n10
    refine ⟨k, e1, e3.alloc _, fun _ _ e => ?_, fun h => by cases h⟩
    have hk := e3.lt
    have : w.heap.size = k := by simpa [Value.ownBlock] using e
    omega
  · intro h; cases h
  · intro h; cases h
  · intro h; cases h
theorem SJ.step9 (h : SJ B ls x bs w0 done s w) (hd : done 9 = false) (hB : B ≤ w0.heap.size) : SJ B ls x bs w0 (setD done 9) (upd s 9 (.slice (some ⟨w.heap.size, 0, none⟩) 1 1)) (w.alloc (.cells #[.string x] 9)) := by
  have hw : B ≤ w.heap.size := Nat.le_trans hB h.bel.size
  have n10 := no_of (P := True) (fun e => (h.o10 e).2) hd
  have n14 := no_of (P := True) h.o14 n10
  have n15 := no_of (P := True) h.o15 n14
  refine ⟨h.bel.trans ((below_alloc w _).mono hw), ?_, ?_, ?_, ?_, ?_, ?_, ?_, ?_, ?_, ?_⟩ <;> simp only [setD, upd, n10, n14, n15, reduceIte, Nat.reduceEqDiff, ↓reduceIte]
  · exact h.o4
  · intro h; cases h
  · intro h; cases h
  · intro h; cases h
  · intro h0 h4; exact (h.a h0 h4).alloc _
  · intro h4 _; exact (h.b h4 n10).alloc _
  · intro _ _
    refine ⟨w.heap.size, rfl, Blk.new w 9 [.string x], fun h0 h4 e => ?_, fun h4 e => ?_⟩
    · have := ((h.a h0 h4).lt _ e).2; omega
    · have := ((h.b h4 n10).lt _ e).2; omega
  · intro h; cases h
  · intro h; cases h
  · intro h; cases h
theorem SJ.step4 (h : SJ B ls x bs w0 done s w) (hd : done 4 = false) (h0 : done 0 = true) (hB : B ≤ w0.heap.size) {v : Value} (hA : Rw 1 strE w v ls) (hn : ls.length ≤ 1000000) :
    ∃ v' w', (Builtin.append_ #[27, 27] 27 #[s 0, v]).run Try.prog w = .ok v' w' ∧ SJ B ls x bs w0 (setD done 4) (upd s 4 v') w' := by
  have hw : B ≤ w.heap.size := Nat.le_trans hB h.bel.size
  have n10 := no_of (P := True) (fun e => (h.o10 e).1) hd
  have n14 := no_of (P := True) h.o14 n10
  have n15 := no_of (P := True) h.o15 n14
  obtain ⟨v', w', h1, h2, h3, h4, h5⟩ := str_app (h.a h0 hd) hA (by omega) hw
  rw [Nat.zero_add] at h2
  refine ⟨v', w', h1, h.bel.trans h3, ?_, ?_, ?_, ?_, ?_, ?_, ?_, ?_, ?_, ?_⟩ <;> simp only [setD, upd, n10, n14, n15, reduceIte, Nat.reduceEqDiff, ↓reduceIte]
  · intro _; exact h0
  · intro h; cases h
  · intro h; cases h
  · intro h; cases h
  · intro _ h; cases h
  · intro _ _; exact h2
  · intro h9 _
    obtain ⟨k, e1, e3, e4, e5⟩ := h.c h9 n10
    have hne := e4 h0 hd
    refine ⟨k, e1, h4.blk e3 hne, (fun _ h => by cases h), fun _ e => ?_⟩
    rcases h5 with h5 | h5
    · rw [h5] at e; exact hne e
    · rw [h5] at e
      have := e3.lt
      injection e with e
      omega
  · intro h; cases h
  · intro h; cases h
  · intro h; cases h
theorem SJ.step10 (h : SJ B ls x bs w0 done s w) (hd : done 10 = false) (h4 : done 4 = true) (h9 : done 9 = true) (hB : B ≤ w0.heap.size) (hn : ls.length + 1 ≤ 1000000) :
    ∃ v' w', (Builtin.append_ #[27, 27] 27 #[s 4, s 9]).run Try.prog w = .ok v' w' ∧ SJ B ls x bs w0 (setD done 10) (upd s 10 v') w' := by
  have hw : B ≤ w.heap.size := Nat.le_trans hB h.bel.size
  have n14 := no_of (P := True) h.o14 hd
  have n15 := no_of (P := True) h.o15 n14
  obtain ⟨k, e1, e3, e4, e5⟩ := h.c h9 hd
  obtain ⟨v', w', r1, r2, r3, _, _⟩ := str_app (ss := [x]) (v := s 9) (h.b h4 hd) (by rw [e1]; exact Rw.strs (ks := [x]) e3) hn hw
  refine ⟨v', w', r1, h.bel.trans r3, ?_, ?_, ?_, ?_, ?_, ?_, ?_, ?_, ?_, ?_⟩ <;> simp only [setD, upd, n14, n15, reduceIte, Nat.reduceEqDiff, ↓reduceIte]
  · exact h.o4
  · intro _; exact ⟨h4, h9⟩
  · intro h; cases h
  · intro h; cases h
  · intro h0 hn4; rw [h4] at hn4; cases hn4
  · intro _ h; cases h
  · intro _ h; cases h
  · intro _ _; exact r2
  · intro h; cases h
  · intro h; cases h
theorem SJ.step14 (h : SJ B ls x bs w0 done s w) (hd : done 14 = false) (h10 : done 10 = true) (hB : B ≤ w0.heap.size) {v : Value} (hA : Rw 1 strE w v bs) (hn : ls.length + 1 + bs.length ≤ 1000000) :
    ∃ v' w', (Builtin.append_ #[27, 27] 27 #[s 10, v]).run Try.prog w = .ok v' w' ∧ SJ B ls x bs w0 (setD done 14) (upd s 14 v') w' := by
  have hw : B ≤ w.heap.size := Nat.le_trans hB h.bel.size
  have n15 := no_of (P := True) h.o15 hd
  obtain ⟨v', w', r1, r2, r3, _, _⟩ := str_app (h.d h10 hd) hA hn hw
  refine ⟨v', w', r1, h.bel.trans r3, ?_, ?_, ?_, ?_, ?_, ?_, ?_, ?_, ?_, ?_⟩ <;> simp only [setD, upd, n15, h10, reduceIte, Nat.reduceEqDiff, ↓reduceIte]
  · exact h.o4
  · intro _; exact h.o10 h10
  · intro _; trivial
  · intro h; cases h
  · intro _ h4; rw [(h.o10 h10).1] at h4; cases h4
  · intro _ h; cases h
  · intro _ h; cases h
  · intro _ h; cases h
  · intro _ _; exact r2
  · intro h; cases h
theorem SJ.step15 (h : SJ B ls x bs w0 done s w) (hd : done 15 = false) (h14 : done 14 = true) : SJ B ls x bs w0 (setD done 15) (upd s 15 (s 14)) w := by
  have he := h.e h14 hd
  have h10 := h.o14 h14
  refine ⟨h.bel, ?_, ?_, ?_, ?_, ?_, ?_, ?_, ?_, ?_, ?_⟩ <;> simp only [setD, upd, h14, h10, reduceIte, Nat.reduceEqDiff, ↓reduceIte]
  · exact h.o4
  · intro _; exact h.o10 h10
  · intro _; trivial
  · intro _; trivial
  · exact h.a
  · intro _ h; cases h
  · intro _ h; cases h
  · intro _ h; cases h
  · intro _ h; cases h
  · intro _; exact he
end

def sv6 (a b c d e f : Value) : Nat → Value := fun j => if j = 0 then a else if j = 4 then b else if j = 9 then c else if j = 10 then d else if j = 14 then e else f

/-! ### insertion -/
structure LnP (xs out : List ByteArray) (i : Nat) : Prop where
  asc : AscS out
  mem : ∀ y, y ∈ out ↔ ∃ j, ∃ hj : j < xs.length, 1 ≤ j ∧ j < i ∧ xs[j] = y
  len : out.length + 1 = i
theorem LnP.start (xs : List ByteArray) : LnP xs [] 1 := ⟨.nil, fun y => ⟨(fun h => by cases h), fun ⟨j, _, h1, h2, _⟩ => by omega⟩, rfl⟩
theorem LnP.step {xs out : List ByteArray} {i k : Nat} (h : LnP xs out i) (hn : xs.Nodup) (hi : i < xs.length) (hi1 : 1 ≤ i) (hk : k ≤ out.length) (hb : ∀ j (hj : j < out.length), j < k → ltS out[j] xs[i] = true) (ha : k = out.length ∨ ∃ hk : k < out.length, ltS out[k] xs[i] = false) :
    LnP xs (out.take k ++ [xs[i]] ++ out.drop k) (i + 1) := by
  have hnew : xs[i] ∉ out := fun hm => by
    obtain ⟨j, hj, _, h2, e⟩ := (h.mem _).1 hm
    have := nod_at hn hj hi e
    omega
  have haft : ∀ y, y ∈ out.drop k → ltS xs[i] y = true := fun y hy => by
    obtain ⟨j, hj, rfl⟩ := List.getElem_of_mem hy
    rw [List.getElem_drop]
    have hj' : k + j < out.length := by rw [List.length_drop] at hj; omega
    rcases ha with e | ⟨hk', hlt⟩
    · omega
    · have h1 : ltS xs[i] out[k] = true := by
        rcases h2 : ltS xs[i] out[k] with _ | _
        · exact absurd (ltS_tri hlt h2 ▸ List.getElem_mem hk' : xs[i] ∈ out) hnew
        · rfl
      rcases Nat.eq_zero_or_pos j with h0 | h0
      · subst h0; exact h1
      · exact ltS_trans h1 (List.pairwise_iff_getElem.1 h.asc k (k + j) hk' hj' (by omega))
  have hbef : ∀ y, y ∈ out.take k → ltS y xs[i] = true := fun y hy => by
    obtain ⟨j, hj, rfl⟩ := List.mem_take_iff_getElem.1 hy
    exact hb j (by omega) (by omega)
  refine ⟨?_, fun y => ?_, ?_⟩
  · unfold AscS
    rw [List.append_assoc]
    refine List.pairwise_append.2 ⟨h.asc.sublist (List.take_sublist _ _), ?_, fun a ha' b hb' => ?_⟩
    · exact List.pairwise_cons.2 ⟨fun y hy => haft y (by simpa using hy), h.asc.sublist (List.drop_sublist _ _)⟩
    · rcases List.mem_append.1 hb' with hb' | hb'
      · rw [List.mem_singleton] at hb'; subst hb'; exact hbef a ha'
      · exact ltS_trans (hbef a ha') (haft b hb')
  · have e : y ∈ out.take k ++ [xs[i]] ++ out.drop k ↔ y ∈ out ∨ y = xs[i] := by
      conv => rhs; rw [← List.take_append_drop k out]
      simp only [List.mem_append, List.mem_singleton]
      constructor
      · rintro ((h | h) | h)
        · exact .inl (.inl h)
        · exact .inr h
        · exact .inl (.inr h)
      · rintro ((h | h) | h)
        · exact .inl (.inl h)
        · exact .inr h
        · exact .inl (.inr h)
    rw [e, h.mem]
    constructor
    · rintro (⟨j, hj, h1, h2, e⟩ | rfl)
      · exact ⟨j, hj, h1, by omega, e⟩
      · exact ⟨i, hi, hi1, by omega, rfl⟩
    · rintro ⟨j, hj, h1, h2, rfl⟩
      rcases Nat.lt_or_ge j i with h' | h'
      · exact .inl ⟨j, hj, h1, h', rfl⟩
      · have : j = i := by omega
        subst this
        exact .inr rfl
  · have := h.len
    simp only [List.length_append, List.length_take, List.length_drop, List.length_singleton]
    omega
theorem LnP.line {l : List Vdf} {s : ByteArray} {xs out : List ByteArray} {i : Nat} (h : LnP xs out i) (hA : IsAll l s xs) (hi : xs.length ≤ i) : IsLine l s (s :: out) := by
  refine ⟨out, rfl, h.asc, fun x => ?_⟩
  rw [h.mem, ← hA.mem]
  obtain ⟨r, e⟩ := hA.hd
  have hnd := hA.nod
  subst e
  constructor
  · rintro ⟨j, hj, h1, _, rfl⟩
    refine ⟨List.getElem_mem hj, fun e => ?_⟩
    have := nod_at hnd (i := j) (j := 0) hj (by simp) (by simpa using e)
    omega
  · rintro ⟨hm, hne⟩
    obtain ⟨j, hj, rfl⟩ := List.getElem_of_mem hm
    refine ⟨j, hj, ?_, by omega, rfl⟩
    rcases Nat.eq_zero_or_pos j with h0 | h0
    · subst h0; exact absurd rfl hne
    · exact h0

theorem rw_drop {w : World} {g n c k : Nat} {xs : List ByteArray} (h : Rw 1 strE w (.slice (some ⟨g, 0, none⟩) n c) xs) (hn : xs.length = n) (hk : k ≤ n) (hkn : k < n ∨ k = n) : Rw 1 strE w (.slice (some ⟨g, k, none⟩) (n - k) (c - k)) (xs.drop k) := by
  rcases h.is with ⟨rfl, h0⟩ | ⟨g', o', cap, e, hg, hc⟩
  · rw [List.length_nil] at hn
    subst hn
    have : k = 0 := by omega
    subst this
    exact ⟨.inl ⟨rfl, .inr ⟨_, _, rfl⟩⟩⟩
  · injection e with e1 e2 e3
    injection e1 with e1
    injection e1 with e4 e5 _
    subst e4
    subst e5
    refine ⟨.inr ⟨g, k, c - k, by rw [List.length_drop, hn], hg, fun j x hx => ?_⟩⟩
    rw [List.getElem?_drop] at hx
    obtain ⟨cs, h1, h2, h3⟩ := hc (k + j) x hx
    refine ⟨cs, h1, h2, fun i u hu => ?_⟩
    have := h3 i u hu
    rw [show 0 + (k + j) * 1 + i = k + j * 1 + i by omega] at this
    exact this
theorem own_shape {w : World} {B : Nat} {p : Option Addr} {n c m : Nat} {us : List Value} (h : w.ownsRow B 9 1 (.slice p n c) m us) : (p = none ∧ n = 0 ∧ c = 0) ∨ ∃ g, p = some ⟨g, 0, none⟩ ∧ n ≤ c := by
  rcases h.2 with ⟨e, _⟩ | ⟨g, cap, cur, e, _, _, h4, _⟩
  · injection e with e1 e2 e3
    exact .inl ⟨e1, e2, e3⟩
  · injection e with e1 e2 e3
    subst e2; subst e3
    exact .inr ⟨g, e1, h4⟩
theorem own_down {w : World} {B B' : Nat} {v : Value} {n : Nat} {us : List Value} (h : w.ownsRow B 9 1 v n us) (hB : B' ≤ B) : w.ownsRow B' 9 1 v n us := by
  refine ⟨h.1, ?_⟩
  rcases h.2 with h0 | ⟨g, cap, cur, e, h1, h2⟩
  · exact .inl h0
  · exact .inr ⟨g, cap, cur, e, Nat.le_trans hB h1, h2⟩


set_option maxHeartbeats 4000000 in
set_option maxRecDepth 100000 in
theorem rline_any (w : World) (v : Value) (l : List Vdf) (t : ByteArray) (h : Rw 2 Vdf.E w v l) (hOk : VOk l) :
    Calls Try.prog 17 #[v, .string t] w fun e w' => ∃ (v' : Value) (n : Nat) (xs : List ByteArray), e = .returned v' ∧ w'.ownsRow w.heap.size 9 1 v' n (strs xs) ∧ n ≤ 101 ∧ IsLine l t xs ∧ Below w.heap.size w w' := by
  have HAl := Hd.mk (rall_any w v l t h hOk)
  clear h hOk
  go_enter Try.func17, Try.ntmps17
  go_wp2_with fail
  refine HAl.out.mono ?_
  rintro e w1 ⟨vx, N, xs, rfl, ho, hN, hia, b1⟩
  have hlen : xs.length = N := by have := ho.1; rw [strs_len] at this; omega
  have hrw := rw_strs ho
  obtain ⟨px, cx, ex⟩ := hrw.slice
  rw [hlen] at ex
  subst ex
  have HRx := Hd.mk hrw
  have HLn := Hd.mk hlen
  have HIa := Hd.mk hia
  have HB1 := Hd.mk b1
  have HA0 : Hd (w1.ownsRow w1.heap.size 9 1 (.slice none 0 0) 0 (strs [])) := ⟨World.ownsRow_nil w1 _ _ _⟩
  have hN1 : 1 ≤ N := by
    obtain ⟨r, e⟩ := hia.hd
    rw [e] at hlen; simp at hlen; omega
  clear ho hia b1 hlen hrw HAl
  go_wp2
  go_loopw [7, 6] (fun iv av wr => ∃ (i n : Nat) (p6 : Option Addr) (c6 : Nat) (out : List ByteArray), n + 1 = i ∧ i ≤ N ∧ iv = .int .i64 (i : Int) ∧ av = .slice p6 n c6 ∧ Hd (wr.ownsRow w1.heap.size 9 1 (.slice p6 n c6) n (strs out)) ∧ Hd (LnP xs out i) ∧ Hd (Below w1.heap.size w1 wr)) (fun iv _ _ => N - (intOf iv).toNat)
  case atStart => exact ⟨1, 0, none, 0, [], rfl, hN1, rfl, rfl, HA0, ⟨LnP.start xs⟩, ⟨Below.refl _ _⟩⟩
  case round =>
    clear HA0
    obtain ⟨i, n, p6, c6, out, hni, hi, rfl, rfl, HA, HP, HB⟩ := hrel
    by_cases hlt : i < N
    · have hd1 : decide ((i : Int) < (N : Int)) = true := decide_eq_true (by omega)
      have hmi : N - (intOf (.int .i64 ((i : Int) + 1))).toNat < N - (intOf (.int .i64 (i : Int))).toNat := by simp [intOf]; omega
      have hix : i < xs.length := by rw [HLn.out]; exact hlt
      obtain ⟨g, o, e2, hE⟩ := RS.ever HRx.out (by omega)
      subst e2
      have HCx : Hd (∀ w', Below w1.heap.size w1 w' → w'.cell? ⟨g, o + i, none⟩ = some (.string xs[i])) := ⟨fun w' hb => hE i hix w' hb⟩
      have hst := fun k hk hb ha => HP.out.step (k := k) HIa.out.nod hix (by omega) hk hb ha
      obtain ⟨X, hX⟩ : ∃ X, xs[i] = X := ⟨_, rfl⟩
      rw [hX] at HCx hst
      have HSt := Hd.mk hst
      have hlen : out.length = n := by have := HP.out.len; omega
      have HLo := Hd.mk hlen
      have HSh := Hd.mk (own_shape HA.out)
      have HRo := Hd.mk (rw_strs HA.out)
      have HK0 : Hd (∀ j (hj : j < out.length), j < 0 → ltS out[j] X = true) := ⟨fun j _ h => absurd h (Nat.not_lt_zero _)⟩
      have hBs := HB.out.size
      have Hni := Hd.mk hni
      have hn73 : n ≤ 73 := by omega
      obtain ⟨wb, hwb⟩ : ∃ wb, wr = wb := ⟨_, rfl⟩
      rw [hwb] at HA HB HRo hBs
      have HB2 : Hd (Below wb.heap.size wb wr) := ⟨by rw [hwb]; exact Below.refl _ _⟩
      clear hix hE hst hX hlen hwb hni
      clear HRx
      rcases HSh.out with ⟨rfl, h0, rfl⟩ | ⟨g6, rfl, hnc⟩
      · have gk : decide ((0 : Int) < (n : Int)) = false := decide_eq_false (by omega)
        have nk : ¬ 0 < n := by omega
        have HN0 := Hd.mk h0
        clear HSh h0
        go_wp2
        go_loopw [8] (fun kv wr => kv = .int .i64 0 ∧ Hd (Below wb.heap.size wb wr)) (fun kv _ => 0)
        case atStart => exact ⟨rfl, HB2⟩
        case round =>
          clear HB2
          obtain ⟨rfl, HB2⟩ := hrel
          have HD2 : Hd (Below wb.heap.size wb wr.drew) := ⟨HB2.out.trans ((Bel wr 1).mono HB2.out.size)⟩
          have HD1 : Hd (Below w1.heap.size w1 wr.drew) := ⟨HB.out.trans (HD2.out.mono hBs)⟩
          have hk : 0 ≤ n := Nat.zero_le _
          have HK := HK0
          have HEx : Hd (0 = out.length ∨ ∃ hk : 0 < out.length, ltS out[0] X = false) := ⟨.inl (by rw [HLo.out, HN0.out])⟩
          obtain ⟨ls, hls⟩ : ∃ ls, out.take 0 = ls := ⟨_, rfl⟩
          obtain ⟨rs, hrs⟩ : ∃ rs, out.drop 0 = rs := ⟨_, rfl⟩
          have hll : ls.length = 0 := by rw [← hls, List.length_take, HLo.out]; omega
          have hdl : rs.length = n - 0 := by rw [← hrs, List.length_drop, HLo.out]
          have hp2 := HSt.out 0 (by rw [HLo.out]; exact hk) HK.out HEx.out
          rw [hls, hrs] at hp2
          have HP2 := Hd.mk hp2
          have HLs : Hd (ls.length ≤ 73 ∧ rs.length ≤ 73) := ⟨by omega, by omega⟩
          have HLs2 : Hd (ls.length + rs.length = n) := ⟨by omega⟩
          have hro := HRo.out.below strE_stays HD2.out
          have htk : Rw 1 strE wr.drew (.slice none 0 0) (out.take 0) := hro.take rfl (by rw [HLo.out]; exact hk)
          rw [hls] at htk
          have HTk := Hd.mk htk
          clear hp2 htk HEx HK HSt
          have HDr : Hd (Rw 1 strE wr.drew (.slice none n 0) rs) := ⟨by
            have := HN0.out
            have e : rs = [] := List.eq_nil_of_length_eq_zero (by omega)
            rw [e, this]; exact Rw.nil _⟩
          clear hls hrs hll hdl hro
          go_upto_region 7 with (fail)
          refine wp_region_lin default (fun w' => True) [(0, true), (1, true), (2, true), (3, true), (4, true), (5, true), (6, true), (7, true), (8, true), (9, true), (10, true), (11, true), (12, true), (13, true), (14, true)] (by kernel_rfl) (by kernel_rfl) rfl (by kernel_rfl) (by kernel_rfl) trivial ?_
          simp only [pick, List.getD_cons_zero, List.getD_cons_succ]
          repeat
            first
            | (refine lin_free (v := ?_) (by rfl) ?_ ?_
               rotate_left
               · intro w' hSw
                 have d0 := hSw
                 go_simp
                 first | done | with_reducible rfl
               try simp only [Act.put, List.setIfInBounds_toArray, List.set_cons_zero, List.set_cons_succ])
            | (refine lin_skip (by rfl) ?_
               try simp only [Act.put, List.setIfInBounds_toArray, List.set_cons_zero, List.set_cons_succ])
          refine NoPanic.normal ?_
          clear gk
          have HW' : Hd (∀ w', Below wr.drew.heap.size wr.drew.drew w' → Below w1.heap.size w1 w') := ⟨fun w' hb => (HD1.out.trans ((Bel wr.drew 1).mono HD1.out.size)).trans (hb.mono HD1.out.size)⟩
          go_upto_region 9 with (fail)
          refine wp_region_eachJ default (fun w' => w'.cell? ⟨g, o + i, none⟩ = some (.string X)) (SJ wr.drew.heap.size ls X rs wr.drew.drew) [1, 2, 3, 5, 6, 7, 8, 11, 12, 13] [(0, some 35), (4, some 39), (9, some 44), (10, some 45), (14, some 49), (15, some 6)] (sv6 u35 u39 u44 u45 u49 (.slice none n 0)) (by kernel_rfl) (by kernel_rfl) rfl (by kernel_rfl) (by kernel_rfl) (by kernel_rfl) ?_ (HCx.out _ (HW'.out _ (Below.refl _ _))) (fun _ _ w' hJ => HCx.out _ (HW'.out _ hJ.bel)) ?_
          · exact ⟨Below.refl _ _, fun h => absurd h (by decide), fun h => absurd h (by decide), fun h => absurd h (by decide), fun h => absurd h (by decide), fun h => absurd h (by decide), fun h => absurd h (by decide), fun h => absurd h (by decide), fun h => absurd h (by decide), fun h => absurd h (by decide), fun h => absurd h (by decide)⟩
          simp only [List.map_cons, List.map_nil, List.getD_cons_zero, List.getD_cons_succ]
          repeat
            refine free_step (v := ?_) (by rfl) ?_ ?_
            rotate_left
            · intro w' hSw
              have d0 := hSw
              go_simp
              first | done | with_reducible rfl
            simp only [Act.put, List.setIfInBounds_toArray, List.set_cons_zero, List.set_cons_succ]
          refine ⟨by kernel_rfl, ?_, ?_⟩
          · simp only [StepsJ, List.getD_cons_zero, List.getD_cons_succ]
            refine ⟨?_, ?_, ?_, ?_, ?_, ?_, trivial⟩
            all_goals
              intro done s w2 hJ hd0 hdep K' hK'
              simp only [foldPut, List.foldl_cons, List.foldl_nil, Act.put, List.setIfInBounds_toArray, List.set_cons_zero, List.set_cons_succ] at hK' ⊢
              have HJ := Hd.mk hJ
              have HD0 := Hd.mk hd0
              have HDep := Hd.mk hdep
              have HB2w : Hd (Below wr.drew.heap.size wr.drew w2) := ⟨(Bel wr.drew 1).trans hJ.bel⟩
              clear hJ hd0 hdep
            · go_simp
              exact hK'.out _ _ (HJ.out.step0 HD0.out (Nat.le_refl _))
            · obtain ⟨v', w', h1, h2⟩ := HJ.out.step4 HD0.out (HDep.out 0 (by kernel_rfl)) (Nat.le_refl _) (HTk.out.below strE_stays HB2w.out) (by have := HLs.out.1; omega)
              rw [if_pos (by rfl)]
              refine oper_append (Operand.tmp 35) (Operand.tmp 38) 27 rfl _ _ rfl rfl h1 ?_
              simp only [Act.put, List.setIfInBounds_toArray, List.set_cons_zero, List.set_cons_succ]
              exact hK'.out _ _ h2
            · have h4 := Hd.mk (HJ.out.step9 HD0.out (Nat.le_refl _))
              go_simp
              exact hK'.out _ _ h4.out
            · obtain ⟨v', w', h1, h2⟩ := HJ.out.step10 HD0.out (HDep.out 4 (by kernel_rfl)) (HDep.out 9 (by kernel_rfl)) (Nat.le_refl _) (by have := HLs.out.1; omega)
              rw [if_pos (by rfl)]
              refine oper_append (Operand.tmp 39) (Operand.tmp 44) 27 rfl _ _ rfl rfl h1 ?_
              simp only [Act.put, List.setIfInBounds_toArray, List.set_cons_zero, List.set_cons_succ]
              exact hK'.out _ _ h2
            · obtain ⟨v', w', h1, h2⟩ := HJ.out.step14 HD0.out (HDep.out 10 (by kernel_rfl)) (Nat.le_refl _) (HDr.out.below strE_stays HB2w.out) (by have := HLs.out.1; have := HLs.out.2; omega)
              rw [if_pos (by rfl)]
              refine oper_append (Operand.tmp 45) (Operand.tmp 48) 27 rfl _ _ rfl rfl h1 ?_
              simp only [Act.put, List.setIfInBounds_toArray, List.set_cons_zero, List.set_cons_succ]
              exact hK'.out _ _ h2
            · have h4 := Hd.mk (HJ.out.step15 HD0.out (HDep.out 14 (by kernel_rfl)))
              go_simp
              exact hK'.out _ _ h4.out
          intro s w2 hJ
          simp only [foldPut, List.foldl_cons, List.foldl_nil, Act.put, List.setIfInBounds_toArray, List.set_cons_zero, List.set_cons_succ]
          refine NoPanic.normal ?_
          have ho := own_down (hJ.f rfl) (Nat.le_trans hBs HD2.out.size)
          have hb2 := HW'.out _ hJ.bel
          rw [show ls.length + 1 + rs.length = n + 1 by have := HLs.out.1; have := HLs.out.2; have := HLs2.out; omega] at ho
          generalize s 15 = v15 at ho ⊢
          generalize s 14 = s14
          generalize s 10 = s10
          generalize s 9 = s9
          generalize s 4 = s4
          generalize s 0 = s0
          obtain ⟨p', c', e'⟩ : ∃ p' c', v15 = .slice p' (n + 1) c' := by
            rcases ho.2 with ⟨_, h0⟩ | ⟨g', cap', _, e, _⟩
            · omega
            · exact ⟨_, _, e⟩
          subst e'
          have HA2 := Hd.mk ho
          have HB4 := Hd.mk hb2
          have hin : n + 1 + 1 = i + 1 := by have := Hni.out; omega
          clear hJ ho hb2
          go_wp2
          exact ⟨⟨i + 1, n + 1, p', c', _, hin, hlt, by go_num, rfl, HA2, HP2, HB4⟩, hmi⟩
      · clear HSh
        go_wp2
        go_loopw [8] (fun kv wr => ∃ k : Nat, k ≤ n ∧ kv = .int .i64 (k : Int) ∧ Hd (∀ j (hj : j < out.length), j < k → ltS out[j] X = true) ∧ Hd (Below wb.heap.size wb wr)) (fun kv _ => n - (intOf kv).toNat)
        case atStart => exact ⟨0, Nat.zero_le _, rfl, HK0, HB2⟩
        case round =>
          clear HK0 HB2
          obtain ⟨k, hk, rfl, HK, HB2⟩ := hrel
          have HD2 : Hd (Below wb.heap.size wb wr.drew) := ⟨HB2.out.trans ((Bel wr 1).mono HB2.out.size)⟩
          have HD1 : Hd (Below w1.heap.size w1 wr.drew) := ⟨HB.out.trans (HD2.out.mono hBs)⟩
          by_cases hkt : k < n
          · have hd2 : decide ((k : Int) < (n : Int)) = true := decide_eq_true (by omega)
            have hmk : n - (intOf (.int .i64 ((k : Int) + 1))).toNat < n - (intOf (.int .i64 (k : Int))).toNat := by simp [intOf]; omega
            have hko : k < out.length := by rw [HLo.out]; exact hkt
            obtain ⟨gq, oq, e3, hEq⟩ := RS.ever HRo.out (by omega)
            injection e3 with e3
            injection e3 with e4 e5 _
            subst e4
            subst e5
            have c0 := hEq k hko _ HD2.out
            rw [Nat.zero_add] at c0
            have c1 := HCx.out _ HD1.out
            have hnx := fun h : ltS out[k] X = true => (fun j (hj : j < out.length) (hjk : j < k + 1) => (by
              rcases Nat.lt_or_ge j k with h' | h'
              · exact HK.out j hj h'
              · have : j = k := by omega
                subst this
                exact h : ltS out[j] X = true))
            have hexx := fun h : ltS out[k] X = false => (.inr ⟨hko, h⟩ : k = out.length ∨ ∃ hk : k < out.length, ltS out[k] X = false)
            obtain ⟨Y, hY⟩ : ∃ Y, out[k] = Y := ⟨_, rfl⟩
            rw [hY] at c0 hnx hexx
            have g0 := str_lt Y X
            clear hEq
            rcases hlt2 : ltS Y X with _ | _
            · have HEx := Hd.mk (hexx hlt2)
              rw [hlt2] at g0
              clear hlt2 hnx hexx hY
              go_upto_region 7 with (fail)
              refine wp_region_lin default (fun w' => w'.cell? ⟨g6, k, none⟩ = some (.string Y) ∧ w'.cell? ⟨g, o + i, none⟩ = some (.string X)) [(0, true), (1, true), (2, true), (3, true), (4, true), (5, true), (6, true), (7, true), (8, true), (9, true), (10, true), (11, true), (12, true), (13, true), (14, true)] (by kernel_rfl) (by kernel_rfl) rfl (by kernel_rfl) (by kernel_rfl) ⟨c0, c1⟩ ?_
              simp only [pick, List.getD_cons_zero, List.getD_cons_succ]
              repeat
                first
                | (refine lin_free (v := ?_) (by rfl) ?_ ?_
                   rotate_left
                   · intro w' hSw
                     obtain ⟨d0, d1⟩ := hSw
                     go_simp
                     first | done | with_reducible rfl
                   try simp only [Act.put, List.setIfInBounds_toArray, List.set_cons_zero, List.set_cons_succ])
                | (refine lin_skip (by rfl) ?_
                   try simp only [Act.put, List.setIfInBounds_toArray, List.set_cons_zero, List.set_cons_succ])
              refine NoPanic.normal ?_
              clear g0 c0 c1 hd2
              by_cases hck : c6 = k
              · have e1 : k = n := by omega
                subst e1
                have e2 : k = c6 := hck.symm
                clear hck
                subst e2
                obtain ⟨ls, hls⟩ : ∃ ls, out.take k = ls := ⟨_, rfl⟩
                obtain ⟨rs, hrs⟩ : ∃ rs, out.drop k = rs := ⟨_, rfl⟩
                have hll : ls.length = k := by rw [← hls, List.length_take, HLo.out]; omega
                have hdl : rs.length = k - k := by rw [← hrs, List.length_drop, HLo.out]
                have hp2 := HSt.out k (by rw [HLo.out]; exact hk) HK.out HEx.out
                rw [hls, hrs] at hp2
                have HP2 := Hd.mk hp2
                have HLs : Hd (ls.length ≤ 73 ∧ rs.length ≤ 73) := ⟨by omega, by omega⟩
                have HLs2 : Hd (ls.length + rs.length = k) := ⟨by omega⟩
                have hro := HRo.out.below strE_stays HD2.out
                have htk : Rw 1 strE wr.drew (.slice (some ⟨g6, 0, none⟩) k k) (out.take k) := hro.take rfl (by rw [HLo.out]; exact hk)
                rw [hls] at htk
                have HTk := Hd.mk htk
                clear hp2 htk HEx HK HSt
                have HDr : Hd (Rw 1 strE wr.drew (.slice (some ⟨g6, 0, none⟩) 0 0) rs) := ⟨by
                  have e : rs = [] := List.eq_nil_of_length_eq_zero (by omega)
                  rw [e]; exact ⟨.inl ⟨rfl, .inr ⟨_, _, rfl⟩⟩⟩⟩
                clear hls hrs hll hdl hro
                have HW' : Hd (∀ w', Below wr.drew.heap.size wr.drew.drew w' → Below w1.heap.size w1 w') := ⟨fun w' hb => (HD1.out.trans ((Bel wr.drew 1).mono HD1.out.size)).trans (hb.mono HD1.out.size)⟩
                go_upto_region 9 with (fail)
                refine wp_region_eachJ default (fun w' => w'.cell? ⟨g, o + i, none⟩ = some (.string X)) (SJ wr.drew.heap.size ls X rs wr.drew.drew) [1, 2, 3, 5, 6, 7, 8, 11, 12, 13] [(0, some 35), (4, some 39), (9, some 44), (10, some 45), (14, some 49), (15, some 6)] (sv6 u35 u39 u44 u45 u49 (.slice (some ⟨g6, 0, none⟩) k k)) (by kernel_rfl) (by kernel_rfl) rfl (by kernel_rfl) (by kernel_rfl) (by kernel_rfl) ?_ (HCx.out _ (HW'.out _ (Below.refl _ _))) (fun _ _ w' hJ => HCx.out _ (HW'.out _ hJ.bel)) ?_
                · exact ⟨Below.refl _ _, fun h => absurd h (by decide), fun h => absurd h (by decide), fun h => absurd h (by decide), fun h => absurd h (by decide), fun h => absurd h (by decide), fun h => absurd h (by decide), fun h => absurd h (by decide), fun h => absurd h (by decide), fun h => absurd h (by decide), fun h => absurd h (by decide)⟩
                simp only [List.map_cons, List.map_nil, List.getD_cons_zero, List.getD_cons_succ]
                repeat
                  refine free_step (v := ?_) (by rfl) ?_ ?_
                  rotate_left
                  · intro w' hSw
                    have d0 := hSw
                    go_simp
                    first | done | with_reducible rfl
                  simp only [Act.put, List.setIfInBounds_toArray, List.set_cons_zero, List.set_cons_succ]
                refine ⟨by kernel_rfl, ?_, ?_⟩
                · simp only [StepsJ, List.getD_cons_zero, List.getD_cons_succ]
                  refine ⟨?_, ?_, ?_, ?_, ?_, ?_, trivial⟩
                  all_goals
                    intro done s w2 hJ hd0 hdep K' hK'
                    simp only [foldPut, List.foldl_cons, List.foldl_nil, Act.put, List.setIfInBounds_toArray, List.set_cons_zero, List.set_cons_succ] at hK' ⊢
                    have HJ := Hd.mk hJ
                    have HD0 := Hd.mk hd0
                    have HDep := Hd.mk hdep
                    have HB2w : Hd (Below wr.drew.heap.size wr.drew w2) := ⟨(Bel wr.drew 1).trans hJ.bel⟩
                    clear hJ hd0 hdep
                  · go_simp
                    exact hK'.out _ _ (HJ.out.step0 HD0.out (Nat.le_refl _))
                  · obtain ⟨v', w', h1, h2⟩ := HJ.out.step4 HD0.out (HDep.out 0 (by kernel_rfl)) (Nat.le_refl _) (HTk.out.below strE_stays HB2w.out) (by have := HLs.out.1; omega)
                    rw [if_pos (by rfl)]
                    refine oper_append (Operand.tmp 35) (Operand.tmp 38) 27 rfl _ _ rfl rfl h1 ?_
                    simp only [Act.put, List.setIfInBounds_toArray, List.set_cons_zero, List.set_cons_succ]
                    exact hK'.out _ _ h2
                  · have h4 := Hd.mk (HJ.out.step9 HD0.out (Nat.le_refl _))
                    go_simp
                    exact hK'.out _ _ h4.out
                  · obtain ⟨v', w', h1, h2⟩ := HJ.out.step10 HD0.out (HDep.out 4 (by kernel_rfl)) (HDep.out 9 (by kernel_rfl)) (Nat.le_refl _) (by have := HLs.out.1; omega)
                    rw [if_pos (by rfl)]
                    refine oper_append (Operand.tmp 39) (Operand.tmp 44) 27 rfl _ _ rfl rfl h1 ?_
                    simp only [Act.put, List.setIfInBounds_toArray, List.set_cons_zero, List.set_cons_succ]
                    exact hK'.out _ _ h2
                  · obtain ⟨v', w', h1, h2⟩ := HJ.out.step14 HD0.out (HDep.out 10 (by kernel_rfl)) (Nat.le_refl _) (HDr.out.below strE_stays HB2w.out) (by have := HLs.out.1; have := HLs.out.2; omega)
                    rw [if_pos (by rfl)]
                    refine oper_append (Operand.tmp 45) (Operand.tmp 48) 27 rfl _ _ rfl rfl h1 ?_
                    simp only [Act.put, List.setIfInBounds_toArray, List.set_cons_zero, List.set_cons_succ]
                    exact hK'.out _ _ h2
                  · have h4 := Hd.mk (HJ.out.step15 HD0.out (HDep.out 14 (by kernel_rfl)))
                    go_simp
                    exact hK'.out _ _ h4.out
                intro s w2 hJ
                simp only [foldPut, List.foldl_cons, List.foldl_nil, Act.put, List.setIfInBounds_toArray, List.set_cons_zero, List.set_cons_succ]
                refine NoPanic.normal ?_
                have ho := own_down (hJ.f rfl) (Nat.le_trans hBs HD2.out.size)
                have hb2 := HW'.out _ hJ.bel
                rw [show ls.length + 1 + rs.length = k + 1 by have := HLs.out.1; have := HLs.out.2; have := HLs2.out; omega] at ho
                generalize s 15 = v15 at ho ⊢
                generalize s 14 = s14
                generalize s 10 = s10
                generalize s 9 = s9
                generalize s 4 = s4
                generalize s 0 = s0
                obtain ⟨p', c', e'⟩ : ∃ p' c', v15 = .slice p' (k + 1) c' := by
                  rcases ho.2 with ⟨_, h0⟩ | ⟨g', cap', _, e, _⟩
                  · omega
                  · exact ⟨_, _, e⟩
                subst e'
                have HA2 := Hd.mk ho
                have HB4 := Hd.mk hb2
                have hin : k + 1 + 1 = i + 1 := by have := Hni.out; omega
                clear hJ ho hb2
                go_wp2
                exact ⟨⟨i + 1, k + 1, p', c', _, hin, hlt, by go_num, rfl, HA2, HP2, HB4⟩, hmi⟩
              · have b1 : (k : Int) ≤ (n : Int) := by omega
                have b2 : (k : Int) ≤ (c6 : Int) := by omega
                have b3 : k ≤ c6 := by omega
                have hdr := rw_drop (HRo.out.below strE_stays HD2.out) HLo.out hk (by omega)
                obtain ⟨ls, hls⟩ : ∃ ls, out.take k = ls := ⟨_, rfl⟩
                obtain ⟨rs, hrs⟩ : ∃ rs, out.drop k = rs := ⟨_, rfl⟩
                have hll : ls.length = k := by rw [← hls, List.length_take, HLo.out]; omega
                have hdl : rs.length = n - k := by rw [← hrs, List.length_drop, HLo.out]
                have hp2 := HSt.out k (by rw [HLo.out]; exact hk) HK.out HEx.out
                rw [hls, hrs] at hp2
                have HP2 := Hd.mk hp2
                have HLs : Hd (ls.length ≤ 73 ∧ rs.length ≤ 73) := ⟨by omega, by omega⟩
                have HLs2 : Hd (ls.length + rs.length = n) := ⟨by omega⟩
                have hro := HRo.out.below strE_stays HD2.out
                have htk : Rw 1 strE wr.drew (.slice (some ⟨g6, 0, none⟩) k c6) (out.take k) := hro.take rfl (by rw [HLo.out]; exact hk)
                rw [hls] at htk
                have HTk := Hd.mk htk
                clear hp2 htk HEx HK HSt
                rw [hrs] at hdr
                have HDr := Hd.mk hdr
                clear hls hrs hll hdl hro hdr
                have HW' : Hd (∀ w', Below wr.drew.heap.size wr.drew.drew w' → Below w1.heap.size w1 w') := ⟨fun w' hb => (HD1.out.trans ((Bel wr.drew 1).mono HD1.out.size)).trans (hb.mono HD1.out.size)⟩
                go_upto_region 9 with (fail)
                refine wp_region_eachJ default (fun w' => w'.cell? ⟨g, o + i, none⟩ = some (.string X)) (SJ wr.drew.heap.size ls X rs wr.drew.drew) [1, 2, 3, 5, 6, 7, 8, 11, 12, 13] [(0, some 35), (4, some 39), (9, some 44), (10, some 45), (14, some 49), (15, some 6)] (sv6 u35 u39 u44 u45 u49 (.slice (some ⟨g6, 0, none⟩) n c6)) (by kernel_rfl) (by kernel_rfl) rfl (by kernel_rfl) (by kernel_rfl) (by kernel_rfl) ?_ (HCx.out _ (HW'.out _ (Below.refl _ _))) (fun _ _ w' hJ => HCx.out _ (HW'.out _ hJ.bel)) ?_
                · exact ⟨Below.refl _ _, fun h => absurd h (by decide), fun h => absurd h (by decide), fun h => absurd h (by decide), fun h => absurd h (by decide), fun h => absurd h (by decide), fun h => absurd h (by decide), fun h => absurd h (by decide), fun h => absurd h (by decide), fun h => absurd h (by decide), fun h => absurd h (by decide)⟩
                simp only [List.map_cons, List.map_nil, List.getD_cons_zero, List.getD_cons_succ]
                repeat
                  refine free_step (v := ?_) (by rfl) ?_ ?_
                  rotate_left
                  · intro w' hSw
                    have d0 := hSw
                    go_simp
                    first | done | with_reducible rfl
                  simp only [Act.put, List.setIfInBounds_toArray, List.set_cons_zero, List.set_cons_succ]
                refine ⟨by kernel_rfl, ?_, ?_⟩
                · simp only [StepsJ, List.getD_cons_zero, List.getD_cons_succ]
                  refine ⟨?_, ?_, ?_, ?_, ?_, ?_, trivial⟩
                  all_goals
                    intro done s w2 hJ hd0 hdep K' hK'
                    simp only [foldPut, List.foldl_cons, List.foldl_nil, Act.put, List.setIfInBounds_toArray, List.set_cons_zero, List.set_cons_succ] at hK' ⊢
                    have HJ := Hd.mk hJ
                    have HD0 := Hd.mk hd0
                    have HDep := Hd.mk hdep
                    have HB2w : Hd (Below wr.drew.heap.size wr.drew w2) := ⟨(Bel wr.drew 1).trans hJ.bel⟩
                    clear hJ hd0 hdep
                  · go_simp
                    exact hK'.out _ _ (HJ.out.step0 HD0.out (Nat.le_refl _))
                  · obtain ⟨v', w', h1, h2⟩ := HJ.out.step4 HD0.out (HDep.out 0 (by kernel_rfl)) (Nat.le_refl _) (HTk.out.below strE_stays HB2w.out) (by have := HLs.out.1; omega)
                    rw [if_pos (by rfl)]
                    refine oper_append (Operand.tmp 35) (Operand.tmp 38) 27 rfl _ _ rfl rfl h1 ?_
                    simp only [Act.put, List.setIfInBounds_toArray, List.set_cons_zero, List.set_cons_succ]
                    exact hK'.out _ _ h2
                  · have h4 := Hd.mk (HJ.out.step9 HD0.out (Nat.le_refl _))
                    go_simp
                    exact hK'.out _ _ h4.out
                  · obtain ⟨v', w', h1, h2⟩ := HJ.out.step10 HD0.out (HDep.out 4 (by kernel_rfl)) (HDep.out 9 (by kernel_rfl)) (Nat.le_refl _) (by have := HLs.out.1; omega)
                    rw [if_pos (by rfl)]
                    refine oper_append (Operand.tmp 39) (Operand.tmp 44) 27 rfl _ _ rfl rfl h1 ?_
                    simp only [Act.put, List.setIfInBounds_toArray, List.set_cons_zero, List.set_cons_succ]
                    exact hK'.out _ _ h2
                  · obtain ⟨v', w', h1, h2⟩ := HJ.out.step14 HD0.out (HDep.out 10 (by kernel_rfl)) (Nat.le_refl _) (HDr.out.below strE_stays HB2w.out) (by have := HLs.out.1; have := HLs.out.2; omega)
                    rw [if_pos (by rfl)]
                    refine oper_append (Operand.tmp 45) (Operand.tmp 48) 27 rfl _ _ rfl rfl h1 ?_
                    simp only [Act.put, List.setIfInBounds_toArray, List.set_cons_zero, List.set_cons_succ]
                    exact hK'.out _ _ h2
                  · have h4 := Hd.mk (HJ.out.step15 HD0.out (HDep.out 14 (by kernel_rfl)))
                    go_simp
                    exact hK'.out _ _ h4.out
                intro s w2 hJ
                simp only [foldPut, List.foldl_cons, List.foldl_nil, Act.put, List.setIfInBounds_toArray, List.set_cons_zero, List.set_cons_succ]
                refine NoPanic.normal ?_
                have ho := own_down (hJ.f rfl) (Nat.le_trans hBs HD2.out.size)
                have hb2 := HW'.out _ hJ.bel
                rw [show ls.length + 1 + rs.length = n + 1 by have := HLs.out.1; have := HLs.out.2; have := HLs2.out; omega] at ho
                generalize s 15 = v15 at ho ⊢
                generalize s 14 = s14
                generalize s 10 = s10
                generalize s 9 = s9
                generalize s 4 = s4
                generalize s 0 = s0
                obtain ⟨p', c', e'⟩ : ∃ p' c', v15 = .slice p' (n + 1) c' := by
                  rcases ho.2 with ⟨_, h0⟩ | ⟨g', cap', _, e, _⟩
                  · omega
                  · exact ⟨_, _, e⟩
                subst e'
                have HA2 := Hd.mk ho
                have HB4 := Hd.mk hb2
                have hin : n + 1 + 1 = i + 1 := by have := Hni.out; omega
                clear hJ ho hb2
                go_wp2
                exact ⟨⟨i + 1, n + 1, p', c', _, hin, hlt, by go_num, rfl, HA2, HP2, HB4⟩, hmi⟩
            · have HK2 : Hd (∀ j (hj : j < out.length), j < k + 1 → ltS out[j] X = true) := ⟨hnx hlt2⟩
              rw [hlt2] at g0
              clear hlt2 hnx hexx hY
              go_upto_region 7 with (fail)
              refine wp_region_lin default (fun w' => w'.cell? ⟨g6, k, none⟩ = some (.string Y) ∧ w'.cell? ⟨g, o + i, none⟩ = some (.string X)) [(0, true), (1, true), (2, true), (3, true), (4, true), (5, true), (6, true), (7, true), (8, true), (9, true), (10, true), (11, true), (12, true), (13, true), (14, true)] (by kernel_rfl) (by kernel_rfl) rfl (by kernel_rfl) (by kernel_rfl) ⟨c0, c1⟩ ?_
              simp only [pick, List.getD_cons_zero, List.getD_cons_succ]
              repeat
                first
                | (refine lin_free (v := ?_) (by rfl) ?_ ?_
                   rotate_left
                   · intro w' hSw
                     obtain ⟨d0, d1⟩ := hSw
                     go_simp
                     first | done | with_reducible rfl
                   try simp only [Act.put, List.setIfInBounds_toArray, List.set_cons_zero, List.set_cons_succ])
                | (refine lin_skip (by rfl) ?_
                   try simp only [Act.put, List.setIfInBounds_toArray, List.set_cons_zero, List.set_cons_succ])
              refine NoPanic.normal ?_
              clear g0 c0 c1
              go_wp2
              exact ⟨⟨k + 1, hkt, by go_num, HK2, HD2⟩, hmk⟩
          · have hd2 : decide ((k : Int) < (n : Int)) = false := decide_eq_false (by omega)
            have HEx : Hd (k = out.length ∨ ∃ hk : k < out.length, ltS out[k] X = false) := ⟨.inl (by rw [HLo.out]; omega)⟩
            go_upto_region 7 with (fail)
            refine wp_region_lin default (fun w' => True) [(0, true), (1, true), (2, true), (3, true), (4, true), (5, true), (6, true), (7, true), (8, true), (9, true), (10, true), (11, true), (12, true), (13, true), (14, true)] (by kernel_rfl) (by kernel_rfl) rfl (by kernel_rfl) (by kernel_rfl) trivial ?_
            simp only [pick, List.getD_cons_zero, List.getD_cons_succ]
            repeat
              first
              | (refine lin_free (v := ?_) (by rfl) ?_ ?_
                 rotate_left
                 · intro w' hSw
                   have d0 := hSw
                   go_simp
                   first | done | with_reducible rfl
                 try simp only [Act.put, List.setIfInBounds_toArray, List.set_cons_zero, List.set_cons_succ])
              | (refine lin_skip (by rfl) ?_
                 try simp only [Act.put, List.setIfInBounds_toArray, List.set_cons_zero, List.set_cons_succ])
            refine NoPanic.normal ?_
            clear hd2
            by_cases hck : c6 = k
            · have e1 : k = n := by omega
              subst e1
              have e2 : k = c6 := hck.symm
              clear hck
              subst e2
              obtain ⟨ls, hls⟩ : ∃ ls, out.take k = ls := ⟨_, rfl⟩
              obtain ⟨rs, hrs⟩ : ∃ rs, out.drop k = rs := ⟨_, rfl⟩
              have hll : ls.length = k := by rw [← hls, List.length_take, HLo.out]; omega
              have hdl : rs.length = k - k := by rw [← hrs, List.length_drop, HLo.out]
              have hp2 := HSt.out k (by rw [HLo.out]; exact hk) HK.out HEx.out
              rw [hls, hrs] at hp2
              have HP2 := Hd.mk hp2
              have HLs : Hd (ls.length ≤ 73 ∧ rs.length ≤ 73) := ⟨by omega, by omega⟩
              have HLs2 : Hd (ls.length + rs.length = k) := ⟨by omega⟩
              have hro := HRo.out.below strE_stays HD2.out
              have htk : Rw 1 strE wr.drew (.slice (some ⟨g6, 0, none⟩) k k) (out.take k) := hro.take rfl (by rw [HLo.out]; exact hk)
              rw [hls] at htk
              have HTk := Hd.mk htk
              clear hp2 htk HEx HK HSt
              have HDr : Hd (Rw 1 strE wr.drew (.slice (some ⟨g6, 0, none⟩) 0 0) rs) := ⟨by
                have e : rs = [] := List.eq_nil_of_length_eq_zero (by omega)
                rw [e]; exact ⟨.inl ⟨rfl, .inr ⟨_, _, rfl⟩⟩⟩⟩
              clear hls hrs hll hdl hro
              have HW' : Hd (∀ w', Below wr.drew.heap.size wr.drew.drew w' → Below w1.heap.size w1 w') := ⟨fun w' hb => (HD1.out.trans ((Bel wr.drew 1).mono HD1.out.size)).trans (hb.mono HD1.out.size)⟩
              go_upto_region 9 with (fail)
              refine wp_region_eachJ default (fun w' => w'.cell? ⟨g, o + i, none⟩ = some (.string X)) (SJ wr.drew.heap.size ls X rs wr.drew.drew) [1, 2, 3, 5, 6, 7, 8, 11, 12, 13] [(0, some 35), (4, some 39), (9, some 44), (10, some 45), (14, some 49), (15, some 6)] (sv6 u35 u39 u44 u45 u49 (.slice (some ⟨g6, 0, none⟩) k k)) (by kernel_rfl) (by kernel_rfl) rfl (by kernel_rfl) (by kernel_rfl) (by kernel_rfl) ?_ (HCx.out _ (HW'.out _ (Below.refl _ _))) (fun _ _ w' hJ => HCx.out _ (HW'.out _ hJ.bel)) ?_
              · exact ⟨Below.refl _ _, fun h => absurd h (by decide), fun h => absurd h (by decide), fun h => absurd h (by decide), fun h => absurd h (by decide), fun h => absurd h (by decide), fun h => absurd h (by decide), fun h => absurd h (by decide), fun h => absurd h (by decide), fun h => absurd h (by decide), fun h => absurd h (by decide)⟩
              simp only [List.map_cons, List.map_nil, List.getD_cons_zero, List.getD_cons_succ]
              repeat
                refine free_step (v := ?_) (by rfl) ?_ ?_
                rotate_left
                · intro w' hSw
                  have d0 := hSw
                  go_simp
                  first | done | with_reducible rfl
                simp only [Act.put, List.setIfInBounds_toArray, List.set_cons_zero, List.set_cons_succ]
              refine ⟨by kernel_rfl, ?_, ?_⟩
              · simp only [StepsJ, List.getD_cons_zero, List.getD_cons_succ]
                refine ⟨?_, ?_, ?_, ?_, ?_, ?_, trivial⟩
                all_goals
                  intro done s w2 hJ hd0 hdep K' hK'
                  simp only [foldPut, List.foldl_cons, List.foldl_nil, Act.put, List.setIfInBounds_toArray, List.set_cons_zero, List.set_cons_succ] at hK' ⊢
                  have HJ := Hd.mk hJ
                  have HD0 := Hd.mk hd0
                  have HDep := Hd.mk hdep
                  have HB2w : Hd (Below wr.drew.heap.size wr.drew w2) := ⟨(Bel wr.drew 1).trans hJ.bel⟩
                  clear hJ hd0 hdep
                · go_simp
                  exact hK'.out _ _ (HJ.out.step0 HD0.out (Nat.le_refl _))
                · obtain ⟨v', w', h1, h2⟩ := HJ.out.step4 HD0.out (HDep.out 0 (by kernel_rfl)) (Nat.le_refl _) (HTk.out.below strE_stays HB2w.out) (by have := HLs.out.1; omega)
                  rw [if_pos (by rfl)]
                  refine oper_append (Operand.tmp 35) (Operand.tmp 38) 27 rfl _ _ rfl rfl h1 ?_
                  simp only [Act.put, List.setIfInBounds_toArray, List.set_cons_zero, List.set_cons_succ]
                  exact hK'.out _ _ h2
                · have h4 := Hd.mk (HJ.out.step9 HD0.out (Nat.le_refl _))
                  go_simp
                  exact hK'.out _ _ h4.out
                · obtain ⟨v', w', h1, h2⟩ := HJ.out.step10 HD0.out (HDep.out 4 (by kernel_rfl)) (HDep.out 9 (by kernel_rfl)) (Nat.le_refl _) (by have := HLs.out.1; omega)
                  rw [if_pos (by rfl)]
                  refine oper_append (Operand.tmp 39) (Operand.tmp 44) 27 rfl _ _ rfl rfl h1 ?_
                  simp only [Act.put, List.setIfInBounds_toArray, List.set_cons_zero, List.set_cons_succ]
                  exact hK'.out _ _ h2
                · obtain ⟨v', w', h1, h2⟩ := HJ.out.step14 HD0.out (HDep.out 10 (by kernel_rfl)) (Nat.le_refl _) (HDr.out.below strE_stays HB2w.out) (by have := HLs.out.1; have := HLs.out.2; omega)
                  rw [if_pos (by rfl)]
                  refine oper_append (Operand.tmp 45) (Operand.tmp 48) 27 rfl _ _ rfl rfl h1 ?_
                  simp only [Act.put, List.setIfInBounds_toArray, List.set_cons_zero, List.set_cons_succ]
                  exact hK'.out _ _ h2
                · have h4 := Hd.mk (HJ.out.step15 HD0.out (HDep.out 14 (by kernel_rfl)))
                  go_simp
                  exact hK'.out _ _ h4.out
              intro s w2 hJ
              simp only [foldPut, List.foldl_cons, List.foldl_nil, Act.put, List.setIfInBounds_toArray, List.set_cons_zero, List.set_cons_succ]
              refine NoPanic.normal ?_
              have ho := own_down (hJ.f rfl) (Nat.le_trans hBs HD2.out.size)
              have hb2 := HW'.out _ hJ.bel
              rw [show ls.length + 1 + rs.length = k + 1 by have := HLs.out.1; have := HLs.out.2; have := HLs2.out; omega] at ho
              generalize s 15 = v15 at ho ⊢
              generalize s 14 = s14
              generalize s 10 = s10
              generalize s 9 = s9
              generalize s 4 = s4
              generalize s 0 = s0
              obtain ⟨p', c', e'⟩ : ∃ p' c', v15 = .slice p' (k + 1) c' := by
                rcases ho.2 with ⟨_, h0⟩ | ⟨g', cap', _, e, _⟩
                · omega
                · exact ⟨_, _, e⟩
              subst e'
              have HA2 := Hd.mk ho
              have HB4 := Hd.mk hb2
              have hin : k + 1 + 1 = i + 1 := by have := Hni.out; omega
              clear hJ ho hb2
              go_wp2
              exact ⟨⟨i + 1, k + 1, p', c', _, hin, hlt, by go_num, rfl, HA2, HP2, HB4⟩, hmi⟩
            · have b1 : (k : Int) ≤ (n : Int) := by omega
              have b2 : (k : Int) ≤ (c6 : Int) := by omega
              have b3 : k ≤ c6 := by omega
              have hdr := rw_drop (HRo.out.below strE_stays HD2.out) HLo.out hk (by omega)
              obtain ⟨ls, hls⟩ : ∃ ls, out.take k = ls := ⟨_, rfl⟩
              obtain ⟨rs, hrs⟩ : ∃ rs, out.drop k = rs := ⟨_, rfl⟩
              have hll : ls.length = k := by rw [← hls, List.length_take, HLo.out]; omega
              have hdl : rs.length = n - k := by rw [← hrs, List.length_drop, HLo.out]
              have hp2 := HSt.out k (by rw [HLo.out]; exact hk) HK.out HEx.out
              rw [hls, hrs] at hp2
              have HP2 := Hd.mk hp2
              have HLs : Hd (ls.length ≤ 73 ∧ rs.length ≤ 73) := ⟨by omega, by omega⟩
              have HLs2 : Hd (ls.length + rs.length = n) := ⟨by omega⟩
              have hro := HRo.out.below strE_stays HD2.out
              have htk : Rw 1 strE wr.drew (.slice (some ⟨g6, 0, none⟩) k c6) (out.take k) := hro.take rfl (by rw [HLo.out]; exact hk)
              rw [hls] at htk
              have HTk := Hd.mk htk
              clear hp2 htk HEx HK HSt
              rw [hrs] at hdr
              have HDr := Hd.mk hdr
              clear hls hrs hll hdl hro hdr
              have HW' : Hd (∀ w', Below wr.drew.heap.size wr.drew.drew w' → Below w1.heap.size w1 w') := ⟨fun w' hb => (HD1.out.trans ((Bel wr.drew 1).mono HD1.out.size)).trans (hb.mono HD1.out.size)⟩
              go_upto_region 9 with (fail)
              refine wp_region_eachJ default (fun w' => w'.cell? ⟨g, o + i, none⟩ = some (.string X)) (SJ wr.drew.heap.size ls X rs wr.drew.drew) [1, 2, 3, 5, 6, 7, 8, 11, 12, 13] [(0, some 35), (4, some 39), (9, some 44), (10, some 45), (14, some 49), (15, some 6)] (sv6 u35 u39 u44 u45 u49 (.slice (some ⟨g6, 0, none⟩) n c6)) (by kernel_rfl) (by kernel_rfl) rfl (by kernel_rfl) (by kernel_rfl) (by kernel_rfl) ?_ (HCx.out _ (HW'.out _ (Below.refl _ _))) (fun _ _ w' hJ => HCx.out _ (HW'.out _ hJ.bel)) ?_
              · exact ⟨Below.refl _ _, fun h => absurd h (by decide), fun h => absurd h (by decide), fun h => absurd h (by decide), fun h => absurd h (by decide), fun h => absurd h (by decide), fun h => absurd h (by decide), fun h => absurd h (by decide), fun h => absurd h (by decide), fun h => absurd h (by decide), fun h => absurd h (by decide)⟩
              simp only [List.map_cons, List.map_nil, List.getD_cons_zero, List.getD_cons_succ]
              repeat
                refine free_step (v := ?_) (by rfl) ?_ ?_
                rotate_left
                · intro w' hSw
                  have d0 := hSw
                  go_simp
                  first | done | with_reducible rfl
                simp only [Act.put, List.setIfInBounds_toArray, List.set_cons_zero, List.set_cons_succ]
              refine ⟨by kernel_rfl, ?_, ?_⟩
              · simp only [StepsJ, List.getD_cons_zero, List.getD_cons_succ]
                refine ⟨?_, ?_, ?_, ?_, ?_, ?_, trivial⟩
                all_goals
                  intro done s w2 hJ hd0 hdep K' hK'
                  simp only [foldPut, List.foldl_cons, List.foldl_nil, Act.put, List.setIfInBounds_toArray, List.set_cons_zero, List.set_cons_succ] at hK' ⊢
                  have HJ := Hd.mk hJ
                  have HD0 := Hd.mk hd0
                  have HDep := Hd.mk hdep
                  have HB2w : Hd (Below wr.drew.heap.size wr.drew w2) := ⟨(Bel wr.drew 1).trans hJ.bel⟩
                  clear hJ hd0 hdep
                · go_simp
                  exact hK'.out _ _ (HJ.out.step0 HD0.out (Nat.le_refl _))
                · obtain ⟨v', w', h1, h2⟩ := HJ.out.step4 HD0.out (HDep.out 0 (by kernel_rfl)) (Nat.le_refl _) (HTk.out.below strE_stays HB2w.out) (by have := HLs.out.1; omega)
                  rw [if_pos (by rfl)]
                  refine oper_append (Operand.tmp 35) (Operand.tmp 38) 27 rfl _ _ rfl rfl h1 ?_
                  simp only [Act.put, List.setIfInBounds_toArray, List.set_cons_zero, List.set_cons_succ]
                  exact hK'.out _ _ h2
                · have h4 := Hd.mk (HJ.out.step9 HD0.out (Nat.le_refl _))
                  go_simp
                  exact hK'.out _ _ h4.out
                · obtain ⟨v', w', h1, h2⟩ := HJ.out.step10 HD0.out (HDep.out 4 (by kernel_rfl)) (HDep.out 9 (by kernel_rfl)) (Nat.le_refl _) (by have := HLs.out.1; omega)
                  rw [if_pos (by rfl)]
                  refine oper_append (Operand.tmp 39) (Operand.tmp 44) 27 rfl _ _ rfl rfl h1 ?_
                  simp only [Act.put, List.setIfInBounds_toArray, List.set_cons_zero, List.set_cons_succ]
                  exact hK'.out _ _ h2
                · obtain ⟨v', w', h1, h2⟩ := HJ.out.step14 HD0.out (HDep.out 10 (by kernel_rfl)) (Nat.le_refl _) (HDr.out.below strE_stays HB2w.out) (by have := HLs.out.1; have := HLs.out.2; omega)
                  rw [if_pos (by rfl)]
                  refine oper_append (Operand.tmp 45) (Operand.tmp 48) 27 rfl _ _ rfl rfl h1 ?_
                  simp only [Act.put, List.setIfInBounds_toArray, List.set_cons_zero, List.set_cons_succ]
                  exact hK'.out _ _ h2
                · have h4 := Hd.mk (HJ.out.step15 HD0.out (HDep.out 14 (by kernel_rfl)))
                  go_simp
                  exact hK'.out _ _ h4.out
              intro s w2 hJ
              simp only [foldPut, List.foldl_cons, List.foldl_nil, Act.put, List.setIfInBounds_toArray, List.set_cons_zero, List.set_cons_succ]
              refine NoPanic.normal ?_
              have ho := own_down (hJ.f rfl) (Nat.le_trans hBs HD2.out.size)
              have hb2 := HW'.out _ hJ.bel
              rw [show ls.length + 1 + rs.length = n + 1 by have := HLs.out.1; have := HLs.out.2; have := HLs2.out; omega] at ho
              generalize s 15 = v15 at ho ⊢
              generalize s 14 = s14
              generalize s 10 = s10
              generalize s 9 = s9
              generalize s 4 = s4
              generalize s 0 = s0
              obtain ⟨p', c', e'⟩ : ∃ p' c', v15 = .slice p' (n + 1) c' := by
                rcases ho.2 with ⟨_, h0⟩ | ⟨g', cap', _, e, _⟩
                · omega
                · exact ⟨_, _, e⟩
              subst e'
              have HA2 := Hd.mk ho
              have HB4 := Hd.mk hb2
              have hin : n + 1 + 1 = i + 1 := by have := Hni.out; omega
              clear hJ ho hb2
              go_wp2
              exact ⟨⟨i + 1, n + 1, p', c', _, hin, hlt, by go_num, rfl, HA2, HP2, HB4⟩, hmi⟩
    · have hd1 : decide ((i : Int) < (N : Int)) = false := decide_eq_false (by omega)
      have HLe := Hd.mk (HP.out.line HIa.out (by rw [HLn.out]; omega))
      have hlen : out.length = n := by have := HP.out.len; omega
      have hn73 : n ≤ 100 := by
        have := HIa.out.nod
        have h2 : xs.length = N := HLn.out
        omega
      have hw1 : w1.heap.size ≤ wr.heap.size := HB.out.size
      have hlit : (wr.alloc (.cells #[.string t] 9)).ownsRow w.heap.size 9 1 (.slice (some ⟨wr.heap.size, 0, none⟩) 1 1) 1 (strs [t]) := World.ownsRow_lit wr #[.string t] 1 (Nat.le_trans HB1.out.size hw1) (by unfold maxLen; omega) rfl
      have hrw := (rw_strs HA.out).below strE_stays (below_alloc wr (.cells #[.string t] 9))
      obtain ⟨v', w6, hrun, hown, hbel, _⟩ := str_app hlit hrw (by omega) (by have := HB1.out.size; simp; omega)
      rw [hlen] at hown
      have HRun := Hd.mk hrun
      have HO6 := Hd.mk hown
      have HB6 : Hd (Below w.heap.size w w6) := ⟨((HB1.out.trans (HB.out.mono HB1.out.size)).trans ((below_alloc wr (.cells #[.string t] 9)).mono (Nat.le_trans HB1.out.size hw1))).trans hbel⟩
      clear hw1 hlit hrw hrun hown hbel hlen
      go_wp2_with (at_builtin; refine wp_append_run (vs := .slice (some ⟨wr.heap.size, 0, none⟩) 1 1) (vx := .slice p6 n c6) (W := wr.alloc (.cells #[.string t] 9)) rfl (Operand.tmp 51) (Operand.tmp 52) 27 rfl rfl rfl HRun.out ?_)
      go_wp2_with fail
      go_ret
      exact ⟨v', 1 + n, _, rfl, HO6.out, by omega, HLe.out, HB6.out⟩

end Go.Proofs.Ytmgkoocpnakanaa.W

