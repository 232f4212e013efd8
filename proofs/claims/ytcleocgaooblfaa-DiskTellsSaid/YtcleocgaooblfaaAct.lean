/-
  Operations as data: the walks of pick and few.
-/
import Derived.Test.YtcleocgaooblfaaTwo
import Derived.Test.YtcleocgaooblfaaArgE
import Derived.BigQuiet
import Derived.Deep.QuietTactic
namespace Go.Proofs.Ytcleocgaooblfaa.W
open Go.RowKit
set_option linter.unusedVariables false

structure Ac where
  d : Int
  f : Int
  g : Int
  n : Int
  s : ByteArray
  k : List Int

def acCells (a : Ac) (kv : Value) : List Value := [.int .i64 a.d, .int .i64 a.f, .int .i64 a.g, .int .i64 a.n, .string a.s, kv]

def i64R (x : Int) : Prop := -9223372036854775808 ≤ x ∧ x ≤ 9223372036854775807

/-- an operation's numbers fit -/
structure AcOk (a : Ac) : Prop where
  d : i64R a.d
  f : i64R a.f
  g : i64R a.g
  n : i64R a.n
  s : a.s.size ≤ 140737488351232
  k : a.k.length ≤ 140737488351232

/-- a row of operations; K: what holds of each one's Keep -/
structure ARow (K : Value → List Int → Prop) (w : World) (v : Value) (l : List Ac) : Prop where
  is : (l = [] ∧ (v = .slice none 0 0 ∨ ∃ a c, v = .slice (some a) 0 c)) ∨ (∃ g o cap, v = .slice (some ⟨g, o, none⟩) l.length cap ∧ g < w.heap.size ∧
    ∀ j a, l[j]? = some a → AcOk a ∧ ∃ kv, K kv a.k ∧ ∀ i u, (acCells a kv)[i]? = some u → w.cell? ⟨g, o + j * 6 + i, none⟩ = some u)

theorem ARow.slice {K : Value → List Int → Prop} {w : World} {v : Value} {l : List Ac} (h : ARow K w v l) : ∃ p c, v = .slice p l.length c := by
  rcases h.is with ⟨rfl, rfl | ⟨a, c, rfl⟩⟩ | ⟨g, o, cap, rfl, _⟩
  · exact ⟨none, 0, rfl⟩
  · exact ⟨some a, c, rfl⟩
  · exact ⟨_, cap, rfl⟩

theorem ARow.keeps {K K' : Value → List Int → Prop} {S : Nat → Prop} {w w' : World} {v : Value} {l : List Ac} (h : ARow K w v l) (k : Keeps S w w') (hs : ∀ g, v.ownBlock = some g → g < w.heap.size → ¬ S g) (hK : ∀ kv ks, K kv ks → K' kv ks) : ARow K' w' v l := by
  rcases h.is with h0 | ⟨g, o, cap, rfl, hg, hc⟩
  · exact ⟨.inl h0⟩
  · refine ⟨.inr ⟨g, o, cap, rfl, Nat.lt_of_lt_of_le hg k.size, fun j a hj => ?_⟩⟩
    obtain ⟨h1, kv, h2, h3⟩ := hc j a hj
    exact ⟨h1, kv, hK _ _ h2, fun i u hu => by rw [World.cell?_of_block (a := ⟨g, o + j * 6 + i, none⟩) (k.block g hg (hs g rfl hg))]; exact h3 i u hu⟩

theorem ARow.at {K : Value → List Int → Prop} {w : World} {v : Value} {l : List Ac} (h : ARow K w v l) {p : Option Addr} {c n : Nat} (hv : v = .slice p n c) {j : Nat} (hj : j < l.length) :
    ∃ g o, p = some ⟨g, o, none⟩ ∧ g < w.heap.size ∧ AcOk l[j] ∧ ∃ kv, K kv l[j].k ∧ ∀ i u, (acCells l[j] kv)[i]? = some u → w.cell? ⟨g, o + j * 6 + i, none⟩ = some u := by
  rcases h.is with ⟨rfl, _⟩ | ⟨g, o, cap, e, hg, hc⟩
  · simp at hj
  · rw [hv] at e
    injection e with e1 _ _
    obtain ⟨h1, kv, h2, h3⟩ := hc j _ (List.getElem?_eq_getElem hj)
    exact ⟨g, o, e1, hg, h1, kv, h2, h3⟩

def pickI (n : Int) : Int := n % 11

theorem pick_any (n : Int) (w : World) (h : i64R n) : Calls Try.prog 22 #[.int .i64 n] w fun e w' => e = .returned (.int .i64 (pickI n)) ∧ w = w' := by
  obtain ⟨h1, h2⟩ := h
  rcases Int.lt_or_le n 0 with hn | hn
  · have htm : n.tmod 11 = -((-n) % 11) := by
      rw [← Int.tmod_eq_emod_of_nonneg (by omega : 0 ≤ -n), Int.neg_tmod, Int.neg_neg]
    by_cases h0 : n % 11 = 0
    · have e : n.tmod 11 = 0 := by omega
      clear htm
      have hp : Hd (pickI n = 0) := ⟨h0⟩
      clear h0
      go_enter Try.func22, Try.ntmps22
      go_wp2
      go_ret
      exact ⟨ret_i (by rw [hp.out]), rfl⟩
    · obtain ⟨m, hm⟩ : ∃ m, n.tmod 11 = m := ⟨_, rfl⟩
      have h3 : m < 0 := by omega
      have h4 : -11 ≤ m := by omega
      have hp : Hd (pickI n = m + 11) := ⟨by unfold pickI; omega⟩
      clear h0 htm
      go_enter Try.func22, Try.ntmps22
      go_wp2
      go_ret
      exact ⟨ret_i (by rw [hp.out]), rfl⟩
  · have hp : Hd (pickI n = n % 11) := ⟨rfl⟩
    obtain ⟨m, hm⟩ : ∃ m, n % 11 = m := ⟨_, rfl⟩
    have h3 : ¬ m < 0 := by omega
    rw [hm] at hp
    go_enter Try.func22, Try.ntmps22
    go_wp2
    go_ret
    exact ⟨ret_i (by rw [hp.out]), rfl⟩

/-- the bulk of the first k operations -/
def bulk (l : List Ac) (k : Nat) : Nat := ((l.take k).map fun a => a.s.size + a.k.length).sum
def badN (a : Ac) : Bool := decide (4000 ≤ a.n) && decide (a.n ≤ 16777216)
def fewB (l : List Ac) : Bool := l.all (fun a => !badN a) && decide (l.length ≤ 200) && decide (bulk l l.length ≤ 5000)

theorem bulk_succ (l : List Ac) (k : Nat) (h : k < l.length) : bulk l (k + 1) = bulk l k + (l[k].s.size + l[k].k.length) := by
  unfold bulk
  rw [List.take_succ_eq_append_getElem h, List.map_append, List.sum_append]
  simp
theorem bulk_le (l : List Ac) (M : Nat) (h : ∀ a ∈ l, a.s.size + a.k.length ≤ M) : ∀ k, bulk l k ≤ k * M
  | 0 => by simp [bulk]
  | k + 1 => by
    have ih := bulk_le l M h k
    by_cases hk : k < l.length
    · rw [bulk_succ l k hk, Nat.succ_mul]
      have := h _ (List.getElem_mem hk)
      omega
    · have : bulk l (k + 1) = bulk l k := by unfold bulk; rw [List.take_of_length_le (by omega), List.take_of_length_le (by omega)]
      rw [this, Nat.succ_mul]; omega

theorem few_bad (l : List Ac) (k : Nat) (h : k < l.length) (hb : badN l[k] = true) : fewB l = false := by
  unfold fewB
  have : (l.all fun a => !badN a) = false := by
    rw [List.all_eq_false]
    exact ⟨l[k], List.getElem_mem h, by simp [hb]⟩
  rw [this]; rfl

set_option maxHeartbeats 2000000 in
set_option maxRecDepth 100000 in
theorem few_any (w : World) (v : Value) (l : List Ac) (K : Value → List Int → Prop) (hK : ∀ kv ks, K kv ks → ∃ p c, kv = .slice p ks.length c) (hl : l.length ≤ 9223372036854775807) (h : ARow K w v l) :
    Calls Try.prog 20 #[v] w fun e w' => e = .returned (.bool (fewB l)) ∧ Keeps (fun _ => False) w w' := by
  obtain ⟨pv, cv, rfl⟩ := h.slice
  have HR := Hd.mk h
  obtain ⟨N, hN⟩ : ∃ N, l.length = N := ⟨_, rfl⟩
  rw [hN] at HR hl
  rw [hN]
  have HN := Hd.mk hN
  have HK := Hd.mk hK
  clear h hN hK
  go_enter Try.func20, Try.ntmps20
  go_wp2_with fail
  go_loopw [3, 4] (fun s i wr => ∃ (k : Nat) (z : Int), k ≤ N ∧ i = .int .i64 k ∧ s = .int .i64 z ∧ (N ≤ 200 → z = (bulk l k : Nat)) ∧ (∀ j (hj : j < l.length), j < k → badN l[j] = false) ∧ Keeps (fun _ => False) w wr) (fun _ i _ => N - (intOf i).toNat)
  case atStart => exact ⟨0, 0, Nat.zero_le _, rfl, rfl, fun _ => rfl, fun j _ hj => absurd hj (Nat.not_lt_zero _), Keeps.refl _ _⟩
  case round =>
    obtain ⟨k, z, hk, rfl, rfl, hz, hb, hKe⟩ := hrel
    have HZ := Hd.mk hz
    have HB := Hd.mk hb
    have HKe := Hd.mk hKe
    clear hz hb hKe
    by_cases hlt : k < N
    · have hd1 : decide ((k : Int) < (N : Int)) = true := by simp; omega
      have hkl : k < l.length := HN.out ▸ hlt
      obtain ⟨g, o, rfl, hg, hok, kv, hkv, hc⟩ := (HR.out.keeps HKe.out (fun _ _ _ h => h) (fun _ _ h => h)).at rfl hkl
      obtain ⟨p5, c5, rfl⟩ := HK.out _ _ hkv
      obtain ⟨a, ha⟩ : ∃ a, l[k] = a := ⟨_, rfl⟩
      rw [ha] at hc hok
      have c3 := hc 3 _ rfl
      have c4 := hc 4 _ rfl
      have c5' := hc 5 _ rfl
      have hn1 := hok.n.1
      have hn2 := hok.n.2
      have hs1 := hok.s
      have hk1 := hok.k
      have HA := Hd.mk ha
      clear hc hok hkv ha
      obtain ⟨z1, hz1⟩ : ∃ z1, IntKind.i64.wrap (z + (a.s.size : Int)) = z1 := ⟨_, rfl⟩
      obtain ⟨z2, hz2⟩ : ∃ z2, IntKind.i64.wrap (z1 + (a.k.length : Int)) = z2 := ⟨_, rfl⟩
      have HZ2 : Hd (N ≤ 200 → z2 = (bulk l (k + 1) : Nat)) := ⟨fun hN => by
        have hz := HZ.out hN
        have hM := bulk_le l 281474976702464 (fun b hb => by
          obtain ⟨j, hj, rfl⟩ := List.getElem_of_mem hb
          obtain ⟨_, _, _, _, hok, _⟩ := HR.out.at rfl hj
          have := hok.s; have := hok.k; omega) k
        have hs := bulk_succ l k hkl
        rw [HA.out] at hs
        have hM2 : k * 281474976702464 ≤ 200 * 281474976702464 := Nat.mul_le_mul_right _ (by omega)
        have e1 : z1 = z + (a.s.size : Int) := by rw [← hz1]; exact IntWalk.i64_in _ (by omega)
        have e2 : z2 = z1 + (a.k.length : Int) := by rw [← hz2]; exact IntWalk.i64_in _ (by omega)
        omega⟩
      rcases hbd : badN a with _ | _
      · have HBD := Hd.mk hbd
        have HB2 : Hd (∀ j (hj : j < l.length), j < k + 1 → badN l[j] = false) := ⟨fun j hj hjk => by
          rcases Nat.lt_succ_iff_lt_or_eq.1 hjk with h | rfl
          · exact HB.out j hj h
          · rw [HA.out]; exact HBD.out⟩
        have hcase : a.n < 4000 ∨ (4000 ≤ a.n ∧ 16777216 < a.n) := by
          unfold badN at hbd
          simp only [Bool.and_eq_false_iff, decide_eq_false_iff_not] at hbd
          omega
        clear hbd
        have i0 : (0 : Int) ≤ (k : Int) := by omega
        have i1 : (k : Int) < (N : Int) := by omega
        rcases hcase with h | ⟨h, h'⟩
        all_goals
          go_wp2
          go_quiet (fail)
          go_wp2
          exact ⟨⟨k + 1, z2, hlt, by go_num, rfl, HZ2.out, HB2.out, HKe.out.drewN _⟩, by simp [intOf]; omega⟩
      · have hfb : Hd (fewB l = false) := ⟨few_bad l k hkl (by rw [HA.out]; exact hbd)⟩
        unfold badN at hbd
        simp only [Bool.and_eq_true, decide_eq_true_eq] at hbd
        obtain ⟨h, h'⟩ := hbd
        go_wp2
        go_ret
        exact ⟨ret_b hfb.out.symm, HKe.out⟩
    · have hd1 : decide ((k : Int) < (N : Int)) = false := by simp; omega
      obtain rfl : N = k := by omega
      have hall : (l.all fun a => !badN a) = true := by
        rw [List.all_eq_true]
        intro a ha
        obtain ⟨j, hj, rfl⟩ := List.getElem_of_mem ha
        simp [HB.out j hj (HN.out ▸ hj)]
      by_cases h200 : N ≤ 200
      · have hz := HZ.out h200
        have h1 : (N : Int) ≤ 200 := by omega
        have hf : Hd (fewB l = decide (z ≤ 5000)) := ⟨by
          unfold fewB
          rw [hall, HN.out]
          simp only [Bool.true_and, h200, decide_true]
          rw [decide_eq_decide]
          omega⟩
        clear hz hall hk hlt h200
        go_wp2
        go_ret
        exact ⟨ret_b (by rw [hf.out]), HKe.out⟩
      · have h1 : ¬ (N : Int) ≤ 200 := by omega
        have hf : Hd (fewB l = false) := ⟨by
          unfold fewB
          rw [hall, HN.out]
          simp [h200]⟩
        clear hall hk hlt h200
        go_wp2
        go_ret
        exact ⟨ret_b hf.out.symm, HKe.out⟩

end Go.Proofs.Ytcleocgaooblfaa.W
