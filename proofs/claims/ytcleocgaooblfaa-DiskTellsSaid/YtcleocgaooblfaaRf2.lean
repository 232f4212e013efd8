/-
  DiskTells: the reference's disk in memory; the walks of Down, Start, Lose, may, read, Size, Read.
-/
import Derived.Test.YtcleocgaooblfaaRf1
import Derived.Test.YtcleocgaooblfaaRfP
namespace Go.Proofs.Ytcleocgaooblfaa.W
open Go.RowKit
set_option linter.unusedVariables false

/-- the reference's row of pending writes, of the call's own -/
structure PRow (w : World) (B : Nat) (v : Value) (q : List Pn) : Prop where
  is : (q = [] ∧ ∃ p, v = .slice p 0 0) ∨ w.ownsRow B 80 3 v q.length (qCells q)
theorem PRow.slice {w : World} {B : Nat} {v : Value} {q : List Pn} (h : PRow w B v q) : ∃ p c, v = .slice p q.length c := by
  rcases h.is with ⟨rfl, p, rfl⟩ | hrow
  · exact ⟨p, 0, rfl⟩
  · rcases hrow.2 with ⟨rfl, h0⟩ | ⟨b, cap, cur, rfl, _⟩
    · exact ⟨none, 0, by rw [h0]⟩
    · exact ⟨_, cap, rfl⟩
theorem qflat_at : ∀ (q : List Pn) (j i : Nat) (h : j < q.length), i < 3 → (qCells q)[j * 3 + i]? = (pCells q[j])[i]?
  | [], j, i, h, _ => by simp at h
  | a :: q, 0, i, h, hi => by
    show (pCells a ++ qCells q)[0 * 3 + i]? = _
    rw [Nat.zero_mul, Nat.zero_add, List.getElem?_append_left (by show i < 3; exact hi)]; rfl
  | a :: q, j + 1, i, h, hi => by
    show (pCells a ++ qCells q)[(j + 1) * 3 + i]? = _
    rw [List.getElem?_append_right (by show 3 ≤ _; omega)]
    have : (j + 1) * 3 + i - (pCells a).length = j * 3 + i := by show (j + 1) * 3 + i - 3 = _; omega
    rw [this, qflat_at q j i (by simpa using h) hi]; rfl
theorem PRow.at {w : World} {B : Nat} {v : Value} {q : List Pn} (h : PRow w B v q) {p : Option Addr} {c n : Nat} (hv : v = .slice p n c) {j : Nat} (hj : j < q.length) :
    ∃ g, p = some ⟨g, 0, none⟩ ∧ w.cell? ⟨g, j * 3, none⟩ = some (.int .i64 q[j].f) ∧ w.cell? ⟨g, j * 3 + 1, none⟩ = some (.int .i64 q[j].at_) ∧ w.cell? ⟨g, j * 3 + 2, none⟩ = some (strV q[j].s) := by
  rcases h.is with ⟨rfl, _⟩ | hrow
  · simp at hj
  · have hr := hrow
    rcases hrow.2 with ⟨rfl, h0⟩ | ⟨b, cap, cur, rfl, hB, hb, r⟩
    · omega
    · injection hv with e1 _ _
      have ha : ∀ i u, i < 3 → (pCells q[j])[i]? = some u → w.cell? ⟨b, j * 3 + i, none⟩ = some u := fun i u hi hu => by
        have := hr.cells (g := b) rfl (j * 3 + i) u (by rw [qflat_at q j i hj hi]; exact hu)
        have ea : (⟨b, 0, none⟩ : Addr).add (j * 3 + i) = ⟨b, j * 3 + i, none⟩ := by unfold Addr.add; split <;> simp_all
        rwa [ea] at this
      exact ⟨b, e1.symm, ha 0 _ (by decide) rfl, ha 1 _ (by decide) rfl, ha 2 _ (by decide) rfl⟩

theorem PRow.keeps {S : Nat → Prop} {w w' : World} {B : Nat} {v : Value} {q : List Pn} (h : PRow w B v q) (k : Keeps S w w') (hs : ∀ g cur fz, w.heap[g]? = some (.cells cur 80 fz) → ¬ S g) : PRow w' B v q := by
  refine ⟨?_⟩
  rcases h.is with h0 | hrow
  · exact .inl h0
  · refine .inr ⟨hrow.1, ?_⟩
    rcases hrow.2 with h1 | ⟨b, cap, cur, e, hB, hg, r⟩
    · exact .inl h1
    · refine .inr ⟨b, cap, cur, e, hB, ?_, r⟩
      have hlt : b < w.heap.size := by
        rcases Nat.lt_or_ge b w.heap.size with h' | h'
        · exact h'
        · rw [Array.getElem?_eq_none h'] at hg; cases hg
      rw [k.block b hlt (hs b cur _ hg), hg]

/-- the reference's disk at E, in the state σ (the files: by Rd) -/
structure RRep (w : World) (B E : Nat) (σ : St) : Prop where
  is : ∃ lv qv kv, Blk w E 71 [lv, qv, .int .i64 σ.lost, .bool σ.down, .int .i64 σ.armed, kv] ∧ Own w B 9 lv (σ.lasts.map strV) ∧ PRow w B qv σ.queue ∧ IRow w kv σ.keep
  ok : Ok σ
  rd : Rd σ
  ge : B ≤ E

/-- the blocks that an operation of the reference may write -/
def RS (w : World) (B : Nat) (g : Nat) : Prop := B ≤ g ∧ ∃ cur fz T, w.heap[g]? = some (.cells cur T fz) ∧ (T = 71 ∨ T = 9 ∨ T = 80)
structure RK (B : Nat) (w w' : World) : Prop where
  k : Keeps (RS w B) w w'
theorem RK.of {B : Nat} {w w' : World} (h : Keeps (fun _ => False) w w') : RK B w w' := ⟨h.mono (fun _ _ h => h.elim)⟩
theorem RK.trans {B : Nat} {a b c : World} (h : RK B a b) (k : RK B b c) : RK B a c :=
  ⟨k.k.os.trans h.k.os, k.k.tape.trans h.k.tape, k.k.output.trans h.k.output, Nat.le_trans h.k.size k.k.size, fun i hi hn => by
    have hb := h.k.block i hi hn
    rw [k.k.block i (Nat.lt_of_lt_of_le hi h.k.size) (fun ⟨h1, cur, fz, T, h2, h3⟩ => hn ⟨h1, cur, fz, T, by rw [← hb]; exact h2, h3⟩)]
    exact hb⟩
theorem RK.set {B : Nat} {w : World} {E : Nat} {vs : List Value} {T : TypeId} (hb : Blk w E T vs) (hE : B ≤ E) (hT : T = 71 ∨ T = 9 ∨ T = 80) (j : Nat) (v : Value) : RK B w (w.setCell ⟨E, j, none⟩ v) :=
  ⟨(Keeps.refl (RS w B) w).setCell (p := ⟨E, j, none⟩) (.inr ⟨hE, _, _, _, hb.is, hT⟩) v⟩

theorem RRep.next {w w' : World} {B E : Nat} {σ : St} (h : RRep w B E σ) (k : Keeps (fun _ => False) w w') : RRep w' B E σ := by
  obtain ⟨lv, qv, kv, hb, hl, hq, hk⟩ := h.is
  refine ⟨⟨lv, qv, kv, k.blk hb (fun h => h), hl.keeps k (fun _ _ h => h), ⟨?_⟩, hk.keeps k (fun _ _ _ _ h => h)⟩, h.ok, h.rd, h.ge⟩
  rcases hq.is with h0 | hrow
  · exact .inl h0
  · refine .inr ⟨hrow.1, ?_⟩
    rcases hrow.2 with h1 | ⟨b, cap, cur, e, hB, hg, r⟩
    · exact .inl h1
    · refine .inr ⟨b, cap, cur, e, hB, ?_, r⟩
      have hlt : b < w.heap.size := by
        rcases Nat.lt_or_ge b w.heap.size with h' | h'
        · exact h'
        · rw [Array.getElem?_eq_none h'] at hg; cases hg
      rw [k.block b hlt (fun h => h), hg]
theorem RRep.alloc {w : World} {B E : Nat} {σ : St} (h : RRep w B E σ) (o : Obj) : RRep (w.alloc o) B E σ := h.next ((Keeps.refl (fun _ => False) w).alloc o)

/-- the cells -/
structure RCells (w : World) (B E : Nat) (σ : St) (lv qv kv : Value) : Prop where
  b : Blk w E 71 [lv, qv, .int .i64 σ.lost, .bool σ.down, .int .i64 σ.armed, kv]
  l : Own w B 9 lv (σ.lasts.map strV)
  q : PRow w B qv σ.queue
  k : IRow w kv σ.keep
theorem RRep.cells {w : World} {B E : Nat} {σ : St} (h : RRep w B E σ) : ∃ lv qv kv, RCells w B E σ lv qv kv := by
  obtain ⟨lv, qv, kv, hb, hl, hq, hk⟩ := h.is
  exact ⟨lv, qv, kv, hb, hl, hq, hk⟩

theorem own_keeps_type {w w' : World} {B E : Nat} {vs : List Value} {T e : TypeId} {v u : Value} {xs : List Value} {j : Nat} (hb : Blk w E T vs) (hne : T ≠ e) (h : Own w B e v xs) (hw : w' = w.setCell ⟨E, j, none⟩ u) : Own w' B e v xs := by
  subst hw
  refine h.keeps ((Keeps.refl (· = E) w).setCell (p := ⟨E, j, none⟩) (.inr rfl) u) (fun g hg e' => ?_)
  subst e'
  rcases h.is with ⟨rfl, _⟩ | ⟨g', cap, rfl, _, _, _, ⟨cur, fz, hg', _⟩, _⟩
  · cases hg
  · have : g' = g := by simpa [Value.ownBlock] using hg
    subst this
    rw [hb.is] at hg'
    injection hg' with hg'; injection hg' with _ h2 _
    exact hne h2

/-- one cell of the disk written -/
theorem RRep.put {w : World} {B E : Nat} {σ σ' : St} (h : RRep w B E σ) {j : Nat} {u : Value} (hl : σ'.lasts = σ.lasts) (hq : σ'.queue = σ.queue) (hk : σ'.keep = σ.keep) (ok : Ok σ') (rd : Rd σ')
    (hv : ∀ lv qv kv, [lv, qv, .int .i64 σ.lost, .bool σ.down, .int .i64 σ.armed, kv].set j u = [lv, qv, .int .i64 σ'.lost, .bool σ'.down, .int .i64 σ'.armed, kv]) : RRep (w.setCell ⟨E, j, none⟩ u) B E σ' ∧ RK B w (w.setCell ⟨E, j, none⟩ u) := by
  obtain ⟨lv, qv, kv, hb, hlo, hqr, hkr⟩ := h.is
  have k : Keeps (· = E) w (w.setCell ⟨E, j, none⟩ u) := (Keeps.refl (· = E) w).setCell (p := ⟨E, j, none⟩) (.inr rfl) u
  have hne : ∀ {g : Nat} {cur : Array Value} {T : TypeId} {fz : Nat × Nat}, w.heap[g]? = some (.cells cur T fz) → T ≠ 71 → ¬ g = E := fun hg hT e => by
    subst e
    rw [hb.is] at hg
    injection hg with hg; injection hg with _ h2 _
    exact hT h2.symm
  refine ⟨⟨⟨lv, qv, kv, (hb.set j u).cast (hv lv qv kv), by rw [hl]; exact own_keeps_type hb (by decide) hlo rfl, by rw [hq]; exact hqr.keeps k (fun g cur fz hg => hne hg (by decide)), by rw [hk]; exact hkr.keeps k (fun g cur fz hg => hne hg (by decide))⟩, ok, rd, h.ge⟩, RK.set hb h.ge (.inl rfl) j u⟩

theorem rdown_any (w : World) (B E : Nat) (σ : St) (h : RRep w B E σ) : Calls Try.prog 32 #[.pointer (some ⟨E, 0, none⟩)] w fun e w' => e = .returned (.bool σ.down) ∧ w = w' := by
  obtain ⟨lv, qv, kv, hc⟩ := h.cells
  have c3 := hc.b.at (j := 3) rfl
  have HC := Hd.mk hc
  clear h hc
  go_enter Try.func32, Try.ntmps32
  go_wp2
  go_ret
  exact ⟨rfl, rfl⟩

theorem rstart_any (w : World) (B E : Nat) (σ : St) (h : RRep w B E σ) : Calls Try.prog 34 #[.pointer (some ⟨E, 0, none⟩)] w fun e w' => e = .returned (.tuple #[]) ∧ RRep w' B E (startS σ) ∧ RK B w w' := by
  have HP := Hd.mk (h.put (σ' := startS σ) (j := 3) (u := .bool false) rfl rfl rfl h.ok.start ⟨h.rd.eq⟩ (fun _ _ _ => rfl))
  obtain ⟨lv, qv, kv, hc⟩ := h.cells
  have c3 := hc.b.at (j := 3) rfl
  have f3 := hc.b.free 3
  have HC := Hd.mk hc
  clear h hc
  go_enter Try.func34, Try.ntmps34
  go_wp2
  go_end0
  exact ⟨rfl, HP.out.1, HP.out.2⟩

theorem rlose_any (w : World) (B E : Nat) (σ : St) (n : Int) (h : RRep w B E σ) : Calls Try.prog 52 #[.pointer (some ⟨E, 0, none⟩), .int .i64 n] w fun e w' => e = .returned (.tuple #[]) ∧ RRep w' B E (loseS σ n) ∧ RK B w w' := by
  obtain ⟨lv, qv, kv, hc⟩ := h.cells
  have c2 := hc.b.at (j := 2) rfl
  have f2 := hc.b.free 2
  have HC := Hd.mk hc
  clear hc
  by_cases hn : 0 ≤ n
  · obtain ⟨m, rfl⟩ := Int.eq_ofNat_of_zero_le hn
    have HP := Hd.mk (h.put (σ' := loseS σ m) (j := 2) (u := .int .i64 (m : Int)) rfl rfl rfl (h.ok.lose m) ⟨h.rd.eq⟩ (fun _ _ _ => by rw [show (loseS σ m).lost = m from by show (max (m : Int) 0).toNat = m; omega]; rfl))
    clear h hn
    go_enter Try.func52, Try.ntmps52
    go_wp2
    go_end0
    exact ⟨rfl, HP.out.1, HP.out.2⟩
  · have HP := Hd.mk (h.put (σ' := loseS σ n) (j := 2) (u := .int .i64 0) rfl rfl rfl (h.ok.lose n) ⟨h.rd.eq⟩ (fun _ _ _ => by rw [show (loseS σ n).lost = 0 from by show (max n 0).toNat = 0; omega]; rfl))
    have hn' : ¬ 0 < n := by omega
    have hn2 : n < 0 := by omega
    clear h hn
    go_enter Try.func52, Try.ntmps52
    go_wp2
    go_end0
    exact ⟨rfl, HP.out.1, HP.out.2⟩

theorem rmay_any (w : World) (B E : Nat) (σ : St) (f : Int) (h : RRep w B E σ) : Calls Try.prog 55 #[.pointer (some ⟨E, 0, none⟩), .int .i64 f] w fun e w' => e = .returned (.int .i64 (mayS σ f : Nat)) ∧ w = w' := by
  obtain ⟨lv, qv, kv, hc⟩ := h.cells
  have c3 := hc.b.at (j := 3) rfl
  have HC := Hd.mk hc
  clear h hc
  rcases hd : σ.down with _ | _
  · rw [hd] at c3
    by_cases f0 : f < 0
    · have e : Hd (mayS σ f = 1) := ⟨by unfold mayS; rw [hd, show isF f = false by unfold isF; exact decide_eq_false (by omega)]; rfl⟩
      rw [e.out]
      clear hd
      go_enter Try.func55, Try.ntmps55
      go_wp2
      go_ret
      exact ⟨rfl, rfl⟩
    · by_cases f7 : 7 < f
      · have e : Hd (mayS σ f = 1) := ⟨by unfold mayS; rw [hd, show isF f = false by unfold isF; exact decide_eq_false (by omega)]; rfl⟩
        rw [e.out]
        clear hd
        go_enter Try.func55, Try.ntmps55
        go_wp2
        go_ret
        exact ⟨rfl, rfl⟩
      · have e : Hd (mayS σ f = 0) := ⟨by unfold mayS; rw [hd, show isF f = true by unfold isF; exact decide_eq_true (by omega)]; rfl⟩
        rw [e.out]
        clear hd
        go_enter Try.func55, Try.ntmps55
        go_wp2
        go_ret
        exact ⟨rfl, rfl⟩
  · rw [hd] at c3
    have e : Hd (mayS σ f = 10) := ⟨by unfold mayS; rw [hd]; rfl⟩
    rw [e.out]
    clear hd
    go_enter Try.func55, Try.ntmps55
    go_wp2
    go_ret
    exact ⟨rfl, rfl⟩

theorem rdL_take (f : Nat) (q : List Pn) (k : Nat) (h : k < q.length) (s : List UInt8) : rdL f (q.take (k + 1)) s = if q[k].f = f then putL (rdL f (q.take k) s) q[k].at_ q[k].s else rdL f (q.take k) s := by
  rw [List.take_succ_eq_append_getElem h, rdL_append]; rfl
theorem rdL_le {f b : Nat} : ∀ (q : List Pn) (s : List UInt8), s.length ≤ b → (∀ p ∈ q, p.at_ + p.s.length ≤ b) → (rdL f q s).length ≤ b
  | [], s, h, _ => h
  | p :: q, s, h, hq => by
    rw [rdL]
    refine rdL_le q _ ?_ (fun p hp => hq p (by simp [hp]))
    split
    · rw [putL_len]; have := hq p (by simp); omega
    · exact h

end Go.Proofs.Ytcleocgaooblfaa.W
