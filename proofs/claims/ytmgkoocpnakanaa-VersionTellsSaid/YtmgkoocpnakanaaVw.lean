import Derived.Test.YtmgkoocpnakanaaVl
/-
  The plain law of version's Order: each time the least name all whose parents are out.
-/
namespace Go.Proofs.Ytmgkoocpnakanaa.W
open Go.RowKit
set_option linter.unusedVariables false

/-! ### the greedy order of a graph without loops -/
def OrdR (n : Nat) (R : Nat → Nat → Bool) : (Nat → Bool) → List Nat → Prop
  | d, [] => ∀ v, v < n → d v = true
  | d, u :: r => u < n ∧ Tj.readyB n R d u = true ∧ (∀ v, v < n → Tj.readyB n R d v = true → u ≤ v) ∧ OrdR n R (fun w => d w || decide (w = u)) r
theorem pick_least {n : Nat} {R : Nat → Nat → Bool} {d : Nat → Bool} {u : Nat} (h : Tj.pickB n R d = some u) : ∀ v, v < n → Tj.readyB n R d v = true → u ≤ v := fun v hv hr => by
  refine Nat.le_of_not_lt fun hlt => ?_
  obtain ⟨_, z1, z2, hab, hno⟩ := List.find?_eq_some_iff_append.1 h
  have hmem : v ∈ z1 ++ u :: z2 := by rw [← hab]; exact List.mem_range.2 hv
  have hpw : (z1 ++ u :: z2).Pairwise (· < ·) := by rw [← hab]; exact List.pairwise_lt_range
  rcases List.mem_append.1 hmem with hm | hm
  · have := hno _ hm
    rw [hr] at this; cases this
  · rcases List.mem_cons.1 hm with e | hm
    · omega
    · have := (List.pairwise_cons.1 (List.pairwise_append.1 hpw).2.1).1 _ hm; omega
theorem greedy_one {n : Nat} {R : Nat → Nat → Bool} (hrefl : ∀ v, v < n → R v v = true) (htr : ∀ u v w, u < n → v < n → w < n → R u v = true → R v w = true → R u w = true)
    (hanti : ∀ u v, u < n → v < n → R u v = true → R v u = true → u = v) : ∀ (k : Nat) (d : Nat → Bool), Tj.left n d ≤ k → ∃ us : List Nat, Tj.greedy n R k d = us.map (fun u => [u]) ∧ OrdR n R d us
  | k, d, hk => by
    rcases hp : Tj.pickB n R d with _ | v
    · exact ⟨[], by rw [Tj.greedy_end hp]; rfl, fun v hv => Tj.pick_ex hrefl htr hp v hv⟩
    · have hv := List.mem_range.1 (List.mem_of_find?_eq_some hp)
      obtain ⟨he, hl⟩ := Tj.greedy_step hp (hrefl v hv) hk
      have hk0 : 0 < k := by
        rcases Nat.eq_zero_or_pos k with h | h
        · subst h
          have := Tj.pick_left (n := n) (R := R) (d := d) (Nat.le_zero.1 hk)
          rw [hp] at this; cases this
        · exact h
      have hpart : Tj.partB n R v = [v] := by
        have h1 : ∀ x, x ∈ Tj.partB n R v ↔ x = v := fun x => by
          rw [Tj.mem_partB]
          exact ⟨fun ⟨a, b, c⟩ => (hanti v x hv a b c).symm, fun e => by subst e; exact ⟨hv, hrefl _ hv, hrefl _ hv⟩⟩
        have h2 : (Tj.partB n R v).Pairwise (· < ·) := (List.pairwise_lt_range (n := n)).filter _
        match hq : Tj.partB n R v with
        | [] => rw [hq] at h1; exact absurd ((h1 v).2 rfl) (by simp)
        | [a] => rw [hq] at h1; rw [(h1 a).1 (by simp)]
        | a :: b :: r =>
          rw [hq] at h1 h2
          have e1 := (h1 a).1 (by simp)
          have e2 := (h1 b).1 (by simp)
          have := List.rel_of_pairwise_cons h2 (List.mem_cons_self (a := b) (l := r))
          omega
      have hfun : (fun w => d w || (Tj.partB n R v).contains w) = fun w => d w || decide (w = v) := by
        funext w
        rw [hpart]
        congr 1
        rw [Bool.eq_iff_iff]
        simp
      rw [hfun] at hl he
      obtain ⟨us, h1, h2⟩ := greedy_one hrefl htr hanti (k - 1) _ hl
      refine ⟨v :: us, by rw [he, h1, hpart]; rfl, hv, List.find?_some hp, pick_least hp, h2⟩
termination_by k d => k
decreasing_by omega

/-! ### the order of names -/
def names (l : List Vdf) : List ByteArray := l.map (·.name)
structure Rdy (l : List Vdf) (out : List ByteArray) (y : ByteArray) : Prop where
  mem : y ∈ names l
  new : y ∉ out
  par : ∀ p, p ∈ par l y → p ∈ out
def OrdS (l : List Vdf) : List ByteArray → List ByteArray → Prop
  | out, [] => ∀ s, s ∈ names l → s ∈ out
  | out, x :: r => Rdy l out x ∧ (∀ y, Rdy l out y → ltS y x = false) ∧ OrdS l (out ++ [x]) r
theorem OrdS.uniq {l : List Vdf} : ∀ {a b out : List ByteArray}, OrdS l out a → OrdS l out b → a = b
  | [], [], _, _, _ => rfl
  | [], x :: r, _, h, k => absurd (h _ k.1.mem) k.1.new
  | x :: r, [], _, h, k => absurd (k _ h.1.mem) h.1.new
  | x :: r, y :: q, out, h, k => by
    have e : x = y := ltS_tri (k.2.1 x h.1) (h.2.1 y k.1)
    subst e
    rw [OrdS.uniq h.2.2 k.2.2]

theorem par_of {l : List Vdf} (hn : (names l).Nodup) {d : Vdf} (hd : d ∈ l) : par l d.name = d.parents := by
  obtain ⟨k, hk, rfl⟩ := List.getElem_of_mem hd
  have : firstI l l[k].name = some k := by
    unfold firstI
    rw [List.findIdx?_eq_some_iff_getElem]
    refine ⟨hk, by simp, fun j hj => ?_⟩
    have := List.pairwise_iff_getElem.1 hn j k (by simp [names]; omega) (by simpa [names] using hk) hj
    simp [names] at this
    simpa using this
  unfold par
  rw [this]
  show (l[k]?.map (·.parents)).getD [] = _
  rw [List.getElem?_eq_getElem hk]; rfl
theorem par_mem {l : List Vdf} {s p : ByteArray} (h : p ∈ par l s) : s ∈ names l ∧ ∃ d, d ∈ l ∧ d.name = s ∧ p ∈ d.parents := by
  unfold par at h
  rcases hf : firstI l s with _ | i
  · rw [hf] at h; cases h
  · rw [hf] at h
    obtain ⟨hi, e⟩ := firstI_some hf
    have h' : p ∈ (l[i]?.map (·.parents)).getD [] := h
    rw [List.getElem?_eq_getElem hi] at h'
    exact ⟨List.mem_map.2 ⟨_, List.getElem_mem hi, e⟩, _, List.getElem_mem hi, e, h'⟩

/-- arcs between names, by their places in a list -/
structure ArcsN (l : List Vdf) (N : List ByteArray) (arcs : List Arc) : Prop where
  nod : N.Nodup
  mem : ∀ s, s ∈ N ↔ s ∈ names l
  arc : ∀ u w (hu : u < N.length) (hw : w < N.length), (∃ a ∈ arcs, a.f = (u : Int) ∧ a.t = (w : Int)) ↔ N[w] ∈ par l N[u]
  right : rightB (N.length : Int) arcs = true
theorem nod_at {N : List ByteArray} (h : N.Nodup) {i j : Nat} (hi : i < N.length) (hj : j < N.length) (e : N[i] = N[j]) : i = j := by
  rcases Nat.lt_trichotomy i j with h1 | h1 | h1
  · exact absurd e (List.pairwise_iff_getElem.1 h i j hi hj h1)
  · exact h1
  · exact absurd e.symm (List.pairwise_iff_getElem.1 h j i hj hi h1)
theorem arcsN_of {l : List Vdf} {N : List ByteArray} {arcs : List Arc} (hl : l.length ≤ 12) (hn : (names l).Nodup) (hN : N.Nodup) (hm : ∀ s, s ∈ N ↔ s ∈ names l) (hp : ∀ d, d ∈ l → ∀ p, p ∈ d.parents → p ∈ names l)
    (i : ByteArray → Nat) (hi : ∀ s, s ∈ names l → ∃ h : i s < N.length, N[i s] = s) (ha : ∀ a, a ∈ arcs ↔ ∃ d, d ∈ l ∧ ∃ p, p ∈ d.parents ∧ a = ⟨(i d.name : Int), (i p : Int)⟩) : ArcsN l N arcs := by
  have hlen : N.length = l.length := by
    have : N.Perm (names l) := (List.perm_ext_iff_of_nodup hN hn).2 hm
    rw [this.length_eq]; simp [names]
  refine ⟨hN, hm, fun u w hu hw => ?_, ?_⟩
  · constructor
    · rintro ⟨a, h1, h2, h3⟩
      obtain ⟨d, hd, p, hpd, rfl⟩ := (ha a).1 h1
      obtain ⟨e1, e2⟩ := hi d.name (List.mem_map.2 ⟨d, hd, rfl⟩)
      obtain ⟨e3, e4⟩ := hi p (hp d hd p hpd)
      have x1 : i d.name = u := by have := h2; simp at this; omega
      have x2 : i p = w := by have := h3; simp at this; omega
      subst x1 x2
      rw [e2, e4, par_of hn hd]; exact hpd
    · intro h
      obtain ⟨_, d, hd, e, hpd⟩ := par_mem h
      refine ⟨_, (ha _).2 ⟨d, hd, _, hpd, rfl⟩, ?_, ?_⟩
      · obtain ⟨e1, e2⟩ := hi d.name (List.mem_map.2 ⟨d, hd, rfl⟩)
        show ((i d.name : Nat) : Int) = u
        rw [nod_at hN e1 hu (by rw [e2, e])]
      · obtain ⟨e1, e2⟩ := hi N[w] (hp d hd _ hpd)
        show ((i N[w] : Nat) : Int) = w
        rw [nod_at hN e1 hw e2]
  · simp only [rightB, Bool.and_eq_true, List.all_eq_true, nodeB, decide_eq_true_eq]
    refine ⟨⟨by omega, by omega⟩, fun a h1 => ?_⟩
    obtain ⟨d, hd, p, hpd, rfl⟩ := (ha a).1 h1
    obtain ⟨e1, _⟩ := hi d.name (List.mem_map.2 ⟨d, hd, rfl⟩)
    obtain ⟨e3, _⟩ := hi p (hp d hd p hpd)
    exact ⟨⟨by show (0 : Int) ≤ (i d.name : Nat); omega, by show ((i d.name : Nat) : Int) < N.length; omega⟩, by show (0 : Int) ≤ (i p : Nat); omega, by show ((i p : Nat) : Int) < N.length; omega⟩

section
variable {l : List Vdf} {N : List ByteArray} {arcs : List Arc}
theorem ArcsN.nx (h : ArcsN l N arcs) {u w : Nat} (hu : u < N.length) : w ∈ nx N.length arcs u ↔ ∃ hw : w < N.length, N[w] ∈ par l N[u] := by
  rw [mem_nx]
  exact ⟨fun ⟨hw, ha⟩ => ⟨hw, (h.arc u w hu hw).1 ha⟩, fun ⟨hw, hp⟩ => ⟨hw, (h.arc u w hu hw).2 hp⟩⟩
theorem ArcsN.srv (h : ArcsN l N arcs) {u x : Nat} (hr : Tj.Rch (W.nx N.length arcs) u x) (hu : u < N.length) (hx : x < N.length) : Srv l N[u] N[x] := by
  induction hr with
  | refl => exact .refl _
  | tail hr hx' ih =>
    have hv := rch_lt hu hr
    obtain ⟨_, hp⟩ := (h.nx hv).1 hx'
    exact (ih hv).tail hp
theorem ArcsN.rch (h : ArcsN l N arcs) {a b : ByteArray} (hs : Srv l a b) (hpn : ∀ d, d ∈ l → ∀ p, p ∈ d.parents → p ∈ names l) : ∀ u (hu : u < N.length), N[u] = a → ∃ w, ∃ hw : w < N.length, N[w] = b ∧ Tj.Rch (W.nx N.length arcs) u w := by
  induction hs with
  | refl => exact fun u hu e => ⟨u, hu, e, .refl u⟩
  | @head s p t hp _ ih =>
    intro u hu e
    obtain ⟨_, d, hd, _, hpd⟩ := par_mem hp
    obtain ⟨w, hw, ew⟩ := List.getElem_of_mem ((h.mem p).2 (hpn d hd p hpd))
    obtain ⟨z, hz, ez, hr⟩ := ih w hw ew
    exact ⟨z, hz, ez, (Tj.Rch.tail (.refl u) ((h.nx hu).2 ⟨hw, by rw [ew, e]; exact hp⟩)).trans hr⟩
theorem ArcsN.iff (h : ArcsN l N arcs) (hpn : ∀ d, d ∈ l → ∀ p, p ∈ d.parents → p ∈ names l) {u x : Nat} (hu : u < N.length) (hx : x < N.length) : Tj.Rch (W.nx N.length arcs) u x ↔ Srv l N[u] N[x] := by
  refine ⟨fun hr => h.srv hr hu hx, fun hs => ?_⟩
  obtain ⟨w, hw, e, hr⟩ := h.rch hs hpn u hu rfl
  exact nod_at h.nod hw hx e ▸ hr

/-- no loop: nothing serves what it is a parent of -/
def NoLoop (l : List Vdf) : Prop := ∀ s p, p ∈ par l s → ¬ Srv l p s
theorem ArcsN.noLoop (h : ArcsN l N arcs) (hpn : ∀ d, d ∈ l → ∀ p, p ∈ d.parents → p ∈ names l) : loopL N.length arcs = [] ↔ NoLoop l := by
  have hlo := loop_ok h.right
  constructor
  · intro h0 s p hp hs
    have hm := hlo.nil (by rw [h0]; rfl)
    have hi := ((leastL_iff h.right (N.length : Int)).1 (by omega)).2
    obtain ⟨hsn, d, hd, _, hpd⟩ := par_mem hp
    obtain ⟨u, hu, rfl⟩ := List.getElem_of_mem ((h.mem s).2 hsn)
    obtain ⟨w, hw, rfl⟩ := List.getElem_of_mem ((h.mem p).2 (hpn d hd p hpd))
    have hnx := (h.nx hu).2 ⟨hw, hp⟩
    have hr := (h.iff hpn hw hu).2 hs
    obtain ⟨q, hq, huq⟩ := (pgd (n := N.length) (arcs := arcs)).all u hu
    by_cases e : u = w
    · subst e
      have := hi q hq u huq (.inr ((arc_nx hu).2 hnx))
      omega
    · have hwq : w ∈ q := by
        obtain ⟨c, hc, _, rfl⟩ := (parts_ps (n := N.length) (arcs := arcs)).cls q hq
        obtain ⟨u1, u2, u3⟩ := Tj.mem_partB.1 huq
        have r1 : Tj.Rch (W.nx N.length arcs) u w := .tail (.refl u) hnx
        exact Tj.mem_partB.2 ⟨hw, (reachR_iff hc).2 (((reachR_iff hc).1 u2).trans r1), (reachR_iff hw).2 (hr.trans ((reachR_iff u1).1 u3))⟩
      have hlen : 1 < q.length := by
        match q, huq, hwq with
        | [a], h1, h2 => simp at h1 h2; omega
        | a :: b :: r, _, _ => simp
      have := hi q hq u huq (.inl hlen)
      omega
  · intro hnl
    refine Classical.byContradiction fun hne => ?_
    have hle : leastL N.length arcs ≠ (N.length : Int) := fun e => by
      have h1 : intL (loopL N.length arcs) ≠ [] := by
        intro e; unfold intL at e; exact hne (List.map_eq_nil_iff.1 e)
      obtain ⟨a, r, ha⟩ := List.exists_cons_of_ne_nil h1
      have h2 := hlo.fst a (by rw [ha]; rfl)
      have h3 := hlo.arc
      have h4 : (1 % (a :: r).length) < (a :: r).length := Nat.mod_lt _ (by simp)
      have := h3 0 a ((a :: r)[1 % (a :: r).length]) (by rw [ha]; rfl) (by rw [ha]; exact List.getElem?_eq_getElem h4)
      obtain ⟨c, hc, e1, _⟩ := arcI_iff.1 this
      have := ((right_is h.right).2.2 c hc).1.2
      omega
    obtain ⟨u, e, hu, z, hz, hr, ha⟩ := least_cand h.right hle
    have h1 := (arc_nx hu).1 ha
    obtain ⟨_, hp⟩ := (h.nx hz).1 h1
    exact hnl _ _ hp ((h.iff hpn hu hz).1 hr)
end

end Go.Proofs.Ytmgkoocpnakanaa.W

/-
  The plain law of version's Order: what the parts of the graph of the sorted names give.
-/
namespace Go.Proofs.Ytmgkoocpnakanaa.W
open Go.RowKit
set_option linter.unusedVariables false

theorem VRight.pn {l : List Vdf} (h : VRight l) : ∀ d, d ∈ l → ∀ p, p ∈ d.parents → p ∈ names l := fun d hd p hp => by
  have := (h.ok d hd).par p hp
  exact Classical.byContradiction fun hn => this (firstI_none.2 hn)
theorem first_at {l : List Vdf} (hn : (names l).Nodup) {k : Nat} (hk : k < l.length) : firstI l l[k].name = some k := by
  rcases hf : firstI l l[k].name with _ | i
  · exact absurd (List.mem_map.2 ⟨_, List.getElem_mem hk, rfl⟩) (firstI_none.1 hf)
  · obtain ⟨hi, e⟩ := firstI_some hf
    have := nod_at hn (i := i) (j := k) (by simpa [names] using hi) (by simpa [names] using hk) (by simpa [names] using e)
    rw [this]
theorem arcsU_n {l : List Vdf} (hl : l.length ≤ 12) (hn : (names l).Nodup) (hp : ∀ d, d ∈ l → ∀ p, p ∈ d.parents → p ∈ names l) : ArcsN l (names l) (arcsU l l.length) := by
  refine arcsN_of hl hn hn (fun s => Iff.rfl) hp (fun s => (firstI l s).getD 0) (fun s hs => ?_) (fun a => ?_)
  · rcases hf : firstI l s with _ | i
    · exact absurd hs (firstI_none.1 hf)
    · obtain ⟨hi, e⟩ := firstI_some hf
      exact ⟨by simpa [names] using hi, by simpa [names] using e⟩
  · unfold arcsU rowA parI
    rw [List.mem_flatMap]
    constructor
    · rintro ⟨k, hk, ha⟩
      have hk := List.mem_range.1 hk
      rw [List.getElem?_eq_getElem hk] at ha
      obtain ⟨p, hp, rfl⟩ := List.mem_map.1 ha
      refine ⟨_, List.getElem_mem hk, p, hp, ?_⟩
      show _ = (⟨(((firstI l l[k].name).getD 0 : Nat) : Int), _⟩ : Arc)
      rw [first_at hn hk]; rfl
    · rintro ⟨d, hd, p, hp, rfl⟩
      obtain ⟨k, hk, rfl⟩ := List.getElem_of_mem hd
      refine ⟨k, List.mem_range.2 hk, ?_⟩
      rw [List.getElem?_eq_getElem hk]
      refine List.mem_map.2 ⟨p, hp, ?_⟩
      show _ = (⟨(((firstI l l[k].name).getD 0 : Nat) : Int), _⟩ : Arc)
      rw [first_at hn hk]; rfl
theorem names_len (l : List Vdf) : (names l).length = l.length := by simp [names]
theorem loopQ_nil {l : List Vdf} {arcs : List Arc} (h : ArcsN l (names l) arcs) : loopQ (l.length : Int) arcs = [] ↔ loopL l.length arcs = [] := by
  have := h.right
  rw [names_len] at this
  unfold loopQ
  rw [this]
  show intL (loopL l.length arcs) = [] ↔ _
  unfold intL
  exact List.map_eq_nil_iff
theorem VRight.noLoop {l : List Vdf} (h : VRight l) (hl : l.length ≤ 12) : NoLoop l := by
  have hA := arcsU_n hl h.nod h.pn
  have := hA.noLoop h.pn
  rw [names_len] at this
  exact this.1 ((loopQ_nil hA).1 h.loop)
/-- what 'right' says, without a graph -/
theorem vright_iff {l : List Vdf} (hl : l.length ≤ 12) : VRight l ↔ (names l).Nodup ∧ (∀ d ∈ l, DOk l d) ∧ NoLoop l := by
  constructor
  · intro h; exact ⟨h.nod, h.ok, h.noLoop hl⟩
  · rintro ⟨h1, h2, h3⟩
    have hpn : ∀ d, d ∈ l → ∀ p, p ∈ d.parents → p ∈ names l := fun d hd p hp => by
      have := (h2 d hd).par p hp
      exact Classical.byContradiction fun hn => this (firstI_none.2 hn)
    have hA := arcsU_n hl h1 hpn
    have := hA.noLoop hpn
    rw [names_len] at this
    exact ⟨h1, h2, (loopQ_nil hA).2 (this.2 h3)⟩
theorem NoLoop.anti {l : List Vdf} (h : NoLoop l) {a b : ByteArray} (h1 : Srv l a b) (h2 : Srv l b a) : a = b := by
  cases h1 with
  | refl => rfl
  | head hp hs => exact absurd (hs.trans h2) (h _ _ hp)

def iN (N : List ByteArray) (s : ByteArray) : Nat := N.findIdx fun x => decide (x = s)
theorem iN_at {N : List ByteArray} {s : ByteArray} (h : s ∈ N) : ∃ hi : iN N s < N.length, N[iN N s] = s := by
  unfold iN
  have hx : ∃ x, x ∈ N ∧ decide (x = s) = true := ⟨s, h, by simp⟩
  have hi := List.findIdx_lt_length_of_exists hx
  refine ⟨hi, ?_⟩
  have := List.findIdx_getElem (w := hi)
  exact of_decide_eq_true this
def rowO (N : List ByteArray) (d : Vdf) (ps : List ByteArray) : List Arc := ps.map fun p => ⟨(iN N d.name : Int), (iN N p : Int)⟩
def arcsO (N : List ByteArray) (ds : List Vdf) : List Arc := ds.flatMap fun d => rowO N d d.parents
theorem arcsO_snoc (N : List ByteArray) (l : List Vdf) {k : Nat} (hk : k < l.length) : arcsO N (l.take (k + 1)) = arcsO N (l.take k) ++ rowO N l[k] l[k].parents := by
  unfold arcsO; rw [List.take_add_one, List.getElem?_eq_getElem hk, List.flatMap_append]; simp
theorem rowO_snoc {N : List ByteArray} {d : Vdf} {j : Nat} {P : List ByteArray} (h : j < P.length) : rowO N d (P.take (j + 1)) = rowO N d (P.take j) ++ [⟨(iN N d.name : Int), (iN N P[j] : Int)⟩] := by
  unfold rowO; rw [List.take_add_one, List.getElem?_eq_getElem h, List.map_append]; rfl
theorem arcsO_n {l : List Vdf} (hl : l.length ≤ 12) (hn : (names l).Nodup) (hp : ∀ d, d ∈ l → ∀ p, p ∈ d.parents → p ∈ names l) : ArcsN l (sortS (names l)) (arcsO (sortS (names l)) l) := by
  have hm : ∀ s, s ∈ sortS (names l) ↔ s ∈ names l := fun s => (sortS_perm _).mem_iff
  refine arcsN_of hl hn ((sortS_perm _).nodup_iff.2 hn) hm hp (iN (sortS (names l))) (fun s hs => iN_at ((hm s).2 hs)) (fun a => ?_)
  unfold arcsO rowO
  rw [List.mem_flatMap]
  constructor
  · rintro ⟨d, hd, ha⟩
    obtain ⟨p, hp, rfl⟩ := List.mem_map.1 ha
    exact ⟨d, hd, p, hp, rfl⟩
  · rintro ⟨d, hd, p, hp, rfl⟩
    exact ⟨d, hd, List.mem_map.2 ⟨p, hp, rfl⟩⟩

/-- the string at a place -/
def nmAt (N : List ByteArray) (u : Nat) : ByteArray := (N[u]?).getD ⟨#[]⟩
theorem nmAt_is {N : List ByteArray} {u : Nat} (h : u < N.length) : nmAt N u = N[u] := by unfold nmAt; rw [List.getElem?_eq_getElem h]; rfl

section
variable {l : List Vdf} {N : List ByteArray} {arcs : List Arc}
theorem ordS_of (hA : ArcsN l N arcs) (hpn : ∀ d, d ∈ l → ∀ p, p ∈ d.parents → p ∈ names l) (hnl : NoLoop l) (hAsc : AscS N) : ∀ (us : List Nat) (d : Nat → Bool) (out : List ByteArray), (∀ w (hw : w < N.length), d w = true ↔ N[w] ∈ out) → (∀ x p, x ∈ out → p ∈ par l x → p ∈ out) →
    OrdR N.length (reachR N.length arcs) d us → OrdS l out (us.map (nmAt N))
  | [], d, out, hd, hc, h => fun s hs => by
    obtain ⟨w, hw, rfl⟩ := List.getElem_of_mem ((hA.mem s).2 hs)
    exact (hd w hw).1 (h w hw)
  | u :: r, d, out, hd, hc, h => by
    obtain ⟨hu, hr, hmin, hrest⟩ := h
    have hsrv : ∀ x y, Srv l x y → x ∈ out → y ∈ out := fun x y hs => by
      induction hs with
      | refl => exact id
      | head hp _ ih => exact fun hx => ih (hc _ _ hx hp)
    have key : ∀ v (hv : v < N.length), Tj.readyB N.length (reachR N.length arcs) d v = true ↔ Rdy l out N[v] := fun v hv => by
      rw [Tj.readyB_iff]
      constructor
      · rintro ⟨h1, h2⟩
        refine ⟨(hA.mem _).1 (List.getElem_mem hv), fun hm => ?_, fun p hp => ?_⟩
        · rw [(hd v hv).2 hm] at h1; cases h1
        · obtain ⟨_, e, he, _, hpe⟩ := par_mem hp
          obtain ⟨w, hw, rfl⟩ := List.getElem_of_mem ((hA.mem p).2 (hpn e he p hpe))
          rcases h2 w hw ((reachR_iff hv).2 (.tail (.refl v) ((hA.nx hv).2 ⟨hw, hp⟩))) with h3 | h3
          · exact absurd ((hA.iff hpn hw hv).1 ((reachR_iff hw).1 h3)) (hnl _ _ hp)
          · exact (hd w hw).1 h3
      · intro hR
        refine ⟨?_, fun w hw hr => ?_⟩
        · rcases hx : d v with _ | _
          · rfl
          · exact absurd ((hd v hv).1 hx) hR.new
        · have hs := (hA.iff hpn hv hw).1 ((reachR_iff hv).1 hr)
          by_cases e : v = w
          · subst e; exact .inl hr
          · refine .inr ((hd w hw).2 ?_)
            have hne : N[v] ≠ N[w] := fun h => e (nod_at hA.nod hv hw h)
            generalize N[w] = b at hs hne
            cases hs with
            | refl => exact absurd rfl hne
            | head hp hs => exact hsrv _ _ hs (hR.par _ hp)
    rw [List.map_cons, nmAt_is hu]
    refine ⟨(key u hu).1 hr, fun y hy => ?_, ?_⟩
    · obtain ⟨v, hv, rfl⟩ := List.getElem_of_mem ((hA.mem y).2 hy.mem)
      have := hmin v hv ((key v hv).2 hy)
      rcases hx : ltS N[v] N[u] with _ | _
      · rfl
      · have := (hAsc.at hv hu).1 hx; omega
    · refine ordS_of hA hpn hnl hAsc r _ _ (fun w hw => ?_) (fun x p hx hp => ?_) hrest
      · rw [Bool.or_eq_true, decide_eq_true_eq, List.mem_append, List.mem_singleton, hd w hw]
        exact or_congr Iff.rfl ⟨fun e => by subst e; rfl, fun e => nod_at hA.nod hw hu e⟩
      · rcases List.mem_append.1 hx with hx | hx
        · exact List.mem_append_left _ (hc x p hx hp)
        · rw [List.mem_singleton] at hx
          subst hx
          exact List.mem_append_left _ (((key u hu).1 hr).par p hp)
end

/-- the parts of the graph of the sorted names -/
theorem parts_ord {l : List Vdf} (hl : l.length ≤ 12) (h : VRight l) : ∃ us : List Nat, partsQ (l.length : Int) (arcsO (sortS (names l)) l) = us.map (fun u : Nat => [(u : Int)]) ∧ (∀ u ∈ us, u < l.length) ∧ us.length ≤ l.length ∧ OrdS l [] (us.map (nmAt (sortS (names l)))) := by
  have hA := arcsO_n hl h.nod h.pn
  have hnl := h.noLoop hl
  have hlen : (sortS (names l)).length = l.length := by rw [(sortS_perm _).length_eq, names_len]
  obtain ⟨us, h1, h2⟩ := greedy_one (n := (sortS (names l)).length) (R := reachR (sortS (names l)).length (arcsO (sortS (names l)) l)) (fun v hv => (reachR_iff hv).2 (.refl v))
    (fun u v w hu hv _ h k => (reachR_iff hu).2 (((reachR_iff hu).1 h).trans ((reachR_iff hv).1 k)))
    (fun u v hu hv h1 h2 => nod_at hA.nod hu hv (hnl.anti ((hA.iff h.pn hu hv).1 ((reachR_iff hu).1 h1)) ((hA.iff h.pn hv hu).1 ((reachR_iff hv).1 h2))))
    (sortS (names l)).length (fun _ => false) (Nat.le_trans (List.length_filter_le _ _) (by simp))
  have e : partsG (sortS (names l)).length (arcsO (sortS (names l)) l) = us.map fun u => [u] := h1
  refine ⟨us, ?_, ?_, ?_, ordS_of hA h.pn hnl (sortS_asc h.nod) us (fun _ => false) [] (fun w hw => by simp) (fun x p hx => by cases hx) h2⟩
  · have hr := hA.right
    rw [hlen] at hr
    unfold partsQ
    rw [hr]
    show List.map intL (partsG l.length _) = _
    rw [hlen] at e
    rw [e, List.map_map]
    rfl
  · rw [← hlen]
    have key : ∀ (us : List Nat) (d : Nat → Bool), OrdR (sortS (names l)).length (reachR (sortS (names l)).length (arcsO (sortS (names l)) l)) d us → ∀ u ∈ us, u < (sortS (names l)).length := by
      intro us
      induction us with
      | nil => intro d _ u hu; cases hu
      | cons a r ih =>
        intro d h u hu
        rcases List.mem_cons.1 hu with rfl | hu
        · exact h.1
        · exact ih _ h.2.2.2 u hu
    exact key us _ h2
  · have := partsG_len (n := (sortS (names l)).length) (arcs := arcsO (sortS (names l)) l)
    rw [e, List.length_map, hlen] at this
    exact this

end Go.Proofs.Ytmgkoocpnakanaa.W

/-
  version's Order.
-/
namespace Go.Proofs.Ytmgkoocpnakanaa.W
open Go.RowKit Go.Maps Go.WideMaps
set_option linter.unusedVariables false

structure IsOrd (l : List Vdf) (xs : List ByteArray) : Prop where
  yes : VRight l → OrdS l [] xs
  no : ¬ VRight l → xs = []
theorem names_snoc {l : List Vdf} {k : Nat} (hk : k < l.length) : names (l.take (k + 1)) = names (l.take k) ++ [l[k].name] := by
  unfold names; rw [List.take_add_one, List.getElem?_eq_getElem hk, List.map_append]; rfl

set_option maxHeartbeats 4000000 in
set_option maxRecDepth 100000 in
theorem order_any (w : World) (v : Value) (l : List Vdf) (h : Rw 2 Vdf.E w v l) (hOk : VOk l) :
    Calls Try.prog 18 #[v] w fun e w' => ∃ (v' : Value) (n : Nat) (xs : List ByteArray), e = .returned v' ∧ w'.ownsRow w.heap.size 9 1 v' n (strs xs) ∧ n ≤ 12 ∧ IsOrd l xs ∧ Below w.heap.size w w' := by
  obtain ⟨p, c, hv⟩ := h.slice
  obtain ⟨M, hM⟩ : ∃ M, l.length = M := ⟨_, rfl⟩
  rw [hM] at hv
  subst hv
  have HO := Hd.mk hOk
  have HRt := Hd.mk (right_any w (.slice p M c) l h hOk)
  have H := Hd.mk h
  have HM := Hd.mk hM
  have hM12 : M ≤ 12 := by have := hOk.len; omega
  obtain ⟨R, hR⟩ : ∃ R, rightV l = R := ⟨_, rfl⟩
  have HR := Hd.mk hR
  rw [hR] at HRt
  clear h hM hOk hR
  go_enter Try.func18, Try.ntmps18
  go_wp2_with fail
  refine HRt.out.mono ?_
  rintro e w1 ⟨rfl, b1⟩
  have HB1 := Hd.mk b1
  clear b1 HRt
  cases R with
  | false =>
    have HNo : Hd (IsOrd l []) := ⟨⟨fun h => absurd (rightV_iff.2 h) (by rw [HR.out]; decide), fun _ => rfl⟩⟩
    go_wp2
    go_ret
    exact ⟨_, 0, [], rfl, World.ownsRow_nil _ _ _ _, Nat.zero_le _, HNo.out, HB1.out⟩
  | true =>
    have HV := Hd.mk (rightV_iff.1 HR.out)
    have HA0 : Hd (w1.ownsRow w1.heap.size 9 1 (.slice none 0 0) 0 (strs (names (l.take 0)))) := ⟨World.ownsRow_nil w1 _ _ _⟩
    go_wp2
    go_loopw [23, 3] (fun kv av wr => ∃ (k : Nat), k ≤ M ∧ kv = .int .i64 (k : Int) ∧ Hd (wr.ownsRow w1.heap.size 9 1 av k (strs (names (l.take k)))) ∧ Hd (Below w1.heap.size w1 wr)) (fun kv _ _ => M - (intOf kv).toNat)
    case atStart => exact ⟨0, Nat.zero_le _, rfl, HA0, ⟨Below.refl _ _⟩⟩
    case round =>
      clear HA0
      obtain ⟨k, hk, rfl, HA, HB⟩ := hrel
      by_cases hlt : k < M
      · have hd1 : decide ((k : Int) < (M : Int)) = true := decide_eq_true (by omega)
        have hmk : M - (intOf (.int .i64 ((k : Int) + 1))).toNat < M - (intOf (.int .i64 (k : Int))).toNat := by simp [intOf]; omega
        have hkq : k < l.length := by rw [HM.out]; exact hlt
        have hW : Below w.heap.size w wr := HB1.out.trans (HB.out.mono HB1.out.size)
        obtain ⟨g, of, cs, hpe, hg, hcl, ⟨pv, rfl, hAt⟩, hcc⟩ := H.out.at rfl (j := k) hkq
        subst hpe
        obtain ⟨pp, pc, hpv⟩ := hAt.parents.slice
        obtain ⟨PN, hPN⟩ : ∃ PN, (l[k]).parents.length = PN := ⟨_, rfl⟩
        rw [hPN] at hpv
        subst hpv
        have hsn := names_snoc hkq
        obtain ⟨X, hx⟩ : ∃ X, l[k].name = X := ⟨_, rfl⟩
        have d0 : wr.cell? ⟨g, of + k * 2, none⟩ = some (.string X) := by rw [hW.cell (p := ⟨g, of + k * 2, none⟩) hg, ← hx]; exact hcc 0 _ rfl
        have d1 : wr.cell? ⟨g, of + k * 2 + 1, none⟩ = some (.slice pp PN pc) := by rw [hW.cell (p := ⟨g, of + k * 2 + 1, none⟩) hg]; exact hcc 1 _ rfl
        rw [hx] at hsn
        obtain ⟨v', w', hrun, hown, hbel, _⟩ := str_push X (HA.out.alloc (.cells #[.string X, .slice pp PN pc] 32)) (by omega) (by have := HB.out.size; simp; omega)
        rw [show (wr.alloc (.cells #[.string X, .slice pp PN pc] 32)).heap.size = wr.heap.size + 1 by simp] at hrun
        rw [← hsn] at hown
        have HRun := Hd.mk hrun
        have HA2 := Hd.mk hown
        have HB2 := Hd.mk ((upv HB.out (.cells #[.string X, .slice pp PN pc] 32)).trans hbel)
        clear hkq hW hg hcl hAt hcc hsn hx hPN hrun hown hbel HA HB
        go_wp2_with (at_builtin; refine wp_append_run (vs := u3) (vx := .slice (some ⟨wr.heap.size + 1, 0, none⟩) 1 1) (W := (wr.alloc (.cells #[.string X, .slice pp PN pc] 32)).alloc (.cells #[.string X] 9)) rfl (Operand.tmp 27) (Operand.tmp 30) 27 rfl rfl rfl HRun.out ?_)
        go_wp2_with fail
        exact ⟨⟨k + 1, hlt, by go_num, HA2, HB2⟩, hmk⟩
      · have hd1 : decide ((k : Int) < (M : Int)) = false := decide_eq_false (by omega)
        have hkM : k = M := by omega
        subst hkM
        have hA := HA.out
        rw [List.take_of_length_le (by rw [HM.out]; exact Nat.le_refl _)] at hA
        have HA2 := Hd.mk hA
        have HSo := Hd.mk (sort_str wr w1.heap.size u3 k (names l) (by omega) hA)
        have HLt := Hd.mk hA.lt
        have HWs := Hd.mk HB.out.size
        have HBw := Hd.mk (HB1.out.trans (HB.out.mono HB1.out.size))
        obtain ⟨N, hN⟩ : ∃ N, sortS (names l) = N := ⟨_, rfl⟩
        have HN := Hd.mk hN
        rw [hN] at HSo
        clear hA HA HB hN
        go_wp2_with fail
        refine HSo.out.mono ?_
        rintro e w3 ⟨rfl, hr3, hk3⟩
        obtain ⟨pN, cN, eN⟩ := (rw_strs hr3).slice
        have hNl : N.length = k := by have := hr3.1; rw [strs_len] at this; omega
        rw [hNl] at eN
        subst eN
        have HNm := Hd.mk (rw_strs hr3)
        have HB3 : Hd (Below w.heap.size w w3) := ⟨HBw.out.trans (hk3.below HBw.out.size (fun g hg e => by have := (HLt.out g e).1; have := HB1.out.size; omega))⟩
        have HNl := Hd.mk hNl
        have HAr0 : Hd (w3.ownsRow w3.heap.size 42 2 (.slice none 0 0) 0 ((arcsO N (l.take 0)).flatMap Arc.cells)) := ⟨World.ownsRow_nil w3 _ _ _⟩
        clear hr3 hk3 HSo HLt HWs HBw HA2
        go_wp2
        go_loopw [37, 6] (fun kv av wr => ∃ (i nA : Nat), i ≤ k ∧ kv = .int .i64 (i : Int) ∧ Hd (wr.ownsRow w3.heap.size 42 2 av nA ((arcsO N (l.take i)).flatMap Arc.cells)) ∧ Hd (nA ≤ i * 6) ∧ Hd (Below w3.heap.size w3 wr)) (fun kv _ _ => k - (intOf kv).toNat)
        case atStart => exact ⟨0, 0, Nat.zero_le _, rfl, HAr0, ⟨Nat.le_refl _⟩, ⟨Below.refl _ _⟩⟩
        case round =>
          clear HAr0
          obtain ⟨i, nA, hi, rfl, HA, HAn, HB⟩ := hrel
          by_cases hlt2 : i < k
          · have hd2 : decide ((i : Int) < (k : Int)) = true := decide_eq_true (by omega)
            have hmi : k - (intOf (.int .i64 ((i : Int) + 1))).toNat < k - (intOf (.int .i64 (i : Int))).toNat := by simp [intOf]; omega
            have hiq : i < l.length := by rw [HM.out]; exact hlt2
            have hW : Below w.heap.size w wr := HB3.out.trans (HB.out.mono HB3.out.size)
            obtain ⟨g, of, cs, hpe, hg, hcl, ⟨pv, rfl, hAt⟩, hcc⟩ := H.out.at rfl (j := i) hiq
            subst hpe
            have hmemX : l[i].name ∈ N := by rw [← HN.out, (sortS_perm _).mem_iff]; exact List.mem_map.2 ⟨_, List.getElem_mem hiq, rfl⟩
            have hpn : ∀ p, p ∈ l[i].parents → p ∈ N := fun p hp => by rw [← HN.out, (sortS_perm _).mem_iff]; exact HV.out.pn _ (List.getElem_mem hiq) p hp
            obtain ⟨P, hP⟩ : ∃ P, l[i].parents = P := ⟨_, rfl⟩
            have hAp := hAt.parents
            rw [hP] at hAp hpn
            obtain ⟨pp, pc, hpv⟩ := hAp.slice
            obtain ⟨PN, hPN⟩ : ∃ PN, P.length = PN := ⟨_, rfl⟩
            rw [hPN] at hpv
            subst hpv
            have hPb := (HO.out.par _ (List.getElem_mem hiq)).1
            rw [hP, hPN] at hPb
            have hsn := arcsO_snoc N l hiq
            rw [hP] at hsn
            obtain ⟨dd, hdd⟩ : ∃ dd, l[i] = dd := ⟨_, rfl⟩
            obtain ⟨X, hx⟩ : ∃ X, l[i].name = X := ⟨_, rfl⟩
            rw [hx] at hmemX
            have d0 : wr.cell? ⟨g, of + i * 2, none⟩ = some (.string X) := by rw [hW.cell (p := ⟨g, of + i * 2, none⟩) hg, ← hx]; exact hcc 0 _ rfl
            have d1 : wr.cell? ⟨g, of + i * 2 + 1, none⟩ = some (.slice pp PN pc) := by rw [hW.cell (p := ⟨g, of + i * 2 + 1, none⟩) hg]; exact hcc 1 _ rfl
            have hdn : dd.name = X := by rw [← hdd]; exact hx
            rw [hdd] at hsn
            have hNasc : AscS N := by rw [← HN.out]; exact sortS_asc HV.out.nod
            have HBs : Hd (∀ (w' : World) (t : ByteArray), Below w3.heap.size w3 w' → t ∈ N → Calls Try.prog 30 #[.slice pN k cN, .string t] w' fun e w'' => e = .returned (.tuple #[.int .i64 (iN N t : Int), .bool true]) ∧ w'' = w') := ⟨fun w' t hb ht => by
              obtain ⟨h1, h2⟩ := iN_at ht
              exact bsrch_any w' _ N (iN N t) t (HNm.out.below strE_stays hb) (by rw [HNl.out]; omega) hNasc h1 h2⟩
            have HBX := Hd.mk (HBs.out (wr.alloc (.cells #[.string X, .slice pp PN pc] 32)) X (upv HB.out _) hmemX)
            have HPn := Hd.mk hpn
            have HAp := Hd.mk hAp
            have HSn := Hd.mk hsn
            have HPN := Hd.mk hPN
            have HDn := Hd.mk hdn
            have hA0 : ((wr.alloc (.cells #[.string X, .slice pp PN pc] 32))).ownsRow w3.heap.size 42 2 u6 nA ((arcsO N (l.take i) ++ rowO N dd (P.take 0)).flatMap Arc.cells) := by
              have e : arcsO N (l.take i) ++ rowO N dd (P.take 0) = arcsO N (l.take i) := by simp [rowO]
              rw [e]; exact HA.out.alloc _
            have HA0 := Hd.mk hA0
            have HB0 := Hd.mk (upv HB.out (.cells #[.string X, .slice pp PN pc] 32))
            obtain ⟨qx, hqx⟩ : ∃ qx, iN N X = qx := ⟨_, rfl⟩
            have HQx := Hd.mk hqx
            rw [hqx] at HBX
            clear hiq hW hg hcl hAt hcc hmemX hpn hP hAp hPN hsn hdd hx hdn hNasc hA0 HA HB hqx
            go_wp2_with fail
            refine HBX.out.mono ?_
            rintro e w5 ⟨rfl, rfl⟩
            clear HBX
            go_wp2
            clear d0 d1
            go_loopw [51, 6] (fun jv av wq => ∃ (j n2 : Nat), j ≤ PN ∧ jv = .int .i64 (j : Int) ∧ Hd (wq.ownsRow w3.heap.size 42 2 av n2 ((arcsO N (l.take i) ++ rowO N dd (P.take j)).flatMap Arc.cells)) ∧ Hd (n2 ≤ i * 6 + j) ∧ Hd (Below w3.heap.size w3 wq)) (fun jv _ _ => PN - (intOf jv).toNat)
            case atStart => exact ⟨0, nA, Nat.zero_le _, rfl, HA0, ⟨by have := HAn.out; omega⟩, HB0⟩
            case round =>
              clear HA0 HB0
              obtain ⟨j, n2, hj, rfl, HA, HA2, HB⟩ := hrel
              by_cases hjt : j < PN
              · have hd3 : decide ((j : Int) < (PN : Int)) = true := decide_eq_true (by omega)
                have hmj : PN - (intOf (.int .i64 ((j : Int) + 1))).toNat < PN - (intOf (.int .i64 (j : Int))).toNat := by simp [intOf]; omega
                have hjq : j < P.length := by rw [HPN.out]; exact hjt
                obtain ⟨gp, op, e2, hEv⟩ := RS.ever HAp.out (by omega)
                subst e2
                have cj := hEv j hjq wr (HB3.out.trans (HB.out.mono HB3.out.size))
                have hxm := HPn.out _ (List.getElem_mem hjq)
                have hrow := rowO_snoc (N := N) (d := dd) hjq
                obtain ⟨x, hx⟩ : ∃ x, P[j] = x := ⟨_, rfl⟩
                rw [hx] at cj hxm hrow
                rw [HDn.out, HQx.out] at hrow
                have HBx := Hd.mk (HBs.out wr x HB.out hxm)
                obtain ⟨qt, hqt⟩ : ∃ qt, iN N x = qt := ⟨_, rfl⟩
                rw [hqt] at hrow HBx
                obtain ⟨v', w', hrun, hA5, hb5, _⟩ := arc_push (qx : Int) (qt : Int) HA.out (by have := HA2.out; omega) HB.out.size
                have HRun := Hd.mk hrun
                have HA6 : Hd (w'.ownsRow w3.heap.size 42 2 v' (n2 + 1) ((arcsO N (l.take i) ++ rowO N dd (P.take (j + 1))).flatMap Arc.cells)) := ⟨by rw [hrow, ← List.append_assoc]; exact hA5⟩
                have HA62 : Hd (n2 + 1 ≤ i * 6 + (j + 1)) := ⟨by have := HA2.out; omega⟩
                have HB6 := Hd.mk (HB.out.trans hb5)
                clear hEv hjq hx hxm hrow hqt hrun hA5 hb5 HA HA2 HB
                go_wp2_with fail
                refine HBx.out.mono ?_
                rintro e w7 ⟨rfl, rfl⟩
                clear HBx
                go_wp2_with (at_builtin; refine wp_append_run (vs := u6) (vx := .slice (some ⟨w7.heap.size, 0, none⟩) 1 1) (W := w7.alloc (.cells #[.int .i64 qx, .int .i64 qt] 42)) rfl (Operand.tmp 61) (Operand.tmp 65) 38 rfl rfl rfl HRun.out ?_)
                go_wp2_with fail
                exact ⟨⟨j + 1, n2 + 1, hjt, by go_num, HA6, HA62, HB6⟩, hmj⟩
              · have hd3 : decide ((j : Int) < (PN : Int)) = false := decide_eq_false (by omega)
                have hA7 : wr.ownsRow w3.heap.size 42 2 u6 n2 ((arcsO N (l.take (i + 1))).flatMap Arc.cells) := by
                  have hPt : P.take j = P := List.take_of_length_le (by rw [HPN.out]; omega)
                  have := HA.out
                  rw [hPt] at this
                  rw [HSn.out]; exact this
                have HA7 := Hd.mk hA7
                have HA72 : Hd (n2 ≤ (i + 1) * 6) := ⟨by have := HA2.out; omega⟩
                clear hA7 HA HA2
                go_wp2
                exact ⟨⟨i + 1, n2, hlt2, by go_num, HA7, HA72, HB⟩, hmi⟩
          · have hd2 : decide ((i : Int) < (k : Int)) = false := decide_eq_false (by omega)
            have hik : i = k := by omega
            subst hik
            have hA := HA.out
            rw [List.take_of_length_le (by rw [HM.out]; exact Nat.le_refl _)] at hA
            have hrw := row_rw hA
            have hal : (arcsO N l).length = nA := by have := hA.1; rw [flat_len] at this; omega
            obtain ⟨us, hpq, hus, hul, hord⟩ := parts_ord HO.out.len HV.out
            rw [HN.out, HM.out] at hpq
            rw [HM.out] at hus hul
            rw [HN.out] at hord
            have HPq := Hd.mk (parts_q wr (i : Int) (by omega) u6 (arcsO N l) hrw (by have := HAn.out; omega))
            rw [hpq] at HPq
            obtain ⟨p6, c6, e6⟩ := hrw.slice
            rw [hal] at e6
            subst e6
            have HB4 := Hd.mk (HB3.out.trans (HB.out.mono HB3.out.size))
            have HB34 := Hd.mk HB.out
            have HIs : Hd (IsOrd l (us.map (nmAt N))) := ⟨⟨fun _ => hord, fun h => absurd HV.out h⟩⟩
            obtain ⟨K, hK⟩ : ∃ K, us.length = K := ⟨_, rfl⟩
            have HK := Hd.mk hK
            have HUs := Hd.mk hus
            have hK12 : K ≤ 12 := by omega
            clear hA hrw hal hpq hus hord HA HAn HB hK hul
            go_wp2_with fail
            refine HPq.out.mono ?_
            rintro e w5 ⟨v', rfl, hri, b5⟩
            obtain ⟨p5, c5, e5⟩ := Rw.slice hri
            rw [List.length_map, HK.out] at e5
            subst e5
            have HRi := Hd.mk hri
            have HB5 := Hd.mk (HB4.out.trans (b5.mono HB4.out.size))
            have HB35 := Hd.mk (HB34.out.trans (b5.mono HB34.out.size))
            have HA0 : Hd (w5.ownsRow w5.heap.size 9 1 (.slice none 0 0) 0 (strs ((us.take 0).map (nmAt N)))) := ⟨World.ownsRow_nil w5 _ _ _⟩
            clear hri b5 HPq
            go_wp2
            go_loopw [74, 15] (fun kv av wr => ∃ (j : Nat), j ≤ K ∧ kv = .int .i64 (j : Int) ∧ Hd (wr.ownsRow w5.heap.size 9 1 av j (strs ((us.take j).map (nmAt N)))) ∧ Hd (Below w5.heap.size w5 wr)) (fun kv _ _ => K - (intOf kv).toNat)
            case atStart => exact ⟨0, Nat.zero_le _, rfl, HA0, ⟨Below.refl _ _⟩⟩
            case round =>
              clear HA0
              obtain ⟨j, hj, rfl, HA, HB⟩ := hrel
              by_cases hjt : j < K
              · have hd3 : decide ((j : Int) < (K : Int)) = true := decide_eq_true (by omega)
                have hmj : K - (intOf (.int .i64 ((j : Int) + 1))).toNat < K - (intOf (.int .i64 (j : Int))).toNat := by simp [intOf]; omega
                have hjq : j < us.length := by rw [HK.out]; exact hjt
                obtain ⟨g, o, cs, hpe, hg, hcl, hE, hcc⟩ := Rw.at HRi.out rfl (j := j) (by rw [List.length_map]; exact hjq)
                subst hpe
                obtain ⟨pv, rfl, hpi⟩ := hE
                rw [List.getElem_map] at hpi
                have hu := HUs.out _ (List.getElem_mem hjq)
                have hsn : (us.take (j + 1)).map (nmAt N) = (us.take j).map (nmAt N) ++ [nmAt N us[j]] := by
                  rw [List.take_add_one, List.getElem?_eq_getElem hjq, List.map_append]; rfl
                obtain ⟨u, hux⟩ : ∃ u, us[j] = u := ⟨_, rfl⟩
                rw [hux] at hpi hu hsn
                obtain ⟨pi, ci, ei⟩ := Rw.slice hpi
                subst ei
                obtain ⟨gi, oi, e7, hEv⟩ := RI.ever hpi (by simp)
                subst e7
                have cu : wr.cell? ⟨gi, oi, none⟩ = some (.int .i64 (u : Int)) := hEv 0 (by simp) wr HB.out
                have cu0 : wr.cell? ⟨gi, oi + 0, none⟩ = some (.int .i64 (u : Int)) := cu
                have cp : wr.cell? ⟨g, o + j, none⟩ = some (.slice (some ⟨gi, oi, none⟩) 1 ci) := by
                  rw [HB.out.cell (p := ⟨g, o + j, none⟩) hg]
                  have := hcc 0 _ rfl
                  rw [Nat.mul_one, Nat.add_zero] at this
                  exact this
                have huN : u < N.length := by rw [HNl.out]; exact hu
                obtain ⟨gn, on, e8, hEn⟩ := RS.ever HNm.out (by omega)
                subst e8
                have cn := hEn u huN wr (HB35.out.trans (HB.out.mono HB35.out.size))
                rw [nmAt_is huN] at hsn
                obtain ⟨x, hx⟩ : ∃ x, N[u] = x := ⟨_, rfl⟩
                rw [hx] at cn hsn
                obtain ⟨v', w', hrun, hown, hbel, _⟩ := str_push x HA.out (by omega) HB.out.size
                rw [← hsn] at hown
                have HRun := Hd.mk hrun
                have HA2 := Hd.mk hown
                have HB2 := Hd.mk (HB.out.trans hbel)
                clear hjq hg hcl hcc hpi hsn hux hEv huN hEn hx hrun hown hbel HA HB
                go_wp2_with (at_builtin; refine wp_append_run (vs := u15) (vx := .slice (some ⟨wr.heap.size, 0, none⟩) 1 1) (W := wr.alloc (.cells #[.string x] 9)) rfl (Operand.tmp 78) (Operand.tmp 85) 27 rfl rfl rfl HRun.out ?_)
                go_wp2_with fail
                exact ⟨⟨j + 1, hjt, by go_num, HA2, HB2⟩, hmj⟩
              · have hd3 : decide ((j : Int) < (K : Int)) = false := decide_eq_false (by omega)
                have hjK : j = K := by omega
                subst hjK
                have hA := HA.out
                rw [List.take_of_length_le (by rw [HK.out]; exact Nat.le_refl _)] at hA
                have HA2 := Hd.mk (hA.mono HB5.out.size)
                have HB6 := Hd.mk (HB5.out.trans (HB.out.mono HB5.out.size))
                clear hA HA HB
                go_wp2
                go_ret
                exact ⟨u15, j, _, rfl, HA2.out, hK12, HIs.out, HB6.out⟩

end Go.Proofs.Ytmgkoocpnakanaa.W
