/-
  What a log's file holds while calls fail, flushes are lost and the machine crashes. No program.
-/
import Derived.Test.YtmcdfhihfcfbaaaJCp
import Derived.Test.YtmcdfhihfcfbaaaJFo
namespace Go.Proofs.Ytmcdfhihfcfbaaa.W
set_option linter.unusedVariables false

/-- a header of these rows: written, or never written -/
def HdrFor (h : List UInt8) (D : List ByteArray) : Prop := (D = [] ∧ h = List.replicate 16 0) ∨ h = headL (endL D) D.length
theorem HdrFor.len {h : List UInt8} {D : List ByteArray} (hh : HdrFor h D) : h.length = 16 := by
  rcases hh with ⟨_, rfl⟩ | rfl
  · simp
  · exact headL_len _ _

structure Hold (c h bd : List UInt8) : Prop where
  hd : ∀ j, j < 16 → c.getD j 0 = h.getD j 0
  body : ∀ j, j < bd.length → c.getD (16 + j) 0 = bd.getD j 0
  len : bd = [] ∨ 16 + bd.length ≤ c.length

theorem putL_getD (s : List UInt8) (k : Nat) (t : List UInt8) (i : Nat) : (putL s k t).getD i 0 = if k ≤ i ∧ i < k + t.length then t.getD (i - k) 0 else s.getD i 0 := by
  by_cases h : i < (putL s k t).length
  · rw [List.getD_eq_getElem?_getD, List.getElem?_eq_getElem h]
    simp [putL]
  · rw [putL_len] at h
    rw [List.getD_eq_getElem?_getD, List.getElem?_eq_none (by rw [putL_len]; omega), if_neg (by omega), List.getD_eq_getElem?_getD, List.getElem?_eq_none (by omega)]

section
variable {c h body : List UInt8}
theorem Hold.putBody (H : Hold c h body) {k : Nat} (t : List UInt8) (hk : 16 + body.length ≤ k) : Hold (putL c k t) h body := by
  refine ⟨fun j hj => ?_, fun j hj => ?_, H.len.imp_right fun e => by rw [putL_len]; omega⟩
  · rw [putL_getD, if_neg (by omega)]; exact H.hd j hj
  · rw [putL_getD, if_neg (by omega)]; exact H.body j hj
theorem Hold.putHead (H : Hold c h body) (t : List UInt8) (ht : t.length = 16) : Hold (putL c 0 t) t body := by
  refine ⟨fun j hj => ?_, fun j hj => ?_, H.len.imp_right fun e => by rw [putL_len]; omega⟩
  · rw [putL_getD, if_pos (by omega), Nat.sub_zero]
  · rw [putL_getD, if_neg (by omega)]; exact H.body j hj
theorem Hold.extend (H : Hold c h body) (t : List UInt8) : Hold (putL c (16 + body.length) t) h (body ++ t) := by
  refine ⟨fun j hj => ?_, fun j hj => ?_, .inr (by rw [putL_len, List.length_append]; omega)⟩
  · rw [putL_getD, if_neg (by omega)]; exact H.hd j hj
  · rw [List.length_append] at hj
    by_cases hb : j < body.length
    · rw [putL_getD, if_neg (by omega), H.body j hb]
      rw [List.getD_eq_getElem?_getD, List.getD_eq_getElem?_getD, List.getElem?_append_left hb]
    · rw [putL_getD, if_pos (by omega)]
      rw [List.getD_eq_getElem?_getD, List.getD_eq_getElem?_getD, List.getElem?_append_right (by omega)]
      congr 2; omega
theorem Hold.shrink {b2 : List UInt8} (H : Hold c h (body ++ b2)) : Hold c h body := by
  refine ⟨H.hd, fun j hj => ?_, ?_⟩
  · rw [H.body j (by rw [List.length_append]; omega), List.getD_eq_getElem?_getD, List.getD_eq_getElem?_getD, List.getElem?_append_left hj]
  · rcases H.len with e | e
    · exact .inl (List.append_eq_nil_iff.1 e).1
    · rw [List.length_append] at e; exact .inr (by omega)
end

theorem forms_prefix {D B : List ByteArray} (h : D <+: B) : ∃ t, formsL B = formsL D ++ t := by
  obtain ⟨t, rfl⟩ := h
  exact ⟨formsL t, formsL_append _ _⟩
theorem Hold.prefix {c h : List UInt8} {D B : List ByteArray} (H : Hold c h (formsL B)) (p : D <+: B) : Hold c h (formsL D) := by
  obtain ⟨t, e⟩ := forms_prefix p
  rw [e] at H
  exact H.shrink

theorem numOf_zero (c : List UInt8) (h : ∀ j, j < 16 → c.getD j 0 = (List.replicate 16 (0 : UInt8)).getD j 0) (hl : 16 ≤ c.length) : numOf c = 0 := by
  have : c.take 8 = List.replicate 8 0 := by
    apply List.ext_getElem
    · simp; omega
    · intro j h1 h2
      rw [List.length_replicate] at h2
      have := h j (by omega)
      rw [List.getD_eq_getElem?_getD, List.getElem?_eq_getElem (by omega), List.getD_eq_getElem?_getD, List.getElem?_replicate, if_pos (by omega)] at this
      rw [List.getElem_take, List.getElem_replicate]
      exact this
  rw [numOf, this]
  decide

/-- what is held is read -/
theorem Hold.opens {c h : List UInt8} {D : List ByteArray} (H : Hold c h (formsL D)) (hh : HdrFor h D) (he : endL D ≤ 9223372036854775807) : openL c = some D := by
  have nilD : formsL D = [] → D = [] := fun e => by
    have := len_le_forms D
    rw [e] at this
    exact List.eq_nil_of_length_eq_zero (by simp at this; omega)
  by_cases h16 : c.length < 16
  · rw [openL_empty c h16]
    rcases H.len with e | e
    · rw [nilD e]
    · omega
  · rcases hh with ⟨rfl, rfl⟩ | rfl
    · rw [openL_cases c h16, if_pos (numOf_zero c H.hd (by omega))]
    · have hl := headL_len (endL D) D.length
      have e : c = fileL D ++ c.drop (endL D) := by
        have hle : endL D ≤ c.length := by
          rcases H.len with e | e
          · unfold endL; rw [e]; simp; omega
          · exact e
        conv => lhs; rw [← List.take_append_drop (endL D) c]
        congr 1
        apply List.ext_getElem
        · rw [List.length_take, fileL_len]; omega
        · intro j h1 h2
          rw [List.length_take] at h1
          rw [List.getElem_take]
          by_cases hj : j < 16
          · have := H.hd j hj
            rw [List.getD_eq_getElem?_getD, List.getElem?_eq_getElem (by omega), List.getD_eq_getElem?_getD, List.getElem?_eq_getElem (by omega)] at this
            have e1 : (fileL D)[j] = (headL (endL D) D.length)[j]'(by omega) := by
              have e2 : (fileL D)[j]? = (headL (endL D) D.length)[j]? := by rw [fileL, List.getElem?_append_left (by omega)]
              rw [List.getElem?_eq_getElem h2, List.getElem?_eq_getElem (by omega)] at e2
              exact Option.some.inj e2
            rw [e1]
            simpa using this
          · have hj2 : j - 16 < (formsL D).length := by unfold endL at h1; omega
            have := H.body (j - 16) hj2
            rw [show 16 + (j - 16) = j by omega, List.getD_eq_getElem?_getD, List.getElem?_eq_getElem (by omega), List.getD_eq_getElem?_getD, List.getElem?_eq_getElem hj2] at this
            have e1 : (fileL D)[j] = (formsL D)[j - 16] := by
              have e2 : (fileL D)[j]? = (formsL D)[j - 16]? := by rw [fileL, List.getElem?_append_right (by omega), hl]
              rw [List.getElem?_eq_getElem h2, List.getElem?_eq_getElem hj2] at e2
              exact Option.some.inj e2
            rw [e1]
            simpa using this
      rw [e]
      exact openL_file D _ he

/-- pieces lie behind where they were written -/
theorem pieces_at (f : Nat) : ∀ (n k : Nat) (s : List UInt8), ∀ p ∈ piecesF f n k s, p.f = f ∧ k ≤ p.at_
  | 0, _, _, p, hp => by simp [piecesF] at hp
  | n + 1, k, s, p, hp => by
    rw [piecesF] at hp
    split at hp
    · simp at hp
    · rcases List.mem_cons.1 hp with rfl | hp
      · exact ⟨rfl, Nat.le_refl _⟩
      · have := pieces_at f n _ _ p hp
        exact ⟨this.1, by omega⟩
theorem pieces_head (f : Nat) (h : List UInt8) (hl : h.length = 16) : pieces f 0 h = [⟨f, 0, h⟩] := by
  unfold pieces
  rw [hl, piecesF]
  have hne : h ≠ [] := by intro e; rw [e] at hl; cases hl
  rw [if_neg hne, hl, List.take_of_length_le (by omega), List.drop_eq_nil_of_le (by omega)]
  rfl

def hdOf (D : List ByteArray) : List UInt8 := headL (endL D) D.length
theorem hdOf_len (D : List ByteArray) : (hdOf D).length = 16 := headL_len _ _

/-- what a crash leaves of a log's file -/
theorem hold_stays {f : Nat} {hD : List UInt8} {B : List ByteArray} {H : Option (List ByteArray)} (hf : f < 8) : ∀ (q : List Pn) (ks : List Int) (ls : List (List UInt8)), ls.length = 8 →
    (∀ p ∈ q, p.f < 8 ∧ (p.f = f → 16 + (formsL B).length ≤ p.at_ ∨ ∃ H', H = some H' ∧ p = ⟨f, 0, hdOf H'⟩)) → ∀ h, (h = hD ∨ ∃ H', H = some H' ∧ h = hdOf H') → Hold (ls.getD f []) h (formsL B) →
    ∃ h', (h' = hD ∨ ∃ H', H = some H' ∧ h' = hdOf H') ∧ Hold ((stays ls q ks).getD f []) h' (formsL B)
  | [], ks, ls, hl, hq, h, hh, H0 => ⟨h, hh, by cases ks <;> exact H0⟩
  | p :: q, [], ls, hl, hq, h, hh, H0 => ⟨h, hh, H0⟩
  | p :: q, k :: ks, ls, hl, hq, h, hh, H0 => by
    obtain ⟨hp8, hpc⟩ := hq p (by simp)
    have hq' : ∀ p ∈ q, p.f < 8 ∧ (p.f = f → 16 + (formsL B).length ≤ p.at_ ∨ ∃ H', H = some H' ∧ p = ⟨f, 0, hdOf H'⟩) := fun x hx => hq x (by simp [hx])
    have getD_set : ∀ (i j : Nat) (a : List UInt8), i < ls.length → (ls.set i a).getD j [] = if i = j then a else ls.getD j [] := fun i j a hi => by
      rw [List.getD_eq_getElem?_getD, List.getD_eq_getElem?_getD, List.getElem?_set]
      split
      · rename_i h; subst h; simp
      · rfl
    have step : ∀ t, (t = p.s ∨ t = p.s.take (min p.s.length 16)) → ∃ h', (h' = hD ∨ ∃ H', H = some H' ∧ h' = hdOf H') ∧ Hold ((ls.set p.f (putL (ls.getD p.f []) p.at_ t)).getD f []) h' (formsL B) := fun t ht => by
      rw [getD_set _ _ _ (by omega)]
      split
      · rename_i e
        subst e
        rcases hpc rfl with hb | ⟨H', e1, e2⟩
        · exact ⟨h, hh, H0.putBody t hb⟩
        · have hs : t = hdOf H' := by
            rw [e2] at ht
            rcases ht with rfl | rfl
            · rfl
            · show (hdOf H').take (min (hdOf H').length 16) = _
              rw [List.take_of_length_le (by rw [hdOf_len]; decide)]
          have ha : p.at_ = 0 := by rw [e2]
          rw [ha, hs]
          exact ⟨hdOf H', .inr ⟨H', e1, rfl⟩, H0.putHead _ (hdOf_len _)⟩
      · exact ⟨h, hh, H0⟩
    rw [stays]
    by_cases k1 : k = 1
    · rw [if_pos k1]
      obtain ⟨h', a, b⟩ := step p.s (.inl rfl)
      exact hold_stays hf q ks _ (by simpa using hl) hq' h' a b
    · rw [if_neg k1]
      by_cases k2 : k = 2
      · rw [if_pos k2]
        obtain ⟨h', a, b⟩ := step _ (.inr rfl)
        exact hold_stays hf q ks _ (by simpa using hl) hq' h' a b
      · rw [if_neg k2]
        exact hold_stays hf q ks ls hl hq' h hh H0

structure Inv (σ : St) (l : Lg) (D : List ByteArray) (H : Option (List ByteArray)) : Prop where
  ok : Ok σ
  up : σ.down = false
  f6 : l.f ≤ 6
  last : ∃ hD, HdrFor hD D ∧ Hold (σ.lasts.getD l.f []) hD (formsL (H.getD D)) ∧ ∃ hF, (H = none → hF = hD) ∧ (∀ H', H = some H' → hF = hdOf H') ∧ Hold (σ.files.getD l.f []) hF (formsL l.rows)
  q : ∀ p ∈ σ.queue, p.f = l.f → 16 + (formsL (H.getD D)).length ≤ p.at_ ∨ ∃ H', H = some H' ∧ p = ⟨l.f, 0, hdOf H'⟩
  pD : D <+: H.getD D
  pB : H.getD D <+: l.rows
  sure : l.sure ≤ D.length
  hs : ∀ H', H = some H' → l.sure < H'.length
  e : endL l.rows ≤ 16777216

/-- crashed: the file is that of the rows x -/
structure Crashed (σ : St) (f : Nat) (x : List ByteArray) : Prop where
  ok : Ok σ
  down : σ.down = true
  armed : σ.armed = 0
  q : σ.queue = []
  same : σ.files = σ.lasts
  last : ∃ h, HdrFor h x ∧ Hold (σ.lasts.getD f []) h (formsL x)
  e : endL x ≤ 16777216

/-- the rows that may be read: the durable ones, or those of a header that is pending -/
def May (D : List ByteArray) (H : Option (List ByteArray)) (x : List ByteArray) : Prop := x = D ∨ H = some x

theorem endL_prefix {a b : List ByteArray} (h : a <+: b) : endL a ≤ endL b := by
  obtain ⟨t, e⟩ := forms_prefix h
  unfold endL
  rw [e, List.length_append]; omega

section
variable {σ : St} {l : Lg} {D : List ByteArray} {H : Option (List ByteArray)}

theorem Inv.crash (h : Inv σ l D H) (ks : List Int) : ∃ x, May D H x ∧ Crashed (crashS σ ks) l.f x := by
  obtain ⟨hD, h1, h2, _⟩ := h.last
  have hB := endL_prefix h.pB
  have hDe := endL_prefix h.pD
  have he := h.e
  obtain ⟨h', a, b⟩ := hold_stays (f := l.f) (hD := hD) (B := H.getD D) (H := H) (by have := h.f6; omega) σ.queue ks σ.lasts h.ok.l8 (fun p hp => ⟨(h.ok.q p hp).1, h.q p hp⟩) hD (.inl rfl) h2
  have hok := h.ok.crash ks
  have hc : crashS σ ks = { σ with lasts := stays σ.lasts σ.queue ks, files := stays σ.lasts σ.queue ks, queue := [], down := true, armed := 0 } := by
    unfold crashS; rw [h.up]; rfl
  rcases a with rfl | ⟨H', rfl, rfl⟩
  · exact ⟨D, .inl rfl, hok, by rw [hc], by rw [hc], by rw [hc], by rw [hc], ⟨h', h1, by rw [hc]; exact b.prefix h.pD⟩, by omega⟩
  · exact ⟨H', .inr rfl, hok, by rw [hc], by rw [hc], by rw [hc], by rw [hc], ⟨hdOf H', .inr rfl, by rw [hc]; exact b⟩, Nat.le_trans hB he⟩

/-- only what is counted changes -/
theorem Inv.flags (h : Inv σ l D H) {σ' : St} (h1 : σ'.lasts = σ.lasts) (h2 : σ'.files = σ.files) (h3 : σ'.queue = σ.queue) (h4 : σ'.down = false) : Inv σ' l D H := by
  have ok' : Ok σ' := ⟨h1 ▸ h.ok.l8, h2 ▸ h.ok.f8, h1 ▸ h.ok.ll, h2 ▸ h.ok.fl, h3 ▸ h.ok.q⟩
  exact ⟨ok', h4, h.f6, by rw [h1, h2]; exact h.last, by rw [h3]; exact h.q, h.pD, h.pB, h.sure, h.hs, h.e⟩
theorem endsS_parts (σ : St) : (endsS σ).lasts = σ.lasts ∧ (endsS σ).files = σ.files ∧ (endsS σ).queue = σ.queue ∧ (endsS σ).down = σ.down ∧ (endsS σ).lost = σ.lost ∧ (endsS σ).keep = σ.keep := by
  unfold endsS; split <;> exact ⟨rfl, rfl, rfl, rfl, rfl, rfl⟩
theorem Inv.ends (h : Inv σ l D H) : Inv (endsS σ) l D H := by
  have := endsS_parts σ
  exact h.flags this.1 this.2.1 this.2.2.1 (this.2.2.2.1.trans h.up)
theorem Inv.arm (h : Inv σ l D H) (n : Int) (ks : List Int) : Inv (armS σ n ks) l D H := h.flags rfl rfl rfl h.up
theorem Inv.lose (h : Inv σ l D H) (n : Int) : Inv (loseS σ n) l D H := h.flags rfl rfl rfl h.up

theorem Crashed.back {f : Nat} {x : List ByteArray} (h : Crashed σ f x) (hf : f ≤ 6) {σ' : St} (h1 : σ'.lasts = σ.lasts) (h2 : σ'.files = σ.files) (h3 : σ'.queue = σ.queue) (h4 : σ'.down = false) : Inv σ' ⟨f, x, x.length⟩ x none ∧ openP σ' (f : Int) = (0, x) := by
  obtain ⟨hd, a, b⟩ := h.last
  have ok' : Ok σ' := ⟨h1 ▸ h.ok.l8, h2 ▸ h.ok.f8, h1 ▸ h.ok.ll, h2 ▸ h.ok.fl, h3 ▸ h.ok.q⟩
  refine ⟨⟨ok', h4, hf, ⟨hd, a, by rw [h1]; exact b, hd, fun _ => rfl, fun _ e => (by cases e), by rw [h2, h.same]; exact b⟩, by rw [h3, h.q]; intro p hp; simp at hp, List.prefix_rfl, List.prefix_rfl, Nat.le_refl _, fun _ e => (by cases e), h.e⟩, ?_⟩
  have ho := b.opens a (by have := h.e; omega)
  unfold openP
  have hm : mayS σ' (f : Int) = 0 := by unfold mayS; rw [h4, isF_of (by omega) (by omega)]; rfl
  rw [if_neg (by omega), hm, if_neg (by decide), Int.toNat_natCast, h2, h.same, ho]

/-- another file is written, settled -/
theorem Inv.otherSettle (h : Inv σ l D H) {g : Nat} (hg : g ≠ l.f) (s : List UInt8) (hs : s.length ≤ 16777216) : Inv (settleS σ g s) l D H := by
  have getD_set : ∀ (ls : List (List UInt8)) (a : List UInt8), (ls.set g a).getD l.f [] = ls.getD l.f [] := fun ls a => by
    rw [List.getD_eq_getElem?_getD, List.getD_eq_getElem?_getD, List.getElem?_set_ne hg]
  refine ⟨h.ok.settle g hs, h.up, h.f6, ?_, fun p hp => h.q p (List.mem_filter.1 hp).1, h.pD, h.pB, h.sure, h.hs, h.e⟩
  show ∃ hD, HdrFor hD D ∧ Hold ((σ.lasts.set g s).getD l.f []) hD _ ∧ ∃ hF, _ ∧ _ ∧ Hold ((σ.files.set g s).getD l.f []) hF _
  rw [getD_set, getD_set]
  exact h.last
theorem Inv.otherWrite (h : Inv σ l D H) {g k : Nat} (hg : g ≠ l.f) (hg8 : g < 8) (s : List UInt8) (hs : k + s.length ≤ 16777216) : Inv (addS σ g k s) l D H := by
  have getD_set : ∀ (ls : List (List UInt8)) (a : List UInt8), (ls.set g a).getD l.f [] = ls.getD l.f [] := fun ls a => by
    rw [List.getD_eq_getElem?_getD, List.getD_eq_getElem?_getD, List.getElem?_set_ne hg]
  refine ⟨h.ok.add hg8 hs, h.up, h.f6, ?_, fun p hp hpf => ?_, h.pD, h.pB, h.sure, h.hs, h.e⟩
  · show ∃ hD, HdrFor hD D ∧ Hold (σ.lasts.getD l.f []) hD _ ∧ ∃ hF, _ ∧ _ ∧ Hold ((σ.files.set g (putL (σ.files.getD g []) k s)).getD l.f []) hF _
    rw [getD_set]
    exact h.last
  · rcases List.mem_append.1 hp with hp | hp
    · exact h.q p hp hpf
    · exact absurd ((pieces_at g _ _ _ p hp).1.symm.trans hpf) hg
end

end Go.Proofs.Ytmcdfhihfcfbaaa.W
