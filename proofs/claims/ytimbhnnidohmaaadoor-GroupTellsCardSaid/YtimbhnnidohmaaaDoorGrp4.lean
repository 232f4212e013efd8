/-
  The walk of group.read.
-/
import Derived.Test.YtimbhnnidohmaaaDoorGrp3
import Derived.Test.YtimbhnnidohmaaaDoorOrd3
namespace Go.Proofs.YtimbhnnidohmaaaDoor.W
open Go.RowKit
set_option linter.unusedVariables false

theorem infoStr : (Tryd.prog.info? 9).map (fun i => (i.zero, i.size, i.bytes)) = some (some (.string ⟨#[]⟩), 1, 16) := by kernel_rfl
/-- a copy that is being read -/
structure CopSt (w : World) (hx : Nat) (wr : World) (i : Nat) (nv fv : Value) (ns fs : List ByteArray) : Prop where
  b : Blk wr (hx + 1) 59 [.int .i64 i, nv, fv]
  r : Blk wr hx 59 [.int .i64 0, .slice none 0 0, .slice none 0 0]
  n : Own wr (hx + 2) 9 nv (strsV ns)
  f : Own wr (hx + 2) 9 fv (strsV fs)
  a : ∀ g, nv.ownBlock = some g → fv.ownBlock = some g → False
  k : Below hx w wr
  h : hx = w.heap.size

theorem CopSt.next {w : World} {hx : Nat} {wr w' : World} {i : Nat} {nv fv : Value} {ns fs : List ByteArray} (h : CopSt w hx wr i nv fv ns fs) (k : Keeps (fun _ => False) wr w') : CopSt w hx w' i nv fv ns fs :=
  ⟨k.blk h.b (fun h => h), k.blk h.r (fun h => h), h.n.keeps k (fun _ _ h => h), h.f.keeps k (fun _ _ h => h), h.a, h.k.trans (k.below (h.h ▸ h.k.size) (fun _ _ h => h)), h.h⟩

theorem CopSt.addName {w : World} {hx : Nat} {wr : World} {i : Nat} {nv fv : Value} {ns fs : List ByteArray} (h : CopSt w hx wr i nv fv ns fs) (s : ByteArray) (hl : ns.length ≤ 1000000) :
    ∃ v' w', (Builtin.append_ #[57, 57] 57 #[nv, .slice (some ⟨wr.heap.size, 0, none⟩) 1 1]).run Tryd.prog (wr.alloc (.cells #[.string s] 9)) = .ok v' w' ∧ w'.cell? ⟨hx + 1, 1, none⟩ = some nv ∧ w'.frozen? ⟨hx + 1, 1, none⟩ = false ∧ Below hx w w' ∧ Below hx w (w'.setCell ⟨hx + 1, 1, none⟩ v') ∧ CopSt w hx (w'.setCell ⟨hx + 1, 1, none⟩ v') i v' fv (ns ++ [s]) fs := by
  obtain ⟨i0, hi, hz0, hz1, hz2⟩ := info_parts infoStr
  have h1 := h.next ((Keeps.refl (fun _ => False) wr).alloc (.cells #[.string s] 9))
  have hw := wr.heap.size
  obtain ⟨v', w', hr, hO, hk, hd⟩ := run_app (P := Tryd.prog) (wr.alloc (.cells #[.string s] 9)) 57 57 9 Tryd.underlying57 hi hz0 hz1 hz2 rfl nv (strsV ns) [.string s] h1.n wr.heap.size 1
    (fun j u hj => by
      have hb := Blk.new wr 9 [.string s]
      exact hb.at hj) (fun u hu => by simp at hu; subst hu; rfl) (by rw [strsV_len]; show ns.length + 1 ≤ maxLen; unfold maxLen; omega) (by rw [strsV_len]; show (ns.length + 1) * 16 ≤ _; omega) (by have := h1.b.lt; omega)
  have nb : ∀ g, nv.ownBlock = some g → hx + 2 ≤ g := fun g hg => (h1.n.lt hg).1
  have hbw : Blk w' (hx + 1) 59 [.int .i64 i, nv, fv] := hk.blk h1.b (fun e => by have := nb _ e; omega)
  have hrw : Blk w' hx 59 [.int .i64 0, .slice none 0 0, .slice none 0 0] := hk.blk h1.r (fun e => by have := nb _ e; omega)
  have hfw : Own w' (hx + 2) 9 fv (strsV fs) := h1.f.keeps hk (fun g hg e => h.a g e hg)
  have hkb : Below hx w w' := h1.k.trans (hk.below (h.h ▸ h1.k.size) (fun g hg e => by have := nb _ e; omega))
  have K : Keeps (· = hx + 1) w' (w'.setCell ⟨hx + 1, 1, none⟩ v') := (Keeps.refl (· = hx + 1) w').setCell (p := ⟨hx + 1, 1, none⟩) (.inr rfl) _
  have hb2 : Below hx w (w'.setCell ⟨hx + 1, 1, none⟩ v') := hkb.trans (K.below (h.h ▸ hkb.size) (fun g hg e => by omega))
  rw [strsV_snoc] at hO
  have vb : ∀ g, v'.ownBlock = some g → hx + 2 ≤ g := fun g hg => (hO.lt hg).1
  refine ⟨v', w', hr, hbw.at (j := 1) rfl, hbw.free 1, hkb, hb2, hbw.set 1 v', K.blk hrw (by omega), hO.keeps K (fun g hg e => by have := vb _ hg; omega), hfw.keeps K (fun g hg e => by have := (hfw.lt hg).1; omega), fun g hg hf => ?_, hb2, h.h⟩
  rcases hd with hd | hd
  · exact h.a g (hd ▸ hg) hf
  · rw [hd] at hg
    injection hg with hg
    have h2 := (h.f.lt hf).2
    simp at hg
    omega

theorem CopSt.addForm {w : World} {hx : Nat} {wr : World} {i : Nat} {nv fv : Value} {ns fs : List ByteArray} (h : CopSt w hx wr i nv fv ns fs) (s : ByteArray) (hl : fs.length ≤ 1000000) :
    ∃ v' w', (Builtin.append_ #[57, 57] 57 #[fv, .slice (some ⟨wr.heap.size, 0, none⟩) 1 1]).run Tryd.prog (wr.alloc (.cells #[.string s] 9)) = .ok v' w' ∧ w'.cell? ⟨hx + 1, 2, none⟩ = some fv ∧ w'.frozen? ⟨hx + 1, 2, none⟩ = false ∧ Below hx w w' ∧ Below hx w (w'.setCell ⟨hx + 1, 2, none⟩ v') ∧ CopSt w hx (w'.setCell ⟨hx + 1, 2, none⟩ v') i nv v' ns (fs ++ [s]) := by
  obtain ⟨i0, hi, hz0, hz1, hz2⟩ := info_parts infoStr
  have h1 := h.next ((Keeps.refl (fun _ => False) wr).alloc (.cells #[.string s] 9))
  obtain ⟨v', w', hr, hO, hk, hd⟩ := run_app (P := Tryd.prog) (wr.alloc (.cells #[.string s] 9)) 57 57 9 Tryd.underlying57 hi hz0 hz1 hz2 rfl fv (strsV fs) [.string s] h1.f wr.heap.size 1
    (fun j u hj => by
      have hb := Blk.new wr 9 [.string s]
      exact hb.at hj) (fun u hu => by simp at hu; subst hu; rfl) (by rw [strsV_len]; show fs.length + 1 ≤ maxLen; unfold maxLen; omega) (by rw [strsV_len]; show (fs.length + 1) * 16 ≤ _; omega) (by have := h1.b.lt; omega)
  have nb : ∀ g, fv.ownBlock = some g → hx + 2 ≤ g := fun g hg => (h1.f.lt hg).1
  have hbw : Blk w' (hx + 1) 59 [.int .i64 i, nv, fv] := hk.blk h1.b (fun e => by have := nb _ e; omega)
  have hrw : Blk w' hx 59 [.int .i64 0, .slice none 0 0, .slice none 0 0] := hk.blk h1.r (fun e => by have := nb _ e; omega)
  have hnw : Own w' (hx + 2) 9 nv (strsV ns) := h1.n.keeps hk (fun g hg e => h.a g hg e)
  have hkb : Below hx w w' := h1.k.trans (hk.below (h.h ▸ h1.k.size) (fun g hg e => by have := nb _ e; omega))
  have K : Keeps (· = hx + 1) w' (w'.setCell ⟨hx + 1, 2, none⟩ v') := (Keeps.refl (· = hx + 1) w').setCell (p := ⟨hx + 1, 2, none⟩) (.inr rfl) _
  have hb2 : Below hx w (w'.setCell ⟨hx + 1, 2, none⟩ v') := hkb.trans (K.below (h.h ▸ hkb.size) (fun g hg e => by omega))
  rw [strsV_snoc] at hO
  have vb : ∀ g, v'.ownBlock = some g → hx + 2 ≤ g := fun g hg => (hO.lt hg).1
  refine ⟨v', w', hr, hbw.at (j := 2) rfl, hbw.free 2, hkb, hb2, hbw.set 2 v', K.blk hrw (by omega), hnw.keeps K (fun g hg e => by have := (hnw.lt hg).1; omega), hO.keeps K (fun g hg e => by have := vb _ hg; omega), fun g hn hg => ?_, hb2, h.h⟩
  rcases hd with hd | hd
  · exact h.a g hn (hd ▸ hg)
  · rw [hd] at hg
    injection hg with hg
    have h2 := (h.n.lt hn).2
    simp at hg
    omega

theorem CopSt.fin {w : World} {hx : Nat} {wr : World} {i : Nat} {nv fv : Value} {ns fs : List ByteArray} (h : CopSt w hx wr i nv fv ns fs) (hn : ns.length ≤ 1000000) (hf : fs.length ≤ 1000000) :
    Blk (((wr.setCell ⟨hx, 0, none⟩ (.int .i64 i)).setCell ⟨hx, 1, none⟩ nv).setCell ⟨hx, 2, none⟩ fv) hx 59 [.int .i64 i, nv, fv] ∧ CpAt (((wr.setCell ⟨hx, 0, none⟩ (.int .i64 i)).setCell ⟨hx, 1, none⟩ nv).setCell ⟨hx, 2, none⟩ fv) (.agg #[.int .i64 i, nv, fv]) ⟨i, ns, fs⟩ ∧
    Below hx w (((wr.setCell ⟨hx, 0, none⟩ (.int .i64 i)).setCell ⟨hx, 1, none⟩ nv).setCell ⟨hx, 2, none⟩ fv) := by
  have K : Keeps (· = hx) wr (((wr.setCell ⟨hx, 0, none⟩ (.int .i64 i)).setCell ⟨hx, 1, none⟩ nv).setCell ⟨hx, 2, none⟩ fv) := (((Keeps.refl (· = hx) wr).setCell (p := ⟨hx, 0, none⟩) (.inr rfl) _).setCell (p := ⟨hx, 1, none⟩) (.inr rfl) _).setCell (p := ⟨hx, 2, none⟩) (.inr rfl) _
  refine ⟨((h.r.set 0 _).set 1 _).set 2 _, ⟨⟨nv, fv, rfl, (h.n.keeps K (fun g hg e => by have := (h.n.lt hg).1; omega)).down (Nat.zero_le _), (h.f.keeps K (fun g hg e => by have := (h.f.lt hg).1; omega)).down (Nat.zero_le _)⟩, hn, hf⟩, h.k.trans (K.below (h.h ▸ h.k.size) (fun g hg e => by omega))⟩

/-- an object's cells among its row's -/
theorem ob_cells {w : World} {g of i : Nat} {o : Ob} {x1 x2 x3 x4 x5 x6 x7 x8 x9 x10 : Value} (h : ∀ c u, (o.cells x1 x2 x3 x4 x5 x6 x7 x8 x9 x10)[c]? = some u → w.cell? ⟨g, of + i * 11 + c, none⟩ = some u) :
    w.cell? ⟨g, of + i * 11, none⟩ = some (.string o.name) ∧ w.cell? ⟨g, of + i * 11 + 1, none⟩ = some x1 ∧ w.cell? ⟨g, of + i * 11 + 2, none⟩ = some x2 ∧ w.cell? ⟨g, of + i * 11 + 3, none⟩ = some x3 ∧ w.cell? ⟨g, of + i * 11 + 4, none⟩ = some x4 ∧ w.cell? ⟨g, of + i * 11 + 5, none⟩ = some x5 ∧ w.cell? ⟨g, of + i * 11 + 6, none⟩ = some x6 ∧ w.cell? ⟨g, of + i * 11 + 7, none⟩ = some x7 ∧ w.cell? ⟨g, of + i * 11 + 8, none⟩ = some x8 ∧ w.cell? ⟨g, of + i * 11 + 9, none⟩ = some x9 ∧ w.cell? ⟨g, of + i * 11 + 10, none⟩ = some x10 :=
  ⟨h 0 _ rfl, h 1 _ rfl, h 2 _ rfl, h 3 _ rfl, h 4 _ rfl, h 5 _ rfl, h 6 _ rfl, h 7 _ rfl, h 8 _ rfl, h 9 _ rfl, h 10 _ rfl⟩

structure ObCells (w : World) (g c : Nat) (o : Ob) (x1 x2 x3 x4 x5 x6 x7 x8 x9 x10 : Value) : Prop where
  c0 : w.cell? ⟨g, c, none⟩ = some (.string o.name)
  c1 : w.cell? ⟨g, c + 1, none⟩ = some x1
  c2 : w.cell? ⟨g, c + 2, none⟩ = some x2
  c3 : w.cell? ⟨g, c + 3, none⟩ = some x3
  c4 : w.cell? ⟨g, c + 4, none⟩ = some x4
  c5 : w.cell? ⟨g, c + 5, none⟩ = some x5
  c6 : w.cell? ⟨g, c + 6, none⟩ = some x6
  c7 : w.cell? ⟨g, c + 7, none⟩ = some x7
  c8 : w.cell? ⟨g, c + 8, none⟩ = some x8
  c9 : w.cell? ⟨g, c + 9, none⟩ = some x9
  c10 : w.cell? ⟨g, c + 10, none⟩ = some x10
theorem ObCells.below {w w' : World} {B g c : Nat} {o : Ob} {x1 x2 x3 x4 x5 x6 x7 x8 x9 x10 : Value} (h : ObCells w g c o x1 x2 x3 x4 x5 x6 x7 x8 x9 x10) (hb : Below B w w') (hg : g < B) : ObCells w' g c o x1 x2 x3 x4 x5 x6 x7 x8 x9 x10 := by
  have e : ∀ k, w'.cell? ⟨g, k, none⟩ = w.cell? ⟨g, k, none⟩ := fun k => hb.cell (p := ⟨g, k, none⟩) hg
  exact ⟨(e _).trans h.c0, (e _).trans h.c1, (e _).trans h.c2, (e _).trans h.c3, (e _).trans h.c4, (e _).trans h.c5, (e _).trans h.c6, (e _).trans h.c7, (e _).trans h.c8, (e _).trans h.c9, (e _).trans h.c10⟩
theorem Rw.obj {w : World} {v : Value} {l : List Ob} (h : Rw 11 Ob.E w v l) {p : Option Addr} {n c : Nat} (hv : v = .slice p n c) {i : Nat} (hi : i < l.length) :
    ∃ g o x1 x2 x3 x4 x5 x6 x7 x8 x9 x10, p = some ⟨g, o, none⟩ ∧ g < w.heap.size ∧ l[i].At w x1 x2 x3 x4 x5 x6 x7 x8 x9 x10 ∧ ObCells w g (o + i * 11) l[i] x1 x2 x3 x4 x5 x6 x7 x8 x9 x10 := by
  obtain ⟨g, o, cs, hp, hg, _, hE, hc⟩ := h.at hv hi
  obtain ⟨x1, x2, x3, x4, x5, x6, x7, x8, x9, x10, rfl, hA⟩ := hE
  obtain ⟨c0, c1, c2, c3, c4, c5, c6, c7, c8, c9, c10⟩ := ob_cells hc
  exact ⟨g, o, x1, x2, x3, x4, x5, x6, x7, x8, x9, x10, hp, hg, hA, c0, c1, c2, c3, c4, c5, c6, c7, c8, c9, c10⟩

theorem gcopied_zero (w : World) : (zeroValue 59).run Tryd.prog w = .ok (.agg #[.int .i64 0, .slice none 0 0, .slice none 0 0]) w := Tryd.zeroValue59 w

set_option maxHeartbeats 4000000 in
set_option maxRecDepth 100000 in
theorem gread_any (w : World) (hT : Tabs w) (v : Value) (l : List Ob) (i : Nat) (sv : Value) (ks : List Int) (hi : i < l.length) (hll : l.length ≤ 1000000) (hR : Rw 11 Ob.E w v l) (hK : Rw 1 intE w sv ks) (hin : ∀ s ∈ ks, 0 ≤ s ∧ s < (l[i].secs.length : Int)) (hkl : ks.length ≤ 1000)
    (hok : l[i].Ok) (hb : ∀ s ∈ l[i].secs, s.bytes.size ≤ 800000) :
    Calls Tryd.prog 17 #[v, .int .i64 i, sv] w fun e w' => ∃ u, e = .returned u ∧ CpAt w' u ⟨i, ks.map (nameS l[i]), ks.map (formS l[i])⟩ ∧ Below w.heap.size w w' := by
  obtain ⟨p, c, rfl⟩ := hR.slice
  obtain ⟨pk, ck, rfl⟩ := hK.slice
  obtain ⟨g, of, x1, x2, x3, x4, x5, x6, x7, x8, x9, x10, rfl, hg, hA, hC⟩ := hR.obj rfl hi
  obtain ⟨o, ho⟩ : ∃ o, l[i] = o := ⟨_, rfl⟩
  rw [ho] at hin hok hb hA hC ⊢
  obtain ⟨p1, c1, rfl⟩ := hA.secs.slice
  have hcs : (o.cells (.slice p1 o.secs.length c1) x2 x3 x4 x5 x6 x7 x8 x9 x10).toArray = #[.string o.name, .slice p1 o.secs.length c1, x2, x3, x4, x5, x6, x7, x8, x9, x10] := rfl
  have HForm := Hd.mk (fun (w' : World) (h : Below w.heap.size w w') (s : Int) (hs : ∃ k, s = Int.ofNat k ∧ k < o.secs.length) => form_any w' (hT.below h) o _ x2 x3 x4 x5 x6 x7 x8 x9 x10 s (hA.below h) hok.secs hok.rels hok.secsI (fun t ht => by
    obtain ⟨k, rfl, hk⟩ := hs
    have h2 := secAt_in hk
    have h3 : secAt o (Int.ofNat k) = some o.secs[k] := h2
    rw [h3] at ht
    have := Option.some.inj ht
    exact this ▸ hb _ (List.getElem_mem hk)))
  rw [hcs] at HForm
  have HA := Hd.mk hA
  have HC := Hd.mk hC
  have HIn := Hd.mk hin
  obtain ⟨n, hn⟩ : ∃ n, ks.length = n := ⟨_, rfl⟩
  obtain ⟨M, hM⟩ : ∃ M, l.length = M := ⟨_, rfl⟩
  obtain ⟨N, hN⟩ : ∃ N, o.secs.length = N := ⟨_, rfl⟩
  have HNs := Hd.mk (And.intro hn (And.intro hN hM))
  rw [hN] at HA HC HForm HIn
  have hNl : N ≤ 140737488351232 := by rw [← hN]; exact hok.secs
  rw [hn] at hK hkl
  have HK := Hd.mk hK
  have hG := Hd.mk hg
  rw [hM] at hi hll
  rw [hM, hn]
  have hz := gcopied_zero
  clear hR hT hok hb hA hC hin hK hcs hn hM hN hg ho
  obtain ⟨hx, hhx⟩ : ∃ hx, w.heap.size = hx := ⟨_, rfl⟩
  have HS0 : Hd (CopSt w hx ((w.alloc (.cells #[.int .i64 0, .slice none 0 0, .slice none 0 0] 59)).alloc (.cells #[.int .i64 (i : Int), .slice none 0 0, .slice none 0 0] 59)) i (.slice none 0 0) (.slice none 0 0) [] []) := ⟨by
    have h1 := Blk.new w 59 [.int .i64 0, .slice none 0 0, .slice none 0 0]
    have h2 := Blk.new (w.alloc (.cells #[.int .i64 0, .slice none 0 0, .slice none 0 0] 59)) 59 [.int .i64 (i : Int), .slice none 0 0, .slice none 0 0]
    rw [← hhx]
    exact ⟨by simpa using h2, h1.alloc _, Own.nil _ _ _, Own.nil _ _ _, (fun g hg _ => by cases hg), (by go_grown), rfl⟩⟩
  go_enter Tryd.func17, Tryd.ntmps17
  go_wp2
  go_loopw [14] (fun iv wr => ∃ (j : Nat) (nv fv : Value), j ≤ n ∧ iv = .int .i64 j ∧ Hd (CopSt w hx wr i nv fv ((ks.take j).map (nameS o)) ((ks.take j).map (formS o)))) (fun iv _ => n - (intOf iv).toNat)
  case atStart => exact ⟨0, _, _, Nat.zero_le _, rfl, HS0⟩
  case round =>
    clear HS0
    obtain ⟨j, nv, fv, hj, rfl, HS⟩ := hrel
    have hkb : Hd (Below w.heap.size w wr) := ⟨by rw [hhx]; exact HS.out.k⟩
    by_cases hlt : j < n
    · have hjl : j < ks.length := by rw [HNs.out.1]; exact hlt
      obtain ⟨gk, ok, cs, hpk, hgk, _, hE, hc⟩ := (HK.out.below intE_stays hkb.out).at rfl (j := j) hjl
      obtain rfl := hpk
      obtain rfl : cs = [.int .i64 ks[j]] := hE
      have k0 := hc 0 _ rfl
      rw [Nat.mul_one, Nat.add_zero] at k0
      have hsin := HIn.out _ (List.getElem_mem hjl)
      have ht1 : (ks.take (j + 1)).map (nameS o) = (ks.take j).map (nameS o) ++ [nameS o ks[j]] := by rw [List.take_succ_eq_append_getElem hjl, List.map_append]; rfl
      have ht2 : (ks.take (j + 1)).map (formS o) = (ks.take j).map (formS o) ++ [formS o ks[j]] := by rw [List.take_succ_eq_append_getElem hjl, List.map_append]; rfl
      obtain ⟨s, hs⟩ : ∃ s, ks[j] = s := ⟨_, rfl⟩
      rw [hs] at k0 hsin ht1 ht2
      obtain ⟨k, rfl⟩ := Int.eq_ofNat_of_zero_le hsin.1
      have hkN : k < N := by have := hsin.2; omega
      obtain ⟨g1, o1, cs, hp1, hg1, _, hE1, hc1⟩ := HA.out.secs.at rfl (j := k) (by rw [HNs.out.2.1]; exact hkN)
      obtain rfl := hp1
      obtain rfl : cs = (o.secs[k]'(by rw [HNs.out.2.1]; exact hkN)).cells := hE1
      have q0 := hc1 0 _ rfl
      rw [Nat.add_zero] at q0
      have hnm : (o.secs[k]'(by rw [HNs.out.2.1]; exact hkN)).name = nameS o (k : Int) := by unfold nameS secD; rw [secAt_in (by rw [HNs.out.2.1]; exact hkN)]
      rw [hnm] at q0
      obtain ⟨nm, hnm'⟩ : ∃ nm, nameS o (k : Int) = nm := ⟨_, rfl⟩
      rw [hnm'] at q0 ht1
      have HQ0 := Hd.mk (And.intro q0 hg1)
      have HFm := Hd.mk (fun (w' : World) (h : Below w.heap.size w w') => HForm.out w' h (k : Int) ⟨k, rfl, hkN⟩)
      obtain ⟨fm, hfm⟩ : ∃ fm, formS o (k : Int) = fm := ⟨_, rfl⟩
      rw [hfm] at ht2
      have hfm2 : (⟨(formL o (k : Int)).toArray⟩ : ByteArray) = fm := hfm
      rw [hfm2] at HFm
      have HT12 := Hd.mk (And.intro ht1 ht2)
      have hlen : ((ks.take j).map (nameS o)).length ≤ 1000000 ∧ ((ks.take j).map (formS o)).length ≤ 1000000 := by simp; omega
      obtain ⟨ns, hns⟩ : ∃ ns, (ks.take j).map (nameS o) = ns := ⟨_, rfl⟩
      obtain ⟨fs, hfs⟩ : ∃ fs, (ks.take j).map (formS o) = fs := ⟨_, rfl⟩
      rw [hns, hfs] at HS HT12 hlen
      have HLen := Hd.mk hlen
      have hms : n - (intOf (.int .i64 ((j : Int) + 1))).toNat < n - (intOf (.int .i64 (j : Int))).toNat := by simp [intOf]; omega
      clear hc hc1 hgk hg1 hs hsin ht1 ht2 hnm hnm' hfm hfm2 hns hfs hlen HForm
      have cb1 := HS.out.b.at (j := 1) rfl
      have HS1 := Hd.mk (HS.out.next (Keeps.refl (fun _ => False) wr).drew)
      obtain ⟨v1, w3, hr1, hcl1, hfr1, hbl1, hbl2, hS2⟩ := HS1.out.addName nm HLen.out.1
      have HR1 := Hd.mk hr1
      have HB1 := Hd.mk (And.intro hbl1 hbl2)
      have HS2 := Hd.mk hS2
      have cb1a : ∀ ob, (wr.alloc ob).cell? ⟨hx + 1, 1, none⟩ = some nv := fun ob => by rw [World.cell?_alloc_some _ _ _ (by rw [cb1]; rfl)]; exact cb1
      have hiM : (i : Int) < (M : Int) := by omega
      have hkN2 : (k : Int) < (N : Int) := by omega
      have HObs : Hd (∀ w', Below w.heap.size w w' → ObCells w' g (of + i * 11) o (.slice (some ⟨g1, o1, none⟩) N c1) x2 x3 x4 x5 x6 x7 x8 x9 x10 ∧ w'.cell? ⟨g1, o1 + k * 6, none⟩ = some (.string nm)) := ⟨fun w' h => ⟨HC.out.below h hG.out, by rw [h.cell (p := ⟨g1, o1 + k * 6, none⟩) HQ0.out.2]; exact HQ0.out.1⟩⟩
      have hw1 : Below w.heap.size w wr.drew := hkb.out.trans (Below.refl _ _).drew
      clear hr1 hbl1 hbl2 hS2
      go_upto_region 5 with (fail)
      refine wp_region_lin3 default (fun w' => Below w.heap.size w w') [.free 0, .free 2, .free 3, .free 4, .free 5, .free 6, .free 7, .free 8, .free 9, .free 10, .fl 1 [11], .one 12, .free 13, .one 14] (by kernel_rfl) (by kernel_rfl) rfl (by kernel_rfl) (by kernel_rfl) hw1 ?_
      repeat
        refine lin3_free (v := ?_) (by rfl) ?_ ?_
        rotate_left
        · intro w' hSw
          obtain ⟨⟨d0, d1, d2, d3, d4, d5, d6, d7, d8, d9, d10⟩, dq⟩ := HObs.out w' hSw
          simp only [List.getD_cons_zero, List.getD_cons_succ]
          go_simp
          first | done | with_reducible rfl
        simp only [Act.put, List.getD_cons_zero, List.getD_cons_succ, List.setIfInBounds_toArray, List.set_cons_zero, List.set_cons_succ]
      obtain ⟨pv1, cv1, rfl⟩ := (Rw.of_own_strs HS2.out.n).slice
      obtain ⟨lv1, hlv1⟩ : ∃ lv1, (ns ++ [nm]).length = lv1 := ⟨_, rfl⟩
      rw [hlv1] at HS2 HB1 HR1
      have hb3 : Below w.heap.size w w3 := by rw [hhx]; exact HB1.out.1
      have hb4 : Below w.heap.size w (w3.setCell ⟨hx + 1, 1, none⟩ (.slice pv1 lv1 cv1)) := by rw [hhx]; exact HB1.out.2
      have hwa : ∀ ob, Below w.heap.size w (wr.alloc ob).drew := fun ob => (hkb.out.trans ((Below.refl _ _).alloc hkb.out.size ob)).trans (Below.refl _ _).drew
      refine lin3_fl (getB_intro (fun K hK => ?_)) (getB_intro (fun K hK => ?_))
      all_goals simp only [List.getD_cons_zero, List.getD_cons_succ]
      all_goals go_simp
      all_goals first | refine hK.out _ _ hw1 ?_ | refine hK.out _ _ (hwa _) ?_
      all_goals clear hK K
      all_goals first | refine seq_cons (getB_intro (fun K hK => ?_)) | refine fl_nil (getB_intro (fun K hK => ?_))
      all_goals simp only [List.getD_cons_zero, List.getD_cons_succ]
      all_goals go_simp
      all_goals refine hK.out _ _ (hwa _) ?_
      all_goals clear hK K
      all_goals try refine seq_nil ?_
      all_goals refine lin3_one (fun K hK => ?_)
      all_goals refine step_append_run (by rfl) (Operand.tmp 19) (Operand.tmp 29) 57 (by rfl) nv (.slice (some ⟨wr.heap.size, 0, none⟩) 1 1) _ (by rfl) (by rfl) HR1.out ?_
      all_goals refine hK.out _ _ hb3 ?_
      all_goals clear hK K
      all_goals simp only [Act.put, List.getD_cons_zero, List.getD_cons_succ, List.setIfInBounds_toArray, List.set_cons_zero, List.set_cons_succ]
      all_goals refine lin3_free (v := .pointer (some ⟨hx + 1, 1, none⟩)) (by rfl) ?_ ?_
      all_goals first | (intro w' hSw; simp only [List.getD_cons_zero, List.getD_cons_succ]; go_simp; done) | skip
      all_goals simp only [Act.put, List.getD_cons_zero, List.getD_cons_succ, List.setIfInBounds_toArray, List.set_cons_zero, List.set_cons_succ]
      all_goals refine lin3_one (fun K hK => ?_)
      all_goals simp only [List.getD_cons_zero, List.getD_cons_succ]
      all_goals go_simp
      all_goals refine hK.out _ _ hb4 ?_
      all_goals clear hK K
      all_goals refine NoPanic.normal ?_
      all_goals
        have hb4' := hb4
        have HS2' := HS2
        generalize w3.setCell ⟨hx + 1, 1, none⟩ (.slice pv1 lv1 cv1) = w4 at hb4' HS2' ⊢
        clear hb4 hb3 hcl1 hfr1 HR1 HB1 HS1 cb1 cb1a hw1 hwa HS2
        have HS3 := HS2'
        have HW4 := Hd.mk hb4'
        clear HS2' hb4'
        have hw5 : Below w.heap.size w w4.drew := HW4.out.trans (Below.refl _ _).drew
        have cb2 := HS3.out.b.at (j := 2) rfl
        have cb2d : w4.drew.cell? ⟨hx + 1, 2, none⟩ = some fv := cb2
        go_wp2_with fail
        refine wp_region_lin3 default (fun w' => Below w.heap.size w w') [.free 0, .free 2, .free 3, .free 4, .free 5, .free 6, .fl 1 [7, 8], .one 9, .free 10, .one 11] (by kernel_rfl) (by kernel_rfl) rfl (by kernel_rfl) (by kernel_rfl) hw5 ?_
        repeat
          refine lin3_free (v := ?_) (by rfl) ?_ ?_
          rotate_left
          · intro w' hSw
            obtain ⟨⟨d0, d1, d2, d3, d4, d5, d6, d7, d8, d9, d10⟩, dq⟩ := HObs.out w' hSw
            simp only [List.getD_cons_zero, List.getD_cons_succ]
            go_simp
            first | done | with_reducible rfl
          simp only [Act.put, List.getD_cons_zero, List.getD_cons_succ, List.setIfInBounds_toArray, List.set_cons_zero, List.set_cons_succ]
        refine lin3_fl (getB_intro (fun K hK => ?_)) (getB_intro (fun K hK => ?_))
        · simp only [List.getD_cons_zero, List.getD_cons_succ]
          go_simp
          refine hK.out _ _ hw5 ?_
          clear hK K
          refine seq_cons (getB_intro (fun K hK => ?_))
          simp only [List.getD_cons_zero, List.getD_cons_succ]
          go_simp
          refine (HFm.out _ hw5).mono ?_
          rintro e w6 ⟨rfl, hb6⟩
          dsimp only
          have HS6 := Hd.mk ((HS3.out.next (Keeps.refl (fun _ => False) w4).drew).next (below_keeps hb6))
          have hw6 : Below w.heap.size w w6 := hw5.trans (hb6.mono hw5.size)
          have hwb : ∀ ob, Below w.heap.size w (w6.alloc ob) := fun ob => hw6.trans ((Below.refl _ _).alloc hw6.size ob)
          refine hK.out _ _ hw6 ?_
          clear hK K hb6
          refine seq_cons (getB_intro (fun K hK => ?_))
          simp only [List.getD_cons_zero, List.getD_cons_succ]
          go_simp
          refine hK.out _ _ (hwb _) ?_
          clear hK K
          refine seq_nil ?_
          obtain ⟨v2, w7, hr2, hcl2, hfr2, hbl3, hbl4, hS7⟩ := HS6.out.addForm fm HLen.out.2
          obtain ⟨pv2, cv2, rfl⟩ := (Rw.of_own_strs hS7.f).slice
          have HT7 := Hd.mk (And.intro hr2 (And.intro hbl3 (And.intro hbl4 hS7)))
          clear hr2 hbl3 hbl4 hS7
          obtain ⟨lv2, hlv2⟩ : ∃ lv2, (fs ++ [fm]).length = lv2 := ⟨_, rfl⟩
          rw [hlv2] at HT7
          have hb7 : Below w.heap.size w w7 := by rw [hhx]; exact HT7.out.2.1
          have hb8 : Below w.heap.size w (w7.setCell ⟨hx + 1, 2, none⟩ (.slice pv2 lv2 cv2)) := by rw [hhx]; exact HT7.out.2.2.1
          refine lin3_one (fun K hK => ?_)
          refine step_append_run (by rfl) (Operand.tmp 33) (Operand.tmp 40) 57 (by rfl) fv (.slice (some ⟨w6.heap.size, 0, none⟩) 1 1) _ (by rfl) (by rfl) HT7.out.1 ?_
          refine hK.out _ _ hb7 ?_
          clear hK K
          simp only [Act.put, List.getD_cons_zero, List.getD_cons_succ, List.setIfInBounds_toArray, List.set_cons_zero, List.set_cons_succ]
          refine lin3_free (v := .pointer (some ⟨hx + 1, 2, none⟩)) (by rfl) ?_ ?_
          · intro w' hSw
            simp only [List.getD_cons_zero, List.getD_cons_succ]
            go_simp
          simp only [Act.put, List.getD_cons_zero, List.getD_cons_succ, List.setIfInBounds_toArray, List.set_cons_zero, List.set_cons_succ]
          refine lin3_one (fun K hK => ?_)
          simp only [List.getD_cons_zero, List.getD_cons_succ]
          go_simp
          refine hK.out _ _ hb8 ?_
          clear hK K
          refine NoPanic.normal ?_
          clear hb7 hb8 hcl2 hfr2 hw5 hw6 hwb cb2 cb2d
          go_wp2
          go_roundw
          case rel => exact ⟨j + 1, _, _, hlt, by go_num, ⟨by rw [HT12.out.1, HT12.out.2]; exact HT7.out.2.2.2⟩⟩
          case measure => exact hms
        · simp only [List.getD_cons_zero, List.getD_cons_succ]
          go_simp
          refine (HFm.out _ hw5).mono ?_
          rintro e w6 ⟨rfl, hb6⟩
          dsimp only
          have HS6 := Hd.mk ((HS3.out.next (Keeps.refl (fun _ => False) w4).drew).next (below_keeps hb6))
          have hw6 : Below w.heap.size w w6 := hw5.trans (hb6.mono hw5.size)
          have hwb : ∀ ob, Below w.heap.size w (w6.alloc ob) := fun ob => hw6.trans ((Below.refl _ _).alloc hw6.size ob)
          have cb6 := HS6.out.b.at (j := 2) rfl
          have cb6a : ∀ ob, (w6.alloc ob).cell? ⟨hx + 1, 2, none⟩ = some fv := fun ob => by rw [World.cell?_alloc_some _ _ _ (by rw [cb6]; rfl)]; exact cb6
          refine hK.out _ _ hw6 ?_
          clear hK K hb6
          obtain ⟨v2, w7, hr2, hcl2, hfr2, hbl3, hbl4, hS7⟩ := HS6.out.addForm fm HLen.out.2
          obtain ⟨pv2, cv2, rfl⟩ := (Rw.of_own_strs hS7.f).slice
          have HT7 := Hd.mk (And.intro hr2 (And.intro hbl3 (And.intro hbl4 hS7)))
          clear hr2 hbl3 hbl4 hS7
          refine fl_cons (getB_intro (fun K hK => ?_)) (getB_intro (fun K hK => ?_))
          · simp only [List.getD_cons_zero, List.getD_cons_succ]
            go_simp
            refine hK.out _ _ hw6 ?_
            clear hK K
            refine seq_cons (getB_intro (fun K hK => ?_))
            simp only [List.getD_cons_zero, List.getD_cons_succ]
            go_simp
            refine hK.out _ _ (hwb _) ?_
            clear hK K
            refine seq_nil ?_
            obtain ⟨lv2, hlv2⟩ : ∃ lv2, (fs ++ [fm]).length = lv2 := ⟨_, rfl⟩
            rw [hlv2] at HT7
            have hb7 : Below w.heap.size w w7 := by rw [hhx]; exact HT7.out.2.1
            have hb8 : Below w.heap.size w (w7.setCell ⟨hx + 1, 2, none⟩ (.slice pv2 lv2 cv2)) := by rw [hhx]; exact HT7.out.2.2.1
            refine lin3_one (fun K hK => ?_)
            refine step_append_run (by rfl) (Operand.tmp 33) (Operand.tmp 40) 57 (by rfl) fv (.slice (some ⟨w6.heap.size, 0, none⟩) 1 1) _ (by rfl) (by rfl) HT7.out.1 ?_
            refine hK.out _ _ hb7 ?_
            clear hK K
            simp only [Act.put, List.getD_cons_zero, List.getD_cons_succ, List.setIfInBounds_toArray, List.set_cons_zero, List.set_cons_succ]
            refine lin3_free (v := .pointer (some ⟨hx + 1, 2, none⟩)) (by rfl) ?_ ?_
            · intro w' hSw
              simp only [List.getD_cons_zero, List.getD_cons_succ]
              go_simp
            simp only [Act.put, List.getD_cons_zero, List.getD_cons_succ, List.setIfInBounds_toArray, List.set_cons_zero, List.set_cons_succ]
            refine lin3_one (fun K hK => ?_)
            simp only [List.getD_cons_zero, List.getD_cons_succ]
            go_simp
            refine hK.out _ _ hb8 ?_
            clear hK K
            refine NoPanic.normal ?_
            clear hb7 hb8 hcl2 hfr2 hw5 hw6 hwb cb2 cb2d
            go_wp2
            go_roundw
            case rel => exact ⟨j + 1, _, _, hlt, by go_num, ⟨by rw [HT12.out.1, HT12.out.2]; exact HT7.out.2.2.2⟩⟩
            case measure => exact hms
          · simp only [List.getD_cons_zero, List.getD_cons_succ]
            go_simp
            refine hK.out _ _ (hwb _) ?_
            clear hK K
            refine fl_nil (getB_intro (fun K hK => ?_))
            simp only [List.getD_cons_zero, List.getD_cons_succ]
            go_simp
            refine hK.out _ _ (hwb _) ?_
            clear hK K
            obtain ⟨lv2, hlv2⟩ : ∃ lv2, (fs ++ [fm]).length = lv2 := ⟨_, rfl⟩
            rw [hlv2] at HT7
            have hb7 : Below w.heap.size w w7 := by rw [hhx]; exact HT7.out.2.1
            have hb8 : Below w.heap.size w (w7.setCell ⟨hx + 1, 2, none⟩ (.slice pv2 lv2 cv2)) := by rw [hhx]; exact HT7.out.2.2.1
            refine lin3_one (fun K hK => ?_)
            refine step_append_run (by rfl) (Operand.tmp 33) (Operand.tmp 40) 57 (by rfl) fv (.slice (some ⟨w6.heap.size, 0, none⟩) 1 1) _ (by rfl) (by rfl) HT7.out.1 ?_
            refine hK.out _ _ hb7 ?_
            clear hK K
            simp only [Act.put, List.getD_cons_zero, List.getD_cons_succ, List.setIfInBounds_toArray, List.set_cons_zero, List.set_cons_succ]
            refine lin3_free (v := .pointer (some ⟨hx + 1, 2, none⟩)) (by rfl) ?_ ?_
            · intro w' hSw
              simp only [List.getD_cons_zero, List.getD_cons_succ]
              go_simp
            simp only [Act.put, List.getD_cons_zero, List.getD_cons_succ, List.setIfInBounds_toArray, List.set_cons_zero, List.set_cons_succ]
            refine lin3_one (fun K hK => ?_)
            simp only [List.getD_cons_zero, List.getD_cons_succ]
            go_simp
            refine hK.out _ _ hb8 ?_
            clear hK K
            refine NoPanic.normal ?_
            clear hb7 hb8 hcl2 hfr2 hw5 hw6 hwb cb2 cb2d
            go_wp2
            go_roundw
            case rel => exact ⟨j + 1, _, _, hlt, by go_num, ⟨by rw [HT12.out.1, HT12.out.2]; exact HT7.out.2.2.2⟩⟩
            case measure => exact hms
    · have hjn : j = n := by omega
      subst hjn
      have hd : decide ((j : Int) < (j : Int)) = false := by simp
      have HF : Hd ((ks.take j).map (nameS o) = ks.map (nameS o) ∧ (ks.take j).map (formS o) = ks.map (formS o)) := ⟨by rw [← HNs.out.1, List.take_length]; exact ⟨rfl, rfl⟩⟩
      rw [HF.out.1, HF.out.2] at HS
      obtain ⟨pn, cn, rfl⟩ := (Rw.of_own_strs HS.out.n).slice
      obtain ⟨pf, cf, rfl⟩ := (Rw.of_own_strs HS.out.f).slice
      obtain ⟨ln, hln⟩ : ∃ ln, (ks.map (nameS o)).length = ln := ⟨_, rfl⟩
      obtain ⟨lf, hlf⟩ : ∃ lf, (ks.map (formS o)).length = lf := ⟨_, rfl⟩
      rw [hln, hlf] at HS
      rw [List.length_map] at hln hlf
      have e0 := HS.out.b.at (j := 0) rfl
      have e1 := HS.out.b.at (j := 1) rfl
      have e2 := HS.out.b.at (j := 2) rfl
      have r0 := HS.out.r.at (j := 0) rfl
      have r1 := HS.out.r.at (j := 1) rfl
      have r2 := HS.out.r.at (j := 2) rfl
      have f0 := HS.out.r.free 0
      have f1 := HS.out.r.free 1
      have f2 := HS.out.r.free 2
      have ra1 := (HS.out.r.set 0 (.int .i64 (i : Int))).at (j := 1) rfl
      have ra2 := (HS.out.r.set 0 (.int .i64 (i : Int))).free 1
      have rb1 := ((HS.out.r.set 0 (.int .i64 (i : Int))).set 1 (.slice pn ln cn)).at (j := 2) rfl
      have rb2 := ((HS.out.r.set 0 (.int .i64 (i : Int))).set 1 (.slice pn ln cn)).free 2
      have HFin := Hd.mk (HS.out.fin (by rw [List.length_map, HNs.out.1]; omega) (by rw [List.length_map, HNs.out.1]; omega))
      have hres := HFin.out.1.is
      have HR1 := Hd.mk hres
      clear HS hres hln hlf
      go_wp2
      ((try simp only [Exit.inBlock, Exit.then]); refine bodyPost_ret (results_cell_row rfl _ _ hx 59 _ (0, 0) _ rfl HR1.out Tryd.underlying59 rfl (by kernel_rfl)) rfl ?_)
      exact ⟨_, rfl, HFin.out.2.1, by rw [hhx]; exact HFin.out.2.2⟩

end Go.Proofs.YtimbhnnidohmaaaDoor.W
