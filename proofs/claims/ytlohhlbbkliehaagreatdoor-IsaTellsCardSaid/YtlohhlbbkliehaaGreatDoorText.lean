/-
  The walk of Text.
-/
import Derived.Test.YtlohhlbbkliehaaGreatDoorUses
import Derived.Lib.ItoaLen
import Derived.Lib.AtoiErrMem
namespace Go.Proofs.YtlohhlbbkliehaaGreatDoor.W
open Go.RowKit
set_option linter.unusedVariables false

theorem infoStr9 : (Tryz.prog.info? 9).map (fun i => (i.zero, i.size, i.bytes)) = some (some (.string ⟨#[]⟩), 1, 16) := by kernel_rfl

/-- an operand's words -/
def opT (ch : UInt8) (n : Int) : List UInt8 := if ch = 73 then Lib.itoa n else 114 :: Lib.itoa n
def opsT (a b c m : Int) (l : List UInt8) : List (List UInt8) := l.map fun ch => opT ch (opd a b c m ch)
def textL (op a b c m : Int) : List UInt8 := if rightB op a b c m then Lib.trimSpace (nameL op.toNat ++ [32] ++ Lib.join (opsT a b c m (opersL op.toNat)) [44, 32]) else []

theorem opd_i64 {a b c m : Int} {op : Int} (h : RightP op a b c m) (ch : UInt8) : -9223372036854775808 ≤ opd a b c m ch ∧ opd a b c m ch ≤ 9223372036854775807 := by
  have := h.a; have := h.b; have := h.c; have := h.m
  unfold opd
  split
  · omega
  · split
    · omega
    · split <;> omega
theorem opT_len (ch : UInt8) (n : Int) (h : -9223372036854775808 ≤ n ∧ n ≤ 9223372036854775807) : (opT ch n).length ≤ 22 := by
  have := Lib.itoa_length_le n h.1 h.2
  unfold opT
  split
  · omega
  · rw [List.length_cons]; omega
theorem dec_ascii : ∀ (u : Nat), ∀ x ∈ Lib.decDigits u, x.toNat < 128
  | u, x, hx => by
    rw [Lib.decDigits] at hx
    split at hx
    · rename_i h
      rw [List.mem_singleton.1 hx]
      have : (UInt8.ofNat (48 + u)).toNat = 48 + u := by simp; omega
      omega
    · rename_i h
      rcases List.mem_append.1 hx with hx | hx
      · exact dec_ascii (u / 10) x hx
      · rw [List.mem_singleton.1 hx]
        have : (UInt8.ofNat (48 + u % 10)).toNat = 48 + u % 10 := by simp; omega
        omega
termination_by u => u
decreasing_by omega
theorem itoa_ascii (n : Int) : ∀ x ∈ Lib.itoa n, x.toNat < 128 := by
  intro x hx
  unfold Lib.itoa at hx
  split at hx
  · rcases List.mem_cons.1 hx with rfl | hx
    · decide
    · exact dec_ascii _ x hx
  · exact dec_ascii _ x hx
theorem opT_ascii (ch : UInt8) (n : Int) : ∀ x ∈ opT ch n, x.toNat < 128 := by
  intro x hx
  unfold opT at hx
  split at hx
  · exact itoa_ascii n x hx
  · rcases List.mem_cons.1 hx with rfl | hx
    · decide
    · exact itoa_ascii n x hx
theorem join_mem {xs : List (List UInt8)} {sep : List UInt8} {x : UInt8} (h : x ∈ Lib.join xs sep) : x ∈ sep ∨ ∃ y ∈ xs, x ∈ y := by
  unfold Lib.join List.intercalate at h
  obtain ⟨y, hy, hx⟩ := List.mem_flatten.1 h
  have : ∀ (l : List (List UInt8)), y ∈ l.intersperse sep → y = sep ∨ y ∈ l := by
    intro l
    induction l with
    | nil => intro h; simp at h
    | cons a l ih =>
      intro h
      cases l with
      | nil => simp at h; exact .inr (by simp [h])
      | cons b l =>
        rw [List.intersperse_cons_cons] at h
        rcases List.mem_cons.1 h with h | h
        · exact .inr (by simp [h])
        · rcases List.mem_cons.1 h with h | h
          · exact .inl h
          · rcases ih h with h | h
            · exact .inl h
            · exact .inr (List.mem_cons_of_mem _ h)
  rcases this xs hy with h | h
  · exact .inl (h ▸ hx)
  · exact .inr ⟨y, h, hx⟩
theorem join_len : ∀ (xs : List (List UInt8)) (sep : List UInt8) (k : Nat), (∀ x ∈ xs, x.length ≤ k) → (Lib.join xs sep).length ≤ xs.length * (k + sep.length)
  | [], sep, k, _ => by simp [Lib.join_nil]
  | [x], sep, k, h => by
    rw [Lib.join_one]
    have := h x (by simp)
    simp; omega
  | x :: y :: r, sep, k, h => by
    have ih := join_len (y :: r) sep k (fun z hz => h z (List.mem_cons_of_mem _ hz))
    have hx := h x (by simp)
    have e : Lib.join (x :: y :: r) sep = x ++ (sep ++ Lib.join (y :: r) sep) := by
      unfold Lib.join List.intercalate
      rw [List.intersperse_cons_cons]
      simp
    rw [e, List.length_append, List.length_append, List.length_cons, Nat.add_mul, Nat.one_mul]
    omega
theorem words_ok (n : Nat) (h : n < 31) : (∀ x ∈ nameL n, x.toNat < 128) ∧ (nameL n).length ≤ 100 ∧ (∀ ch ∈ opersL n, ch = 65 ∨ ch = 66 ∨ ch = 67 ∨ ch = 73) ∧ (opersL n).length ≤ 4 := by
  have key : ((List.range 31).all fun n => (nameL n).all (fun x => decide (x.toNat < 128)) && (decide ((nameL n).length ≤ 100) && ((opersL n).all (fun ch => decide (ch = 65 ∨ ch = 66 ∨ ch = 67 ∨ ch = 73)) && decide ((opersL n).length ≤ 4)))) = true := by decide +kernel
  have := List.all_eq_true.1 key n (List.mem_range.2 h)
  simp only [Bool.and_eq_true, List.all_eq_true, decide_eq_true_eq] at this
  exact ⟨this.1, this.2.1, this.2.2.1, this.2.2.2⟩

def strs (l : List (List UInt8)) : List Value := l.map fun x => .string ⟨x.toArray⟩
theorem strs_snoc (a b c m : Int) (l : List UInt8) (k : Nat) (h : k < l.length) : strs (opsT a b c m (l.take (k + 1))) = strs (opsT a b c m (l.take k)) ++ [.string ⟨(opT l[k] (opd a b c m l[k])).toArray⟩] := by
  unfold strs opsT
  rw [List.take_succ_eq_append_getElem h, List.map_append, List.map_append]; rfl

theorem join_own (w : World) (B : Nat) (v : Value) (xs : List (List UInt8)) (sep : ByteArray) (hx : xs.length ≤ 1000) (hl : (Lib.join xs sep.data.toList).length ≤ 140737488355328) (h : Own w B 9 v (strs xs)) :
    Calls Tryz.prog 44 #[v, .string sep] w fun e w' => e = .returned (.string ⟨(Lib.join xs sep.data.toList).toArray⟩) ∧ Below w.heap.size w w' := by
  have h0 := h
  rcases h.is with ⟨rfl, hn⟩ | ⟨g, cap, rfl, hB, hn, hm, hbk, hcl, hf⟩
  · have hz0 : xs = [] := by simpa [strs] using hn
    subst hz0
    exact (Tryz.strings_Join_none none 0 sep w).mono fun e w' ⟨he, hw⟩ => ⟨by rw [he]; rfl, by subst hw; exact Below.refl _ _⟩
  · have e1 : (strs xs).length = (xs.map fun x => (⟨x.toArray⟩ : ByteArray)).length := by simp [strs]
    have e2 : (xs.map fun x => (⟨x.toArray⟩ : ByteArray)).map (·.data.toList) = xs := by rw [List.map_map]; exact List.map_id'' (fun x => rfl) xs
    rw [e1] at hn ⊢
    have := Tryz.strings_Join g 0 cap (xs.map fun x => (⟨x.toArray⟩ : ByteArray)) sep w (fun j x hj => by
      rw [Nat.zero_add]
      rw [List.getElem?_map, Option.map_eq_some_iff] at hj
      obtain ⟨y, hy, rfl⟩ := hj
      exact hcl j _ (by unfold strs; rw [List.getElem?_map, hy]; rfl)) (h0.lt rfl).2 (by rw [List.length_map]; omega) hn (by rw [e2]; exact hl)
    rw [e2] at this
    exact this

theorem bytes_below (w : World) (t : TypeId) (s : ByteArray) : Below w.heap.size w (Lib.bytesWorld w t s) := Lib.bytesWorld_below w t s
theorem grow_below (w : World) (k : Nat) (os : Array Obj) : Below w.heap.size w (Go.Sort.grow (w.drewN k) os) :=
  ⟨rfl, rfl, rfl, by simp [World.drewN], fun j hj => by rw [Go.Sort.heap_grow_old _ _ (by simpa [World.drewN] using hj)]; rfl⟩
theorem itoa_call (w : World) (n : Int) (h : -9223372036854775808 ≤ n ∧ n ≤ 9223372036854775807) (hp : PowAt w) : Calls Tryz.prog 42 #[.int .i64 n] w fun e w' => e = .returned (.string ⟨(Lib.itoa n).toArray⟩) ∧ Below w.heap.size w w' :=
  (Tryz.strconv_Itoa n h.1 h.2 w hp).mono fun e w' ⟨he, k, os, hw⟩ => ⟨he, by subst hw; exact grow_below w k os⟩
theorem trim_call (w : World) (s : ByteArray) (hs : s.size ≤ 9223372036854775807) (ha : ∀ x ∈ s.data.toList, x.toNat < 128) (hp : SpaceAt w) : Calls Tryz.prog 43 #[.string s] w fun e w' => e = .returned (.string ⟨(Lib.trimSpace s.data.toList).toArray⟩) ∧ Below w.heap.size w w' :=
  (Tryz.strings_TrimSpace s w hs (fun j b hb => ha b (List.mem_of_getElem? hb)) hp).mono fun e w' ⟨he, hw⟩ => ⟨he, by subst hw; exact bytes_below w _ s⟩

theorem ret_str {x y : ByteArray} (h : x = y) : Ending.returned (.string x) = .returned (.string y) := by rw [h]
theorem rS (t : List UInt8) : (⟨#[114]⟩ : ByteArray) ++ ⟨t.toArray⟩ = ⟨(114 :: t).toArray⟩ := by
  apply ByteArray.ext
  simp
theorem text_str (nm jn : List UInt8) : (⟨nm.toArray⟩ : ByteArray) ++ ⟨#[32]⟩ ++ ⟨jn.toArray⟩ = ⟨(nm ++ [32] ++ jn).toArray⟩ := by
  apply ByteArray.ext
  simp

set_option maxHeartbeats 4000000 in
set_option maxRecDepth 100000 in
theorem text_any (op a b c m : Int) (w : World) (hT : Tabs w) (hm : i64R m) :
    Calls Tryz.prog 17 #[.agg #[.int .i64 op, .int .i64 a, .int .i64 b, .int .i64 c, .int .i64 m]] w fun e w' => e = .returned (.string ⟨(textL op a b c m).toArray⟩) ∧ Below w.heap.size w w' := by
  obtain ⟨i0, hi, hz0, hz1, hz2⟩ := info_parts infoStr9
  have HI : Hd (_ ∧ _ ∧ _ ∧ _) := ⟨⟨hi, hz0, hz1, hz2⟩⟩
  clear hi hz0 hz1 hz2
  have hbl := Blk.new w 23 [.int .i64 op, .int .i64 a, .int .i64 b, .int .i64 c, .int .i64 m]
  have HB := Hd.mk hbl
  have hT1 := hT.alloc (.cells #[.int .i64 op, .int .i64 a, .int .i64 b, .int .i64 c, .int .i64 m] 23)
  have HR := Hd.mk (right_any op a b c m _ hT1.f hm)
  have HT1 := Hd.mk hT1
  have HRP : Hd (rightB op a b c m = true → RightP op a b c m) := ⟨right_parts⟩
  have HU : Hd (textL op a b c m = if rightB op a b c m then Lib.trimSpace (nameL op.toNat ++ [32] ++ Lib.join (opsT a b c m (opersL op.toNat)) [44, 32]) else []) := ⟨rfl⟩
  obtain ⟨r, hr⟩ : ∃ r, rightB op a b c m = r := ⟨_, rfl⟩
  rw [hr] at HR HRP HU
  clear hbl hT hT1 hr hm
  rcases r with _ | _
  · have HU' : Hd (textL op a b c m = []) := ⟨HU.out⟩
    rw [HU'.out]
    clear HRP HU HU'
    go_enter Tryz.func17, Tryz.ntmps17
    go_wp2_with fail
    refine HR.out.mono ?_
    rintro e w1 ⟨rfl, k1⟩
    have K1 : Hd (Below w.heap.size w w1) := ⟨Below.chain ((Below.refl _ _).alloc (Nat.le_refl _) _) k1⟩
    clear k1
    go_wp2
    go_ret
    exact ⟨rfl, K1.out⟩
  · have hp := HRP.out rfl
    obtain ⟨n, rfl⟩ : ∃ n : Nat, op = (n : Int) := ⟨op.toNat, by have := hp.op; omega⟩
    have hn := hp.op
    have HN : Hd (n < 31) := ⟨by omega⟩
    rw [Int.toNat_natCast] at HU
    have HU' : Hd (textL (n : Int) a b c m = Lib.trimSpace (nameL n ++ [32] ++ Lib.join (opsT a b c m (opersL n)) [44, 32])) := ⟨HU.out⟩
    rw [HU'.out]
    have HW : Hd (∀ w', FormsAt w' → w'.cell? ⟨0, n * 4, none⟩ = some (.string ⟨(nameL n).toArray⟩) ∧ w'.cell? ⟨0, n * 4 + 1, none⟩ = some (.string ⟨(opersL n).toArray⟩)) := ⟨fun w' h => ⟨h.word n HN.out 0 (by decide), h.word n HN.out 1 (by decide)⟩⟩
    obtain ⟨l1, l2, l3, l4⟩ := words_ok n HN.out
    have HL := Hd.mk l3
    have hod : ∀ ch, -9223372036854775808 ≤ opd a b c m ch ∧ opd a b c m ch ≤ 9223372036854775807 := opd_i64 hp
    have hjl : (Lib.join (opsT a b c m (opersL n)) [44, 32]).length ≤ 96 := by
      have := join_len (opsT a b c m (opersL n)) [44, 32] 22 (fun x hx => by
        unfold opsT at hx
        obtain ⟨ch, _, rfl⟩ := List.mem_map.1 hx
        exact opT_len ch _ (hod ch))
      have h2 : (opsT a b c m (opersL n)).length ≤ 4 := by unfold opsT; rw [List.length_map]; exact l4
      have h3 : (opsT a b c m (opersL n)).length * 24 ≤ 4 * 24 := Nat.mul_le_mul_right _ h2
      have h4 : ([44, 32] : List UInt8).length = 2 := rfl
      rw [h4] at this
      omega
    have hasc : ∀ x ∈ nameL n ++ [32] ++ Lib.join (opsT a b c m (opersL n)) [44, 32], x.toNat < 128 := fun x hx => by
      rcases List.mem_append.1 hx with hx | hx
      · rcases List.mem_append.1 hx with hx | hx
        · exact l1 x hx
        · rw [List.mem_singleton.1 hx]; decide
      · rcases join_mem hx with hx | ⟨y, hy, hx⟩
        · simp at hx; rcases hx with rfl | rfl <;> decide
        · unfold opsT at hy
          obtain ⟨ch, _, rfl⟩ := List.mem_map.1 hy
          exact opT_ascii ch _ x hx
    have HOd := Hd.mk hod
    have HJL := Hd.mk (And.intro hjl (And.intro hasc l2))
    have HOL : Hd ((opersL n).length ≤ 4) := ⟨l4⟩
    have i0 : (0 : Int) ≤ (n : Int) := by omega
    have i1 : (n : Int) < 31 := by have := HN.out; omega
    have nn : ((n : Int)).toNat = n := by omega
    obtain ⟨q, hq⟩ : ∃ x : ByteArray, (⟨(opersL n).toArray⟩ : ByteArray) = x := ⟨_, rfl⟩
    have hql : q.data.toList = opersL n := by rw [← hq]
    have HQL := Hd.mk hql
    obtain ⟨nm, hnm⟩ : ∃ x : ByteArray, (⟨(nameL n).toArray⟩ : ByteArray) = x := ⟨_, rfl⟩
    have HNM := Hd.mk hnm
    rw [hq, hnm] at HW
    have hqs : q.size ≤ 4 := by show q.data.toList.length ≤ 4; rw [hql]; exact l4
    have hns : nm.size ≤ 100 := by rw [← hnm]; exact l2
    clear HU HU' HRP hp hn l1 l2 l3 l4 hod hjl hasc hq hql hnm
    go_enter Tryz.func17, Tryz.ntmps17
    go_wp2_with fail
    refine HR.out.mono ?_
    rintro e w1 ⟨rfl, k1⟩
    have hb1 := HB.out.below k1 HB.out.lt
    have K1 : Hd (Keeps (fun _ => False) w w1) := ⟨((Keeps.refl _ w).alloc _).trans (Keeps.of_below k1 (fun k h1 h2 => absurd h1 (Nat.not_lt.2 h2)))⟩
    have hT2 := HT1.out.below k1
    obtain ⟨t0, t1⟩ := HW.out _ hT2.f
    have HT2 := Hd.mk hT2
    have b0 := hb1.at (j := 0) rfl
    have hcv := run_bytes_of_string (P := Tryz.prog) w1 9 43 5 q Tryz.underlying9 Tryz.underlying43 Tryz.underlying5
    have hcap1 := grownCap_ge w1 q.size 0 5
    have hcap2 := grownCap_le_maxLen w1 q.size 0 5 (by unfold maxLen; omega)
    generalize grownCap w1 q.size 0 5 = cap at hcv hcap1 hcap2
    have HO0 := Hd.mk (Own.of_string w1 q cap hcap1 hcap2)
    have k0 : Keeps (fun _ => False) w1 (w1.drew.alloc (.cells (bytesRow q cap) 5 ((bytesRow q cap).size, (bytesRow q cap).size + 1))) := ((Keeps.refl _ _).drew).alloc _
    have HB0 := Hd.mk (k0.blk hb1 (fun h => h))
    have HK0 := Hd.mk k0
    obtain ⟨sz, hsz⟩ : ∃ x, q.size = x := ⟨_, rfl⟩
    have HSZ := Hd.mk hsz
    have hsz4 : sz ≤ 4 := by omega
    rw [hsz] at hcv HO0
    obtain ⟨RB, hRB⟩ : ∃ x, w1.heap.size = x := ⟨_, rfl⟩
    have HRB := Hd.mk hRB
    clear k1 hb1 hT2 t0 hcap1 hcap2 k0 hsz hqs
    go_wp2
    rw [hRB] at HO0
    have HGe : Hd (w.heap.size ≤ w1.heap.size) := ⟨K1.out.size⟩
    clear hcv t1 b0 hRB
    go_loopw [3, 17] (fun v i wr => ∃ k : Nat, k ≤ sz ∧ i = .int .i64 k ∧ Hd (Own wr RB 9 v (strs (opsT a b c m ((opersL n).take k)))) ∧ Hd (Blk wr w.heap.size 23 [.int .i64 (n : Int), .int .i64 a, .int .i64 b, .int .i64 c, .int .i64 m]) ∧ Hd (Own wr RB 5 (.slice (some ⟨RB, 0, none⟩) sz cap) (Lib.byteCells q.data.toList)) ∧ Hd (Keeps (fun _ => False) w1 wr)) (fun _ i _ => sz - (intOf i).toNat)
    case atStart => exact ⟨0, Nat.zero_le _, rfl, ⟨Own.nil _ _ _⟩, HB0, HO0, HK0⟩
    case round =>
      obtain ⟨k, hk, rfl, HOw, HBx, HRow, HK⟩ := hrel
      clear HO0 HB0 HK0
      by_cases hlt : k < sz
      · have hd1 : decide ((k : Int) < (sz : Int)) = true := by simp; omega
        have hkl : k < (opersL n).length := by rw [← HQL.out]; show k < q.size; rw [HSZ.out]; exact hlt
        have hkl2 : k < q.data.toList.length := by rw [HQL.out]; exact hkl
        have hsn := strs_snoc a b c m (opersL n) k hkl
        have hll := HL.out _ (List.getElem_mem hkl)
        have hcc := (HRow.out.at (bytes_at hkl2)).1
        have hce : q.data.toList[k] = (opersL n)[k] := by simp only [HQL.out]
        rw [hce] at hcc
        obtain ⟨ch, hch⟩ : ∃ ch, (opersL n)[k] = ch := ⟨_, rfl⟩
        rw [hch] at hsn hll hcc
        obtain ⟨us, hus⟩ : ∃ us, strs (opsT a b c m ((opersL n).take k)) = us := ⟨_, rfl⟩
        have hul : us.length ≤ 4 := by rw [← hus]; unfold strs opsT; rw [List.length_map, List.length_map, List.length_take]; have := HOL.out; omega
        rw [hus] at HOw hsn
        obtain ⟨p3, c3, hv3⟩ := HOw.out.slice'
        obtain ⟨N3, hN3⟩ : ∃ N, us.length = N := ⟨_, rfl⟩
        rw [hN3] at hv3
        subst hv3
        have HSn := Hd.mk hsn
        have hl1 : us.length + 1 ≤ maxLen := by unfold maxLen; omega
        have hl2 : (us.length + 1) * 16 ≤ 140737488355328 := by omega
        have hfin : ∀ {wq : World} {v' : Value} {w' : World}, Keeps (fun _ => False) wr wq → Own w' RB 9 v' (us ++ [.string ⟨(opT ch (opd a b c m ch)).toArray⟩]) → Keeps (fun g => (Value.slice p3 N3 c3).ownBlock = some g) wq w' → Own w' RB 9 v' (strs (opsT a b c m ((opersL n).take (k + 1)))) ∧ Blk w' w.heap.size 23 [.int .i64 (n : Int), .int .i64 a, .int .i64 b, .int .i64 c, .int .i64 m] ∧ Own w' RB 5 (.slice (some ⟨RB, 0, none⟩) sz cap) (Lib.byteCells q.data.toList) ∧ Keeps (fun _ => False) w1 w' := fun {wq v' w'} hq ho hk' => by
          have hoq := HOw.out.keeps hq (fun _ _ h => h)
          have hbq := hq.blk HBx.out (fun h => h)
          have hrq := HRow.out.keeps hq (fun _ _ h => h)
          have hkq := HK.out.trans hq
          have hty : ∀ g, (Value.slice p3 N3 c3).ownBlock = some g → ∃ cur fz, wq.heap[g]? = some (.cells cur 9 fz) := fun g hg => own_heap hoq hg
          refine ⟨by rw [HSn.out]; exact ho, hk'.blk hbq (fun e => ?_), hrq.keeps hk' (fun g hg e => ?_), ?_⟩
          · obtain ⟨cur, fz, h1⟩ := hty _ e
            rw [hbq.is] at h1; injection h1 with h1; injection h1 with _ h1 _; exact absurd h1 (by decide)
          · obtain ⟨cur, fz, h1⟩ := hty _ e
            obtain ⟨cur', fz', h2⟩ := own_heap hrq hg
            rw [h2] at h1; injection h1 with h1; injection h1 with _ h1 _; exact absurd h1 (by decide)
          · exact ⟨hk'.os.trans hkq.os, hk'.tape.trans hkq.tape, hk'.output.trans hkq.output, Nat.le_trans hkq.size hk'.size, fun i hi hn => by
              rw [hk'.block i (Nat.lt_of_lt_of_le hi hkq.size) (fun e => by have := (hoq.lt e).1; have := HRB.out; omega)]
              exact hkq.block i hi hn⟩
        have HFin := Hd.mk @hfin
        have HF9 := Hd.mk (fun w' => field9_any w.heap.size ch hll w')
        have hcel := opd_cell HBx.out ch
        have HIt := Hd.mk (fun w' (h : PowAt w') => itoa_call w' (opd a b c m ch) (HOd.out ch) h)
        have hil := Lib.itoa_length_le (opd a b c m ch) (HOd.out ch).1 (HOd.out ch).2
        have HPow : Hd (PowAt wr) := ⟨tab_below HT2.out.p (HK.out.below (Nat.le_refl _) (fun _ _ h => h))⟩
        have hopT : Hd (opT ch (opd a b c m ch) = if ch = 73 then Lib.itoa (opd a b c m ch) else 114 :: Lib.itoa (opd a b c m ch)) := ⟨rfl⟩
        have hrs := rS (Lib.itoa (opd a b c m ch))
        obtain ⟨cn, hcn⟩ : ∃ cn, cellN ch = cn := ⟨_, rfl⟩
        rw [hcn] at HF9 hcel
        obtain ⟨it, hit⟩ : ∃ x : ByteArray, (⟨(Lib.itoa (opd a b c m ch)).toArray⟩ : ByteArray) = x := ⟨_, rfl⟩
        have his : it.size ≤ 21 := by rw [← hit]; exact hil
        have hrs2 : (⟨(opT ch (opd a b c m ch)).toArray⟩ : ByteArray) = if ch = 73 then it else ⟨#[114]⟩ ++ it := by
          rw [hopT.out]
          split
          · exact hit
          · rw [← hit]; exact hrs.symm
        rw [hit] at HIt
        have a1 : ¬ 9223372036854775807 < 1 + it.size := by omega
        have a2 : ¬ 9223372036854775807 < (⟨#[114]⟩ : ByteArray).size + it.size := by show ¬ 9223372036854775807 < 1 + it.size; omega
        obtain ⟨od, hod⟩ : ∃ od, opd a b c m ch = od := ⟨_, rfl⟩
        rw [hod] at HIt hcel HFin hrs2
        have HRS := Hd.mk hrs2
        have HIl := Hd.mk his
        clear hsn hkl hkl2 hch hce hus hfin hcn hll hil hrs hit hod hrs2 hopT hul his
        go_wp2_with fail
        refine (HF9.out _).mono ?_
        rintro e wx ⟨rfl, rfl⟩
        go_wp2_with fail
        refine (HIt.out _ HPow.out).mono ?_
        rintro e wq ⟨rfl, kq⟩
        have KQ : Hd (Keeps (fun _ => False) wr wq) := ⟨Keeps.of_below kq (fun k h1 h2 => absurd h1 (Nat.not_lt.2 h2))⟩
        have HOq := Hd.mk (HOw.out.keeps KQ.out (fun _ _ h => h))
        have hsq : RB ≤ wq.heap.size := HRB.out ▸ Nat.le_trans HK.out.size KQ.out.size
        clear kq HIt HF9 hcel hcc
        by_cases h73 : ch = 73
        · have hb1 : ((ch.toNat : Int) != 73) = false := by subst h73; rfl
          have hrr : Hd ((⟨(opT ch od).toArray⟩ : ByteArray) = it) := ⟨by rw [HRS.out, if_pos h73]⟩
          rw [hrr.out] at HFin
          clear h73 hrr HRS
          go_wp2_with (at_builtin; refine wp_app1 rfl _ _ 59 rfl 9 Tryz.underlying59 HI.out.1 HI.out.2.1 HI.out.2.2.1 HI.out.2.2.2 rfl (.slice p3 N3 c3) _ _ wq rfl HOq.out rfl rfl hl1 hl2 hsq ?_)
          intro v' w' hO' hK' hv'
          obtain ⟨g1, g2, g3, g4⟩ := HFin.out KQ.out hO' hK'
          have G1 := Hd.mk g1; have G2 := Hd.mk g2; have G3 := Hd.mk g3; have G4 := Hd.mk g4
          clear hO' hK' hv' g1 g2 g3 g4 hl1 hl2 HFin
          go_wp2
          go_roundw
          case rel => exact ⟨k + 1, hlt, by go_num, G1, G2, G3, G4⟩
          case measure => simp [intOf]; omega
        · have hb1 : ((ch.toNat : Int) != 73) = true := by
            simp only [bne_iff_ne, ne_eq]
            intro e
            exact h73 (UInt8.toNat_inj.1 (by have : (73 : UInt8).toNat = 73 := rfl; omega))
          have hrr : Hd ((⟨(opT ch od).toArray⟩ : ByteArray) = ⟨#[114]⟩ ++ it) := ⟨by rw [HRS.out, if_neg h73]⟩
          rw [hrr.out] at HFin
          clear h73 hrr HRS
          go_wp2_with (at_builtin; refine wp_app1 rfl _ _ 59 rfl 9 Tryz.underlying59 HI.out.1 HI.out.2.1 HI.out.2.2.1 HI.out.2.2.2 rfl (.slice p3 N3 c3) _ _ wq rfl HOq.out rfl rfl hl1 hl2 hsq ?_)
          intro v' w' hO' hK' hv'
          obtain ⟨g1, g2, g3, g4⟩ := HFin.out KQ.out hO' hK'
          have G1 := Hd.mk g1; have G2 := Hd.mk g2; have G3 := Hd.mk g3; have G4 := Hd.mk g4
          clear hO' hK' hv' g1 g2 g3 g4 hl1 hl2 HFin
          go_wp2
          go_roundw
          case rel => exact ⟨k + 1, hlt, by go_num, G1, G2, G3, G4⟩
          case measure => simp [intOf]; omega
      · have hd1 : decide ((k : Int) < (sz : Int)) = false := by simp; omega
        have hkn : k = (opersL n).length := by rw [← HQL.out]; show k = q.size; rw [HSZ.out]; omega
        have HOe : Hd (Own wr RB 9 u3 (strs (opsT a b c m (opersL n)))) := ⟨by
          have := HOw.out
          rw [hkn, List.take_length] at this
          exact this⟩
        have hkw := HK.out.below (Nat.le_refl _) (fun _ _ h => h)
        obtain ⟨s0, s1⟩ := HW.out _ (HT2.out.below hkw).f
        have HSp : Hd (SpaceAt wr) := ⟨(HT2.out.below hkw).s⟩
        obtain ⟨hjl, hasc, _⟩ := HJL.out
        have HJ := Hd.mk (join_own wr.drew RB u3 (opsT a b c m (opersL n)) ⟨#[44, 32]⟩ (by unfold opsT; rw [List.length_map]; have := HOL.out; omega) (by show (Lib.join (opsT a b c m (opersL n)) [44, 32]).length ≤ _; omega) (HOe.out.keeps (Keeps.refl (fun _ => False) wr).drew (fun _ _ h => h)))
        have hts := text_str (nameL n) (Lib.join (opsT a b c m (opersL n)) [44, 32])
        rw [HNM.out] at hts
        have e44 : (⟨#[44, 32]⟩ : ByteArray).data.toList = [44, 32] := rfl
        rw [e44] at HJ
        obtain ⟨jn, hjn⟩ : ∃ x : ByteArray, (⟨(Lib.join (opsT a b c m (opersL n)) [44, 32]).toArray⟩ : ByteArray) = x := ⟨_, rfl⟩
        rw [hjn] at HJ hts
        have hjs : jn.size ≤ 96 := by rw [← hjn]; exact hjl
        obtain ⟨tl, htl⟩ : ∃ x, nameL n ++ [32] ++ Lib.join (opsT a b c m (opersL n)) [44, 32] = x := ⟨_, rfl⟩
        rw [htl] at hts hasc
        have HTL := Hd.mk htl
        have HTr : Hd (∀ w', SpaceAt w' → Calls Tryz.prog 43 #[.string (nm ++ ⟨#[32]⟩ ++ jn)] w' fun e w'' => e = .returned (.string ⟨(Lib.trimSpace tl).toArray⟩) ∧ Below w'.heap.size w' w'') := ⟨fun w' h => by
          have hd : (nm ++ ⟨#[32]⟩ ++ jn).data.toList = tl := by rw [hts]
          have := trim_call w' (nm ++ ⟨#[32]⟩ ++ jn) (by rw [ByteArray.size_append, ByteArray.size_append]; show nm.size + 1 + jn.size ≤ _; omega) (by rw [hd]; exact hasc) h
          rw [hd] at this
          exact this⟩
        have a1 : ¬ 9223372036854775807 < nm.size + 1 := by omega
        have a2 : ¬ 9223372036854775807 < nm.size + 1 + jn.size := by omega
        have a3 : ¬ 9223372036854775807 < nm.size + (⟨#[32]⟩ : ByteArray).size := by show ¬ 9223372036854775807 < nm.size + 1; omega
        have a4 : ¬ 9223372036854775807 < nm.size + (⟨#[32]⟩ : ByteArray).size + jn.size := by show ¬ 9223372036854775807 < nm.size + 1 + jn.size; omega
        clear hkn HOw HRow hts htl hasc hjl hjn hkw e44 hjs
        have hbd := HBx.out.drew
        go_wp2_with fail
        refine wp_region_lin default (fun w' => Blk w' w.heap.size 23 [.int .i64 (n : Int), .int .i64 a, .int .i64 b, .int .i64 c, .int .i64 m] ∧ w'.cell? ⟨0, n * 4, none⟩ = some (.string nm)) [(0, true), (1, true), (2, true), (3, true), (4, true), (5, true), (6, true), (7, false), (8, true), (9, false), (10, true)] (by kernel_rfl) (by kernel_rfl) rfl (by kernel_rfl) (by kernel_rfl) ⟨hbd, s0⟩ ?_
        simp only [pick, List.getD_cons_zero, List.getD_cons_succ]
        repeat
          refine lin_free (v := ?_) (by rfl) ?_ ?_
          rotate_left
          · intro w' hSw
            obtain ⟨hbw, z0⟩ := hSw
            have b0 := hbw.at (j := 0) rfl
            clear hbw
            go_simp
            first | done | with_reducible rfl
          simp only [Act.put, List.setIfInBounds_toArray, List.set_cons_zero, List.set_cons_succ]
        refine lin_bound (fun K hK => ?_)
        go_simp
        refine HJ.out.mono ?_
        rintro e w4 ⟨rfl, k4⟩
        dsimp only
        have k14 : Below wr.heap.size wr w4 := (Below.refl _ wr).drew.trans k4
        have K4 := Hd.mk k14
        have hSp4 := tab_below HSp.out k14
        have HSp4 := Hd.mk hSp4
        have t4 : w4.cell? ⟨0, n * 4, none⟩ = some (.string nm) := (HW.out _ ((HT2.out.below (HK.out.below (Nat.le_refl _) (fun _ _ h => h))).below k14).f).1
        refine hK.out _ _ ⟨HBx.out.below k14 HBx.out.lt, t4⟩ ?_
        clear hK K k4 k14 t4 hSp4
        repeat
          refine lin_free (v := ?_) (by rfl) ?_ ?_
          rotate_left
          · intro w' hSw
            go_simp
            first | done | with_reducible rfl
          simp only [Act.put, List.setIfInBounds_toArray, List.set_cons_zero, List.set_cons_succ]
        refine lin_bound (fun K hK => ?_)
        go_simp
        refine (HTr.out _ HSp4.out).mono ?_
        rintro e w5 ⟨rfl, k5⟩
        dsimp only
        have k45 := Below.chain K4.out k5
        have K5 := Hd.mk k45
        have t5 : w5.cell? ⟨0, n * 4, none⟩ = some (.string nm) := (HW.out _ ((HT2.out.below (HK.out.below (Nat.le_refl _) (fun _ _ h => h))).below k45).f).1
        refine hK.out _ _ ⟨HBx.out.below k45 HBx.out.lt, t5⟩ ?_
        clear hK K k5 k45 t5
        repeat
          refine lin_free (v := ?_) (by rfl) ?_ ?_
          rotate_left
          · intro w' hSw
            go_simp
            first | done | with_reducible rfl
          simp only [Act.put, List.setIfInBounds_toArray, List.set_cons_zero, List.set_cons_succ]
        refine NoPanic.normal ?_
        go_wp2
        go_ret
        exact ⟨ret_str (by rw [HTL.out]), Below.chain (Below.chain (K1.out.below (Nat.le_refl _) (fun _ _ h => h)) (HK.out.below (Nat.le_refl _) (fun _ _ h => h))) K5.out⟩

end Go.Proofs.YtlohhlbbkliehaaGreatDoor.W
