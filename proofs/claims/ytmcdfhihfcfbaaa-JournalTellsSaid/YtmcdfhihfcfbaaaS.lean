/-
  The disk in plain words. No program.
-/
import Derived.Test.YtmcdfhihfcfbaaaL
namespace Go.Proofs.Ytmcdfhihfcfbaaa.W
set_option linter.unusedVariables false

/-- a pending write -/
structure Pn where
  f : Nat
  at_ : Nat
  s : List UInt8

/-- a disk -/
structure St where
  lasts : List (List UInt8)
  files : List (List UInt8)
  queue : List Pn
  lost : Nat
  down : Bool
  armed : Nat
  keep : List Int

/-- bytes t put into s at a place -/
def putL (s : List UInt8) (k : Nat) (t : List UInt8) : List UInt8 :=
  (List.range (max s.length (k + t.length))).map fun j => if k ≤ j ∧ j < k + t.length then t.getD (j - k) 0 else s.getD j 0

def piecesF (f : Nat) : Nat → Nat → List UInt8 → List Pn
  | 0, _, _ => []
  | n + 1, k, s => if s = [] then [] else ⟨f, k, s.take (min s.length (32 - k % 32))⟩ :: piecesF f n (k + min s.length (32 - k % 32)) (s.drop (min s.length (32 - k % 32)))
def pieces (f k : Nat) (s : List UInt8) : List Pn := piecesF f s.length k s

def newS : St := ⟨List.replicate 8 [], List.replicate 8 [], [], 0, false, 0, []⟩
def isF (f : Int) : Bool := decide (0 ≤ f ∧ f < 8)
def mayS (σ : St) (f : Int) : Nat := if σ.down then 10 else if isF f then 0 else 1
def endsB (σ : St) : Bool := !σ.down && decide (σ.armed = 1)
def endsS (σ : St) : St := if σ.down || decide (σ.armed = 0) then σ else { σ with armed := σ.armed - 1 }

/-- may the write be done: 0 yes, with bytes; else the error (100: nothing to write) -/
def writeE (σ : St) (f k : Int) (s : List UInt8) : Nat :=
  if mayS σ f ≠ 0 then mayS σ f else if k < 0 then 1 else if k > 16777216 ∨ (s.length : Int) > 16777216 - k then 7 else 0
def addS (σ : St) (f k : Nat) (s : List UInt8) : St := { σ with files := σ.files.set f (putL (σ.files.getD f []) k s), queue := σ.queue ++ pieces f k s }
def writeS (σ : St) (f k : Int) (s : List UInt8) : St :=
  if writeE σ f k s = 0 ∧ s ≠ [] then addS σ f.toNat k.toNat s else σ

/-- what survives of the pending writes -/
def stays (ls : List (List UInt8)) : List Pn → List Int → List (List UInt8)
  | p :: q, k :: ks => stays (if k = 1 then ls.set p.f (putL (ls.getD p.f []) p.at_ p.s) else if k = 2 then ls.set p.f (putL (ls.getD p.f []) p.at_ (p.s.take (min p.s.length 16))) else ls) q ks
  | _, _ => ls
def crashS (σ : St) (keep : List Int) : St :=
  if σ.down then σ else { σ with lasts := stays σ.lasts σ.queue keep, files := stays σ.lasts σ.queue keep, queue := [], down := true, armed := 0 }

def WriteS (σ : St) (f k : Int) (s : List UInt8) : St := if endsB σ then crashS (writeS (endsS σ) f k s) σ.keep else writeS (endsS σ) f k s
def WriteE (σ : St) (f k : Int) (s : List UInt8) : Nat := if endsB σ then 10 else writeE (endsS σ) f k s

/-- the scheduled crash ahead of a call -/
def headS (σ : St) : St := if endsB σ then crashS (endsS σ) σ.keep else endsS σ
def settleS (σ : St) (f : Nat) (s : List UInt8) : St := { σ with lasts := σ.lasts.set f s, files := σ.files.set f s, queue := σ.queue.filter fun p => !decide (p.f = f) }

def flushE (σ : St) (f : Int) : Nat := if mayS σ f ≠ 0 then mayS σ f else if σ.lost > 0 then 12 else 0
def flushS (σ : St) (f : Int) : St := if mayS σ f ≠ 0 then σ else if σ.lost > 0 then { σ with lost := σ.lost - 1 } else settleS σ f.toNat (σ.files.getD f.toNat [])
def FlushS (σ : St) (f : Int) : St := flushS (headS σ) f
def FlushE (σ : St) (f : Int) : Nat := flushE (headS σ) f

def sizeS (σ : St) (f : Int) : Nat := if isF f then (σ.files.getD f.toNat []).length else 0
def cutE (σ : St) (f n : Int) : Nat := if mayS σ f ≠ 0 then mayS σ f else if n < 0 ∨ n > (sizeS σ f : Int) then 1 else 0
def cutS (σ : St) (f n : Int) : St := if cutE σ f n = 0 then settleS σ f.toNat ((σ.files.getD f.toNat []).take n.toNat) else σ
def CutS (σ : St) (f n : Int) : St := cutS (headS σ) f n
def CutE (σ : St) (f n : Int) : Nat := cutE (headS σ) f n

def may2 (σ : St) (f g : Int) : Nat := if mayS σ f ≠ 0 then mayS σ f else mayS σ g
def turnE (σ : St) (f g : Int) : Nat := if may2 σ f g ≠ 0 then may2 σ f g else if f = g then 1 else if (σ.queue.any fun p => decide (p.f = g.toNat)) then 11 else 0
def turnS (σ : St) (f g : Int) : St := if turnE σ f g = 0 then settleS (settleS σ f.toNat (σ.lasts.getD g.toNat [])) g.toNat [] else σ
def TurnS (σ : St) (f g : Int) : St := turnS (headS σ) f g
def TurnE (σ : St) (f g : Int) : Nat := turnE (headS σ) f g

def armS (σ : St) (n : Int) (keep : List Int) : St := { σ with armed := (max n 0).toNat, keep := keep }
def loseS (σ : St) (n : Int) : St := { σ with lost := (max n 0).toNat }
def startS (σ : St) : St := { σ with down := false }
def readE (σ : St) (f : Int) : Nat := mayS σ f
def readL (σ : St) (f : Int) : List UInt8 := if mayS σ f = 0 then σ.files.getD f.toNat [] else []

/-- the disk's shape -/
structure Ok (σ : St) : Prop where
  l8 : σ.lasts.length = 8
  f8 : σ.files.length = 8
  ll : ∀ x ∈ σ.lasts, x.length ≤ 16777216
  fl : ∀ x ∈ σ.files, x.length ≤ 16777216
  q : ∀ p ∈ σ.queue, p.f < 8 ∧ p.at_ + p.s.length ≤ 16777216 ∧ 0 < p.s.length

theorem putL_len (s : List UInt8) (k : Nat) (t : List UInt8) : (putL s k t).length = max s.length (k + t.length) := by simp [putL]

theorem Ok.new : Ok newS := ⟨rfl, rfl, by simp [newS], by simp [newS], by simp [newS]⟩

theorem mem_set {α : Type} {l : List α} {i : Nat} {a x : α} (h : x ∈ l.set i a) : x ∈ l ∨ x = a := List.mem_or_eq_of_mem_set h

theorem getD_le {l : List (List UInt8)} {b : Nat} (h : ∀ x ∈ l, x.length ≤ b) (f : Nat) : (l.getD f []).length ≤ b := by
  rw [List.getD_eq_getElem?_getD]
  rcases hx : l[f]? with _ | x
  · simp
  · exact h x (List.mem_of_getElem? hx)

theorem stays_ok {b : Nat} : ∀ (q : List Pn) (ks : List Int) (ls : List (List UInt8)), ls.length = 8 → (∀ x ∈ ls, x.length ≤ b) → (∀ p ∈ q, p.f < 8 ∧ p.at_ + p.s.length ≤ b) → (stays ls q ks).length = 8 ∧ ∀ x ∈ stays ls q ks, x.length ≤ b
  | [], ks, ls, hl, hb, _ => by cases ks <;> exact ⟨hl, hb⟩
  | p :: q, [], ls, hl, hb, _ => ⟨hl, hb⟩
  | p :: q, k :: ks, ls, hl, hb, hq => by
    have hp := hq p (by simp)
    have hg := getD_le hb p.f
    rw [stays]
    apply stays_ok q ks
    · split
      · simpa using hl
      · split
        · simpa using hl
        · exact hl
    · intro x hx
      split at hx
      · rcases mem_set hx with h | rfl
        · exact hb x h
        · rw [putL_len]; omega
      · split at hx
        · rcases mem_set hx with h | rfl
          · exact hb x h
          · rw [putL_len, List.length_take]; omega
        · exact hb x hx
    · exact fun p hp => hq p (by simp [hp])

theorem Ok.crash {σ : St} (h : Ok σ) (ks : List Int) : Ok (crashS σ ks) := by
  unfold crashS
  split
  · exact h
  · have := stays_ok σ.queue ks σ.lasts h.l8 h.ll (fun p hp => ⟨(h.q p hp).1, (h.q p hp).2.1⟩)
    exact ⟨this.1, this.1, this.2, this.2, by simp⟩

theorem Ok.ends {σ : St} (h : Ok σ) : Ok (endsS σ) := by
  unfold endsS
  split
  · exact h
  · exact ⟨h.l8, h.f8, h.ll, h.fl, h.q⟩

theorem Ok.head {σ : St} (h : Ok σ) : Ok (headS σ) := by
  unfold headS
  split
  · exact h.ends.crash _
  · exact h.ends

theorem Ok.settle {σ : St} (h : Ok σ) (f : Nat) {s : List UInt8} (hs : s.length ≤ 16777216) : Ok (settleS σ f s) := by
  refine ⟨by simpa [settleS] using h.l8, by simpa [settleS] using h.f8, fun x hx => ?_, fun x hx => ?_, fun p hp => ?_⟩
  · rcases mem_set hx with h' | rfl
    · exact h.ll x h'
    · exact hs
  · rcases mem_set hx with h' | rfl
    · exact h.fl x h'
    · exact hs
  · exact h.q p (List.mem_filter.1 hp).1

theorem piecesF_ok (f : Nat) (hf : f < 8) : ∀ (n k : Nat) (s : List UInt8), k + s.length ≤ 16777216 → ∀ p ∈ piecesF f n k s, p.f < 8 ∧ p.at_ + p.s.length ≤ 16777216 ∧ 0 < p.s.length
  | 0, _, _, _, p, hp => by simp [piecesF] at hp
  | n + 1, k, s, h, p, hp => by
    rw [piecesF] at hp
    split at hp
    · simp at hp
    · rename_i hne
      have h0 : 0 < s.length := List.length_pos_iff.2 hne
      rcases List.mem_cons.1 hp with rfl | hp
      · refine ⟨hf, ?_, ?_⟩
        · simp only [List.length_take]
          omega
        · simp only [List.length_take]
          omega
      · exact piecesF_ok f hf n _ _ (by rw [List.length_drop]; omega) p hp

theorem Ok.add {σ : St} (h : Ok σ) {f k : Nat} {s : List UInt8} (hf : f < 8) (hk : k + s.length ≤ 16777216) : Ok (addS σ f k s) := by
  refine ⟨h.l8, by simpa [addS] using h.f8, h.ll, fun x hx => ?_, fun p hp => ?_⟩
  · rcases mem_set hx with h' | rfl
    · exact h.fl x h'
    · have := getD_le h.fl f
      rw [putL_len]; omega
  · rcases List.mem_append.1 hp with hp | hp
    · exact h.q p hp
    · exact piecesF_ok f hf _ _ _ hk p hp

theorem may_zero {σ : St} {f : Int} (h : mayS σ f = 0) : σ.down = false ∧ 0 ≤ f ∧ f < 8 := by
  unfold mayS isF at h
  split at h
  · cases h
  · rename_i hd
    split at h
    · rename_i hf
      exact ⟨by simpa using hd, by simpa using hf⟩
    · cases h

theorem Ok.write {σ : St} (h : Ok σ) (f k : Int) (s : List UInt8) : Ok (writeS σ f k s) := by
  unfold writeS
  split
  · rename_i hw
    have hw := hw.1
    unfold writeE at hw
    split at hw
    · rename_i hm; exact absurd hw hm
    · rename_i hm
      have hm := may_zero (Decidable.not_not.1 hm)
      split at hw
      · cases hw
      · split at hw
        · cases hw
        · exact h.add (by omega) (by omega)
  · exact h

theorem Ok.Write {σ : St} (h : Ok σ) (f k : Int) (s : List UInt8) : Ok (WriteS σ f k s) := by
  unfold WriteS
  split
  · exact (h.ends.write f k s).crash _
  · exact h.ends.write f k s

theorem Ok.flush {σ : St} (h : Ok σ) (f : Int) : Ok (flushS σ f) := by
  unfold flushS
  split
  · exact h
  · split
    · exact ⟨h.l8, h.f8, h.ll, h.fl, h.q⟩
    · exact h.settle _ (getD_le h.fl _)

theorem Ok.cut {σ : St} (h : Ok σ) (f n : Int) : Ok (cutS σ f n) := by
  unfold cutS
  split
  · refine h.settle _ ?_
    have := getD_le h.fl f.toNat
    rw [List.length_take]; omega
  · exact h

theorem Ok.turn {σ : St} (h : Ok σ) (f g : Int) : Ok (turnS σ f g) := by
  unfold turnS
  split
  · exact (h.settle _ (getD_le h.ll _)).settle _ (by simp)
  · exact h

theorem Ok.arm {σ : St} (h : Ok σ) (n : Int) (ks : List Int) : Ok (armS σ n ks) := ⟨h.l8, h.f8, h.ll, h.fl, h.q⟩
theorem Ok.lose {σ : St} (h : Ok σ) (n : Int) : Ok (loseS σ n) := ⟨h.l8, h.f8, h.ll, h.fl, h.q⟩
theorem Ok.start {σ : St} (h : Ok σ) : Ok (startS σ) := ⟨h.l8, h.f8, h.ll, h.fl, h.q⟩

end Go.Proofs.Ytmcdfhihfcfbaaa.W
