/-
  The FS of vfs in memory.
-/
import Derived.Test.YticpldjcmhpjoaaV11
namespace Go.Proofs.Yticpldjcmhpjoaa
open Go.RowKit
set_option linter.unusedVariables false
set_option linter.unusedSimpArgs false

theorem cell_blk {w : World} {r : Nat} {cs : Array Value} {t : TypeId} (h : w.heap[r]? = some (.cells cs t (0, 0))) (j : Nat) : w.cell? ⟨r, j, none⟩ = cs[j]? := by simp [World.cell?, h]
theorem froz_blk {w : World} {r : Nat} {cs : Array Value} {t : TypeId} (h : w.heap[r]? = some (.cells cs t (0, 0))) (j : Nat) : w.frozen? ⟨r, j, none⟩ = false := by simp [World.frozen?, h]
theorem lt_blk {w : World} {r : Nat} {o : Obj} (h : w.heap[r]? = some o) : r < w.heap.size := by
  rcases Nat.lt_or_ge r w.heap.size with h1 | h1
  · exact h1
  · rw [Array.getElem?_eq_none h1] at h; cases h
/-- files by name -/
abbrev Look := ByteArray → Option (List UInt8)
/-- the plain state of an FS -/
structure Fs where
  room : Int
  now : Look
  was : Look
  l : List Chg
/-- a change's cells -/
def Chg.cells (c : Chg) (k : Int) (dv : Value) : List Value := [.int .i64 k, .string c.name, .int .i64 (c.at_ : Int), dv]
/-- changes' cells (base: the number of 'creates') -/
inductive ChgCs (base : Int) (P : Nat → Prop) (w : World) : List Chg → List Value → Prop
  | nil : ChgCs base P w [] []
  | cons (c : Chg) (l : List Chg) (dv : Value) (cs : List Value) : BytesIn P w dv c.data → ChgCs base P w l cs → ChgCs base P w (c :: l) (c.cells (base + (c.kind : Int)) dv ++ cs)
theorem ChgCs.turn {base : Int} {P Q : Nat → Prop} {w w' : World} {l : List Chg} {cs : List Value} (h : ChgCs base P w l cs) (ht : Turn Q w w') : ChgCs base P w' l cs := by
  induction h with
  | nil => exact .nil
  | cons c l dv cs h1 _ ih => exact .cons c l dv cs (h1.turn ht) ih
theorem ChgCs.mono {base : Int} {P Q : Nat → Prop} {w : World} {l : List Chg} {cs : List Value} (h : ChgCs base P w l cs) (hq : ∀ k, k < w.heap.size → P k → Q k) : ChgCs base Q w l cs := by
  induction h with
  | nil => exact .nil
  | cons c l dv cs h1 _ ih => exact .cons c l dv cs (h1.mono hq) ih
theorem ChgCs.append {base : Int} {P : Nat → Prop} {w : World} {a b : List Chg} {x y : List Value} (h : ChgCs base P w a x) (k : ChgCs base P w b y) : ChgCs base P w (a ++ b) (x ++ y) := by
  induction h with
  | nil => exact k
  | cons c l dv cs h1 _ ih => rw [List.cons_append, List.append_assoc]; exact .cons c _ dv _ h1 ih
theorem ChgCs.at {base : Int} {P : Nat → Prop} {w : World} {a : List Chg} {x : List Value} (h : ChgCs base P w a x) : ∀ k y, a[k]? = some y → ∃ dv, BytesIn P w dv y.data ∧ x[k * 4]? = some (.int .i64 (base + (y.kind : Int))) ∧ x[k * 4 + 1]? = some (.string y.name) ∧ x[k * 4 + 2]? = some (.int .i64 (y.at_ : Int)) ∧ x[k * 4 + 3]? = some dv := by
  induction h with
  | nil => intro k y hk; simp at hk
  | cons d ds pv cs h1 _ ih =>
    intro k y hk
    cases k with
    | zero =>
      simp at hk
      subst hk
      exact ⟨pv, h1, rfl, rfl, rfl, rfl⟩
    | succ k =>
      obtain ⟨pv', a1, a2, a3, a4, a5⟩ := ih k y (by simpa using hk)
      have e : ∀ j, (d.cells (base + (d.kind : Int)) pv ++ cs)[(k + 1) * 4 + j]? = cs[k * 4 + j]? := fun j => by
        rw [show (k + 1) * 4 + j = k * 4 + j + 4 from by omega, List.getElem?_append_right (by simp [Chg.cells])]
        simp [Chg.cells]
      exact ⟨pv', a1, by have := e 0; simp only [Nat.add_zero] at this; rw [this]; exact a2, (e 1).trans a3, (e 2).trans a4, (e 3).trans a5⟩
/-- an FS in memory, told part by part -/
structure FsM (P : Nat → Prop) (w : World) (fb pb mb sb n m : Nat) (cv : Value) (cs : List Value) (S : Fs) : Prop where
  hf : w.heap[fb]? = some (.cells #[.pointer (some ⟨pb, 0, none⟩), .int .i64 S.room, .map (some mb)] 61 (0, 0))
  hp : w.heap[pb]? = some (.cells #[cv, .map (some sb)] 59 (0, 0))
  now : FilesV P w mb n S.now
  was : FilesV P w sb m S.was
  row : w.ownsRow 0 68 4 cv S.l.length cs
  chg : ChgCs 0 P w S.l cs
  nil : S.l = [] → cv = .slice none 0 0
  ne : mb ≠ sb
  pf : P fb
  pp : P pb
  pm : P mb
  ps : P sb
  pr : ∀ q, cv.ownBlock = some q → P q
theorem FilesV.blk {P : Nat → Prop} {w : World} {mb n : Nat} {g : Look} (h : FilesV P w mb n g) : ∃ es clock, w.heap[mb]? = some (.map es clock) := by
  obtain ⟨f, h1, _⟩ := h
  exact h1.blk
theorem FilesV.notcells {P : Nat → Prop} {w : World} {mb n : Nat} {g : Look} (h : FilesV P w mb n g) {k : Nat} {cur : Array Value} {t : TypeId} {fr : Nat × Nat} (hk : w.heap[k]? = some (.cells cur t fr)) : k ≠ mb := by
  rintro rfl
  obtain ⟨es, cl, hb⟩ := h.blk
  rw [hb] at hk
  cases hk
theorem own_lt {w : World} {B n z : Nat} {t : TypeId} {v : Value} {xs : List Value} (h : w.ownsRow B t z v n xs) {q : Nat} (hq : v.ownBlock = some q) : ∃ cur, w.heap[q]? = some (.cells cur t (0, 0)) := by
  rcases h.2 with ⟨rfl, _⟩ | ⟨g, cap, cur, rfl, _, hg, _⟩
  · cases hq
  · injection hq with hq
    subst hq
    exact ⟨cur, hg⟩
theorem own_kept {w w' : World} {B n z : Nat} {t : TypeId} {v : Value} {xs : List Value} (h : w.ownsRow B t z v n xs) (hb : ∀ q, v.ownBlock = some q → w'.heap[q]? = w.heap[q]?) : w'.ownsRow B t z v n xs := by
  refine ⟨h.1, ?_⟩
  rcases h.2 with h2 | ⟨g, cap, cur, rfl, h3, hg, h4⟩
  · exact .inl h2
  · exact .inr ⟨g, cap, cur, rfl, h3, (hb g rfl).trans hg, h4⟩
/-- the frame: what turns elsewhere does not matter -/
theorem FsM.turn {P Q : Nat → Prop} {w w' : World} {fb pb mb sb n m : Nat} {cv : Value} {cs : List Value} {S : Fs} (h : FsM P w fb pb mb sb n m cv cs S) (ht : Turn Q w w') (hq : ∀ k, P k → ¬ Q k) : FsM P w' fb pb mb sb n m cv cs S :=
  ⟨(ht.block fb (lt_blk h.hf) (hq _ h.pf)).trans h.hf, (ht.block pb (lt_blk h.hp) (hq _ h.pp)).trans h.hp, h.now.turn ht (hq _ h.pm), h.was.turn ht (hq _ h.ps),
   own_kept h.row (fun q e => by obtain ⟨cur, hc⟩ := own_lt h.row e; exact ht.block q (lt_blk hc) (hq _ (h.pr q e))), h.chg.turn ht, h.nil, h.ne, h.pf, h.pp, h.pm, h.ps, h.pr⟩
theorem FsM.mono {P Q : Nat → Prop} {w : World} {fb pb mb sb n m : Nat} {cv : Value} {cs : List Value} {S : Fs} (h : FsM P w fb pb mb sb n m cv cs S) (hq : ∀ k, k < w.heap.size → P k → Q k) : FsM Q w fb pb mb sb n m cv cs S :=
  ⟨h.hf, h.hp, h.now.mono hq, h.was.mono hq, h.row, h.chg.mono hq, h.nil, h.ne, hq _ (lt_blk h.hf) h.pf, hq _ (lt_blk h.hp) h.pp, hq _ h.now.lt h.pm, hq _ h.was.lt h.ps, fun q e => by obtain ⟨cur, hc⟩ := own_lt h.row e; exact hq _ (lt_blk hc) (h.pr q e)⟩
theorem FsM.row0 {P : Nat → Prop} {w : World} {fb pb mb sb n m : Nat} {cv : Value} {cs : List Value} {S : Fs} (h : FsM P w fb pb mb sb n m cv cs S) (q : Nat) (hq : cv.ownBlock = some q) (x : Int) : w.cell? ⟨q, 0, none⟩ ≠ some (.int .u8 x) := by
  intro hx
  cases hl : S.l with
  | nil => rw [h.nil hl] at hq; cases hq
  | cons c r =>
    obtain ⟨dv, _, h2, _⟩ := h.chg.at 0 c (by rw [hl]; rfl)
    rcases h.row.2 with ⟨rfl, _⟩ | ⟨g, cap, cur, rfl, _⟩
    · cases hq
    · injection hq with hq
      subst hq
      have := World.ownsRow.cells (g := g) h.row rfl 0 _ h2
      rw [add_plain] at this
      simp only [Nat.zero_add] at this
      rw [this] at hx
      injection hx with hx
      injection hx with hx
      cases hx
/-- an FS in memory, in P's blocks -/
def FsAt (P : Nat → Prop) (w : World) (fb : Nat) (S : Fs) (K : Nat) : Prop :=
  ∃ pb mb sb n m cv cs, FsM P w fb pb mb sb n m cv cs S ∧ n ≤ K ∧ m + S.l.length ≤ K
theorem FsAt.turn {P Q : Nat → Prop} {w w' : World} {fb K : Nat} {S : Fs} (h : FsAt P w fb S K) (ht : Turn Q w w') (hq : ∀ k, P k → ¬ Q k) : FsAt P w' fb S K := by
  obtain ⟨pb, mb, sb, n, m, cv, cs, h, k⟩ := h
  exact ⟨pb, mb, sb, n, m, cv, cs, h.turn ht hq, k⟩
theorem FsAt.mono {P Q : Nat → Prop} {w : World} {fb K : Nat} {S : Fs} (h : FsAt P w fb S K) (hq : ∀ k, k < w.heap.size → P k → Q k) : FsAt Q w fb S K := by
  obtain ⟨pb, mb, sb, n, m, cv, cs, h, k⟩ := h
  exact ⟨pb, mb, sb, n, m, cv, cs, h.mono hq, k⟩
/-- P's blocks and the new ones -/
def More (P : Nat → Prop) (w w' : World) : Nat → Prop := fun k => P k ∨ (w.heap.size ≤ k ∧ k < w'.heap.size)
/-- a change that may be done -/
def Valid (g : Look) (c : Chg) : Prop := c.kind = 0 ∨ (c.kind = 1 ∧ ∃ b, g c.name = some b ∧ c.at_ + c.data.length ≤ b.length) ∨ c.kind = 2
/-- no file is great -/
def Small (g : Look) : Prop := ∀ s b, g s = some b → b.length ≤ 1073741824
theorem applies_any {P : Nat → Prop} (fb mb n : Nat) (g : Look) (c : Chg) (dv : Value) (w : World) (hv : Valid g c) (h2 : w.cell? ⟨fb, 2, none⟩ = some (.map (some mb)))
    (hF : FilesV P w mb n g) (hn : n < maxLen) (hs : c.name.size ≤ maxLen) (hd : BytesIn P w dv c.data) (hl : c.data.length ≤ 1073741824) (hg : Small g) :
    Calls Try.prog 45 #[.pointer (some ⟨fb, 0, none⟩), c.val dv] w fun e w' => e = .returned (.tuple #[]) ∧ Turn (fun k => k = mb) w w' ∧ ∃ n', n' ≤ n + 1 ∧ FilesV (More P w w') w' mb n' (doesG g c) := by
  have fin : ∀ n' e w', n' ≤ n + 1 → AppP P mb n' (doesG g c) w e w' → e = .returned (.tuple #[]) ∧ Turn (fun k => k = mb) w w' ∧ ∃ n', n' ≤ n + 1 ∧ FilesV (More P w w') w' mb n' (doesG g c) := fun n' e w' hn' ⟨h1, h3, h4⟩ =>
    ⟨h1, h3, n', hn', h4.mono (fun k hk hp => by unfold More; rcases hp with h | h; exact .inl h; exact .inr ⟨h, hk⟩)⟩
  rcases hv with h | ⟨h, b, hb, hi⟩ | h
  · exact (applies0 fb mb n g c dv w h h2 hF hn hs hd (by omega)).mono fun e w' h => fin _ _ _ (Nat.le_refl _) h
  · exact (applies1 fb mb n g c dv w h b hb hi h2 hF hn hs hd (by have := hg _ _ hb; omega)).mono fun e w' h => fin _ _ _ (Nat.le_refl _) h
  · exact (applies2 fb mb n g c dv w h h2 hF hs).mono fun e w' h => fin _ _ _ (Nat.le_succ _) h
end Go.Proofs.Yticpldjcmhpjoaa
