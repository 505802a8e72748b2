/-
  The FS of vfs in memory. / The walk of does.
-/
import Derived.Test.YticpldjcmhpjoaaQb
import Derived.Deep.AppendLies
namespace Go.Proofs.Yticpldjcmhpjoaa
open Go.RowKit
set_option linter.unusedVariables false
set_option linter.unusedSimpArgs false

theorem cell_blk {w : World} {r : Nat} {cs : Array Value} {t : TypeId} (h : w.heap[r]? = some (.cells cs t (0, 0))) (j : Nat) : w.cell? ⟨r, j, none⟩ = cs[j]? := by simp [World.cell?, h]
theorem froz_blk {w : World} {r : Nat} {cs : Array Value} {t : TypeId} (h : w.heap[r]? = some (.cells cs t (0, 0))) (j : Nat) : w.frozen? ⟨r, j, none⟩ = false := by simp [World.frozen?, h]
theorem lt_blk {w : World} {r : Nat} {o : Obj} (h : w.heap[r]? = some o) : r < w.heap.size := by
  rcases Nat.lt_or_ge r w.heap.size with h1 | h1
  · exact h1
  · rw [Array.getElem?_eq_none h1] at h; cases h
/-- files by name -/
abbrev Look := ByteArray → Option (List UInt8)
/-- the plain state of an FS -/
structure Fs where
  room : Int
  now : Look
  was : Look
  l : List Chg
/-- a change's cells -/
def Chg.cells (c : Chg) (k : Int) (dv : Value) : List Value := [.int .i64 k, .string c.name, .int .i64 (c.at_ : Int), dv]
/-- changes' cells (base: the number of 'creates') -/
inductive ChgCs (base : Int) (P : Nat → Prop) (w : World) : List Chg → List Value → Prop
  | nil : ChgCs base P w [] []
  | cons (c : Chg) (l : List Chg) (dv : Value) (cs : List Value) : BytesIn P w dv c.data → ChgCs base P w l cs → ChgCs base P w (c :: l) (c.cells (base + (c.kind : Int)) dv ++ cs)
theorem ChgCs.turn {base : Int} {P Q : Nat → Prop} {w w' : World} {l : List Chg} {cs : List Value} (h : ChgCs base P w l cs) (ht : Turn Q w w') : ChgCs base P w' l cs := by
  induction h with
  | nil => exact .nil
  | cons c l dv cs h1 _ ih => exact .cons c l dv cs (h1.turn ht) ih
theorem ChgCs.mono {base : Int} {P Q : Nat → Prop} {w : World} {l : List Chg} {cs : List Value} (h : ChgCs base P w l cs) (hq : ∀ k, k < w.heap.size → P k → Q k) : ChgCs base Q w l cs := by
  induction h with
  | nil => exact .nil
  | cons c l dv cs h1 _ ih => exact .cons c l dv cs (h1.mono hq) ih
theorem ChgCs.append {base : Int} {P : Nat → Prop} {w : World} {a b : List Chg} {x y : List Value} (h : ChgCs base P w a x) (k : ChgCs base P w b y) : ChgCs base P w (a ++ b) (x ++ y) := by
  induction h with
  | nil => exact k
  | cons c l dv cs h1 _ ih => rw [List.cons_append, List.append_assoc]; exact .cons c _ dv _ h1 ih
theorem ChgCs.at {base : Int} {P : Nat → Prop} {w : World} {a : List Chg} {x : List Value} (h : ChgCs base P w a x) : ∀ k y, a[k]? = some y → ∃ dv, BytesIn P w dv y.data ∧ x[k * 4]? = some (.int .i64 (base + (y.kind : Int))) ∧ x[k * 4 + 1]? = some (.string y.name) ∧ x[k * 4 + 2]? = some (.int .i64 (y.at_ : Int)) ∧ x[k * 4 + 3]? = some dv := by
  induction h with
  | nil => intro k y hk; simp at hk
  | cons d ds pv cs h1 _ ih =>
    intro k y hk
    cases k with
    | zero =>
      simp at hk
      subst hk
      exact ⟨pv, h1, rfl, rfl, rfl, rfl⟩
    | succ k =>
      obtain ⟨pv', a1, a2, a3, a4, a5⟩ := ih k y (by simpa using hk)
      have e : ∀ j, (d.cells (base + (d.kind : Int)) pv ++ cs)[(k + 1) * 4 + j]? = cs[k * 4 + j]? := fun j => by
        rw [show (k + 1) * 4 + j = k * 4 + j + 4 from by omega, List.getElem?_append_right (by simp [Chg.cells])]
        simp [Chg.cells]
      exact ⟨pv', a1, by have := e 0; simp only [Nat.add_zero] at this; rw [this]; exact a2, (e 1).trans a3, (e 2).trans a4, (e 3).trans a5⟩
/-- an FS in memory, told part by part -/
structure FsM (P : Nat → Prop) (w : World) (fb pb mb sb n m : Nat) (cv : Value) (cs : List Value) (S : Fs) : Prop where
  hf : w.heap[fb]? = some (.cells #[.pointer (some ⟨pb, 0, none⟩), .int .i64 S.room, .map (some mb)] 61 (0, 0))
  hp : w.heap[pb]? = some (.cells #[cv, .map (some sb)] 59 (0, 0))
  now : FilesV P w mb n S.now
  was : FilesV P w sb m S.was
  row : w.ownsRow 0 68 4 cv S.l.length cs
  chg : ChgCs 0 P w S.l cs
  nil : S.l = [] → cv = .slice none 0 0
  ne : mb ≠ sb
  pf : P fb
  pp : P pb
  pm : P mb
  ps : P sb
  pr : ∀ q, cv.ownBlock = some q → P q
theorem FilesV.blk {P : Nat → Prop} {w : World} {mb n : Nat} {g : Look} (h : FilesV P w mb n g) : ∃ es clock, w.heap[mb]? = some (.map es clock) := by
  obtain ⟨f, h1, _⟩ := h
  exact h1.blk
theorem FilesV.notcells {P : Nat → Prop} {w : World} {mb n : Nat} {g : Look} (h : FilesV P w mb n g) {k : Nat} {cur : Array Value} {t : TypeId} {fr : Nat × Nat} (hk : w.heap[k]? = some (.cells cur t fr)) : k ≠ mb := by
  rintro rfl
  obtain ⟨es, cl, hb⟩ := h.blk
  rw [hb] at hk
  cases hk
theorem own_lt {w : World} {B n z : Nat} {t : TypeId} {v : Value} {xs : List Value} (h : w.ownsRow B t z v n xs) {q : Nat} (hq : v.ownBlock = some q) : ∃ cur, w.heap[q]? = some (.cells cur t (0, 0)) := by
  rcases h.2 with ⟨rfl, _⟩ | ⟨g, cap, cur, rfl, _, hg, _⟩
  · cases hq
  · injection hq with hq
    subst hq
    exact ⟨cur, hg⟩
theorem own_kept {w w' : World} {B n z : Nat} {t : TypeId} {v : Value} {xs : List Value} (h : w.ownsRow B t z v n xs) (hb : ∀ q, v.ownBlock = some q → w'.heap[q]? = w.heap[q]?) : w'.ownsRow B t z v n xs := by
  refine ⟨h.1, ?_⟩
  rcases h.2 with h2 | ⟨g, cap, cur, rfl, h3, hg, h4⟩
  · exact .inl h2
  · exact .inr ⟨g, cap, cur, rfl, h3, (hb g rfl).trans hg, h4⟩
/-- the frame: what turns elsewhere does not matter -/
theorem FsM.turn {P Q : Nat → Prop} {w w' : World} {fb pb mb sb n m : Nat} {cv : Value} {cs : List Value} {S : Fs} (h : FsM P w fb pb mb sb n m cv cs S) (ht : Turn Q w w') (hq : ∀ k, P k → ¬ Q k) : FsM P w' fb pb mb sb n m cv cs S :=
  ⟨(ht.block fb (lt_blk h.hf) (hq _ h.pf)).trans h.hf, (ht.block pb (lt_blk h.hp) (hq _ h.pp)).trans h.hp, h.now.turn ht (hq _ h.pm), h.was.turn ht (hq _ h.ps),
   own_kept h.row (fun q e => by obtain ⟨cur, hc⟩ := own_lt h.row e; exact ht.block q (lt_blk hc) (hq _ (h.pr q e))), h.chg.turn ht, h.nil, h.ne, h.pf, h.pp, h.pm, h.ps, h.pr⟩
theorem FsM.mono {P Q : Nat → Prop} {w : World} {fb pb mb sb n m : Nat} {cv : Value} {cs : List Value} {S : Fs} (h : FsM P w fb pb mb sb n m cv cs S) (hq : ∀ k, k < w.heap.size → P k → Q k) : FsM Q w fb pb mb sb n m cv cs S :=
  ⟨h.hf, h.hp, h.now.mono hq, h.was.mono hq, h.row, h.chg.mono hq, h.nil, h.ne, hq _ (lt_blk h.hf) h.pf, hq _ (lt_blk h.hp) h.pp, hq _ h.now.lt h.pm, hq _ h.was.lt h.ps, fun q e => by obtain ⟨cur, hc⟩ := own_lt h.row e; exact hq _ (lt_blk hc) (h.pr q e)⟩
theorem FsM.row0 {P : Nat → Prop} {w : World} {fb pb mb sb n m : Nat} {cv : Value} {cs : List Value} {S : Fs} (h : FsM P w fb pb mb sb n m cv cs S) (q : Nat) (hq : cv.ownBlock = some q) (x : Int) : w.cell? ⟨q, 0, none⟩ ≠ some (.int .u8 x) := by
  intro hx
  cases hl : S.l with
  | nil => rw [h.nil hl] at hq; cases hq
  | cons c r =>
    obtain ⟨dv, _, h2, _⟩ := h.chg.at 0 c (by rw [hl]; rfl)
    rcases h.row.2 with ⟨rfl, _⟩ | ⟨g, cap, cur, rfl, _⟩
    · cases hq
    · injection hq with hq
      subst hq
      have := World.ownsRow.cells (g := g) h.row rfl 0 _ h2
      rw [add_plain] at this
      simp only [Nat.zero_add] at this
      rw [this] at hx
      injection hx with hx
      injection hx with hx
      cases hx
/-- an FS in memory, in P's blocks -/
def FsAt (P : Nat → Prop) (w : World) (fb : Nat) (S : Fs) (K : Nat) : Prop :=
  ∃ pb mb sb n m cv cs, FsM P w fb pb mb sb n m cv cs S ∧ n ≤ K ∧ m + S.l.length ≤ K
theorem FsAt.turn {P Q : Nat → Prop} {w w' : World} {fb K : Nat} {S : Fs} (h : FsAt P w fb S K) (ht : Turn Q w w') (hq : ∀ k, P k → ¬ Q k) : FsAt P w' fb S K := by
  obtain ⟨pb, mb, sb, n, m, cv, cs, h, k⟩ := h
  exact ⟨pb, mb, sb, n, m, cv, cs, h.turn ht hq, k⟩
theorem FsAt.mono {P Q : Nat → Prop} {w : World} {fb K : Nat} {S : Fs} (h : FsAt P w fb S K) (hq : ∀ k, k < w.heap.size → P k → Q k) : FsAt Q w fb S K := by
  obtain ⟨pb, mb, sb, n, m, cv, cs, h, k⟩ := h
  exact ⟨pb, mb, sb, n, m, cv, cs, h.mono hq, k⟩
/-- P's blocks and the new ones -/
def More (P : Nat → Prop) (w w' : World) : Nat → Prop := fun k => P k ∨ (w.heap.size ≤ k ∧ k < w'.heap.size)
/-- a change that may be done -/
def Valid (g : Look) (c : Chg) : Prop := c.kind = 0 ∨ (c.kind = 1 ∧ ∃ b, g c.name = some b ∧ c.at_ + c.data.length ≤ b.length) ∨ c.kind = 2
/-- no file is great -/
def Small (g : Look) : Prop := ∀ s b, g s = some b → b.length ≤ 1073741824
theorem applies_any {P : Nat → Prop} (fb mb n : Nat) (g : Look) (c : Chg) (dv : Value) (w : World) (hv : Valid g c) (h2 : w.cell? ⟨fb, 2, none⟩ = some (.map (some mb)))
    (hF : FilesV P w mb n g) (hn : n < maxLen) (hs : c.name.size ≤ maxLen) (hd : BytesIn P w dv c.data) (hl : c.data.length ≤ 1073741824) (hg : Small g) :
    Calls Try.prog 45 #[.pointer (some ⟨fb, 0, none⟩), c.val dv] w fun e w' => e = .returned (.tuple #[]) ∧ Turn (fun k => k = mb) w w' ∧ ∃ n', n' ≤ n + 1 ∧ FilesV (More P w w') w' mb n' (doesG g c) := by
  have fin : ∀ n' e w', n' ≤ n + 1 → AppP P mb n' (doesG g c) w e w' → e = .returned (.tuple #[]) ∧ Turn (fun k => k = mb) w w' ∧ ∃ n', n' ≤ n + 1 ∧ FilesV (More P w w') w' mb n' (doesG g c) := fun n' e w' hn' ⟨h1, h3, h4⟩ =>
    ⟨h1, h3, n', hn', h4.mono (fun k hk hp => by unfold More; rcases hp with h | h; exact .inl h; exact .inr ⟨h, hk⟩)⟩
  rcases hv with h | ⟨h, b, hb, hi⟩ | h
  · exact (applies0 fb mb n g c dv w h h2 hF hn hs hd (by omega)).mono fun e w' h => fin _ _ _ (Nat.le_refl _) h
  · exact (applies1 fb mb n g c dv w h b hb hi h2 hF hn hs hd (by have := hg _ _ hb; omega)).mono fun e w' h => fin _ _ _ (Nat.le_refl _) h
  · exact (applies2 fb mb n g c dv w h h2 hF hs).mono fun e w' h => fin _ _ _ (Nat.le_succ _) h
end Go.Proofs.Yticpldjcmhpjoaa

namespace Go.Proofs.Yticpldjcmhpjoaa
open Go.RowKit
set_option linter.unusedVariables false
set_option linter.unusedSimpArgs false

/-- an FS behind a change -/
def Fs.did (S : Fs) (c : Chg) : Fs := ⟨S.room, doesG S.now c, S.was, S.l ++ [c]⟩
/-- the row of changes grew by one -/
theorem FsM.snoc {P : Nat → Prop} {w w3 : World} {fb pb mb sb n m : Nat} {cv dv : Value} {cs : List Value} {S : Fs} (h : FsM P w fb pb mb sb n m cv cs S) (c : Chg) (g cp : Nat) (hd : BytesIn P w dv c.data)
    (hown : w3.ownsRow 0 68 4 (.slice (some ⟨g, 0, none⟩) (S.l.length + 1) cp) (S.l.length + 1) (cs ++ c.cells (c.kind : Int) dv)) (ht : Turn (fun k => cv.ownBlock = some k) w w3) (hg : cv.ownBlock = some g ∨ w.heap.size ≤ g) :
    FsM (More P w w3) (w3.setCell ⟨pb, 0, none⟩ (.slice (some ⟨g, 0, none⟩) (S.l.length + 1) cp)) fb pb mb sb n m (.slice (some ⟨g, 0, none⟩) (S.l.length + 1) cp) (cs ++ c.cells (c.kind : Int) dv) { S with l := S.l ++ [c] } ∧
    Turn P w (w3.setCell ⟨pb, 0, none⟩ (.slice (some ⟨g, 0, none⟩) (S.l.length + 1) cp)) := by
  obtain ⟨v3, hv3⟩ : ∃ v3, v3 = Value.slice (some ⟨g, 0, none⟩) (S.l.length + 1) cp := ⟨_, rfl⟩
  have hnf : cv.ownBlock ≠ some fb := fun e => by obtain ⟨cur, hc⟩ := own_lt h.row e; rw [h.hf] at hc; simp at hc
  have hnp : cv.ownBlock ≠ some pb := fun e => by obtain ⟨cur, hc⟩ := own_lt h.row e; rw [h.hp] at hc; simp at hc
  have hnm : cv.ownBlock ≠ some mb := fun e => by obtain ⟨cur, hc⟩ := own_lt h.row e; exact h.now.notcells hc rfl
  have hns : cv.ownBlock ≠ some sb := fun e => by obtain ⟨cur, hc⟩ := own_lt h.row e; exact h.was.notcells hc rfl
  have hpf : pb ≠ fb := by rintro rfl; have := h.hf; rw [h.hp] at this; simp at this
  have hf3 := (ht.block fb (lt_blk h.hf) hnf).trans h.hf
  have hp3 := (ht.block pb (lt_blk h.hp) hnp).trans h.hp
  have hcell : w3.cell? ⟨pb, 0, none⟩ = some cv := by rw [cell_blk hp3]; rfl
  have ht2 : Turn (fun k => k = pb) w3 (w3.setCell ⟨pb, 0, none⟩ v3) := Turn.of_set (a := ⟨pb, 0, none⟩) hcell (fun x hx => by
    rw [hcell] at hx
    injection hx with hx
    rcases h.row.2 with ⟨e, _⟩ | ⟨_, _, _, e, _⟩ <;> rw [e] at hx <;> cases hx)
  have hgp : g ≠ pb := by
    rintro rfl
    rcases hg with hg | hg
    · exact hnp hg
    · have := lt_blk h.hp; omega
  have hgl : g < w3.heap.size := by
    obtain ⟨cur, hc⟩ := own_lt (q := g) hown rfl
    exact lt_blk hc
  rw [← hv3] at hown ⊢
  refine ⟨⟨(ht2.block fb (lt_blk hf3) (fun e => hpf e.symm)).trans hf3, by rw [Go.heap_setCell_same w3 pb 0 _ _ _ hp3]; rfl, ((h.now.turn ht hnm).turn ht2 (fun e => h.now.notcells h.hp e.symm)).mono (fun k _ hp => .inl hp), ((h.was.turn ht hns).turn ht2 (fun e => h.was.notcells h.hp e.symm)).mono (fun k _ hp => .inl hp),
    own_kept (by simpa using hown) (fun q hq => ht2.block q (by rw [hv3] at hq; injection hq with hq; subst hq; exact hgl) (by rw [hv3] at hq; injection hq with hq; subst hq; exact hgp)), ?_, ?_, h.ne, .inl h.pf, .inl h.pp, .inl h.pm, .inl h.ps, ?_⟩, ?_⟩
  · refine ChgCs.append (((h.chg.turn ht).turn ht2).mono (fun k _ hp => .inl hp)) ?_
    have := ChgCs.cons (base := 0) c [] dv [] (((hd.turn ht).turn ht2).mono (Q := More P w w3) (fun k _ hp => .inl hp)) .nil
    simpa using this
  · intro e; simp at e
  · intro q hq
    rw [hv3] at hq
    injection hq with hq
    subst hq
    rcases hg with hg | hg
    · exact .inl (h.pr _ hg)
    · exact .inr ⟨hg, hgl⟩
  · exact (ht.mono (Q := P) (fun k _ e => h.pr k e)).trans ht2 (fun k _ e => by subst e; exact h.pp)
set_option maxRecDepth 20000 in
set_option maxHeartbeats 2000000 in
theorem does_any {P : Nat → Prop} (fb K : Nat) (S : Fs) (c : Chg) (dv : Value) (w : World) (hv : Valid S.now c) (hS : FsAt P w fb S K) (hK : K ≤ 1000000) (hs : c.name.size ≤ maxLen) (hd : BytesIn P w dv c.data)
    (hl : c.data.length ≤ 1073741824) (hg : Small S.now) :
    Calls Try.prog 31 #[.pointer (some ⟨fb, 0, none⟩), c.val dv] w fun e w' => e = .returned (.tuple #[]) ∧ FsAt (More P w w') w' fb (S.did c) (K + 1) ∧ Turn P w w' := by
  obtain ⟨pb, mb, sb, n, m, cv, cs, hM, hn, hm⟩ := hS
  obtain ⟨W1, hW1⟩ : ∃ W1, W1 = w.alloc (.cells #[.int .i64 (c.kind : Int), .string c.name, .int .i64 (c.at_ : Int), dv] 68) := ⟨_, rfl⟩
  have hg1 : Grow w W1 := by rw [hW1]; exact (Grow.refl w).alloc _
  have hb1 := heap_alloc_new w (.cells #[.int .i64 (c.kind : Int), .string c.name, .int .i64 (c.at_ : Int), dv] 68)
  rw [← hW1] at hb1
  have hM1 := hM.turn (Turn.of_grow (P := fun _ => False) hg1) (fun _ _ h => h)
  have AP := Lib.hid (applies_any fb mb n S.now c dv W1 hv (by rw [cell_blk hM1.hf]; rfl) hM1.now (by unfold maxLen; omega) hs (hd.turn (Turn.of_grow (P := P) hg1)) hl hg)
  have HM := Lib.hid hM1
  have HB1 := Lib.hid hb1
  have HG1 := Lib.hid hg1
  have HD := Lib.hid hd
  have HW := Lib.hid hW1
  have HMK := Lib.hid hm
  have HN := Lib.hid hn
  obtain ⟨kd, hkd⟩ : ∃ kd : Int, kd = (c.kind : Int) := ⟨_, rfl⟩
  unfold Chg.val at AP ⊢
  clear hM hM1 hb1 hg1 hd hv hs hl hg hn hm hkd hW1
  go_enter Try.func31, Try.ntmps31
  go_wp2_with fail
  rw [← HW.out]
  refine AP.out.mono ?_
  rintro e w2 ⟨rfl, t2, n', hn', hF2⟩
  have hM2 : FsM (More P W1 w2) w2 fb pb mb sb n' m cv cs { S with now := doesG S.now c } := by
    have hM := HM.out
    have hm1 : fb ≠ mb := fun e => hM.now.notcells hM.hf e
    have hm2 : pb ≠ mb := fun e => hM.now.notcells hM.hp e
    refine ⟨(t2.block fb (lt_blk hM.hf) hm1).trans hM.hf, (t2.block pb (lt_blk hM.hp) hm2).trans hM.hp, hF2, (hM.was.turn t2 (fun e => hM.ne e.symm)).mono (fun k _ hp => .inl hp),
      own_kept hM.row (fun q e => by obtain ⟨cur, hc⟩ := own_lt hM.row e; exact t2.block q (lt_blk hc) (fun e => hM.now.notcells hc e)), (hM.chg.turn t2).mono (fun k _ hp => .inl hp), hM.nil, hM.ne, .inl hM.pf, .inl hM.pp, .inl hM.pm, .inl hM.ps, fun q e => .inl (hM.pr q e)⟩
  have hbx : w2.heap[w.heap.size]? = some (.cells #[.int .i64 (c.kind : Int), .string c.name, .int .i64 (c.at_ : Int), dv] 68) := (t2.block _ (lt_blk HB1.out) (fun e => HM.out.now.notcells HB1.out e)).trans HB1.out
  obtain ⟨N, hN⟩ : ∃ N, N = S.l.length := ⟨_, rfl⟩
  have HNL := Lib.hid hN
  have hrow := hM2.row
  rw [show ({ S with now := doesG S.now c } : Fs).l.length = N from hN.symm] at hrow
  have hrow1 := hM2.turn (Turn.of_grow (P := fun _ => False) ((Grow.refl w2).drew.alloc (.cells #[.int .i64 (c.kind : Int), .string c.name, .int .i64 (c.at_ : Int), dv] 68))) (fun _ _ h => h)
  have hN9 : N ≤ 1000000 := by have := HMK.out; omega
  obtain ⟨ac, cc, hcv⟩ : ∃ ac cc, cv = .slice ac N cc := by
    rcases hrow.2 with ⟨h1, h2⟩ | ⟨g, cap, cur, h1, _⟩
    · exact ⟨none, 0, by rw [h1, h2]⟩
    · exact ⟨_, cap, h1⟩
  have hp0 : w2.cell? ⟨pb, 0, none⟩ = some (.slice ac N cc) := by rw [cell_blk hM2.hp, ← hcv]; rfl
  have hf0 : w2.cell? ⟨fb, 0, none⟩ = some (.pointer (some ⟨pb, 0, none⟩)) := by rw [cell_blk hM2.hf]; rfl
  have hx0 := cell_blk hbx 0
  have hx1 := cell_blk hbx 1
  have hx2 := cell_blk hbx 2
  have hx3 := cell_blk hbx 3
  simp at hx0 hx1 hx2 hx3
  have hpl : pb < w2.heap.size := lt_of_cell hp0
  have mx : N + 1 ≤ maxLen := by unfold maxLen; omega
  obtain ⟨i0, hi0, hz0, hz1, hz2⟩ := info_parts (show (Try.prog.info? 68).map (fun i => (i.zero, i.size, i.bytes)) = some (some (.agg #[.int .i64 0, .string ⟨#[]⟩, .int .i64 0, .slice none 0 0]), 4, 56) by kernel_rfl)
  have hNE : cv.ownBlock ≠ some pb := fun e => by obtain ⟨cur, hc⟩ := own_lt hrow e; rw [hM2.hp] at hc; simp at hc
  have NE6 := Lib.hid hNE
  have R0 := Lib.hid hM2.row0
  have HM2 := Lib.hid hM2
  have T2 := Lib.hid t2
  have HBX := Lib.hid hbx
  have HROW := Lib.hid hrow
  have c5A := Lib.hid (show ∀ ob, (w2.drew.alloc ob).cell? ⟨pb, 0, none⟩ = some (.slice ac N cc) from fun ob => (World.cell?_alloc_lt _ _ _ (by simpa using hpl)).trans (by simpa using hp0))
  have FZ8 := Lib.hid (show ∀ (ob : Obj) (w8 : World), (w2.drew.alloc ob).grownBy w8 cv.ownBlock → w8.frozen? ⟨pb, 0, none⟩ = false from fun ob w8 hg => by
    rw [World.frozen?_of_block (a := ⟨pb, 0, none⟩) (hg.block pb (by simp; omega) (fun e => NE6.out e.symm)), World.frozen?_of_block (a := ⟨pb, 0, none⟩) (Below.heap_alloc _ _ _ (by simpa using hpl))]
    simpa using froz_blk HM2.out.hp 0)
  have HCV := Lib.hid hcv
  have hfl : fb < w2.heap.size := lt_of_cell hf0
  have k1 : (w2.alloc (.cells #[.int .i64 (c.kind : Int), .string c.name, .int .i64 (c.at_ : Int), dv] 68)).cell? ⟨fb, 0, none⟩ = some (.pointer (some ⟨pb, 0, none⟩)) := (World.cell?_alloc_lt _ _ _ (by simpa using hfl)).trans hf0
  have k2 : (w2.alloc (.cells #[.int .i64 (c.kind : Int), .string c.name, .int .i64 (c.at_ : Int), dv] 68)).cell? ⟨pb, 0, none⟩ = some (.slice ac N cc) := (World.cell?_alloc_lt _ _ _ (by simpa using hpl)).trans hp0
  have NE7 := Lib.hid (show cv.ownBlock ≠ some fb from fun e => by obtain ⟨cur, hc⟩ := own_lt HROW.out e; rw [HM2.out.hf] at hc; simp at hc)
  obtain ⟨ob, hob⟩ : ∃ ob, ob = Obj.cells #[.int .i64 (c.kind : Int), .string c.name, .int .i64 (c.at_ : Int), dv] 68 := ⟨_, rfl⟩
  have FIN := Lib.hid (show ∀ (wz : World) (gg cp : Nat), wz.ownsRow 0 68 4 (.slice (some ⟨gg, 0, none⟩) (N + 1) cp) (N + 1) (cs ++ [.int .i64 (c.kind : Int), .string c.name, .int .i64 (c.at_ : Int), dv]) →
      (w2.drew.alloc (.cells #[.int .i64 (c.kind : Int), .string c.name, .int .i64 (c.at_ : Int), dv] 68)).grownBy wz cv.ownBlock → (cv.ownBlock = some gg ∨ gg = w2.heap.size + 1) →
      FsAt (More P w (wz.setCell ⟨pb, 0, none⟩ (.slice (some ⟨gg, 0, none⟩) (N + 1) cp))) (wz.setCell ⟨pb, 0, none⟩ (.slice (some ⟨gg, 0, none⟩) (N + 1) cp)) fb (S.did c) (K + 1) ∧ Turn P w (wz.setCell ⟨pb, 0, none⟩ (.slice (some ⟨gg, 0, none⟩) (N + 1) cp)) from by
    intro wz gg cp h1 h2 h3
    rw [← hob] at h2
    rw [← hob] at hrow1
    have gA : Grow w2 (w2.drew.alloc ob) := (Grow.refl w2).drew.alloc _
    have tw : Turn P w w2 := (Turn.of_grow (P := P) HG1.out).trans T2.out (fun k _ e => by subst e; exact HM.out.pm)
    have tA : Turn P w (w2.drew.alloc ob) := tw.trans (Turn.of_grow (P := P) gA) (fun _ _ h => h)
    have hs1 : (w2.drew.alloc ob).heap.size = w2.heap.size + 1 := by simp
    have hd' : BytesIn (More P W1 w2) (w2.drew.alloc ob) dv c.data := (HD.out.turn tA).mono (fun k _ h => .inl h)
    rw [hN] at h1 ⊢
    obtain ⟨r1, r2⟩ := hrow1.snoc c gg cp hd' h1 (Turn.of_grown h2 (fun q hq x => hrow1.row0 q hq x)) (by rw [hs1]; rcases h3 with h | h; exact .inl h; exact .inr (by omega))
    have tB := tA.trans r2 (fun k hk h => by
      rcases h with h | ⟨h, _⟩
      · exact h
      · have := Grow.size HG1.out; omega)
    refine ⟨⟨pb, mb, sb, n', m, _, _, r1.mono (fun k hk h => ?_), by have := HN.out; omega, by have := HMK.out; simp [Fs.did]; omega⟩, tB⟩
    unfold More at h ⊢
    have q1 := Grow.size HG1.out
    have q2 := T2.out.size
    rcases h with (h | ⟨h, h'⟩) | ⟨h, h'⟩
    · exact .inl h
    · exact .inr ⟨by omega, hk⟩
    · exact .inr ⟨by omega, hk⟩)
  clear hob ob
  clear hrow hrow1 hM2 hbx t2 hNE hF2 hN
  subst hcv
  go_wp2
  go_region_law
    (refine step_append_lies _ (by rfl) _ _ _ (by rfl) 0 68 i0 _ 4 56 Try.underlying57 hi0 hz0 hz1 hz2 rfl (by omega) (.slice ac N cc) N cs (by rfl) ((own_grow HROW.out (Grow.refl w2).drew).alloc _) ⟨w2.heap.size, 0, none⟩ 1 1 [.int .i64 (c.kind : Int), .string c.name, .int .i64 (c.at_ : Int), dv] (by rfl) (by rfl) (World.news_of_block (cs := #[.int .i64 (c.kind : Int), .string c.name, .int .i64 (c.at_ : Int), dv]) (t := 68) (fr := (0, 0)) (heap_alloc_new w2.drew _)) (by intro u hu; simp at hu; rcases hu with rfl | rfl | rfl | rfl <;> first | rfl | exact HD.out.one) (by omega) mx (by omega) (by simp) (w2.heap.size + 1) (by simp) ?_; intro gg8 cp8 wz hown8 hgrow8 hat8 hlt8; have c8 := hgrow8.cell (a := ⟨pb, 0, none⟩) (c5A.out _) (fun e => NE6.out e.symm); have f8 := FZ8.out _ _ hgrow8; have c9 := hgrow8.cell (a := ⟨fb, 0, none⟩) k1 (fun e => NE7.out e.symm))
  all_goals
    have FN := Lib.hid (FIN.out _ _ _ hown8 hgrow8 hat8)
    clear hown8 hgrow8 hat8 c8 f8 c9
    go_wp2
    go_end0
    exact ⟨rfl, FN.out⟩
end Go.Proofs.Yticpldjcmhpjoaa
