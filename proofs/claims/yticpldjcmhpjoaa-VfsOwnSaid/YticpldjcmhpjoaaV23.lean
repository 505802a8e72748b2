/-
  Crash, plain; the walk of Crash.
-/
import Derived.Test.YticpldjcmhpjoaaV22
namespace Go.Proofs.Yticpldjcmhpjoaa
open Go.RowKit
set_option linter.unusedVariables false
set_option linter.unusedSimpArgs false

/-- files behind changes -/
def play : List File → List Chg → List File
  | fs, [] => fs
  | fs, c :: l => play (doesL fs c) l
theorem play_append (fs : List File) (a b : List Chg) : play fs (a ++ b) = play (play fs a) b := by
  induction a generalizing fs with
  | nil => rfl
  | cons c r ih => exact ih _
theorem Runs.upto {room : Nat} {was now : List File} {l : List Chg} (h : Runs room was l now) : ∀ k, OkF room (play was (l.take k)) ∧ ∀ c, l[k]? = some c → OkC (play was (l.take k)) c := by
  induction h with
  | nil fs h => intro k; simp [play, h]
  | cons fs c l now h1 h2 _ ih =>
    intro k
    cases k with
    | zero => exact ⟨h1, fun c' hc => by simp at hc; subst hc; exact h2⟩
    | succ k =>
      obtain ⟨a, b⟩ := ih k
      exact ⟨a, fun c' hc => b c' (by simpa using hc)⟩
theorem Runs.now_eq {room : Nat} {was now : List File} {l : List Chg} (h : Runs room was l now) : now = play was l := by
  induction h with
  | nil fs h => rfl
  | cons fs c l now h1 h2 _ ih => exact ih
/-- how many changes stay -/
def keepN (n : Int) (l : List Chg) : Nat := (max 0 (min n (l.length : Int))).toNat
/-- what stays of the next one -/
def tornC (m : Int) (c : Chg) : Chg := ⟨c.kind, c.name, c.at_, c.data.take (max 0 (min m (c.data.length : Int))).toNat⟩
/-- what of changes stays -/
def crashL (was : List File) (l : List Chg) (n m : Int) : List File :=
  match l[keepN n l]? with
  | none => play was (l.take (keepN n l))
  | some c => if c.kind = 1 then doesL (play was (l.take (keepN n l))) (tornC m c) else play was (l.take (keepN n l))
def crashD (D : Doc) (n m : Int) : Doc := ⟨D.room, crashL D.was D.l n m, crashL D.was D.l n m, []⟩
theorem torn_ok {fs : List File} {c : Chg} (h : OkC fs c) (m : Int) (hk : c.kind = 1) : OkC fs (tornC m c) := by
  refine ⟨h.name, ?_, .inr (.inl ⟨hk, ?_⟩)⟩
  · have := h.data
    simp only [tornC, List.length_take]
    omega
  · rcases h.kind with ⟨h0, _⟩ | ⟨_, b, h1, h2⟩ | ⟨h0, _⟩
    · omega
    · refine ⟨b, h1, ?_⟩
      simp only [tornC, List.length_take]
      omega
    · omega
theorem crashL_ok {room : Nat} {was now : List File} {l : List Chg} (h : Runs room was l now) (n m : Int) : OkF room (crashL was l n m) := by
  unfold crashL
  obtain ⟨a, b⟩ := h.upto (keepN n l)
  cases hc : l[keepN n l]? with
  | none => exact a
  | some c =>
    simp only
    split
    · rename_i hk
      exact does_ok a (torn_ok (b c hc) m hk) (fun h0 => by simp only [tornC] at h0; omega)
    · exact a
theorem Good.crash {D : Doc} (h : Good D) (n m : Int) : Good (crashD D n m) := ⟨.nil _ (crashL_ok h.runs n m), h.room⟩
theorem Good.sync {D : Doc} (h : Good D) : Good ⟨D.room, D.now, D.now, []⟩ := ⟨.nil _ h.runs.last, h.room⟩
theorem FsM.applied {P : Nat → Prop} {W w2 : World} {fb pb mb sb n n' m : Nat} {cv : Value} {cs : List Value} {S : Fs} {g : Look} (hM : FsM P W fb pb mb sb n m cv cs S) (t2 : Turn (fun k => k = mb) W w2) (hF2 : FilesV (More P W w2) w2 mb n' g) :
    FsM (More P W w2) w2 fb pb mb sb n' m cv cs { S with now := g } := by
  have hm1 : fb ≠ mb := fun e => hM.now.notcells hM.hf e
  have hm2 : pb ≠ mb := fun e => hM.now.notcells hM.hp e
  exact ⟨(t2.block fb (lt_blk hM.hf) hm1).trans hM.hf, (t2.block pb (lt_blk hM.hp) hm2).trans hM.hp, hF2, (hM.was.turn t2 (fun e => hM.ne e.symm)).mono (fun k _ hp => .inl hp),
    own_kept hM.row (fun q e => by obtain ⟨cur, hc⟩ := own_lt hM.row e; exact t2.block q (lt_blk hc) (fun e => hM.now.notcells hc e)), (hM.chg.turn t2).mono (fun k _ hp => .inl hp), hM.nil, hM.ne, .inl hM.pf, .inl hM.pp, .inl hM.pm, .inl hM.ps, fun q e => .inl (hM.pr q e)⟩
/-- the files' map is another one -/
theorem FsM.remap {P : Nat → Prop} {w w1 : World} {fb pb mb sb n n' m : Nat} {cv : Value} {cs : List Value} {S : Fs} {g : Look} (h : FsM P w fb pb mb sb n m cv cs S) (gg : Grow w w1) (q : Nat) (hq : FilesV P w1 q n' g) (hql : w.heap.size ≤ q) :
    FsM (More P w w1) (w1.setCell ⟨fb, 2, none⟩ (.map (some q))) fb pb q sb n' m cv cs { S with now := g } ∧ Turn P w (w1.setCell ⟨fb, 2, none⟩ (.map (some q))) := by
  have h1 := h.turn (Turn.of_grow (P := fun _ => False) gg) (fun _ _ h => h)
  have hpf : pb ≠ fb := by rintro rfl; have := h.hf; rw [h.hp] at this; simp at this
  have hc2 : w1.cell? ⟨fb, 2, none⟩ = some (.map (some mb)) := by rw [cell_blk h1.hf]; rfl
  have hc0 : w1.cell? ⟨fb, 0, none⟩ = some (.pointer (some ⟨pb, 0, none⟩)) := by rw [cell_blk h1.hf]; rfl
  have t : Turn (fun k => k = fb) w1 (w1.setCell ⟨fb, 2, none⟩ (.map (some q))) := Turn.of_set (a := ⟨fb, 2, none⟩) hc2 (fun x hx => by rw [hc0] at hx; injection hx with hx; cases hx)
  refine ⟨⟨by rw [Go.heap_setCell_same w1 fb 2 _ _ _ h1.hf]; rfl, (t.block pb (lt_blk h1.hp) hpf).trans h1.hp, (hq.turn t (fun e => hq.notcells h1.hf e.symm)).mono (fun k _ h => .inl h), (h1.was.turn t (fun e => h1.was.notcells h1.hf e.symm)).mono (fun k _ h => .inl h),
    own_kept h1.row (fun q e => by obtain ⟨cur, hc⟩ := own_lt h1.row e; exact t.block q (lt_blk hc) (fun e => by subst e; rw [h1.hf] at hc; simp at hc)), (h1.chg.turn t).mono (fun k _ h => .inl h), h1.nil, ?_, .inl h.pf, .inl h.pp, .inr ⟨hql, hq.lt⟩, .inl h.ps, fun q e => .inl (h.pr q e)⟩, (Turn.of_grow (P := P) gg).trans t (fun k _ e => by subst e; exact h.pf)⟩
  have := h.was.lt
  omega
end Go.Proofs.Yticpldjcmhpjoaa
