/-
  The walk of Sync. / Crash, plain; the walk of Crash. / The walk of Crash. / An FS of one's own among other memory; New; the good states.
-/
import Derived.Test.YticpldjcmhpjoaaQf
namespace Go.Proofs.Yticpldjcmhpjoaa
open Go.RowKit
set_option linter.unusedVariables false
set_option linter.unusedSimpArgs false

theorem clonef_any {P : Nat → Prop} (mb n : Nat) (g : Look) (w : World) (h : FilesV P w mb n g) :
    Calls Try.prog 44 #[.map (some mb)] w fun e w' => e = .returned (.map (some w.heap.size)) ∧ Hid (FilesV P w' w.heap.size n g) ∧ Grow w w' := by
  obtain ⟨f, ⟨D, h1, h2, h3⟩, hf⟩ := h
  refine (Try.maps_Clone_owns 9 rawE mb n D w h1).mono ?_
  rintro e w' ⟨rfl, h4, h5, h6⟩
  refine ⟨rfl, Lib.hid ⟨f, ⟨D, h4, h2, h3⟩, fun s => ⟨(hf s).1, fun l hl => ?_⟩⟩, h6⟩
  obtain ⟨v, h7, h8⟩ := (hf s).2 l hl
  exact ⟨v, h7, h8.turn (Turn.of_grow (P := fun _ => False) h6)⟩
theorem set0 {w : World} {pb : Nat} {a b x : Value} (h : w.heap[pb]? = some (.cells #[a, b] 59 (0, 0))) (ha : ∀ i, a ≠ .int .u8 i) : (w.setCell ⟨pb, 0, none⟩ x).heap[pb]? = some (.cells #[x, b] 59 (0, 0)) ∧ Turn (fun k => k = pb) w (w.setCell ⟨pb, 0, none⟩ x) := by
  have hc : w.cell? ⟨pb, 0, none⟩ = some a := by rw [cell_blk h]; rfl
  refine ⟨by rw [Go.heap_setCell_same w pb 0 _ _ _ h]; rfl, Turn.of_set (a := ⟨pb, 0, none⟩) hc (fun i hi => ?_)⟩
  rw [hc] at hi
  injection hi with hi
  exact ha i hi
theorem set1 {w : World} {pb : Nat} {a b x : Value} (h : w.heap[pb]? = some (.cells #[a, b] 59 (0, 0))) (ha : ∀ i, a ≠ .int .u8 i) : (w.setCell ⟨pb, 1, none⟩ x).heap[pb]? = some (.cells #[a, x] 59 (0, 0)) ∧ Turn (fun k => k = pb) w (w.setCell ⟨pb, 1, none⟩ x) := by
  have hc : w.cell? ⟨pb, 0, none⟩ = some a := by rw [cell_blk h]; rfl
  have hc1 : w.cell? ⟨pb, 1, none⟩ = some b := by rw [cell_blk h]; rfl
  refine ⟨by rw [Go.heap_setCell_same w pb 1 _ _ _ h]; rfl, Turn.of_set (a := ⟨pb, 1, none⟩) hc1 (fun i hi => ?_)⟩
  rw [hc] at hi
  injection hi with hi
  exact ha i hi
theorem own_not8 {w : World} {B n z : Nat} {t : TypeId} {v : Value} {xs : List Value} (h : w.ownsRow B t z v n xs) (i : Int) : v ≠ .int .u8 i := by
  intro e
  rcases h.2 with ⟨h1, _⟩ | ⟨_, _, _, h1, _⟩ <;> rw [h1] at e <;> cases e
theorem Turn.same {Q : Nat → Prop} {a b c : World} (h : Turn Q a b) (k : Turn Q b c) : Turn Q a c := h.trans k (fun _ _ h => h)
theorem FsM.synced {P : Nat → Prop} {w W : World} {fb pb mb sb n m K : Nat} {cv : Value} {cs : List Value} {S : Fs} (h : FsM P w fb pb mb sb n m cv cs S) (hn : n ≤ K) (t : Turn (fun k => k = pb) w W) (q : Nat)
    (hp : W.heap[pb]? = some (.cells #[.slice none 0 0, .map (some q)] 59 (0, 0))) (hq : FilesV P W q n S.now) (hql : w.heap.size ≤ q) :
    FsAt (More P w W) W fb ⟨S.room, S.now, S.now, []⟩ (K + 1) ∧ Turn P w W := by
  have hpf : fb ≠ pb := by rintro rfl; have := h.hf; rw [h.hp] at this; simp at this
  refine ⟨⟨pb, mb, q, n, n, .slice none 0 0, [], ⟨(t.block fb (lt_blk h.hf) hpf).trans h.hf, hp, (h.now.turn t (fun e => h.now.notcells h.hp e.symm)).mono (fun k _ h => .inl h), hq.mono (fun k _ h => .inl h), ⟨rfl, .inl ⟨rfl, rfl⟩⟩, .nil, fun _ => rfl, ?_, .inl h.pf, .inl h.pp, .inl h.pm, .inr ⟨hql, hq.lt⟩, (fun q hq => (by cases hq))⟩, by omega, by simp; omega⟩, t.mono (fun k _ e => by subst e; exact h.pp)⟩
  have := h.now.lt
  omega
set_option maxRecDepth 20000 in
set_option maxHeartbeats 2000000 in
theorem sync_any {P : Nat → Prop} (fb K : Nat) (S : Fs) (w : World) (hS : FsAt P w fb S K) :
    Calls Try.prog 22 #[.pointer (some ⟨fb, 0, none⟩)] w fun e w' => e = .returned (.tuple #[]) ∧ FsAt (More P w w') w' fb ⟨S.room, S.now, S.now, []⟩ (K + 1) ∧ Turn P w w' := by
  obtain ⟨pb, mb, sb, n, m, cv, cs, hM, hnK, hmK⟩ := hS
  have f0 : w.cell? ⟨fb, 0, none⟩ = some (.pointer (some ⟨pb, 0, none⟩)) := by rw [cell_blk hM.hf]; rfl
  have f2 : w.cell? ⟨fb, 2, none⟩ = some (.map (some mb)) := by rw [cell_blk hM.hf]; rfl
  have p0 : w.cell? ⟨pb, 0, none⟩ = some cv := by rw [cell_blk hM.hp]; rfl
  have p1 : w.cell? ⟨pb, 1, none⟩ = some (.map (some sb)) := by rw [cell_blk hM.hp]; rfl
  have z0 : w.frozen? ⟨pb, 0, none⟩ = false := froz_blk hM.hp 0
  have z1 : w.frozen? ⟨pb, 1, none⟩ = false := froz_blk hM.hp 1
  have hpf : pb ≠ fb := by rintro rfl; have := hM.hf; rw [hM.hp] at this; simp at this
  have hfl : fb < w.heap.size := lt_of_cell f0
  have hpl : pb < w.heap.size := lt_of_cell p0
  have HM := Lib.hid hM
  have MC := Lib.hid (show ∀ W, FilesV P W mb n S.now → Calls Try.prog 44 #[.map (some mb)] W fun e w' => e = .returned (.map (some W.heap.size)) ∧ Hid (FilesV P w' W.heap.size n S.now) ∧ Grow W w' from fun W hW => clonef_any mb n S.now W hW)
  have FA := Lib.hid (show FilesV P w.drew mb n S.now from hM.now.turn (Turn.of_grow (P := fun _ => False) (Grow.refl w).drew) (fun h => h))
  have ht0 : Turn (fun k => k = pb) w (w.setCell ⟨pb, 0, none⟩ (.slice none 0 0)) := Turn.of_set (a := ⟨pb, 0, none⟩) p0 (fun x hx => by
    rw [p0] at hx
    injection hx with hx
    rcases hM.row.2 with ⟨e, _⟩ | ⟨_, _, _, e, _⟩ <;> rw [e] at hx <;> cases hx)
  have T0 := Lib.hid ht0
  have FB := Lib.hid (show FilesV P (w.setCell ⟨pb, 0, none⟩ (.slice none 0 0)).drew mb n S.now from (hM.now.turn ht0 (fun e => hM.now.notcells hM.hp e.symm)).turn (Turn.of_grow (P := fun _ => False) (Grow.refl _).drew) (fun h => h))
  have cA := Lib.hid (show ∀ w1, Grow w.drew w1 → (w1.cell? ⟨fb, 0, none⟩ = some (.pointer (some ⟨pb, 0, none⟩)) ∧ w1.cell? ⟨fb, 2, none⟩ = some (.map (some mb)) ∧ w1.cell? ⟨pb, 0, none⟩ = some cv ∧ w1.cell? ⟨pb, 1, none⟩ = some (.map (some sb)) ∧ w1.frozen? ⟨pb, 0, none⟩ = false ∧ w1.frozen? ⟨pb, 1, none⟩ = false ∧ fb < w1.heap.size ∧ pb < w1.heap.size) from fun w1 g => by
    have gg : Grow w w1 := (Grow.refl w).drew.trans g
    have hz := Grow.size gg
    have hb := (Below.block gg pb hpl).trans hM.hp
    exact ⟨(Below.cell gg (p := ⟨fb, 0, none⟩) hfl).trans f0, (Below.cell gg (p := ⟨fb, 2, none⟩) hfl).trans f2, by rw [cell_blk hb]; rfl, by rw [cell_blk hb]; rfl, froz_blk hb 0, froz_blk hb 1, by omega, by omega⟩)
  have cB := Lib.hid (show ∀ w1, Grow (w.setCell ⟨pb, 0, none⟩ (.slice none 0 0)).drew w1 → (w1.cell? ⟨fb, 0, none⟩ = some (.pointer (some ⟨pb, 0, none⟩)) ∧ w1.cell? ⟨pb, 1, none⟩ = some (.map (some sb)) ∧ w1.frozen? ⟨pb, 1, none⟩ = false ∧ fb < w1.heap.size ∧ pb < w1.heap.size) from fun w1 g => by
    obtain ⟨s1, s2⟩ := set0 (x := .slice none 0 0) hM.hp (own_not8 hM.row)
    have gg : Grow (w.setCell ⟨pb, 0, none⟩ (.slice none 0 0)) w1 := (Grow.refl _).drew.trans g
    have hz := Grow.size gg
    have hz2 := s2.size
    have hb := (Below.block gg pb (lt_blk s1)).trans s1
    have hf9 := (s2.block fb hfl (fun e => hpf e.symm)).trans hM.hf
    have hf8 := (Below.block gg fb (lt_blk hf9)).trans hf9
    exact ⟨by rw [cell_blk hf8]; rfl, by rw [cell_blk hb]; rfl, froz_blk hb 1, by omega, by omega⟩)
  have FIN1 := Lib.hid (show ∀ w1, Grow w.drew w1 → FilesV P w1 w.heap.size n S.now → FsAt (More P w ((w1.setCell ⟨pb, 1, none⟩ (.map (some w.heap.size))).setCell ⟨pb, 0, none⟩ (.slice none 0 0))) ((w1.setCell ⟨pb, 1, none⟩ (.map (some w.heap.size))).setCell ⟨pb, 0, none⟩ (.slice none 0 0)) fb ⟨S.room, S.now, S.now, []⟩ (K + 1) ∧ Turn P w ((w1.setCell ⟨pb, 1, none⟩ (.map (some w.heap.size))).setCell ⟨pb, 0, none⟩ (.slice none 0 0)) from fun w1 g hF1 => by
    have gg : Grow w w1 := (Grow.refl w).drew.trans g
    have hb := (Below.block gg pb hpl).trans hM.hp
    obtain ⟨a1, a2⟩ := set1 (x := .map (some w.heap.size)) hb (own_not8 hM.row)
    obtain ⟨b1, b2⟩ := set0 (x := .slice none 0 0) a1 (own_not8 hM.row)
    exact hM.synced hnK (((Turn.of_grow gg).same a2).same b2) w.heap.size b1 (hF1.turn (a2.same b2) (by omega)) (Nat.le_refl _))
  have FIN2 := Lib.hid (show ∀ w1, Grow w.drew w1 → FilesV P w1 w.heap.size n S.now → FsAt (More P w ((w1.setCell ⟨pb, 0, none⟩ (.slice none 0 0)).setCell ⟨pb, 1, none⟩ (.map (some w.heap.size)))) ((w1.setCell ⟨pb, 0, none⟩ (.slice none 0 0)).setCell ⟨pb, 1, none⟩ (.map (some w.heap.size))) fb ⟨S.room, S.now, S.now, []⟩ (K + 1) ∧ Turn P w ((w1.setCell ⟨pb, 0, none⟩ (.slice none 0 0)).setCell ⟨pb, 1, none⟩ (.map (some w.heap.size))) from fun w1 g hF1 => by
    have gg : Grow w w1 := (Grow.refl w).drew.trans g
    have hb := (Below.block gg pb hpl).trans hM.hp
    obtain ⟨a1, a2⟩ := set0 (x := .slice none 0 0) hb (own_not8 hM.row)
    obtain ⟨b1, b2⟩ := set1 (x := .map (some w.heap.size)) a1 (fun i e => (by cases e))
    exact hM.synced hnK (((Turn.of_grow gg).same a2).same b2) w.heap.size b1 (hF1.turn (a2.same b2) (by omega)) (Nat.le_refl _))
  have FIN3 := Lib.hid (show ∀ w1, Grow (w.setCell ⟨pb, 0, none⟩ (.slice none 0 0)).drew w1 → FilesV P w1 w.heap.size n S.now → FsAt (More P w (w1.setCell ⟨pb, 1, none⟩ (.map (some w.heap.size)))) (w1.setCell ⟨pb, 1, none⟩ (.map (some w.heap.size))) fb ⟨S.room, S.now, S.now, []⟩ (K + 1) ∧ Turn P w (w1.setCell ⟨pb, 1, none⟩ (.map (some w.heap.size))) from fun w1 g hF1 => by
    obtain ⟨a1, a2⟩ := set0 (x := .slice none 0 0) hM.hp (own_not8 hM.row)
    have gg : Grow (w.setCell ⟨pb, 0, none⟩ (.slice none 0 0)) w1 := (Grow.refl _).drew.trans g
    have hb := (Below.block gg pb (lt_blk a1)).trans a1
    obtain ⟨b1, b2⟩ := set1 (x := .map (some w.heap.size)) hb (fun i e => (by cases e))
    exact hM.synced hnK ((a2.same (Turn.of_grow gg)).same b2) w.heap.size b1 (hF1.turn b2 (by omega)) (Nat.le_refl _))
  clear hM ht0
  go_enter Try.func22, Try.ntmps22
  go_wp2
  go_region_law
    (first
      | (go_simp; go_at_call 44; refine (MC.out _ FA.out).mono ?_; rintro e w1 ⟨rfl, hF1, g1⟩; obtain ⟨q0, q2, q3, q4, q5, q6, q7, q8⟩ := cA.out _ g1)
      | (go_simp; go_at_call 44; refine (MC.out _ FB.out).mono ?_; rintro e w1 ⟨rfl, hF1, g1⟩; obtain ⟨q0, q3, q6, q7, q8⟩ := cB.out _ g1))
  all_goals
    first
      | have FN := Lib.hid (FIN1.out _ g1 (by simpa using hF1.out))
        clear g1 hF1
        go_wp2
        go_end0
        exact ⟨rfl, FN.out⟩
      | have FN := Lib.hid (FIN2.out _ g1 (by simpa using hF1.out))
        clear g1 hF1
        go_wp2
        go_end0
        exact ⟨rfl, FN.out⟩
      | have FN := Lib.hid (FIN3.out _ g1 (by simpa using hF1.out))
        clear g1 hF1
        go_wp2
        go_end0
        exact ⟨rfl, FN.out⟩
end Go.Proofs.Yticpldjcmhpjoaa

namespace Go.Proofs.Yticpldjcmhpjoaa
open Go.RowKit
set_option linter.unusedVariables false
set_option linter.unusedSimpArgs false

/-- files behind changes -/
def play : List File → List Chg → List File
  | fs, [] => fs
  | fs, c :: l => play (doesL fs c) l
theorem play_append (fs : List File) (a b : List Chg) : play fs (a ++ b) = play (play fs a) b := by
  induction a generalizing fs with
  | nil => rfl
  | cons c r ih => exact ih _
theorem Runs.upto {room : Nat} {was now : List File} {l : List Chg} (h : Runs room was l now) : ∀ k, OkF room (play was (l.take k)) ∧ ∀ c, l[k]? = some c → OkC (play was (l.take k)) c := by
  induction h with
  | nil fs h => intro k; simp [play, h]
  | cons fs c l now h1 h2 _ ih =>
    intro k
    cases k with
    | zero => exact ⟨h1, fun c' hc => by simp at hc; subst hc; exact h2⟩
    | succ k =>
      obtain ⟨a, b⟩ := ih k
      exact ⟨a, fun c' hc => b c' (by simpa using hc)⟩
theorem Runs.now_eq {room : Nat} {was now : List File} {l : List Chg} (h : Runs room was l now) : now = play was l := by
  induction h with
  | nil fs h => rfl
  | cons fs c l now h1 h2 _ ih => exact ih
/-- how many changes stay -/
def keepN (n : Int) (l : List Chg) : Nat := (max 0 (min n (l.length : Int))).toNat
/-- what stays of the next one -/
def tornC (m : Int) (c : Chg) : Chg := ⟨c.kind, c.name, c.at_, c.data.take (max 0 (min m (c.data.length : Int))).toNat⟩
/-- what of changes stays -/
def crashL (was : List File) (l : List Chg) (n m : Int) : List File :=
  match l[keepN n l]? with
  | none => play was (l.take (keepN n l))
  | some c => if c.kind = 1 then doesL (play was (l.take (keepN n l))) (tornC m c) else play was (l.take (keepN n l))
def crashD (D : Doc) (n m : Int) : Doc := ⟨D.room, crashL D.was D.l n m, crashL D.was D.l n m, []⟩
theorem torn_ok {fs : List File} {c : Chg} (h : OkC fs c) (m : Int) (hk : c.kind = 1) : OkC fs (tornC m c) := by
  refine ⟨h.name, ?_, .inr (.inl ⟨hk, ?_⟩)⟩
  · have := h.data
    simp only [tornC, List.length_take]
    omega
  · rcases h.kind with ⟨h0, _⟩ | ⟨_, b, h1, h2⟩ | ⟨h0, _⟩
    · omega
    · refine ⟨b, h1, ?_⟩
      simp only [tornC, List.length_take]
      omega
    · omega
theorem crashL_ok {room : Nat} {was now : List File} {l : List Chg} (h : Runs room was l now) (n m : Int) : OkF room (crashL was l n m) := by
  unfold crashL
  obtain ⟨a, b⟩ := h.upto (keepN n l)
  cases hc : l[keepN n l]? with
  | none => exact a
  | some c =>
    simp only
    split
    · rename_i hk
      exact does_ok a (torn_ok (b c hc) m hk) (fun h0 => by simp only [tornC] at h0; omega)
    · exact a
theorem Good.crash {D : Doc} (h : Good D) (n m : Int) : Good (crashD D n m) := ⟨.nil _ (crashL_ok h.runs n m), h.room⟩
theorem Good.sync {D : Doc} (h : Good D) : Good ⟨D.room, D.now, D.now, []⟩ := ⟨.nil _ h.runs.last, h.room⟩
theorem FsM.applied {P : Nat → Prop} {W w2 : World} {fb pb mb sb n n' m : Nat} {cv : Value} {cs : List Value} {S : Fs} {g : Look} (hM : FsM P W fb pb mb sb n m cv cs S) (t2 : Turn (fun k => k = mb) W w2) (hF2 : FilesV (More P W w2) w2 mb n' g) :
    FsM (More P W w2) w2 fb pb mb sb n' m cv cs { S with now := g } := by
  have hm1 : fb ≠ mb := fun e => hM.now.notcells hM.hf e
  have hm2 : pb ≠ mb := fun e => hM.now.notcells hM.hp e
  exact ⟨(t2.block fb (lt_blk hM.hf) hm1).trans hM.hf, (t2.block pb (lt_blk hM.hp) hm2).trans hM.hp, hF2, (hM.was.turn t2 (fun e => hM.ne e.symm)).mono (fun k _ hp => .inl hp),
    own_kept hM.row (fun q e => by obtain ⟨cur, hc⟩ := own_lt hM.row e; exact t2.block q (lt_blk hc) (fun e => hM.now.notcells hc e)), (hM.chg.turn t2).mono (fun k _ hp => .inl hp), hM.nil, hM.ne, .inl hM.pf, .inl hM.pp, .inl hM.pm, .inl hM.ps, fun q e => .inl (hM.pr q e)⟩
/-- the files' map is another one -/
theorem FsM.remap {P : Nat → Prop} {w w1 : World} {fb pb mb sb n n' m : Nat} {cv : Value} {cs : List Value} {S : Fs} {g : Look} (h : FsM P w fb pb mb sb n m cv cs S) (gg : Grow w w1) (q : Nat) (hq : FilesV P w1 q n' g) (hql : w.heap.size ≤ q) :
    FsM (More P w w1) (w1.setCell ⟨fb, 2, none⟩ (.map (some q))) fb pb q sb n' m cv cs { S with now := g } ∧ Turn P w (w1.setCell ⟨fb, 2, none⟩ (.map (some q))) := by
  have h1 := h.turn (Turn.of_grow (P := fun _ => False) gg) (fun _ _ h => h)
  have hpf : pb ≠ fb := by rintro rfl; have := h.hf; rw [h.hp] at this; simp at this
  have hc2 : w1.cell? ⟨fb, 2, none⟩ = some (.map (some mb)) := by rw [cell_blk h1.hf]; rfl
  have hc0 : w1.cell? ⟨fb, 0, none⟩ = some (.pointer (some ⟨pb, 0, none⟩)) := by rw [cell_blk h1.hf]; rfl
  have t : Turn (fun k => k = fb) w1 (w1.setCell ⟨fb, 2, none⟩ (.map (some q))) := Turn.of_set (a := ⟨fb, 2, none⟩) hc2 (fun x hx => by rw [hc0] at hx; injection hx with hx; cases hx)
  refine ⟨⟨by rw [Go.heap_setCell_same w1 fb 2 _ _ _ h1.hf]; rfl, (t.block pb (lt_blk h1.hp) hpf).trans h1.hp, (hq.turn t (fun e => hq.notcells h1.hf e.symm)).mono (fun k _ h => .inl h), (h1.was.turn t (fun e => h1.was.notcells h1.hf e.symm)).mono (fun k _ h => .inl h),
    own_kept h1.row (fun q e => by obtain ⟨cur, hc⟩ := own_lt h1.row e; exact t.block q (lt_blk hc) (fun e => by subst e; rw [h1.hf] at hc; simp at hc)), (h1.chg.turn t).mono (fun k _ h => .inl h), h1.nil, ?_, .inl h.pf, .inl h.pp, .inr ⟨hql, hq.lt⟩, .inl h.ps, fun q e => .inl (h.pr q e)⟩, (Turn.of_grow (P := P) gg).trans t (fun k _ e => by subst e; exact h.pf)⟩
  have := h.was.lt
  omega
end Go.Proofs.Yticpldjcmhpjoaa

namespace Go.Proofs.Yticpldjcmhpjoaa
open Go.RowKit
set_option linter.unusedVariables false
set_option linter.unusedSimpArgs false

theorem FsM.rowcell {P : Nat → Prop} {w : World} {fb pb mb sb n m : Nat} {cs : List Value} {S : Fs} {ac : Option Addr} {N cc : Nat} (h : FsM P w fb pb mb sb n m (.slice ac N cc) cs S) (j : Nat) (c : Chg) (hc : S.l[j]? = some c) :
    ∃ rb dv, ac = some ⟨rb, 0, none⟩ ∧ BytesIn P w dv c.data ∧ w.cell? ⟨rb, j * 4, none⟩ = some (.int .i64 (c.kind : Int)) ∧ w.cell? ⟨rb, j * 4 + 1, none⟩ = some (.string c.name) ∧ w.cell? ⟨rb, j * 4 + 2, none⟩ = some (.int .i64 (c.at_ : Int)) ∧ w.cell? ⟨rb, j * 4 + 3, none⟩ = some dv := by
  obtain ⟨dv, h1, h2, h3, h4, h5⟩ := h.chg.at j c hc
  rcases h.row.2 with ⟨e, e2⟩ | ⟨g, cap, cur, e, _⟩
  · rw [List.eq_nil_of_length_eq_zero e2] at hc; simp at hc
  · injection e with e1 _ _
    subst e1
    have key := fun i v hv => World.ownsRow.cells (g := g) h.row rfl i v hv
    have k2 : ∀ i v, cs[i]? = some v → w.cell? ⟨g, i, none⟩ = some v := fun i v hv => by
      have := key i v hv
      rw [add_plain, Nat.zero_add] at this
      exact this
    refine ⟨g, dv, rfl, h1, ?_, k2 _ _ h3, k2 _ _ h4, k2 _ _ h5⟩
    have := k2 _ _ h2
    simpa using this
theorem FsAt.after2 {P : Nat → Prop} {w w7 w' : World} {fb K : Nat} {S : Fs} (hg : Turn P w w7) (h : FsAt (More (More P w w7) w7 w') w' fb S K) (t : Turn (More P w w7) w7 w') : FsAt (More P w w') w' fb S K ∧ Turn P w w' := by
  have s1 := hg.size
  have s2 := t.size
  refine ⟨h.mono (fun k hk hp => ?_), hg.trans t (fun k hk hp => ?_)⟩
  · unfold More at hp ⊢
    rcases hp with (hp | hp) | hp
    · exact .inl hp
    · exact .inr ⟨hp.1, hk⟩
    · exact .inr ⟨by omega, hk⟩
  · rcases hp with hp | hp
    · exact hp
    · omega
theorem BytesIn.take {P : Nat → Prop} {w : World} {a : Option Addr} {n c : Nat} {l : List UInt8} (h : BytesIn P w (.slice a n c) l) (t : Nat) (ht : t ≤ l.length) : BytesIn P w (.slice a t c) (l.take t) := by
  rcases h with ⟨hv, rfl⟩ | ⟨g, c', hv, h2, h3, h4⟩
  · injection hv with e1 e2 e3
    simp only [List.length_nil] at ht
    obtain rfl : t = 0 := by omega
    exact .inl ⟨by rw [e1, e3], rfl⟩
  · injection hv with e1 e2 e3
    refine .inr ⟨g, c', by rw [e1, e3, List.length_take, Nat.min_eq_left ht], fun i x hx => ?_, fun hl => h3 (fun e => hl (by rw [e]; simp)), by rw [List.length_take]; omega⟩
    rw [List.getElem?_take] at hx
    split at hx
    · exact h2 i x hx
    · cases hx
theorem BytesIn.cap {P : Nat → Prop} {w : World} {a : Option Addr} {n c : Nat} {l : List UInt8} (h : BytesIn P w (.slice a n c) l) : n ≤ c := by
  rcases h with ⟨hv, rfl⟩ | ⟨g, c', hv, _, _, h4⟩ <;> injection hv with e1 e2 e3 <;> omega
set_option maxRecDepth 20000 in
set_option maxHeartbeats 4000000 in
theorem crash_any {P : Nat → Prop} (fb K : Nat) (D : Doc) (n0 m0 : Int) (w : World) (hS : FsAt P w fb D.fs K) (hG : Good D) (hK : K ≤ 1000000) (b1 : -9223372036854775808 ≤ n0 ∧ n0 ≤ 9223372036854775807) (b2 : -9223372036854775808 ≤ m0 ∧ m0 ≤ 9223372036854775807) :
    Calls Try.prog 24 #[.pointer (some ⟨fb, 0, none⟩), .int .i64 n0, .int .i64 m0] w fun e w' => e = .returned (.tuple #[]) ∧ FsAt (More P w w') w' fb (crashD D n0 m0).fs (K + 2) ∧ Turn P w w' := by
  obtain ⟨pb, mb, sb, n, m, cv, cs, hM, hnK, hmK⟩ := hS
  obtain ⟨N, hN⟩ : ∃ N, N = D.l.length := ⟨_, rfl⟩
  have hmK' : m + N ≤ K := by rw [hN]; exact hmK
  have hrow := hM.row
  rw [show D.fs.l.length = N from hN.symm] at hrow
  obtain ⟨ac, cc, hcv, hcc⟩ : ∃ ac cc, cv = .slice ac N cc ∧ N ≤ cc := by
    rcases hrow.2 with ⟨h1, h2⟩ | ⟨g, cap, cur, h1, _, _, h3, _⟩
    · exact ⟨none, 0, by rw [h1, h2], by omega⟩
    · exact ⟨_, cap, h1, h3⟩
  have f0 : w.cell? ⟨fb, 0, none⟩ = some (.pointer (some ⟨pb, 0, none⟩)) := by rw [cell_blk hM.hf]; rfl
  have p0 : w.cell? ⟨pb, 0, none⟩ = some (.slice ac N cc) := by rw [cell_blk hM.hp, ← hcv]; rfl
  have p1 : w.cell? ⟨pb, 1, none⟩ = some (.map (some sb)) := by rw [cell_blk hM.hp]; rfl
  have zf : ∀ w1, Grow w w1 → w1.cell? ⟨fb, 2, none⟩ = some (.map (some mb)) ∧ w1.frozen? ⟨fb, 2, none⟩ = false := fun w1 g => by
    have hb := (Below.block g fb (lt_blk hM.hf)).trans hM.hf
    exact ⟨by rw [cell_blk hb]; rfl, froz_blk hb 2⟩
  have ZF := Lib.hid zf
  have HM := Lib.hid hM
  have CW := Lib.hid (clonef_any (P := P) sb m D.fs.was w hM.was)
  have HG := Lib.hid hG
  have HCV := Lib.hid hcv
  have HN := Lib.hid hN
  obtain ⟨k, hk⟩ : ∃ k, k = keepN n0 D.l := ⟨_, rfl⟩
  have HKN := Lib.hid hk
  have hkN : k ≤ N := by rw [hk, hN]; unfold keepN; omega
  have hkv : max 0 (min n0 (N : Int)) = (k : Int) := by rw [hk, hN]; unfold keepN; omega
  clear hM hG hcv hN hk hrow zf
  go_enter Try.func24, Try.ntmps24
  go_wp2_with fail
  refine CW.out.mono ?_
  rintro _ w1 ⟨rfl, hF1, g1⟩
  obtain ⟨q2, q3⟩ := ZF.out _ g1
  have RM := Lib.hid (HM.out.remap (g := look D.was) g1 w.heap.size hF1.out (Nat.le_refl _))
  go_wp2
  obtain ⟨W3, hW3⟩ : ∃ W3, W3 = w1.setCell ⟨fb, 2, none⟩ (.map (some w.heap.size)) := ⟨_, rfl⟩
  rw [← hW3] at RM ⊢
  obtain ⟨fs, hfs⟩ : ∃ fs : Nat → List File, fs = fun j => play D.was (D.l.take j) := ⟨_, rfl⟩
  have HFS := Lib.hid hfs
  have HL0 := Lib.hid (show ∃ n', n' ≤ m + 0 ∧ FsM (More P w W3) W3 fb pb w.heap.size sb n' m (.slice ac N cc) cs ⟨D.room, look (fs 0), look D.was, D.l⟩ from ⟨m, by omega, by rw [← HCV.out, hfs]; exact RM.out.1.mono (fun k hk h => by unfold More at h ⊢; rcases h with h | h; exact .inl h; exact .inr ⟨h.1, hk⟩)⟩)
  have HL1 := Lib.hid RM.out.2
  clear q2 q3 f0 p0 p1 hF1 g1 RM hW3 hfs CW
  go_loopw [39] (fun i wr => ∃ j : Nat, i = .int .i64 (j : Int) ∧ j ≤ k ∧ Hid (∃ n', n' ≤ m + j ∧ FsM (More P w wr) wr fb pb w.heap.size sb n' m (.slice ac N cc) cs ⟨D.room, look (fs j), look D.was, D.l⟩) ∧ Hid (Turn P w wr))
    (fun i _ => k - (intOf i).toNat)
  case atStart => exact ⟨0, rfl, by omega, HL0, HL1⟩
  case round =>
    obtain ⟨j, rfl, hj, HJ, HT⟩ := hrel
    by_cases hlt : j < k
    · obtain ⟨n', hn', hM⟩ := HJ.out
      obtain ⟨c, hc⟩ : ∃ c, D.l[j]? = some c := ⟨_, List.getElem?_eq_getElem (by rw [← HN.out]; omega)⟩
      obtain ⟨rb, dv, hac, hdv, r0, r1, r2, r3⟩ := hM.rowcell j c hc
      subst hac
      have hlt' : (j : Int) < (k : Int) := by omega
      obtain ⟨ad, cd, hds⟩ := hdv.shape
      subst hds
      obtain ⟨dl, hdl⟩ : ∃ dl, dl = c.data.length := ⟨_, rfl⟩
      rw [← hdl] at r3
      obtain ⟨W4, hW4⟩ : ∃ W4, W4 = wr.alloc (.cells #[.int .i64 (c.kind : Int), .string c.name, .int .i64 (c.at_ : Int), .slice ad dl cd] 68) := ⟨_, rfl⟩
      have g4 : Grow wr W4 := by rw [hW4]; exact (Grow.refl wr).alloc _
      have hM4 := hM.turn (Turn.of_grow (P := fun _ => False) g4) (fun _ _ h => h)
      have hOK := (HG.out.runs.upto j).2 c hc
      have hsz : c.name.size ≤ maxLen := by
        have := hOK.name
        unfold isB at this
        simp at this
        unfold maxLen
        omega
      have hfj : fs j = play D.was (D.l.take j) := by rw [HFS.out]
      have AP := applies_any (P := More P w wr) fb w.heap.size n' (look (fs j)) c (.slice ad dl cd) W4 (by rw [hfj]; exact hOK.valid) (by rw [cell_blk hM4.hf]; rfl) hM4.now (by unfold maxLen; omega) hsz (by rw [hdl]; exact hdv.turn (Turn.of_grow (P := fun _ => False) g4)) hOK.data (by rw [hfj]; exact (HG.out.runs.upto j).1.small HG.out.room)
      have AP := Lib.hid AP
      have HM4 := Lib.hid hM4
      have G4 := Lib.hid g4
      have HW4 := Lib.hid hW4
      have HFJ := Lib.hid (show doesG (look (fs j)) c = look (fs (j + 1)) from by
        rw [HFS.out]
        simp only
        rw [← look_does hOK, List.take_add_one, hc, play_append]
        rfl)
      unfold Chg.val at AP
      clear hM hdv hc hW4 g4 hM4 hOK hsz hfj hdl
      go_wp2_with fail
      rw [← HW4.out]
      refine AP.out.mono ?_
      rintro _ w5 ⟨rfl, t5, n5, hn5, hF5⟩
      have AD := HM4.out.applied t5 hF5
      rw [HFJ.out] at hF5 AD
      have AD := Lib.hid AD
      have T5 := Lib.hid t5
      clear t5 hF5 r0 r1 r2 r3
      go_wp2
      go_roundw
      case rel =>
        refine ⟨j + 1, by go_num, by omega, Lib.hid ⟨n5, by omega, AD.out.mono (fun q hq h => ?_)⟩, Lib.hid (HT.out.trans ((Turn.of_grow (P := fun k => k = w.heap.size) G4.out).same T5.out) (fun q hq e => by omega))⟩
        have s1 := HT.out.size
        have s2 := Grow.size G4.out
        have s3 := T5.out.size
        unfold More at h ⊢
        rcases h with (h | h) | h
        · exact .inl h
        · exact .inr ⟨h.1, by omega⟩
        · exact .inr ⟨by omega, hq⟩
      case measure => simp [intOf]; omega
    · have hj9 : j = k := by omega
      subst hj9
      have hlt' : ¬ (j : Int) < (j : Int) := by omega
      by_cases hjN : j < N
      · obtain ⟨n', hn', hM⟩ := HJ.out
        obtain ⟨c, hc⟩ : ∃ c, D.l[j]? = some c := ⟨_, List.getElem?_eq_getElem (by rw [← HN.out]; omega)⟩
        obtain ⟨rb, dv, hac, hdv, r0, r1, r2, r3⟩ := hM.rowcell j c hc
        subst hac
        have hjN' : (j : Int) < (N : Int) := by omega
        have hfj : fs j = play D.was (D.l.take j) := by rw [HFS.out]
        obtain ⟨ad, cd, hds⟩ := hdv.shape
        subst hds
        obtain ⟨dl, hdl⟩ : ∃ dl, dl = c.data.length := ⟨_, rfl⟩
        rw [← hdl] at r3 hdv
        by_cases hk1 : c.kind = 1
        · have hOK := torn_ok ((HG.out.runs.upto j).2 c hc) m0 hk1
          have HEND := Lib.hid (show (crashD D n0 m0).fs = ⟨D.room, look (doesL (fs j) (tornC m0 c)), look (doesL (fs j) (tornC m0 c)), []⟩ from by
            unfold crashD crashL Doc.fs
            rw [← HKN.out, hc]
            simp only [hk1, if_true]
            rw [hfj])
          obtain ⟨t, ht⟩ : ∃ t, t = (max 0 (min m0 (c.data.length : Int))).toNat := ⟨_, rfl⟩
          have htv : max 0 (min m0 (dl : Int)) = (t : Int) := by rw [ht, hdl]; omega
          have htl : t ≤ dl := by rw [ht, hdl]; omega
          have htc : t ≤ cd := by have := hdv.cap; omega
          have hdt : (tornC m0 c).data = c.data.take t := by rw [ht]; rfl
          obtain ⟨W4, hW4⟩ : ∃ W4, W4 = wr.alloc (.cells #[.int .i64 1, .string c.name, .int .i64 (c.at_ : Int), .slice ad t cd] 68) := ⟨_, rfl⟩
          have g4 : Grow wr W4 := by rw [hW4]; exact (Grow.refl wr).alloc _
          have hM4 := hM.turn (Turn.of_grow (P := fun _ => False) g4) (fun _ _ h => h)
          have hsz : c.name.size ≤ maxLen := by
            have := hOK.name
            simp only [tornC] at this
            unfold isB at this
            simp at this
            unfold maxLen
            omega
          have AP := applies_any (P := More P w wr) fb w.heap.size n' (look (fs j)) (tornC m0 c) (.slice ad t cd) W4 (by rw [hfj]; exact hOK.valid) (by rw [cell_blk hM4.hf]; rfl) hM4.now (by unfold maxLen; omega) hsz (by rw [hdt]; exact (hdv.turn (Turn.of_grow (P := fun _ => False) g4)).take t (by omega)) hOK.data (by rw [hfj]; exact (HG.out.runs.upto j).1.small HG.out.room)
          have HFJ := Lib.hid (show doesG (look (fs j)) (tornC m0 c) = look (doesL (fs j) (tornC m0 c)) from by rw [hfj]; exact (look_does hOK).symm)
          unfold Chg.val at AP
          rw [show (tornC m0 c).kind = 1 from hk1, show (tornC m0 c).name = c.name from rfl, show (tornC m0 c).at_ = c.at_ from rfl] at AP
          have AP := Lib.hid AP
          rw [hk1] at r0
          have HM4 := Lib.hid hM4
          have G4 := Lib.hid g4
          have HW4 := Lib.hid hW4
          clear hM hdv hc hW4 g4 hM4 hOK hsz hfj hdl ht hdt hk1
          go_wp2_with fail
          rw [← HW4.out]
          refine AP.out.mono ?_
          rintro _ w5 ⟨rfl, t5, n5, hn5, hF5⟩
          have AD := HM4.out.applied t5 hF5
          rw [HFJ.out] at hF5 AD
          have HTT := Lib.hid (HT.out.trans ((Turn.of_grow (P := fun k => k = w.heap.size) G4.out).same t5) (fun q hq e => by omega))
          have AD2 : FsAt (More P w w5) w5 fb ⟨D.room, look (doesL (fs j) (tornC m0 c)), look D.was, D.l⟩ (K + 1) := ⟨pb, w.heap.size, sb, n5, m, _, cs, AD.mono (fun q hq h => by
            have s1 := HT.out.size
            have s2 := Grow.size G4.out
            have s3 := t5.size
            unfold More at h ⊢
            rcases h with (h | h) | h
            · exact .inl h
            · exact .inr ⟨h.1, by omega⟩
            · exact .inr ⟨by omega, hq⟩), by omega, by have := HN.out; simp only; omega⟩
          have SY := Lib.hid (sync_any (P := More P w w5) fb (K + 1) _ w5 AD2)
          clear t5 hF5 r0 r1 r2 r3 AD AD2
          go_wp2_with fail
          refine SY.out.mono ?_
          rintro _ w9 ⟨rfl, hF9, t9⟩
          have FIN := Lib.hid (FsAt.after2 HTT.out hF9 t9)
          clear hF9 t9
          go_wp2
          go_end0
          rw [HEND.out]
          exact ⟨rfl, FIN.out.1, FIN.out.2⟩
        · have HEND := Lib.hid (show (crashD D n0 m0).fs = ⟨D.room, look (fs j), look (fs j), []⟩ from by
            unfold crashD crashL Doc.fs
            rw [← HKN.out, hc]
            simp only [hk1, if_false]
            rw [hfj])
          have hk1' : ¬ ((c.kind : Int) = 1) := by omega
          have hk2 : ((c.kind : Int) == 1) = false := by simp; omega
          have AD2 : FsAt (More P w wr) wr fb ⟨D.room, look (fs j), look D.was, D.l⟩ (K + 1) := ⟨pb, w.heap.size, sb, n', m, _, cs, hM, by omega, by have := HN.out; simp only; omega⟩
          have SY := Lib.hid (sync_any (P := More P w wr) fb (K + 1) _ wr AD2)
          have HTT := Lib.hid HT.out
          clear hM hdv hc hfj hdl hk1 hk1' AD2
          go_wp2_with fail
          refine SY.out.mono ?_
          rintro _ w9 ⟨rfl, hF9, t9⟩
          have FIN := Lib.hid (FsAt.after2 HTT.out hF9 t9)
          clear hF9 t9
          go_wp2
          go_end0
          rw [HEND.out]
          exact ⟨rfl, FIN.out.1, FIN.out.2⟩
      · have HEND := Lib.hid (show (crashD D n0 m0).fs = ⟨D.room, look (fs j), look (fs j), []⟩ from by
          unfold crashD crashL Doc.fs
          rw [← HKN.out, List.getElem?_eq_none (by have := HN.out; omega), HFS.out])
        have hjN' : ¬ (j : Int) < (N : Int) := by omega
        obtain ⟨n', hn', hM⟩ := HJ.out
        have AD2 : FsAt (More P w wr) wr fb ⟨D.room, look (fs j), look D.was, D.l⟩ (K + 1) := ⟨pb, w.heap.size, sb, n', m, _, cs, hM, by omega, by have := HN.out; simp only; omega⟩
        have SY := Lib.hid (sync_any (P := More P w wr) fb (K + 1) _ wr AD2)
        have HTT := Lib.hid HT.out
        clear hM AD2
        go_wp2_with fail
        refine SY.out.mono ?_
        rintro _ w9 ⟨rfl, hF9, t9⟩
        have FIN := Lib.hid (FsAt.after2 HTT.out hF9 t9)
        clear hF9 t9
        go_wp2
        go_end0
        rw [HEND.out]
        exact ⟨rfl, FIN.out.1, FIN.out.2⟩
end Go.Proofs.Yticpldjcmhpjoaa

namespace Go.Proofs.Yticpldjcmhpjoaa
open Go.RowKit
set_option linter.unusedVariables false
set_option linter.unusedSimpArgs false

/-- an FS that was made behind h0's memory -/
structure FsC (B : Nat) (h0 w : World) (fb K : Nat) (D : Doc) (P : Nat → Prop) : Prop where
  fs : FsAt P w fb D.fs K
  lo : ∀ k, P k → B ≤ k
  hi : ∀ k, P k → k < w.heap.size
  gr : Below B h0 w
  good : Good D
theorem FsC.step {B : Nat} {h0 w w' : World} {fb K K' : Nat} {D D' : Doc} {P : Nat → Prop} (h : FsC B h0 w fb K D P) (hB : B ≤ w.heap.size) (hf : FsAt (More P w w') w' fb D'.fs K') (t : Turn P w w') (hG : Good D') : FsC B h0 w' fb K' D' (More P w w') := by
  refine ⟨hf, fun k hk => ?_, fun k hk => ?_, h.gr.trans (t.below hB h.lo), hG⟩
  · rcases hk with hk | hk
    · exact h.lo k hk
    · omega
  · have := t.size
    rcases hk with hk | hk
    · have := h.hi k hk; omega
    · exact hk.2
theorem FsC.frame {B : Nat} {h0 w w' : World} {fb K : Nat} {D : Doc} {P Q : Nat → Prop} (h : FsC B h0 w fb K D P) (hB : B ≤ w.heap.size) (t : Turn Q w w') (hq : ∀ k, P k → ¬ Q k) (hl : ∀ k, Q k → B ≤ k) : FsC B h0 w' fb K D P :=
  ⟨h.fs.turn t hq, h.lo, fun k hk => Nat.lt_of_lt_of_le (h.hi k hk) t.size, h.gr.trans (t.below hB hl), h.good⟩
theorem FsC.grow {B : Nat} {h0 w w' : World} {fb K : Nat} {D : Doc} {P : Nat → Prop} (h : FsC B h0 w fb K D P) (hB : B ≤ w.heap.size) (g : Grow w w') : FsC B h0 w' fb K D P := h.frame hB (Turn.of_grow (P := fun _ => False) g) (fun _ _ h => h) (fun _ h => h.elim)
theorem FsAt.monoK {P : Nat → Prop} {w : World} {fb K K' : Nat} {S : Fs} (h : FsAt P w fb S K) (hk : K ≤ K') : FsAt P w fb S K' := by
  obtain ⟨pb, mb, sb, n, m, cv, cs, h, k1, k2⟩ := h
  exact ⟨pb, mb, sb, n, m, cv, cs, h, by omega, by omega⟩
def emptyD (room : Nat) : Doc := ⟨room, [], [], []⟩
theorem emptyD_good (room : Nat) (h : room ≤ 1073741824) : Good (emptyD room) := ⟨.nil _ ⟨List.nodup_nil, Nat.zero_le _, fun p hp => by cases hp⟩, h⟩
theorem newW_grow (room : Int) (w : World) : Grow w (newW room w) := ((((Grow.refl w).alloc _).alloc _).alloc _).alloc _
theorem newW_fs (room : Nat) (w : World) : FsAt (More (fun _ => False) w (newW room w)) (newW room w) (w.heap.size + 3) (emptyD room).fs 0 := by
  have hs : (newW room w).heap.size = w.heap.size + 4 := by simp [newW]
  have m1 := filesV_new (More (fun _ => False) w (newW room w)) w
  have m2 := filesV_new (More (fun _ => False) w (newW room w)) ((w.alloc (.map #[] 0)).alloc (.cells #[.slice none 0 0, .map (some w.heap.size)] 59))
  have k1 := m1.turn (Turn.of_grow (P := fun _ => False) ((((Grow.refl (w.alloc (.map #[] 0))).alloc (.cells #[.slice none 0 0, .map (some w.heap.size)] 59)).alloc (.map #[] 0)).alloc (.cells #[.pointer (some ⟨w.heap.size + 1, 0, none⟩), .int .i64 room, .map (some (w.heap.size + 2))] 61))) (fun h => h)
  have k2 := m2.turn (Turn.of_grow (P := fun _ => False) ((Grow.refl (((w.alloc (.map #[] 0)).alloc (.cells #[.slice none 0 0, .map (some w.heap.size)] 59)).alloc (.map #[] 0))).alloc (.cells #[.pointer (some ⟨w.heap.size + 1, 0, none⟩), .int .i64 room, .map (some (w.heap.size + 2))] 61))) (fun h => h)
  have hz : ((w.alloc (.map #[] 0)).alloc (.cells #[.slice none 0 0, .map (some w.heap.size)] 59)).heap.size = w.heap.size + 2 := by simp
  rw [hz] at k2
  refine ⟨w.heap.size + 1, w.heap.size + 2, w.heap.size, 0, 0, .slice none 0 0, [], ⟨?_, ?_, k2, k1, ⟨rfl, .inl ⟨rfl, rfl⟩⟩, .nil, fun _ => rfl, by omega, .inr ⟨by omega, by omega⟩, .inr ⟨by omega, by omega⟩, .inr ⟨by omega, by omega⟩, .inr ⟨by omega, by omega⟩, (fun q hq => (by cases hq))⟩, Nat.le_refl _, Nat.le_refl _⟩
  · have := heap_alloc_new (((w.alloc (.map #[] 0)).alloc (.cells #[.slice none 0 0, .map (some w.heap.size)] 59)).alloc (.map #[] 0)) (.cells #[.pointer (some ⟨w.heap.size + 1, 0, none⟩), .int .i64 room, .map (some (w.heap.size + 2))] 61)
    rw [show (((w.alloc (.map #[] 0)).alloc (.cells #[.slice none 0 0, .map (some w.heap.size)] 59)).alloc (.map #[] 0)).heap.size = w.heap.size + 3 from by simp] at this
    exact this
  · have := heap_alloc_new (w.alloc (.map #[] 0)) (.cells #[.slice none 0 0, .map (some w.heap.size)] 59)
    rw [show (w.alloc (.map #[] 0)).heap.size = w.heap.size + 1 from by simp] at this
    have g := ((Grow.refl ((w.alloc (.map #[] 0)).alloc (.cells #[.slice none 0 0, .map (some w.heap.size)] 59))).alloc (.map #[] 0)).alloc (.cells #[.pointer (some ⟨w.heap.size + 1, 0, none⟩), .int .i64 room, .map (some (w.heap.size + 2))] 61)
    exact (Below.block g (w.heap.size + 1) (by simp)).trans this
theorem new2_any (room : Nat) (h : room ≤ 1073741824) (w : World) : Calls Try.prog 8 #[.int .i64 (room : Int)] w fun e w' => e = .returned (.tuple #[.pointer (some ⟨w.heap.size + 3, 0, none⟩), .int .i64 0]) ∧ FsAt (More (fun _ => False) w w') w' (w.heap.size + 3) (emptyD room).fs 0 ∧ Grow w w' := by
  refine (new_any room (by omega) (by omega) w).mono ?_
  rintro e w' ⟨rfl, rfl⟩
  exact ⟨rfl, newW_fs room w, newW_grow room w⟩
theorem FsC.new {h0 w w' : World} {B room : Nat} (hr : room ≤ 1073741824) (hB : B ≤ w.heap.size) (g0 : Below B h0 w) (hf : FsAt (More (fun _ => False) w w') w' (w.heap.size + 3) (emptyD room).fs 0) (g : Grow w w') : FsC B h0 w' (w.heap.size + 3) 0 (emptyD room) (More (fun _ => False) w w') :=
  ⟨hf, fun k hk => by rcases hk with hk | hk; exact hk.elim; omega, fun k hk => by rcases hk with hk | hk; exact hk.elim; exact hk.2, g0.trans (Below.mono g hB), emptyD_good room hr⟩
theorem Good.create {D : Doc} (h : Good D) (name : ByteArray) (data : List UInt8) (hd : data.length ≤ 1073741824) : Good (createD D name data).2 := by
  unfold createD
  split
  · rename_i hb
    split
    · exact h
    · rename_i hl
      split
      · exact h
      · exact h.did _ ⟨hb, hd, .inl ⟨rfl, by simpa using hl⟩⟩ (fun _ => by simp only; omega)
  · exact h
theorem Good.write {D : Doc} (h : Good D) (name : ByteArray) (at_ : Int) (data : List UInt8) (hd : data.length ≤ 1073741824) : Good (writeD D name at_ data).2 := by
  unfold writeD
  rcases findD_cases D name with e | e | ⟨l, e, hb, hl⟩
  · rw [e]; exact h
  · rw [e]; exact h
  · rw [e]
    simp only [if_true]
    split
    · exact h.did _ ⟨hb, hd, .inr (.inl ⟨rfl, l, hl, by simp only; omega⟩)⟩ (fun h0 => by simp at h0)
    · exact h
theorem Good.remove {D : Doc} (h : Good D) (name : ByteArray) : Good (removeD D name).2 := by
  unfold removeD
  rcases findD_cases D name with e | e | ⟨l, e, hb, hl⟩
  · rw [e]; exact h
  · rw [e]; exact h
  · rw [e]
    exact h.did _ ⟨hb, by simp, .inr (.inr ⟨rfl, l, hl⟩)⟩ (fun h0 => by simp at h0)
end Go.Proofs.Yticpldjcmhpjoaa
