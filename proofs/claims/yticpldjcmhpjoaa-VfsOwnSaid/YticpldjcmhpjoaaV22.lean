/-
  The walk of Sync.
-/
import Derived.Test.YticpldjcmhpjoaaV21
namespace Go.Proofs.Yticpldjcmhpjoaa
open Go.RowKit
set_option linter.unusedVariables false
set_option linter.unusedSimpArgs false

theorem clonef_any {P : Nat → Prop} (mb n : Nat) (g : Look) (w : World) (h : FilesV P w mb n g) :
    Calls Try.prog 44 #[.map (some mb)] w fun e w' => e = .returned (.map (some w.heap.size)) ∧ Hid (FilesV P w' w.heap.size n g) ∧ Grow w w' := by
  obtain ⟨f, ⟨D, h1, h2, h3⟩, hf⟩ := h
  refine (Try.maps_Clone_owns 9 rawE mb n D w h1).mono ?_
  rintro e w' ⟨rfl, h4, h5, h6⟩
  refine ⟨rfl, Lib.hid ⟨f, ⟨D, h4, h2, h3⟩, fun s => ⟨(hf s).1, fun l hl => ?_⟩⟩, h6⟩
  obtain ⟨v, h7, h8⟩ := (hf s).2 l hl
  exact ⟨v, h7, h8.turn (Turn.of_grow (P := fun _ => False) h6)⟩
theorem set0 {w : World} {pb : Nat} {a b x : Value} (h : w.heap[pb]? = some (.cells #[a, b] 59 (0, 0))) (ha : ∀ i, a ≠ .int .u8 i) : (w.setCell ⟨pb, 0, none⟩ x).heap[pb]? = some (.cells #[x, b] 59 (0, 0)) ∧ Turn (fun k => k = pb) w (w.setCell ⟨pb, 0, none⟩ x) := by
  have hc : w.cell? ⟨pb, 0, none⟩ = some a := by rw [cell_blk h]; rfl
  refine ⟨by rw [Go.heap_setCell_same w pb 0 _ _ _ h]; rfl, Turn.of_set (a := ⟨pb, 0, none⟩) hc (fun i hi => ?_)⟩
  rw [hc] at hi
  injection hi with hi
  exact ha i hi
theorem set1 {w : World} {pb : Nat} {a b x : Value} (h : w.heap[pb]? = some (.cells #[a, b] 59 (0, 0))) (ha : ∀ i, a ≠ .int .u8 i) : (w.setCell ⟨pb, 1, none⟩ x).heap[pb]? = some (.cells #[a, x] 59 (0, 0)) ∧ Turn (fun k => k = pb) w (w.setCell ⟨pb, 1, none⟩ x) := by
  have hc : w.cell? ⟨pb, 0, none⟩ = some a := by rw [cell_blk h]; rfl
  have hc1 : w.cell? ⟨pb, 1, none⟩ = some b := by rw [cell_blk h]; rfl
  refine ⟨by rw [Go.heap_setCell_same w pb 1 _ _ _ h]; rfl, Turn.of_set (a := ⟨pb, 1, none⟩) hc1 (fun i hi => ?_)⟩
  rw [hc] at hi
  injection hi with hi
  exact ha i hi
theorem own_not8 {w : World} {B n z : Nat} {t : TypeId} {v : Value} {xs : List Value} (h : w.ownsRow B t z v n xs) (i : Int) : v ≠ .int .u8 i := by
  intro e
  rcases h.2 with ⟨h1, _⟩ | ⟨_, _, _, h1, _⟩ <;> rw [h1] at e <;> cases e
theorem Turn.same {Q : Nat → Prop} {a b c : World} (h : Turn Q a b) (k : Turn Q b c) : Turn Q a c := h.trans k (fun _ _ h => h)
theorem FsM.synced {P : Nat → Prop} {w W : World} {fb pb mb sb n m K : Nat} {cv : Value} {cs : List Value} {S : Fs} (h : FsM P w fb pb mb sb n m cv cs S) (hn : n ≤ K) (t : Turn (fun k => k = pb) w W) (q : Nat)
    (hp : W.heap[pb]? = some (.cells #[.slice none 0 0, .map (some q)] 59 (0, 0))) (hq : FilesV P W q n S.now) (hql : w.heap.size ≤ q) :
    FsAt (More P w W) W fb ⟨S.room, S.now, S.now, []⟩ (K + 1) ∧ Turn P w W := by
  have hpf : fb ≠ pb := by rintro rfl; have := h.hf; rw [h.hp] at this; simp at this
  refine ⟨⟨pb, mb, q, n, n, .slice none 0 0, [], ⟨(t.block fb (lt_blk h.hf) hpf).trans h.hf, hp, (h.now.turn t (fun e => h.now.notcells h.hp e.symm)).mono (fun k _ h => .inl h), hq.mono (fun k _ h => .inl h), ⟨rfl, .inl ⟨rfl, rfl⟩⟩, .nil, fun _ => rfl, ?_, .inl h.pf, .inl h.pp, .inl h.pm, .inr ⟨hql, hq.lt⟩, (fun q hq => nomatch hq)⟩, by omega, by simp; omega⟩, t.mono (fun k _ e => by subst e; exact h.pp)⟩
  have := h.now.lt
  omega
set_option maxRecDepth 20000 in
set_option maxHeartbeats 2000000 in
theorem sync_any {P : Nat → Prop} (fb K : Nat) (S : Fs) (w : World) (hS : FsAt P w fb S K) :
    Calls Try.prog 22 #[.pointer (some ⟨fb, 0, none⟩)] w fun e w' => e = .returned (.tuple #[]) ∧ FsAt (More P w w') w' fb ⟨S.room, S.now, S.now, []⟩ (K + 1) ∧ Turn P w w' := by
  obtain ⟨pb, mb, sb, n, m, cv, cs, hM, hnK, hmK⟩ := hS
  have f0 : w.cell? ⟨fb, 0, none⟩ = some (.pointer (some ⟨pb, 0, none⟩)) := by rw [cell_blk hM.hf]; rfl
  have f2 : w.cell? ⟨fb, 2, none⟩ = some (.map (some mb)) := by rw [cell_blk hM.hf]; rfl
  have p0 : w.cell? ⟨pb, 0, none⟩ = some cv := by rw [cell_blk hM.hp]; rfl
  have p1 : w.cell? ⟨pb, 1, none⟩ = some (.map (some sb)) := by rw [cell_blk hM.hp]; rfl
  have z0 : w.frozen? ⟨pb, 0, none⟩ = false := froz_blk hM.hp 0
  have z1 : w.frozen? ⟨pb, 1, none⟩ = false := froz_blk hM.hp 1
  have hpf : pb ≠ fb := by rintro rfl; have := hM.hf; rw [hM.hp] at this; simp at this
  have hfl : fb < w.heap.size := lt_of_cell f0
  have hpl : pb < w.heap.size := lt_of_cell p0
  have HM := Lib.hid hM
  have MC := Lib.hid (show ∀ W, FilesV P W mb n S.now → Calls Try.prog 44 #[.map (some mb)] W fun e w' => e = .returned (.map (some W.heap.size)) ∧ Hid (FilesV P w' W.heap.size n S.now) ∧ Grow W w' from fun W hW => clonef_any mb n S.now W hW)
  have FA := Lib.hid (show FilesV P w.drew mb n S.now from hM.now.turn (Turn.of_grow (P := fun _ => False) (Grow.refl w).drew) (fun h => h))
  have ht0 : Turn (fun k => k = pb) w (w.setCell ⟨pb, 0, none⟩ (.slice none 0 0)) := Turn.of_set (a := ⟨pb, 0, none⟩) p0 (fun x hx => by
    rw [p0] at hx
    injection hx with hx
    rcases hM.row.2 with ⟨e, _⟩ | ⟨_, _, _, e, _⟩ <;> rw [e] at hx <;> cases hx)
  have T0 := Lib.hid ht0
  have FB := Lib.hid (show FilesV P (w.setCell ⟨pb, 0, none⟩ (.slice none 0 0)).drew mb n S.now from (hM.now.turn ht0 (fun e => hM.now.notcells hM.hp e.symm)).turn (Turn.of_grow (P := fun _ => False) (Grow.refl _).drew) (fun h => h))
  have cA := Lib.hid (show ∀ w1, Grow w.drew w1 → (w1.cell? ⟨fb, 0, none⟩ = some (.pointer (some ⟨pb, 0, none⟩)) ∧ w1.cell? ⟨fb, 2, none⟩ = some (.map (some mb)) ∧ w1.cell? ⟨pb, 0, none⟩ = some cv ∧ w1.cell? ⟨pb, 1, none⟩ = some (.map (some sb)) ∧ w1.frozen? ⟨pb, 0, none⟩ = false ∧ w1.frozen? ⟨pb, 1, none⟩ = false ∧ fb < w1.heap.size ∧ pb < w1.heap.size) from fun w1 g => by
    have gg : Grow w w1 := (Grow.refl w).drew.trans g
    have hz := Grow.size gg
    have hb := (Below.block gg pb hpl).trans hM.hp
    exact ⟨(Below.cell gg (p := ⟨fb, 0, none⟩) hfl).trans f0, (Below.cell gg (p := ⟨fb, 2, none⟩) hfl).trans f2, by rw [cell_blk hb]; rfl, by rw [cell_blk hb]; rfl, froz_blk hb 0, froz_blk hb 1, by omega, by omega⟩)
  have cB := Lib.hid (show ∀ w1, Grow (w.setCell ⟨pb, 0, none⟩ (.slice none 0 0)).drew w1 → (w1.cell? ⟨fb, 0, none⟩ = some (.pointer (some ⟨pb, 0, none⟩)) ∧ w1.cell? ⟨pb, 1, none⟩ = some (.map (some sb)) ∧ w1.frozen? ⟨pb, 1, none⟩ = false ∧ fb < w1.heap.size ∧ pb < w1.heap.size) from fun w1 g => by
    obtain ⟨s1, s2⟩ := set0 (x := .slice none 0 0) hM.hp (own_not8 hM.row)
    have gg : Grow (w.setCell ⟨pb, 0, none⟩ (.slice none 0 0)) w1 := (Grow.refl _).drew.trans g
    have hz := Grow.size gg
    have hz2 := s2.size
    have hb := (Below.block gg pb (lt_blk s1)).trans s1
    have hf9 := (s2.block fb hfl (fun e => hpf e.symm)).trans hM.hf
    have hf8 := (Below.block gg fb (lt_blk hf9)).trans hf9
    exact ⟨by rw [cell_blk hf8]; rfl, by rw [cell_blk hb]; rfl, froz_blk hb 1, by omega, by omega⟩)
  have FIN1 := Lib.hid (show ∀ w1, Grow w.drew w1 → FilesV P w1 w.heap.size n S.now → FsAt (More P w ((w1.setCell ⟨pb, 1, none⟩ (.map (some w.heap.size))).setCell ⟨pb, 0, none⟩ (.slice none 0 0))) ((w1.setCell ⟨pb, 1, none⟩ (.map (some w.heap.size))).setCell ⟨pb, 0, none⟩ (.slice none 0 0)) fb ⟨S.room, S.now, S.now, []⟩ (K + 1) ∧ Turn P w ((w1.setCell ⟨pb, 1, none⟩ (.map (some w.heap.size))).setCell ⟨pb, 0, none⟩ (.slice none 0 0)) from fun w1 g hF1 => by
    have gg : Grow w w1 := (Grow.refl w).drew.trans g
    have hb := (Below.block gg pb hpl).trans hM.hp
    obtain ⟨a1, a2⟩ := set1 (x := .map (some w.heap.size)) hb (own_not8 hM.row)
    obtain ⟨b1, b2⟩ := set0 (x := .slice none 0 0) a1 (own_not8 hM.row)
    exact hM.synced hnK (((Turn.of_grow gg).same a2).same b2) w.heap.size b1 (hF1.turn (a2.same b2) (by omega)) (Nat.le_refl _))
  have FIN2 := Lib.hid (show ∀ w1, Grow w.drew w1 → FilesV P w1 w.heap.size n S.now → FsAt (More P w ((w1.setCell ⟨pb, 0, none⟩ (.slice none 0 0)).setCell ⟨pb, 1, none⟩ (.map (some w.heap.size)))) ((w1.setCell ⟨pb, 0, none⟩ (.slice none 0 0)).setCell ⟨pb, 1, none⟩ (.map (some w.heap.size))) fb ⟨S.room, S.now, S.now, []⟩ (K + 1) ∧ Turn P w ((w1.setCell ⟨pb, 0, none⟩ (.slice none 0 0)).setCell ⟨pb, 1, none⟩ (.map (some w.heap.size))) from fun w1 g hF1 => by
    have gg : Grow w w1 := (Grow.refl w).drew.trans g
    have hb := (Below.block gg pb hpl).trans hM.hp
    obtain ⟨a1, a2⟩ := set0 (x := .slice none 0 0) hb (own_not8 hM.row)
    obtain ⟨b1, b2⟩ := set1 (x := .map (some w.heap.size)) a1 (fun i e => nomatch e)
    exact hM.synced hnK (((Turn.of_grow gg).same a2).same b2) w.heap.size b1 (hF1.turn (a2.same b2) (by omega)) (Nat.le_refl _))
  have FIN3 := Lib.hid (show ∀ w1, Grow (w.setCell ⟨pb, 0, none⟩ (.slice none 0 0)).drew w1 → FilesV P w1 w.heap.size n S.now → FsAt (More P w (w1.setCell ⟨pb, 1, none⟩ (.map (some w.heap.size)))) (w1.setCell ⟨pb, 1, none⟩ (.map (some w.heap.size))) fb ⟨S.room, S.now, S.now, []⟩ (K + 1) ∧ Turn P w (w1.setCell ⟨pb, 1, none⟩ (.map (some w.heap.size))) from fun w1 g hF1 => by
    obtain ⟨a1, a2⟩ := set0 (x := .slice none 0 0) hM.hp (own_not8 hM.row)
    have gg : Grow (w.setCell ⟨pb, 0, none⟩ (.slice none 0 0)) w1 := (Grow.refl _).drew.trans g
    have hb := (Below.block gg pb (lt_blk a1)).trans a1
    obtain ⟨b1, b2⟩ := set1 (x := .map (some w.heap.size)) hb (fun i e => nomatch e)
    exact hM.synced hnK ((a2.same (Turn.of_grow gg)).same b2) w.heap.size b1 (hF1.turn b2 (by omega)) (Nat.le_refl _))
  clear hM ht0
  go_enter Try.func22, Try.ntmps22
  go_wp2
  go_region_law
    (first
      | (go_simp; go_at_call 44; refine (MC.out _ FA.out).mono ?_; rintro e w1 ⟨rfl, hF1, g1⟩; obtain ⟨q0, q2, q3, q4, q5, q6, q7, q8⟩ := cA.out _ g1)
      | (go_simp; go_at_call 44; refine (MC.out _ FB.out).mono ?_; rintro e w1 ⟨rfl, hF1, g1⟩; obtain ⟨q0, q3, q6, q7, q8⟩ := cB.out _ g1))
  all_goals
    first
      | have FN := Lib.hid (FIN1.out _ g1 (by simpa using hF1.out))
        clear g1 hF1
        go_wp2
        go_end0
        exact ⟨rfl, FN.out⟩
      | have FN := Lib.hid (FIN2.out _ g1 (by simpa using hF1.out))
        clear g1 hF1
        go_wp2
        go_end0
        exact ⟨rfl, FN.out⟩
      | have FN := Lib.hid (FIN3.out _ g1 (by simpa using hF1.out))
        clear g1 hF1
        go_wp2
        go_end0
        exact ⟨rfl, FN.out⟩
end Go.Proofs.Yticpldjcmhpjoaa
