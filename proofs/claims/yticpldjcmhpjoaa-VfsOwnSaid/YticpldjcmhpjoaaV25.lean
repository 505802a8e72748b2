/-
  An FS of one's own among other memory; New; the good states.
-/
import Derived.Test.YticpldjcmhpjoaaV24
namespace Go.Proofs.Yticpldjcmhpjoaa
open Go.RowKit
set_option linter.unusedVariables false
set_option linter.unusedSimpArgs false

/-- an FS that was made behind h0's memory -/
structure FsC (B : Nat) (h0 w : World) (fb K : Nat) (D : Doc) (P : Nat → Prop) : Prop where
  fs : FsAt P w fb D.fs K
  lo : ∀ k, P k → B ≤ k
  hi : ∀ k, P k → k < w.heap.size
  gr : Below B h0 w
  good : Good D
theorem FsC.step {B : Nat} {h0 w w' : World} {fb K K' : Nat} {D D' : Doc} {P : Nat → Prop} (h : FsC B h0 w fb K D P) (hB : B ≤ w.heap.size) (hf : FsAt (More P w w') w' fb D'.fs K') (t : Turn P w w') (hG : Good D') : FsC B h0 w' fb K' D' (More P w w') := by
  refine ⟨hf, fun k hk => ?_, fun k hk => ?_, h.gr.trans (t.below hB h.lo), hG⟩
  · rcases hk with hk | hk
    · exact h.lo k hk
    · omega
  · have := t.size
    rcases hk with hk | hk
    · have := h.hi k hk; omega
    · exact hk.2
theorem FsC.frame {B : Nat} {h0 w w' : World} {fb K : Nat} {D : Doc} {P Q : Nat → Prop} (h : FsC B h0 w fb K D P) (hB : B ≤ w.heap.size) (t : Turn Q w w') (hq : ∀ k, P k → ¬ Q k) (hl : ∀ k, Q k → B ≤ k) : FsC B h0 w' fb K D P :=
  ⟨h.fs.turn t hq, h.lo, fun k hk => Nat.lt_of_lt_of_le (h.hi k hk) t.size, h.gr.trans (t.below hB hl), h.good⟩
theorem FsC.grow {B : Nat} {h0 w w' : World} {fb K : Nat} {D : Doc} {P : Nat → Prop} (h : FsC B h0 w fb K D P) (hB : B ≤ w.heap.size) (g : Grow w w') : FsC B h0 w' fb K D P := h.frame hB (Turn.of_grow (P := fun _ => False) g) (fun _ _ h => h) (fun _ h => h.elim)
theorem FsAt.monoK {P : Nat → Prop} {w : World} {fb K K' : Nat} {S : Fs} (h : FsAt P w fb S K) (hk : K ≤ K') : FsAt P w fb S K' := by
  obtain ⟨pb, mb, sb, n, m, cv, cs, h, k1, k2⟩ := h
  exact ⟨pb, mb, sb, n, m, cv, cs, h, by omega, by omega⟩
def emptyD (room : Nat) : Doc := ⟨room, [], [], []⟩
theorem emptyD_good (room : Nat) (h : room ≤ 1073741824) : Good (emptyD room) := ⟨.nil _ ⟨List.nodup_nil, Nat.zero_le _, fun p hp => by cases hp⟩, h⟩
theorem newW_grow (room : Int) (w : World) : Grow w (newW room w) := ((((Grow.refl w).alloc _).alloc _).alloc _).alloc _
theorem newW_fs (room : Nat) (w : World) : FsAt (More (fun _ => False) w (newW room w)) (newW room w) (w.heap.size + 3) (emptyD room).fs 0 := by
  have hs : (newW room w).heap.size = w.heap.size + 4 := by simp [newW]
  have m1 := filesV_new (More (fun _ => False) w (newW room w)) w
  have m2 := filesV_new (More (fun _ => False) w (newW room w)) ((w.alloc (.map #[] 0)).alloc (.cells #[.slice none 0 0, .map (some w.heap.size)] 59))
  have k1 := m1.turn (Turn.of_grow (P := fun _ => False) ((((Grow.refl (w.alloc (.map #[] 0))).alloc (.cells #[.slice none 0 0, .map (some w.heap.size)] 59)).alloc (.map #[] 0)).alloc (.cells #[.pointer (some ⟨w.heap.size + 1, 0, none⟩), .int .i64 room, .map (some (w.heap.size + 2))] 61))) (fun h => h)
  have k2 := m2.turn (Turn.of_grow (P := fun _ => False) ((Grow.refl (((w.alloc (.map #[] 0)).alloc (.cells #[.slice none 0 0, .map (some w.heap.size)] 59)).alloc (.map #[] 0))).alloc (.cells #[.pointer (some ⟨w.heap.size + 1, 0, none⟩), .int .i64 room, .map (some (w.heap.size + 2))] 61))) (fun h => h)
  have hz : ((w.alloc (.map #[] 0)).alloc (.cells #[.slice none 0 0, .map (some w.heap.size)] 59)).heap.size = w.heap.size + 2 := by simp
  rw [hz] at k2
  refine ⟨w.heap.size + 1, w.heap.size + 2, w.heap.size, 0, 0, .slice none 0 0, [], ⟨?_, ?_, k2, k1, ⟨rfl, .inl ⟨rfl, rfl⟩⟩, .nil, fun _ => rfl, by omega, .inr ⟨by omega, by omega⟩, .inr ⟨by omega, by omega⟩, .inr ⟨by omega, by omega⟩, .inr ⟨by omega, by omega⟩, (fun q hq => nomatch hq)⟩, Nat.le_refl _, Nat.le_refl _⟩
  · have := heap_alloc_new (((w.alloc (.map #[] 0)).alloc (.cells #[.slice none 0 0, .map (some w.heap.size)] 59)).alloc (.map #[] 0)) (.cells #[.pointer (some ⟨w.heap.size + 1, 0, none⟩), .int .i64 room, .map (some (w.heap.size + 2))] 61)
    rw [show (((w.alloc (.map #[] 0)).alloc (.cells #[.slice none 0 0, .map (some w.heap.size)] 59)).alloc (.map #[] 0)).heap.size = w.heap.size + 3 from by simp] at this
    exact this
  · have := heap_alloc_new (w.alloc (.map #[] 0)) (.cells #[.slice none 0 0, .map (some w.heap.size)] 59)
    rw [show (w.alloc (.map #[] 0)).heap.size = w.heap.size + 1 from by simp] at this
    have g := ((Grow.refl ((w.alloc (.map #[] 0)).alloc (.cells #[.slice none 0 0, .map (some w.heap.size)] 59))).alloc (.map #[] 0)).alloc (.cells #[.pointer (some ⟨w.heap.size + 1, 0, none⟩), .int .i64 room, .map (some (w.heap.size + 2))] 61)
    exact (Below.block g (w.heap.size + 1) (by simp)).trans this
theorem new2_any (room : Nat) (h : room ≤ 1073741824) (w : World) : Calls Try.prog 8 #[.int .i64 (room : Int)] w fun e w' => e = .returned (.tuple #[.pointer (some ⟨w.heap.size + 3, 0, none⟩), .int .i64 0]) ∧ FsAt (More (fun _ => False) w w') w' (w.heap.size + 3) (emptyD room).fs 0 ∧ Grow w w' := by
  refine (new_any room (by omega) (by omega) w).mono ?_
  rintro e w' ⟨rfl, rfl⟩
  exact ⟨rfl, newW_fs room w, newW_grow room w⟩
theorem FsC.new {h0 w w' : World} {B room : Nat} (hr : room ≤ 1073741824) (hB : B ≤ w.heap.size) (g0 : Below B h0 w) (hf : FsAt (More (fun _ => False) w w') w' (w.heap.size + 3) (emptyD room).fs 0) (g : Grow w w') : FsC B h0 w' (w.heap.size + 3) 0 (emptyD room) (More (fun _ => False) w w') :=
  ⟨hf, fun k hk => by rcases hk with hk | hk; exact hk.elim; omega, fun k hk => by rcases hk with hk | hk; exact hk.elim; exact hk.2, g0.trans (Below.mono g hB), emptyD_good room hr⟩
theorem Good.create {D : Doc} (h : Good D) (name : ByteArray) (data : List UInt8) (hd : data.length ≤ 1073741824) : Good (createD D name data).2 := by
  unfold createD
  split
  · rename_i hb
    split
    · exact h
    · rename_i hl
      split
      · exact h
      · exact h.did _ ⟨hb, hd, .inl ⟨rfl, by simpa using hl⟩⟩ (fun _ => by simp only; omega)
  · exact h
theorem Good.write {D : Doc} (h : Good D) (name : ByteArray) (at_ : Int) (data : List UInt8) (hd : data.length ≤ 1073741824) : Good (writeD D name at_ data).2 := by
  unfold writeD
  rcases findD_cases D name with e | e | ⟨l, e, hb, hl⟩
  · rw [e]; exact h
  · rw [e]; exact h
  · rw [e]
    simp only [if_true]
    split
    · exact h.did _ ⟨hb, hd, .inr (.inl ⟨rfl, l, hl, by simp only; omega⟩)⟩ (fun h0 => by simp at h0)
    · exact h
theorem Good.remove {D : Doc} (h : Good D) (name : ByteArray) : Good (removeD D name).2 := by
  unfold removeD
  rcases findD_cases D name with e | e | ⟨l, e, hb, hl⟩
  · rw [e]; exact h
  · rw [e]; exact h
  · rw [e]
    exact h.did _ ⟨hb, by simp, .inr (.inr ⟨rfl, l, hl⟩)⟩ (fun h0 => by simp at h0)
end Go.Proofs.Yticpldjcmhpjoaa
