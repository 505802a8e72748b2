/-
  An FS stands where its own blocks stand.
-/
import Derived.Test.YticpldjcmhpjoaaV29
namespace Go.Proofs.Yticpldjcmhpjoaa
open Go.RowKit
set_option linter.unusedVariables false
set_option linter.unusedSimpArgs false

/-- P's blocks stand -/
def Stand (P : Nat → Prop) (w w' : World) : Prop := ∀ k, P k → k < w.heap.size → w'.heap[k]? = w.heap[k]?
theorem BytesIn.keep {P : Nat → Prop} {w w' : World} {v : Value} {l : List UInt8} (h : BytesIn P w v l) (hs : Stand P w w') : BytesIn P w' v l := by
  rcases h with h | ⟨g, c, h1, h2, h3⟩
  · exact .inl h
  · refine .inr ⟨g, c, h1, fun i x hx => ?_, h3⟩
    have hl : l ≠ [] := by rintro rfl; simp at hx
    have h0 := h2 i x hx
    exact (cell_of_block (a := ⟨g, i, none⟩) (hs g (h3.1 hl) (lt_of_cell h0))).trans h0
theorem FilesV.keep {P : Nat → Prop} {w w' : World} {mb n : Nat} {g : Look} (h : FilesV P w mb n g) (hs : Stand P w w') (hp : P mb) : FilesV P w' mb n g := by
  obtain ⟨f, h1, h2⟩ := h
  refine ⟨f, h1.kept (hs mb hp h1.lt), fun s => ⟨(h2 s).1, fun l hl => ?_⟩⟩
  obtain ⟨v, h3, h4⟩ := (h2 s).2 l hl
  exact ⟨v, h3, h4.keep hs⟩
theorem ChgCs.keep {base : Int} {P : Nat → Prop} {w w' : World} {l : List Chg} {cs : List Value} (h : ChgCs base P w l cs) (hs : Stand P w w') : ChgCs base P w' l cs := by
  induction h with
  | nil => exact .nil
  | cons c l dv cs h1 _ ih => exact .cons c l dv cs (h1.keep hs) ih
theorem FsAt.keep {P : Nat → Prop} {w w' : World} {fb K : Nat} {S : Fs} (h : FsAt P w fb S K) (hs : Stand P w w') : FsAt P w' fb S K := by
  obtain ⟨pb, mb, sb, n, m, cv, cs, h, k⟩ := h
  exact ⟨pb, mb, sb, n, m, cv, cs, ⟨(hs fb h.pf (lt_blk h.hf)).trans h.hf, (hs pb h.pp (lt_blk h.hp)).trans h.hp, h.now.keep hs h.pm, h.was.keep hs h.ps,
    own_kept h.row (fun q e => by obtain ⟨cur, hc⟩ := own_lt h.row e; exact hs q (h.pr q e) (lt_blk hc)), h.chg.keep hs, h.nil, h.ne, h.pf, h.pp, h.pm, h.ps, h.pr⟩, k⟩
theorem FsC.keep {B : Nat} {h0 w w' : World} {fb K : Nat} {D : Doc} {P : Nat → Prop} {q : Option Nat} (h : FsC B h0 w fb K D P) (hB : B ≤ w.heap.size) (g : w.grownBy w' q) (hq : ∀ k, q = some k → ¬ P k ∧ B ≤ k) : FsC B h0 w' fb K D P :=
  ⟨h.fs.keep (fun k hp hk => g.block k hk (fun e => (hq k e.symm).1 hp)), h.lo, fun k hk => Nat.lt_of_lt_of_le (h.hi k hk) g.size, grownB h.gr g hB (fun k e => (hq k e).2), h.good⟩
theorem OwnL.turn {B : Nat} {Q : Nat → Prop} {w w' : World} {v : Value} {l : List UInt8} (h : OwnL B w v l) (t : Turn Q w w') (hq : ∀ k, v.ownBlock = some k → ¬ Q k) : OwnL B w' v l :=
  own_kept h (fun q e => by obtain ⟨cur, hc⟩ := own_lt h e; exact t.block q (lt_blk hc) (hq q e))
theorem OwnL.lt {B : Nat} {w : World} {v : Value} {l : List UInt8} (h : OwnL B w v l) : ∀ k, v.ownBlock = some k → k < w.heap.size := fun k e => by
  obtain ⟨cur, hc⟩ := own_lt h e
  exact lt_blk hc
theorem OwnL.front {B g n c : Nat} {w : World} {l r : List UInt8} (h : OwnL B w (.slice (some ⟨g, 0, none⟩) n c) (l ++ r)) : HoldsAt w (.slice (some ⟨g, 0, none⟩) l.length c) l := by
  obtain ⟨aa, c', e0, hnc, hxx⟩ := h.shape
  injection e0 with ea e1 e2
  refine ⟨_, c, g, 0, rfl, by rw [e2]; simp at hnc; omega, fun _ => rfl, fun i x hx => ?_⟩
  rw [Nat.zero_add]
  refine h.cellAt i x ?_
  rw [List.getElem?_append_left (by have := (List.getElem?_eq_some_iff.1 hx).1; exact this)]
  exact hx
theorem OwnL.at {B : Nat} {w : World} {v : Value} {l : List UInt8} (h : OwnL B w v l) : HoldsAt w v l := h.bytes.at
theorem HoldsAt.below {B : Nat} {w w' : World} {v : Value} {l : List UInt8} (h : HoldsAt w v l) (hw : w.heap.size ≤ B) (hb : Below B w w') : HoldsAt w' v l := by
  obtain ⟨p, c, b, o, h1, h2, h3, h4⟩ := h
  exact ⟨p, c, b, o, h1, h2, h3, fun i x hx => by have := h4 i x hx; have hlt := lt_of_cell this; simp only at hlt; exact (Below.cell hb (p := ⟨b, o + i, none⟩) (by simp only; omega)).trans this⟩
/-- b[k:] -/
theorem HoldsAt.drop {w : World} {p : Option Addr} {n c : Nat} {l : List UInt8} (h : HoldsAt w (.slice p n c) l) (k : Nat) (hk : k ≤ n) :
    (p = none → HoldsAt w (.slice none 0 0) (l.drop k)) ∧ ∀ a, p = some a → HoldsAt w (.slice (if c = k then some a else some (a.add k)) (n - k) (c - k)) (l.drop k) := by
  obtain ⟨p', c', b, o, h1, h2, h3, h4⟩ := h
  injection h1 with e1 e2 e3
  subst e1 e3
  have hlen : (l.drop k).length = n - k := by rw [List.length_drop, ← e2]
  refine ⟨fun hp => ?_, fun a ha => ?_⟩
  · have hl0 : l = [] := by
      cases l with
      | nil => rfl
      | cons x r => have := h3 (by simp); rw [hp] at this; cases this
    subst hl0
    exact ⟨none, 0, 0, 0, by simp, by simp, fun h => absurd h (by simp), fun i x hx => by simp at hx⟩
  · rw [← hlen]
    refine ⟨_, c - k, b, o + k, rfl, by rw [hlen]; omega, fun h0 => ?_, fun i x hx => ?_⟩
    · have h0' : 0 < l.length := by rw [List.length_drop] at h0; omega
      have := h3 h0'
      rw [ha] at this
      injection this with this
      subst this
      rw [if_neg (by rw [List.length_drop] at h0; omega), add_plain]
    · rw [List.getElem?_drop] at hx
      have := h4 _ _ hx
      rw [Nat.add_assoc]
      exact this
end Go.Proofs.Yticpldjcmhpjoaa
