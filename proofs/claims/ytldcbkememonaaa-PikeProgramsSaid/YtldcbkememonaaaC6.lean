/-
  atom, piece, row, group, ways: together.
-/
import Derived.Test.YtldcbkememonaaaC5
namespace Go.Proofs.Ytldcbkememonaaa
open Go.RowKit
set_option linter.unusedVariables false
set_option linter.unusedSimpArgs false

theorem atom_any (B r : Nat) (s : ByteArray) (wf : RS → RS) (st : RS) (v : Value) (w : World) (h : RA B r s st v w) (g : Good s st) (he : st.err = 0) (hp : st.at_ < s.size) (hd : st.deep ≤ 64) (hs : s.size ≤ 10000)
    (SO : SetOk s) (hw : WfOk s wf st.at_) (WO : WaysOk B r s wf st.at_) : Calls Try.prog 54 #[.pointer (some ⟨r, 0, none⟩)] w (RPost B r s (atomF s wf st) v w) := by
  have hn : st.L.length ≤ 100000 := by have := g.len; omega
  by_cases h40 : by_ s st.at_ = 40
  · have e : atomF s wf st = groupF s wf st := by unfold atomF; simp [h40]
    rw [e]
    exact atom_group B r s st _ v w h hp hs h40 (fun w' hg => group_walk B r s wf st v w' (h.grow hg) g he hp hd hs hw WO)
  · by_cases h94 : by_ s st.at_ = 94
    · have e : atomF s wf st = ({ st with at_ := st.at_ + 1 } : RS).lay ⟨5, 0, 0, e0⟩ := by unfold atomF; simp [h94]
      rw [e]
      exact atom_one B r s st v w h hp hs hn 94 5 h94 (.inl ⟨rfl, rfl⟩)
    · by_cases h36 : by_ s st.at_ = 36
      · have e : atomF s wf st = ({ st with at_ := st.at_ + 1 } : RS).lay ⟨6, 0, 0, e0⟩ := by unfold atomF; simp [h36]
        rw [e]
        exact atom_one B r s st v w h hp hs hn 36 6 h36 (.inr ⟨rfl, rfl⟩)
      · have e : atomF s wf st = (match setF s st.at_ with
            | (none, q) => ({ st with at_ := q } : RS).bad 8
            | (some m, q) => ({ st with at_ := q } : RS).lay ⟨1, 0, 0, bs (pairsOf m)⟩) := by
          unfold atomF
          simp only
          rw [if_neg (by simpa using h40), if_neg (by simpa using h94), if_neg (by simpa using h36)]
          cases setF s st.at_ with
          | mk o q => cases o <;> rfl
        rw [e]
        exact atom_set B r s st v w h hp hs hn ⟨h40, h94, h36⟩ SO
theorem piece_ok (B r : Nat) (s : ByteArray) (wf : RS → RS) (p : Nat) (hs : s.size ≤ 10000) (SO : SetOk s) (hw : ∀ q, p ≤ q → q < s.size → WfOk s wf q) (WO : WaysOk B r s wf p) : PieceOk B r s wf p := by
  intro st v w h g he hlt hd hp
  have AD := atomF_adv s wf st g he hlt hd (hw _ hp hlt)
  have AT := atom_any B r s wf st v w h g he hlt hd hs SO (hw _ hp hlt) (fun st' v' w' h' g' he' hd' hp' => WO st' v' w' h' g' he' hd' (by omega))
  rw [pieceF_eq]
  have h1 := AD.1.grow
  have h2 := AD.1.size
  have h3 := g.len
  have h4 := g.pos
  have h5 := AD.1.len
  exact piece_walk B r s st (atomF s wf st) v w h hs h2 h5 (by omega) (by omega) AT
theorem ways_ok (B r : Nat) (s : ByteArray) (hs : s.size ≤ 10000) (SO : SetOk s) : ∀ (n : Nat) (st : RS) (v : Value) (w : World), RA B r s st v w → Good s st → st.err = 0 → st.deep ≤ 64 → s.size - st.at_ < n →
    Calls Try.prog 44 #[.pointer (some ⟨r, 0, none⟩)] w (RPost B r s (waysF s n st) v w)
  | 0, _, _, _, _, _, _, _, hn => absurd hn (by omega)
  | n + 1, st, v, w, h, g, he, hd, hn => by
    have hw : ∀ q, st.at_ ≤ q → q < s.size → WfOk s (waysF s n) q := fun _ _ _ st' g' he' hd' _ => waysF_adv s n st' g' hd' he'
    have WO : WaysOk B r s (waysF s n) st.at_ := fun st' v' w' h' g' he' hd' hp' => ways_ok B r s hs SO n st' v' w' h' g' he' hd' (by have := g'.at_; omega)
    exact ways_walk B r s n st v w h g he hd hs (row_walk B r s (waysF s n) st v w h g hd hs hw (piece_ok B r s (waysF s n) st.at_ hs SO hw WO)) WO
end Go.Proofs.Ytldcbkememonaaa
