/-
  Steps of a reader, one behind the other.
-/
import Derived.Test.YtldcbkememonaaaT3
import Derived.Test.YtldcbkememonaaaM4
import Derived.Test.YtldcbkememonaaaGd
namespace Go.Proofs.Ytldcbkememonaaa
open Go.RowKit
set_option linter.unusedVariables false
set_option linter.unusedSimpArgs false

/-- the reader from one world to another: its state there -/
structure Stp (B r : Nat) (s : ByteArray) (v : Value) (w : World) (st : RS) (v' : Value) (w' : World) : Prop where
  ra : RA B r s st v' w'
  fr : Fr r v w w'
  nb : NewB v v' w
section
variable {B r : Nat} {s : ByteArray} {st st2 : RS} {v v1 v2 : Value} {w w1 w2 : World}
theorem Stp.refl (h : RA B r s st v w) : Stp B r s v w st v w := ⟨h, Fr.refl _ _ _, NewB.self _ _⟩
theorem Stp.trans (h : Stp B r s v w st v1 w1) (k : Stp B r s v1 w1 st2 v2 w2) : Stp B r s v w st2 v2 w2 := ⟨k.ra, h.fr.trans k.fr h.nb, h.nb.trans k.nb h.fr.size⟩
theorem Stp.grow (h : Stp B r s v w st v1 w1) (hg : Grow w1 w2) : Stp B r s v w st v1 w2 := h.trans ⟨h.ra.grow hg, Fr.of_below hg, NewB.self _ _⟩
theorem Stp.drews (h : Stp B r s v w st v1 w1) (n : Nat) : Stp B r s v w st v1 (w1.drewN n) := h.grow (below_drewN (Grow.refl w1) n)
theorem Stp.set (h : Stp B r s v w st v1 w1) (j : Nat) (x : Value) (hL : st2.L = st.L)
    (hc : (#[.string s, .int .i64 st.at_, .int .i64 st.deep, .int .i64 st.err, .int .i64 st.grp, v1] : Array Value).setIfInBounds j x = #[.string s, .int .i64 st2.at_, .int .i64 st2.deep, .int .i64 st2.err, .int .i64 st2.grp, v1]) :
    Stp B r s v w st2 v1 (w1.setCell ⟨r, j, none⟩ x) := by
  refine h.trans ⟨⟨?_, ?_, h.ra.rB⟩, ⟨rfl, rfl, rfl, by simp, fun k hk h2 _ => ?_⟩, NewB.self _ _⟩
  · rw [Go.heap_setCell_same w1 r j _ _ _ h.ra.blk, hc]
  · rw [hL]
    exact h.ra.own.kept (row := some r) ⟨rfl, rfl, rfl, by simp, fun k hk hkr => heap_setCell_other _ _ _ _ (fun e => hkr (by rw [e]))⟩ (.inr h.ra.ne)
  · exact heap_setCell_other _ _ _ _ h2
theorem Stp.moved {q : Nat} (h : Stp B r s v w st v1 w1) (k : Moved B r s st v1 q w1 w2) : Stp B r s v w { st with at_ := q } v1 w2 :=
  h.trans ⟨k.1, ⟨k.2.os, k.2.tape, k.2.output, k.2.size, fun g hg h2 _ => k.2.block g hg h2 (by simp [nilV, Value.ownBlock])⟩, NewB.self _ _⟩
end
theorem more_any (B r : Nat) (s : ByteArray) (st : RS) (v : Value) (c : Nat) (w : World) (h : RA B r s st v w) :
    Calls Try.prog 49 #[.pointer (some ⟨r, 0, none⟩), .int .u8 c] w fun e w' => e = .returned (.bool (moreF s st.at_ c)) ∧ ∃ n, w' = w.drewN n := by
  by_cases hp : st.at_ < s.size
  · have e : moreF s st.at_ c = (by_ s st.at_ == c) := by simp [moreF, hp]
    rw [e]; exact more_in r c st.at_ s hp w h.c0 h.c1
  · have e : moreF s st.at_ c = false := by simp [moreF, hp]
    rw [e]; exact more_end r c st.at_ s hp w h.c0 h.c1
/-- what a reader's function leaves -/
def RPost (B r : Nat) (s : ByteArray) (st' : RS) (v : Value) (w : World) (e : Ending) (w' : World) : Prop := e = .returned (.tuple #[]) ∧ ∃ v', Stp B r s v w st' v' w'
theorem RPost.of_put {B r : Nat} {s : ByteArray} {st' : RS} {v : Value} {w : World} {e : Ending} {w' : World} (h : PutPost B r s st' v w e w') : RPost B r s st' v w e w' := by
  obtain ⟨h1, v', h2, h3, h4⟩ := h
  exact ⟨h1, v', h2, h3, h4⟩
theorem bad_any (B r : Nat) (s : ByteArray) (st : RS) (v : Value) (e : Int) (w : World) (h : RA B r s st v w) :
    Calls Try.prog 45 #[.pointer (some ⟨r, 0, none⟩), .int .i64 e] w (RPost B r s (st.bad e) v w) := by
  unfold RS.bad
  by_cases h0 : st.err = 0
  · rw [if_pos h0]
    have c3 := h.c3
    rw [h0] at c3
    refine (bad_yes r e w c3 (h.fz 3)).mono ?_
    rintro en w' ⟨rfl, rfl⟩
    exact ⟨rfl, v, (Stp.refl h).set 3 _ rfl rfl⟩
  · rw [if_neg h0]
    refine (bad_no r e st.err w h.c3 h0).mono ?_
    rintro en w' ⟨rfl, rfl⟩
    exact ⟨rfl, v, Stp.refl h⟩
end Go.Proofs.Ytldcbkememonaaa
