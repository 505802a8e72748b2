/-
  Steps of a reader, one behind the other. / The walk of atom.
-/
import Derived.Test.YtldcbkememonaaaPc
import Derived.Test.YtldcbkememonaaaPb
import Derived.Test.YtldcbkememonaaaGd
namespace Go.Proofs.Ytldcbkememonaaa
open Go.RowKit
set_option linter.unusedVariables false
set_option linter.unusedSimpArgs false

/-- the reader from one world to another: its state there -/
structure Stp (B r : Nat) (s : ByteArray) (v : Value) (w : World) (st : RS) (v' : Value) (w' : World) : Prop where
  ra : RA B r s st v' w'
  fr : Fr r v w w'
  nb : NewB v v' w
section
variable {B r : Nat} {s : ByteArray} {st st2 : RS} {v v1 v2 : Value} {w w1 w2 : World}
theorem Stp.refl (h : RA B r s st v w) : Stp B r s v w st v w := ⟨h, Fr.refl _ _ _, NewB.self _ _⟩
theorem Stp.trans (h : Stp B r s v w st v1 w1) (k : Stp B r s v1 w1 st2 v2 w2) : Stp B r s v w st2 v2 w2 := ⟨k.ra, h.fr.trans k.fr h.nb, h.nb.trans k.nb h.fr.size⟩
theorem Stp.grow (h : Stp B r s v w st v1 w1) (hg : Grow w1 w2) : Stp B r s v w st v1 w2 := h.trans ⟨h.ra.grow hg, Fr.of_below hg, NewB.self _ _⟩
theorem Stp.drews (h : Stp B r s v w st v1 w1) (n : Nat) : Stp B r s v w st v1 (w1.drewN n) := h.grow (below_drewN (Grow.refl w1) n)
theorem Stp.set (h : Stp B r s v w st v1 w1) (j : Nat) (x : Value) (hL : st2.L = st.L)
    (hc : (#[.string s, .int .i64 st.at_, .int .i64 st.deep, .int .i64 st.err, .int .i64 st.grp, v1] : Array Value).setIfInBounds j x = #[.string s, .int .i64 st2.at_, .int .i64 st2.deep, .int .i64 st2.err, .int .i64 st2.grp, v1]) :
    Stp B r s v w st2 v1 (w1.setCell ⟨r, j, none⟩ x) := by
  refine h.trans ⟨⟨?_, ?_, h.ra.rB⟩, ⟨rfl, rfl, rfl, by simp, fun k hk h2 _ => ?_⟩, NewB.self _ _⟩
  · rw [Go.heap_setCell_same w1 r j _ _ _ h.ra.blk, hc]
  · rw [hL]
    exact h.ra.own.kept (row := some r) ⟨rfl, rfl, rfl, by simp, fun k hk hkr => heap_setCell_other _ _ _ _ (fun e => hkr (by rw [e]))⟩ (.inr h.ra.ne)
  · exact heap_setCell_other _ _ _ _ h2
theorem Stp.moved {q : Nat} (h : Stp B r s v w st v1 w1) (k : Moved B r s st v1 q w1 w2) : Stp B r s v w { st with at_ := q } v1 w2 :=
  h.trans ⟨k.1, ⟨k.2.os, k.2.tape, k.2.output, k.2.size, fun g hg h2 _ => k.2.block g hg h2 (by simp [nilV, Value.ownBlock])⟩, NewB.self _ _⟩
end
theorem more_any (B r : Nat) (s : ByteArray) (st : RS) (v : Value) (c : Nat) (w : World) (h : RA B r s st v w) :
    Calls Try.prog 49 #[.pointer (some ⟨r, 0, none⟩), .int .u8 c] w fun e w' => e = .returned (.bool (moreF s st.at_ c)) ∧ ∃ n, w' = w.drewN n := by
  by_cases hp : st.at_ < s.size
  · have e : moreF s st.at_ c = (by_ s st.at_ == c) := by simp [moreF, hp]
    rw [e]; exact more_in r c st.at_ s hp w h.c0 h.c1
  · have e : moreF s st.at_ c = false := by simp [moreF, hp]
    rw [e]; exact more_end r c st.at_ s hp w h.c0 h.c1
/-- what a reader's function leaves -/
def RPost (B r : Nat) (s : ByteArray) (st' : RS) (v : Value) (w : World) (e : Ending) (w' : World) : Prop := e = .returned (.tuple #[]) ∧ ∃ v', Stp B r s v w st' v' w'
theorem RPost.of_put {B r : Nat} {s : ByteArray} {st' : RS} {v : Value} {w : World} {e : Ending} {w' : World} (h : PutPost B r s st' v w e w') : RPost B r s st' v w e w' := by
  obtain ⟨h1, v', h2, h3, h4⟩ := h
  exact ⟨h1, v', h2, h3, h4⟩
theorem bad_any (B r : Nat) (s : ByteArray) (st : RS) (v : Value) (e : Int) (w : World) (h : RA B r s st v w) :
    Calls Try.prog 45 #[.pointer (some ⟨r, 0, none⟩), .int .i64 e] w (RPost B r s (st.bad e) v w) := by
  unfold RS.bad
  by_cases h0 : st.err = 0
  · rw [if_pos h0]
    have c3 := h.c3
    rw [h0] at c3
    refine (bad_yes r e w c3 (h.fz 3)).mono ?_
    rintro en w' ⟨rfl, rfl⟩
    exact ⟨rfl, v, (Stp.refl h).set 3 _ rfl rfl⟩
  · rw [if_neg h0]
    refine (bad_no r e st.err w h.c3 h0).mono ?_
    rintro en w' ⟨rfl, rfl⟩
    exact ⟨rfl, v, Stp.refl h⟩
end Go.Proofs.Ytldcbkememonaaa

namespace Go.Proofs.Ytldcbkememonaaa
open Go.RowKit
set_option linter.unusedVariables false
set_option linter.unusedSimpArgs false

/-- what 'set' and 'class' answer -/
def SetPost (B r : Nat) (s : ByteArray) (st : RS) (v : Value) (res : Option (Nat → Bool) × Nat) (w : World) (e : Ending) (w' : World) : Prop :=
  Moved B r s st v res.2 w w' ∧ ∃ (m : Nat → Bool) (ok : Bool), e = .returned (.tuple #[.agg (arrC m), .bool ok]) ∧
    (match res.1 with | some m' => arrC m = arrC m' ∧ ok = true | none => ok = false)
/-- 'set' at any place -/
def SetOk (s : ByteArray) : Prop := ∀ (B r : Nat) (st : RS) (v : Value) (w : World), RA B r s st v w → st.at_ < s.size → Calls Try.prog 56 #[.pointer (some ⟨r, 0, none⟩)] w (SetPost B r s st v (setF s st.at_) w)
theorem pairs_congr {m m' : Nat → Bool} (h : arrC m = arrC m') : ∀ k, k ≤ 256 → pairsTo m k = pairsTo m' k := by
  have e : ∀ i, i < 256 → m i = m' i := fun i hi => by
    have h1 := arrC_at m i hi
    rw [h, arrC_at m' i hi] at h1
    injection h1 with h1
    injection h1 with h1
    exact h1.symm
  intro k
  induction k with
  | zero => intro _; rfl
  | succ k ih =>
    intro hk
    unfold pairsTo
    rw [ih (by omega), e k (by omega)]
    have e1 : (k == 0 || !m (k - 1)) = (k == 0 || !m' (k - 1)) := by
      by_cases h0 : k = 0
      · simp [h0]
      · rw [e (k - 1) (by omega)]
    have e2 : (k == 255 || !m (k + 1)) = (k == 255 || !m' (k + 1)) := by
      by_cases h0 : k = 255
      · simp [h0]
      · rw [e (k + 1) (by omega)]
    rw [e1, e2]

set_option maxRecDepth 100000 in
set_option maxHeartbeats 2000000 in
theorem atom_one (B r : Nat) (s : ByteArray) (st : RS) (v : Value) (w : World) (h : RA B r s st v w) (hp : st.at_ < s.size) (hs : s.size ≤ 10000) (hn : st.L.length ≤ 100000)
    (c : Nat) (op : Int) (hc : by_ s st.at_ = c) (hco : (c = 94 ∧ op = 5) ∨ (c = 36 ∧ op = 6)) :
    Calls Try.prog 54 #[.pointer (some ⟨r, 0, none⟩)] w (RPost B r s (({ st with at_ := st.at_ + 1 } : RS).lay ⟨op, 0, 0, e0⟩) v w) := by
  obtain ⟨p, hpp⟩ : ∃ p, p = st.at_ := ⟨_, rfl⟩
  have c0 := h.c0
  have c1 := h.c1
  have f1 := h.fz 1
  rw [← hpp] at c1 hp hc
  have k0 : (0 : Int) ≤ (p : Int) := by omega
  have k1 : (p : Int) < (s.size : Int) := by omega
  have k2 : (p : Int) ≤ 10000 := by omega
  have hcs : s[p].toNat = c := by rw [← hc, by_at s p hp]
  have HP := Lib.hid hpp
  have H := Lib.hid h
  have LY := Lib.hid (fun (st : RS) (v : Value) (w : World) (h : RA B r s st v w) (hn : st.L.length ≤ 100000) => lay_any B r s st v ⟨op, 0, 0, e0⟩ w h hn)
  have HL := Lib.hid hn
  clear h hpp hc hn
  rcases hco with ⟨rfl, rfl⟩ | ⟨rfl, rfl⟩
  all_goals
    go_enter Try.func54, Try.ntmps54
    go_wp2
    go_quiet (fail)
    have s1 := ((Stp.refl H.out).drews nq).set (st2 := { st with at_ := st.at_ + 1 }) 1 (.int .i64 ((p : Int) + 1)) rfl (by rw [HP.out]; rfl)
    have S1 := Lib.hid s1
    have LL := Lib.hid (LY.out _ _ _ s1.ra HL.out)
    clear s1
    go_wp2_with fail
    refine LL.out.mono ?_
    rintro e w5 ⟨rfl, v5, h5, h6, h7⟩
    have S5 := Lib.hid (S1.out.trans ⟨h5, h6, h7⟩)
    clear h5 h6 h7
    go_wp2
    go_end0
    exact ⟨rfl, v5, S5.out⟩

theorem atom_group (B r : Nat) (s : ByteArray) (st st' : RS) (v : Value) (w : World) (h : RA B r s st v w) (hp : st.at_ < s.size) (hs : s.size ≤ 10000) (hc : by_ s st.at_ = 40)
    (GR : ∀ w', Grow w w' → Calls Try.prog 55 #[.pointer (some ⟨r, 0, none⟩)] w' (RPost B r s st' v w')) :
    Calls Try.prog 54 #[.pointer (some ⟨r, 0, none⟩)] w (RPost B r s st' v w) := by
  obtain ⟨p, hpp⟩ : ∃ p, p = st.at_ := ⟨_, rfl⟩
  have c0 := h.c0
  have c1 := h.c1
  rw [← hpp] at c1 hp hc
  have k0 : (0 : Int) ≤ (p : Int) := by omega
  have k1 : (p : Int) < (s.size : Int) := by omega
  have k2 : (p : Int) ≤ 10000 := by omega
  have hcs : s[p].toNat = 40 := by rw [← hc, by_at s p hp]
  have H := Lib.hid h
  have GG := Lib.hid GR
  clear h hpp hc GR
  go_enter Try.func54, Try.ntmps54
  go_wp2
  go_quiet (fail)
  have g1 := below_drewN (Grow.refl w) nq
  have G1 := Lib.hid g1
  clear g1
  go_wp2_with fail
  refine (GG.out _ G1.out).mono ?_
  rintro e w5 ⟨rfl, v5, s5⟩
  have S5 := Lib.hid (((Stp.refl H.out).grow G1.out).trans s5)
  clear s5
  go_wp2
  go_end0
  exact ⟨rfl, v5, S5.out⟩

set_option maxRecDepth 100000 in
set_option maxHeartbeats 2000000 in
theorem atom_set (B r : Nat) (s : ByteArray) (st : RS) (v : Value) (w : World) (h : RA B r s st v w) (hp : st.at_ < s.size) (hs : s.size ≤ 10000) (hn : st.L.length ≤ 100000)
    (hc : by_ s st.at_ ≠ 40 ∧ by_ s st.at_ ≠ 94 ∧ by_ s st.at_ ≠ 36) (SO : SetOk s) :
    Calls Try.prog 54 #[.pointer (some ⟨r, 0, none⟩)] w (RPost B r s (match setF s st.at_ with
      | (none, q) => ({ st with at_ := q } : RS).bad 8
      | (some m, q) => ({ st with at_ := q } : RS).lay ⟨1, 0, 0, bs (pairsOf m)⟩) v w) := by
  have SE := Lib.hid (fun w' (hg : Grow w w') => SO B r st v w' (h.grow hg) hp)
  obtain ⟨R, hR⟩ : ∃ R, R = setF s st.at_ := ⟨_, rfl⟩
  rw [← hR] at SE ⊢
  obtain ⟨p, hpp⟩ : ∃ p, p = st.at_ := ⟨_, rfl⟩
  have c0 := h.c0
  have c1 := h.c1
  rw [← hpp] at c1 hp hc
  have k0 : (0 : Int) ≤ (p : Int) := by omega
  have k1 : (p : Int) < (s.size : Int) := by omega
  have k2 : (p : Int) ≤ 10000 := by omega
  obtain ⟨c, hcc⟩ : ∃ c, c = by_ s p := ⟨_, rfl⟩
  rw [← hcc] at hc
  have hcs : s[p].toNat = c := by rw [hcc, by_at s p hp]
  have t1 : ((c : Int) == 40) = false := by simp; omega
  have t2 : ((c : Int) == 94) = false := by simp; omega
  have t3 : ((c : Int) == 36) = false := by simp; omega
  have H := Lib.hid h
  have LY := Lib.hid (fun (i : Ins) (st : RS) (v : Value) (w : World) (h : RA B r s st v w) (hn : st.L.length ≤ 100000) => lay_any B r s st v i w h hn)
  have BD := Lib.hid (fun (st : RS) (v : Value) (w : World) (h : RA B r s st v w) => bad_any B r s st v 8 w h)
  have HL := Lib.hid hn
  clear h hpp hc SO hcc hR hn
  go_enter Try.func54, Try.ntmps54
  go_wp2
  go_quiet (fail)
  have G1 := Lib.hid (below_drewN (Grow.refl w) nq)
  go_wp2_with fail
  refine (SE.out _ G1.out).mono ?_
  rintro e w5 ⟨mv, m, ok, rfl, hm⟩
  have S5 := Lib.hid (((Stp.refl H.out).grow G1.out).moved mv)
  have N5 := Lib.hid (Arr.new w5)
  have SA := Lib.hid (size_arr m)
  have OS := Lib.hid (show (arrC fun _ => false).size = (arrC m).size from by rw [arrC_size, arrC_size])
  have HM := Lib.hid hm
  clear mv hm SE c0 c1
  obtain ⟨W6, hW6⟩ : ∃ W6, W6 = (w5.alloc (.cells Try.zeroCells110 110)).setRow w5.heap.size (arrC m) := ⟨_, rfl⟩
  have g56 : Grow w5 W6 := by rw [hW6]; exact below_row ((Grow.refl w5).alloc _) _
  have A6 := Lib.hid (show Arr W6 w5.heap.size m from by rw [hW6]; exact N5.out.row _)
  have S6 := Lib.hid (S5.out.grow g56)
  clear g56
  cases ok with
  | false =>
    obtain ⟨q, hRq⟩ : ∃ q, R = (none, q) := by
      have := HM.out
      rcases R with ⟨o, q⟩
      cases o with
      | none => exact ⟨q, rfl⟩
      | some m' => exact absurd this.2 (by simp)
    subst hRq
    have BB := Lib.hid (BD.out _ _ _ S6.out.ra)
    clear BD
    go_wp2_with (refine wpList_store_row rfl 110 _ _ rfl w5.heap.size (arrC m) rfl rfl 110 (arrC fun _ => false) N5.out SA.out OS.out (arrC_one _) ?_)
    rw [← hW6]
    clear hW6
    go_wp2_with fail
    refine BB.out.mono ?_
    rintro e w7 ⟨rfl, v7, s7⟩
    have S7 := Lib.hid (S6.out.trans s7)
    clear s7
    go_wp2
    go_end0
    exact ⟨rfl, v7, S7.out⟩
  | true =>
    obtain ⟨m', q, hRq⟩ : ∃ m' q, R = (some m', q) := by
      have := HM.out
      rcases R with ⟨o, q⟩
      cases o with
      | none => exact absurd this (by simp)
      | some m' => exact ⟨m', q, rfl⟩
    subst hRq
    have hmm : arrC m = arrC m' := HM.out.1
    have hpm : pairsOf m = pairsOf m' := pairs_congr hmm 256 (Nat.le_refl _)
    have PA := Lib.hid (fun W => pairs_any m W)
    rw [hpm] at PA
    clear hmm hpm
    have A7 := Lib.hid (N5.out.row m)
    go_wp2_with (first | (refine wpList_store_row rfl 110 _ _ rfl w5.heap.size (arrC m) rfl rfl 110 (arrC fun _ => false) N5.out SA.out OS.out (arrC_one _) ?_) | (refine wpList_load_row rfl 110 _ rfl w5.heap.size rfl 110 (arrC m) (0, 0) _ A7.out und110 rfl SA.out ?_))
    rw [← hW6]
    clear hW6
    refine (PA.out _).mono ?_
    rintro e w7 ⟨rfl, b7⟩
    have S7 := Lib.hid (S6.out.grow b7)
    have LL := Lib.hid (LY.out ⟨1, 0, 0, bs (pairsOf m')⟩ _ _ _ S7.out.ra HL.out)
    clear b7 LY
    go_wp2_with fail
    refine LL.out.mono ?_
    rintro e w8 ⟨rfl, v8, h5, h6, h7⟩
    have S8 := Lib.hid (S7.out.trans ⟨h5, h6, h7⟩)
    clear h5 h6 h7
    go_wp2
    go_end0
    exact ⟨rfl, v8, S8.out⟩
end Go.Proofs.Ytldcbkememonaaa
