/-
  The walk of sign.Of.
-/
import Derived.Test.YtfldpaceebemhaaR5
import Derived.Outline
namespace Go.Proofs.Ytfldpaceebemhaa
open Go.RowKit

/-- what a function takes; false: it is none -/
def ofF (s : ByteArray) : SigD × Bool := match tab.find? (fun d => d.name.toList == s.toList) with
  | some d => (d, true)
  | none => (⟨⟨#[]⟩, [], [], 0⟩, false)
/-- what 'Of' answers -/
def OfPost (s : ByteArray) (w : World) (e : Ending) (w' : World) : Prop :=
  ∃ (d : SigD) (ok : Bool) (nv mv : Value), e = .returned (.tuple #[.agg #[.string d.name, nv, mv, .int .i64 d.rest], .bool ok]) ∧ IntsIn d.need nv w' ∧ IntsIn d.may mv w' ∧ Grow w w' ∧ ofF s = (d, ok)

theorem find_step {α : Type} (l : List α) (p : α → Bool) (k : Nat) (d : α) (hk : l[k]? = some d) (h : ∀ j e, j < k → l[j]? = some e → p e = false) (hp : p d = true) : l.find? p = some d := by
  induction l generalizing k with
  | nil => simp at hk
  | cons a l ih =>
    cases k with
    | zero => simp at hk; subst hk; simp [hp]
    | succ k =>
      have ha := h 0 a (by omega) rfl
      simp [List.find?_cons, ha]
      exact ih k (by simpa using hk) (fun j e hj he => h (j + 1) e (by omega) (by simpa using he))
theorem find_none {α : Type} (l : List α) (p : α → Bool) (h : ∀ (j : Nat) (e : α), j < l.length → l[j]? = some e → p e = false) : l.find? p = none := by
  rw [List.find?_eq_none]
  intro x hx
  obtain ⟨j, hj⟩ := List.mem_iff_getElem?.1 hx
  have := h j x (by
    rcases Nat.lt_or_ge j l.length with h1 | h1
    · exact h1
    · rw [List.getElem?_eq_none h1] at hj; cases hj) hj
  simp [this]

theorem cell_blk {w : World} {r : Nat} {cs : Array Value} {t : TypeId} (h : w.heap[r]? = some (.cells cs t (0, 0))) (j : Nat) : w.cell? ⟨r, j, none⟩ = cs[j]? := by simp [World.cell?, h]
theorem froz_blk {w : World} {r : Nat} {cs : Array Value} {t : TypeId} (h : w.heap[r]? = some (.cells cs t (0, 0))) (j : Nat) : w.frozen? ⟨r, j, none⟩ = false := by simp [World.frozen?, h]
theorem IntsIn.set1 {xs : List Int} {v : Value} {w : World} {r j : Nat} {cs : Array Value} (h : IntsIn xs v w) (hb : w.heap[r]? = some (.cells cs 34 (0, 0))) (x : Value) :
    IntsIn xs v (w.setCell ⟨r, j, none⟩ x) ∧ ∃ cs', (w.setCell ⟨r, j, none⟩ x).heap[r]? = some (.cells cs' 34 (0, 0)) := by
  refine ⟨?_, _, Go.heap_setCell_same w r j _ _ _ hb⟩
  refine h.grown (row := some r) ⟨rfl, rfl, rfl, by simp, fun k hk hkr => heap_setCell_other _ _ _ _ (fun e => hkr (by rw [e]))⟩ ?_
  intro q hq
  injection hq with hq
  subst hq
  exact ⟨_, _, hb⟩
theorem IntsIn.set4 {xs : List Int} {v : Value} {w : World} {r : Nat} {cs : Array Value} (h : IntsIn xs v w) (hb : w.heap[r]? = some (.cells cs 34 (0, 0))) (a b c d : Value) :
    IntsIn xs v ((((w.setCell ⟨r, 0, none⟩ a).setCell ⟨r, 1, none⟩ b).setCell ⟨r, 2, none⟩ c).setCell ⟨r, 3, none⟩ d) := by
  obtain ⟨h1, _, b1⟩ := h.set1 (j := 0) hb a
  obtain ⟨h2, _, b2⟩ := h1.set1 (j := 1) b1 b
  obtain ⟨h3, _, b3⟩ := h2.set1 (j := 2) b2 c
  exact (h3.set1 (j := 3) b3 d).1
set_option maxHeartbeats 1000000 in
theorem of13_any (s : ByteArray) (w : World) : Calls Try.prog 13 #[.string s] w (OfPost s w) := by
  have AL := Lib.hid (fun W => all24 W)
  obtain ⟨n, hn⟩ : ∃ n, n = tab.length := ⟨_, rfl⟩
  have HN := Lib.hid hn
  have hn1 : n ≤ 1000 := by rw [hn]; decide +kernel
  have hn0 : 0 < n := by rw [hn]; decide +kernel
  clear hn
  go_enter Try.func13, Try.ntmps13
  go_wp2_with fail
  refine (AL.out _).mono ?_
  rintro e w1 ⟨v1, rfl, s1, b1⟩
  obtain ⟨g, c, cs, rfl, own, sg⟩ := s1.form (by rw [← HN.out]; exact hn0)
  rw [← HN.out] at own
  have OW := Lib.hid own
  have SG := Lib.hid sg
  have hg : g < w1.heap.size := (own.lt g rfl).2
  have hz : w.heap.size < w1.heap.size := by have := b1.size; simp at this; omega
  have hw : w1.heap[w.heap.size]? = some (.cells #[.string ⟨#[]⟩, .slice none 0 0, .slice none 0 0, .int .i64 0] 34 (0, 0)) := by
    rw [Below.block b1 _ (by simp)]
    have := heap_alloc_new w (.cells #[.string ⟨#[]⟩, .slice none 0 0, .slice none 0 0, .int .i64 0] 34)
    simpa using this
  have HW := Lib.hid hw
  have B1 := Lib.hid b1
  clear own sg s1 b1 AL hw
  rw [← HN.out]
  go_wp2_with fail
  have fz := fun j => froz_blk HW.out j
  have FZ := Lib.hid fz
  clear fz
  go_loopw [8] (fun i wr => ∃ k : Nat, k ≤ n ∧ i = .int .i64 k ∧ Hid (∀ (j : Nat) (d : SigD), j < k → tab[j]? = some d → (d.name.toList == s.toList) = false) ∧ Grow w1 wr) (fun i _ => n - (intOf i).toNat)
  case atStart => exact ⟨0, by omega, rfl, Lib.hid (fun j d hj => absurd hj (by omega)), Grow.refl _⟩
  case round =>
    obtain ⟨k, hk, rfl, H, hb⟩ := hrel
    have k0 : (0 : Int) ≤ (k : Int) := by omega
    by_cases hlt : k < n
    · have k1 : (k : Int) < (n : Int) := by omega
      obtain ⟨d, hd⟩ : ∃ d, tab[k]? = some d := ⟨_, List.getElem?_eq_getElem (by rw [← HN.out]; exact hlt)⟩
      obtain ⟨nv, mv, i1, i2, q0, q1, q2, q3⟩ := SG.out.at k d hd
      obtain ⟨a1, n1, z1, rfl⟩ := i1.shape
      obtain ⟨a2, n2, z2, rfl⟩ := i2.shape
      have cc := fun j (hj : j < n * 4) => (Below.cell hb (p := ⟨g, j, none⟩) hg).trans (OW.out.cellAt j hj)
      have c0 := (cc (k * 4) (by omega)).trans q0
      have c1 := (cc (k * 4 + 1) (by omega)).trans q1
      have c2 := (cc (k * 4 + 2) (by omega)).trans q2
      have c3 := (cc (k * 4 + 3) (by omega)).trans q3
      obtain ⟨nm, need, may, rest⟩ := d
      have I1 := Lib.hid (i1.grow hb)
      have I2 := Lib.hid (i2.grow hb)
      have HD := Lib.hid hd
      have HB := Lib.hid hb
      have hrs := hb.size
      have hwr : wr.heap[w.heap.size]? = some (.cells #[.string ⟨#[]⟩, .slice none 0 0, .slice none 0 0, .int .i64 0] 34 (0, 0)) := (Below.block hb _ hz).trans HW.out
      simp only at c0 c1 c2 c3
      cases he : nm.toList == s.toList with
      | true =>
        have HE := Lib.hid he
        have hwr' : w.heap.size < wr.heap.size := by omega
        clear hd i1 i2 q0 q1 q2 q3 cc hb
        have e0 : wr.cell? ⟨w.heap.size, 0, none⟩ = some (.string ⟨#[]⟩) := cell_blk hwr 0
        have e1 : wr.cell? ⟨w.heap.size, 1, none⟩ = some (.slice none 0 0) := cell_blk hwr 1
        have e2 : wr.cell? ⟨w.heap.size, 2, none⟩ = some (.slice none 0 0) := cell_blk hwr 2
        have e3 : wr.cell? ⟨w.heap.size, 3, none⟩ = some (.int .i64 0) := cell_blk hwr 3
        have f0 := froz_blk hwr 0
        have f1 := froz_blk hwr 1
        have f2 := froz_blk hwr 2
        have f3 := froz_blk hwr 3
        have HWR := Lib.hid hwr
        clear hwr
        go_wp2
        refine bodyPost_ret (v := .tuple #[.agg #[.string nm, .slice a1 n1 z1, .slice a2 n2 z2, .int .i64 rest], .bool true]) (by simp [results, Try.results13, go_sem, e0, e1, e2, e3, hwr', Array.getElem?_append, hrs]) rfl ?_
        refine ⟨⟨nm, need, may, rest⟩, true, _, _, rfl, (I1.out.set4 HWR.out _ _ _ _).grow ((Grow.refl _).alloc _), (I2.out.set4 HWR.out _ _ _ _).grow ((Grow.refl _).alloc _), ?_, ?_⟩
        · exact ((((((((Grow.refl w).alloc _).trans B1.out).trans HB.out).setCell (Nat.le_refl _) _).setCell (Nat.le_refl _) _).setCell (Nat.le_refl _) _).setCell (Nat.le_refl _) _).alloc (by simp; omega) _
        · unfold ofF
          rw [find_step tab _ k _ HD.out (fun j d hj hd => H.out j d hj hd) HE.out]
      | false =>
        have HE := Lib.hid he
        clear hd i1 i2 q0 q1 q2 q3 cc hwr
        go_wp2
        go_roundw
        case rel => exact ⟨k + 1, by omega, by go_num, Lib.hid (fun j d hj hd => by
          by_cases e : j = k
          · subst e
            rw [HD.out] at hd
            injection hd with hd
            subst hd
            exact HE.out
          · exact H.out j d (by omega) hd), by first | exact HB.out.alloc _ | exact (HB.out.alloc _)⟩
        case measure => simp [intOf]; omega
    · have k1 : ¬ (k : Int) < (n : Int) := by omega
      obtain rfl : k = n := by omega
      have hwr : wr.heap[w.heap.size]? = some (.cells #[.string ⟨#[]⟩, .slice none 0 0, .slice none 0 0, .int .i64 0] 34 (0, 0)) := (Below.block hb _ hz).trans HW.out
      have hrs := hb.size
      have hwr' : w.heap.size < wr.heap.size := by omega
      have e0 : wr.cell? ⟨w.heap.size, 0, none⟩ = some (.string ⟨#[]⟩) := cell_blk hwr 0
      have e1 : wr.cell? ⟨w.heap.size, 1, none⟩ = some (.slice none 0 0) := cell_blk hwr 1
      have e2 : wr.cell? ⟨w.heap.size, 2, none⟩ = some (.slice none 0 0) := cell_blk hwr 2
      have e3 : wr.cell? ⟨w.heap.size, 3, none⟩ = some (.int .i64 0) := cell_blk hwr 3
      have f0 := froz_blk hwr 0
      have f1 := froz_blk hwr 1
      have f2 := froz_blk hwr 2
      have f3 := froz_blk hwr 3
      have HWR := Lib.hid hwr
      have HB := Lib.hid hb
      clear hwr hb
      go_wp2
      refine bodyPost_ret (v := .tuple #[.agg #[.string ⟨#[]⟩, .slice none 0 0, .slice none 0 0, .int .i64 0], .bool false]) (by simp [results, Try.results13, go_sem, e0, e1, e2, e3, hwr', hrs]) rfl ?_
      refine ⟨⟨⟨#[]⟩, [], [], 0⟩, false, _, _, rfl, (ints_nil _), (ints_nil _), ?_, ?_⟩
      · exact (((((((Grow.refl w).alloc _).trans B1.out).trans HB.out).setCell (Nat.le_refl _) _).setCell (Nat.le_refl _) _).setCell (Nat.le_refl _) _).setCell (Nat.le_refl _) _
      · unfold ofF
        rw [find_none tab _ (fun j d hj hd => H.out j d (by rw [HN.out]; exact hj) hd)]
end Go.Proofs.Ytfldpaceebemhaa
