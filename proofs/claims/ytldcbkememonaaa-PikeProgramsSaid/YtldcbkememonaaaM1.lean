/-
  Instructions in memory; the walk of 'moved'.
-/
import Derived.Test.YtldcbkememonaaaS1
import Derived.Test.YtldcbkememonaaaApp
import Derived.Deep.AppendLies
namespace Go.Proofs.Ytldcbkememonaaa
open Go.RowKit
set_option linter.unusedVariables false
set_option linter.unusedSimpArgs false

theorem heap_alloc_two (w : World) (a b : Obj) : ((w.alloc a).alloc b).heap[w.heap.size + 1]? = some b := by
  have := heap_alloc_new (w.alloc a) b
  simpa using this
theorem Try.info76 : (Try.prog.info? 76).map (fun i => (i.zero, i.size, i.bytes)) = some (some (.agg #[.int .i64 0, .int .i64 0, .int .i64 0, .string ⟨#[]⟩]), 4, 40) := by kernel_rfl

def insC (i : Ins) : List Value := [.int .i64 i.op, .int .i64 i.x, .int .i64 i.y, .string i.ps]
def cellsI (l : List Ins) : List Value := l.flatMap insC
theorem cellsI_append (a b : List Ins) : cellsI (a ++ b) = cellsI a ++ cellsI b := by simp [cellsI]
theorem cellsI_one (i : Ins) : cellsI [i] = insC i := by simp [cellsI]
theorem cellsI_length : ∀ l : List Ins, (cellsI l).length = l.length * 4
  | [] => rfl
  | i :: l => by
    have ih := cellsI_length l
    have e : cellsI (i :: l) = insC i ++ cellsI l := by simp [cellsI]
    rw [e, List.length_append, ih]
    simp [insC]; omega
theorem cellsI_at : ∀ (l : List Ins) (k : Nat) (i : Ins), l[k]? = some i → ∀ j, j < 4 → (cellsI l)[k * 4 + j]? = (insC i)[j]?
  | [], _, _, h, _, _ => by simp at h
  | i :: l, 0, a, h, j, hj => by
    simp at h
    subst h
    have e : cellsI (i :: l) = insC i ++ cellsI l := by simp [cellsI]
    rw [e, Nat.zero_mul, Nat.zero_add, List.getElem?_append_left (by simp [insC]; omega)]
  | i :: l, k + 1, a, h, j, hj => by
    have ih := cellsI_at l k a (by simpa using h) j hj
    have e : cellsI (i :: l) = insC i ++ cellsI l := by simp [cellsI]
    rw [e, List.getElem?_append_right (by simp [insC]; omega), ← ih]
    congr 1
    simp [insC]; omega
theorem insC_one (i : Ins) : ∀ u ∈ insC i, u.oneCell' = true := by
  intro u hu
  simp only [insC, List.mem_cons, List.not_mem_nil, or_false] at hu
  rcases hu with rfl | rfl | rfl | rfl <;> rfl

/-- instructions that lie somewhere -/
def RdI (L : List Ins) (g o : Nat) (w : World) : Prop := ∀ k i, L[k]? = some i → g < w.heap.size ∧
  w.cell? ⟨g, o + k * 4, none⟩ = some (.int .i64 i.op) ∧ w.cell? ⟨g, o + k * 4 + 1, none⟩ = some (.int .i64 i.x) ∧ w.cell? ⟨g, o + k * 4 + 2, none⟩ = some (.int .i64 i.y) ∧ w.cell? ⟨g, o + k * 4 + 3, none⟩ = some (.string i.ps)
theorem RdI.below {L : List Ins} {g o B : Nat} {w w' : World} (h : RdI L g o w) (hb : Below B w w') (hg : L ≠ [] → g < B) : RdI L g o w' := fun k i hk => by
  have hne : L ≠ [] := by intro e; subst e; simp at hk
  obtain ⟨h0, h1, h2, h3, h4⟩ := h k i hk
  have := hg hne
  exact ⟨Nat.lt_of_lt_of_le h0 hb.size, (hb.cell (p := ⟨g, _, none⟩) this).trans h1, (hb.cell (p := ⟨g, _, none⟩) this).trans h2, (hb.cell (p := ⟨g, _, none⟩) this).trans h3, (hb.cell (p := ⟨g, _, none⟩) this).trans h4⟩
theorem RdI.grow {L : List Ins} {g o : Nat} {w w' : World} (h : RdI L g o w) (hb : Grow w w') : RdI L g o w' := h.below hb (fun hne => by
  obtain ⟨i, l, rfl⟩ := List.exists_cons_of_ne_nil hne
  exact (h 0 i rfl).1)
theorem rdI_own {w : World} {B g n c : Nat} {L : List Ins} (h : w.ownsRow B 76 4 (.slice (some ⟨g, 0, none⟩) n c) n (cellsI L)) (hl : L.length = n) : RdI L g 0 w := fun k i hk => by
  have hkn : k < L.length := by
    rcases Nat.lt_or_ge k L.length with h1 | h1
    · exact h1
    · rw [List.getElem?_eq_none h1] at hk; cases hk
  have c := fun j (hj : j < 4) => (h.cellAt (k * 4 + j) (by omega)).trans (cellsI_at L k i hk j hj)
  refine ⟨(h.lt g rfl).2, ?_, ?_, ?_, ?_⟩
  · have := c 0 (by omega); simpa [insC] using this
  · have := c 1 (by omega); rw [Nat.zero_add]; simpa [insC] using this
  · have := c 2 (by omega); rw [Nat.zero_add]; simpa [insC] using this
  · have := c 3 (by omega); rw [Nat.zero_add]; simpa [insC] using this

theorem take_snocI (L : List Ins) (k : Nat) (i : Ins) (h : L[k]? = some i) : L.take (k + 1) = L.take k ++ [i] := by
  have hk : k < L.length := by
    rcases Nat.lt_or_ge k L.length with h1 | h1
    · exact h1
    · rw [List.getElem?_eq_none h1] at h; cases h
  rw [List.take_succ_eq_append_getElem hk]
  rw [List.getElem?_eq_getElem hk] at h
  injection h with h
  rw [h]

set_option maxHeartbeats 2000000 in
theorem moved_any (L : List Ins) (b : Int) (ao : Option Addr) (n c g o : Nat) (w : World) (hl : L.length = n) (hn : n ≤ 100000) (hs : RdI L g o w) (ha : 0 < n → ao = some ⟨g, o, none⟩) :
    Calls Try.prog 53 #[.slice ao n c, .int .i64 b] w fun e w' => ∃ v, e = .returned v ∧ w'.ownsRow w.heap.size 76 4 v n (cellsI (L.map (movI b))) ∧ Below w.heap.size w w' ∧ (n = 0 → v = .slice none 0 0) := by
  obtain ⟨i0, hi0, hz0, hz1, hz2⟩ := info_parts Try.info76
  have HL := Lib.hid hl
  have HS := Lib.hid hs
  have HA := Lib.hid ha
  have O0 := Lib.hid (World.ownsRow_nil w w.heap.size 76 4)
  clear hl hs ha
  go_enter Try.func53, Try.ntmps53
  go_wp2
  go_loopw [5, 6] (fun t i wr => ∃ k : Nat, k ≤ n ∧ i = .int .i64 k ∧ Hid (wr.ownsRow w.heap.size 76 4 t k (cellsI ((L.take k).map (movI b)))) ∧ Below w.heap.size w wr ∧ Hid (k = 0 → t = .slice none 0 0)) (fun _ i _ => n - (intOf i).toNat)
  case atStart => exact ⟨0, by omega, rfl, by simpa [cellsI] using O0, Below.refl _ _, Lib.hid (fun _ => rfl)⟩
  case round =>
    clear O0
    obtain ⟨k, hk, rfl, HO, hb, HZ⟩ := hrel
    by_cases hlt : k < n
    · obtain ⟨i, hi⟩ : ∃ i, L[k]? = some i := ⟨_, List.getElem?_eq_getElem (by rw [HL.out]; exact hlt)⟩
      have hao : ao = some ⟨g, o, none⟩ := HA.out (by omega)
      obtain ⟨hg, q0, q1, q2, q3⟩ := (HS.out.grow hb) k i hi
      have HT := Lib.hid (show cellsI ((L.take (k + 1)).map (movI b)) = cellsI ((L.take k).map (movI b)) ++ insC (movI b i) from by
        rw [take_snocI L k i hi, List.map_append, cellsI_append]; simp [cellsI])
      obtain ⟨p, x, y, ps⟩ := i
      simp only at q0 q1 q2 q3
      have k0 : (0 : Int) ≤ (k : Int) := by omega
      have k1 : (k : Int) < (n : Int) := by omega
      have mx : k + 1 ≤ maxLen := by unfold maxLen; omega
      have hsz := hb.size
      clear hi
      subst hao
      by_cases h2 : p = 2
      · subst h2
        rw [show movI b ⟨2, x, y, ps⟩ = ⟨2, wrap64 (x + b), wrap64 (y + b), ps⟩ from rfl] at HT
        go_wp2_with (at_builtin; refine wpList_append_lies _ (by rfl) _ _ _ (by rfl) w.heap.size 76 i0 _ 4 40 Try.underlying31 hi0 hz0 hz1 hz2 rfl (by omega) _ k (cellsI ((L.take k).map (movI b))) (by rfl) ((HO.out.alloc _).alloc _) ⟨wr.heap.size + 1, 0, none⟩ 1 1 (insC ⟨2, wrap64 (x + b), wrap64 (y + b), ps⟩) (by rfl) (by rfl) (World.news_of_block (cs := #[.int .i64 (2), .int .i64 (wrap64 (x + b)), .int .i64 (wrap64 (y + b)), .string ps]) (t := 76) (fr := (0, 0)) (heap_alloc_two wr _ _)) (insC_one _) (by omega) mx (by omega) (by simp; omega) (wr.heap.size + 1 + 1) (by simp) ?_; intro gg1 cp1 w3 hown3 hgrow3 hat3 hlt3; have H3 := Lib.hid (And.intro hown3 hgrow3); clear hown3 hgrow3 hat3)
        obtain ⟨hown3, hgrow3⟩ := H3.out
        rw [← HT.out] at hown3
        have OW := Lib.hid hown3
        have BB := Lib.hid (((hb.alloc hsz _).alloc (by simp; omega) _).grown hgrow3 (by simp; omega) (fun q hq => (HO.out.lt q hq).1))
        clear H3 hown3 hgrow3
        go_roundw
        case rel => exact ⟨k + 1, by omega, by go_num, OW, BB.out, Lib.hid (fun h => absurd h (by omega))⟩
        case measure => simp [intOf]; omega
      · by_cases h3 : p = 3
        · subst h3
          rw [show movI b ⟨3, x, y, ps⟩ = ⟨3, wrap64 (x + b), y, ps⟩ from rfl] at HT
          clear h2
          go_wp2_with (at_builtin; refine wpList_append_lies _ (by rfl) _ _ _ (by rfl) w.heap.size 76 i0 _ 4 40 Try.underlying31 hi0 hz0 hz1 hz2 rfl (by omega) _ k (cellsI ((L.take k).map (movI b))) (by rfl) ((HO.out.alloc _).alloc _) ⟨wr.heap.size + 1, 0, none⟩ 1 1 (insC ⟨3, wrap64 (x + b), y, ps⟩) (by rfl) (by rfl) (World.news_of_block (cs := #[.int .i64 (3), .int .i64 (wrap64 (x + b)), .int .i64 (y), .string ps]) (t := 76) (fr := (0, 0)) (heap_alloc_two wr _ _)) (insC_one _) (by omega) mx (by omega) (by simp; omega) (wr.heap.size + 1 + 1) (by simp) ?_; intro gg1 cp1 w3 hown3 hgrow3 hat3 hlt3; have H3 := Lib.hid (And.intro hown3 hgrow3); clear hown3 hgrow3 hat3)
          obtain ⟨hown3, hgrow3⟩ := H3.out
          rw [← HT.out] at hown3
          have OW := Lib.hid hown3
          have BB := Lib.hid (((hb.alloc hsz _).alloc (by simp; omega) _).grown hgrow3 (by simp; omega) (fun q hq => (HO.out.lt q hq).1))
          clear H3 hown3 hgrow3
          go_roundw
          case rel => exact ⟨k + 1, by omega, by go_num, OW, BB.out, Lib.hid (fun h => absurd h (by omega))⟩
          case measure => simp [intOf]; omega
        · have b2 : (p == 2) = false := by simpa using h2
          have b3 : (p == 3) = false := by simpa using h3
          rw [show movI b ⟨p, x, y, ps⟩ = ⟨p, x, y, ps⟩ from by simp [movI, h2, h3]] at HT
          clear h2 h3
          go_wp2_with (at_builtin; refine wpList_append_lies _ (by rfl) _ _ _ (by rfl) w.heap.size 76 i0 _ 4 40 Try.underlying31 hi0 hz0 hz1 hz2 rfl (by omega) _ k (cellsI ((L.take k).map (movI b))) (by rfl) ((HO.out.alloc _).alloc _) ⟨wr.heap.size + 1, 0, none⟩ 1 1 (insC ⟨p, x, y, ps⟩) (by rfl) (by rfl) (World.news_of_block (cs := #[.int .i64 (p), .int .i64 (x), .int .i64 (y), .string ps]) (t := 76) (fr := (0, 0)) (heap_alloc_two wr _ _)) (insC_one _) (by omega) mx (by omega) (by simp; omega) (wr.heap.size + 1 + 1) (by simp) ?_; intro gg1 cp1 w3 hown3 hgrow3 hat3 hlt3; have H3 := Lib.hid (And.intro hown3 hgrow3); clear hown3 hgrow3 hat3)
          obtain ⟨hown3, hgrow3⟩ := H3.out
          rw [← HT.out] at hown3
          have OW := Lib.hid hown3
          have BB := Lib.hid (((hb.alloc hsz _).alloc (by simp; omega) _).grown hgrow3 (by simp; omega) (fun q hq => (HO.out.lt q hq).1))
          clear H3 hown3 hgrow3
          go_roundw
          case rel => exact ⟨k + 1, by omega, by go_num, OW, BB.out, Lib.hid (fun h => absurd h (by omega))⟩
          case measure => simp [intOf]; omega
    · obtain rfl : k = n := by omega
      go_wp2
      go_ret
      refine ⟨_, rfl, ?_, hb, HZ.out⟩
      have := HO.out
      rwa [List.take_of_length_le (by rw [HL.out]; exact Nat.le_refl _)] at this
end Go.Proofs.Ytldcbkememonaaa
