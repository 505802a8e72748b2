/-
  The walks of word, special, more, bad (graticuleref11). / Instructions in memory; the walk of 'moved'. / The reader in memory; the walk of 'lay'. / append of any source onto a row of one's own: the new row, where it lies, and that only it was written. / The walk of 'cut'. / The walk of 'put'.
-/
import Derived.Test.YtldcbkememonaaaRx
import Derived.Test.YtldcbkememonaaaProg
import Derived.Test.YtldcbkememonaaaBase
import Derived.WalkLawsBesides
import Derived.WalkSpells
import Derived.Lib.Hide
import Derived.Deep.QuietTactic
import Derived.BigQuiet
import Derived.Test.YtldcbkememonaaaPa
import Derived.Deep.AppendLies
import Derived.Deep.RegionLaw
import Derived.Laws.Rows
import Derived.Laws.IdiomCopy
import Derived.Lib.SmallJoins
namespace Go.Proofs.Ytldcbkememonaaa
open Go.RowKit
set_option linter.unusedVariables false
set_option linter.unusedSimpArgs false

theorem ret_bool {a b : Bool} (h : a = b) : Ending.returned (.bool a) = .returned (.bool b) := by rw [h]
theorem ret_int {k : IntKind} {a b : Int} (h : a = b) : Ending.returned (.int k a) = .returned (.int k b) := by rw [h]

theorem by_at (s : ByteArray) (p : Nat) (h : p < s.size) : by_ s p = s[p].toNat := by
  have h' : p < s.data.toList.length := by rw [Array.length_toList]; exact h
  unfold by_
  rw [List.getD_eq_getElem?_getD, List.getElem?_eq_getElem h']
  rfl
theorem cast_beq (a b : Nat) : ((a : Int) == (b : Int)) = (a == b) := by
  rw [Bool.eq_iff_iff]; simp; omega

theorem word_any (c : Nat) (hc : c < 256) (w : World) : Calls Try.prog 64 #[.int .u8 c] w fun e w' => e = .returned (.bool (wordB c)) ∧ w = w' := by
  by_cases a1 : 97 ≤ c <;> by_cases a2 : c ≤ 122 <;> by_cases a3 : 65 ≤ c <;> by_cases a4 : c ≤ 90 <;> by_cases a5 : 48 ≤ c <;> by_cases a6 : c ≤ 57
  all_goals first
    | omega
    | (simp only [wordB, a1, a2, a3, a4, a5, a6]
       go_enter Try.func64, Try.ntmps64
       go_wp2
       go_ret
       exact ⟨ret_bool (by first | (simp; done) | (simp; omega)), rfl⟩)

theorem bad_no (r : Nat) (e er : Int) (w : World) (h0 : w.cell? ⟨r, 3, none⟩ = some (.int .i64 er)) (h : ¬ er = 0) : Calls Try.prog 45 #[.pointer (some ⟨r, 0, none⟩), .int .i64 e] w fun en w' => en = .returned (.tuple #[]) ∧ w = w' := by
  have h' : (er == 0) = false := by simpa using h
  clear h
  go_enter Try.func45, Try.ntmps45
  go_wp2
  go_end0
  exact ⟨rfl, rfl⟩
theorem bad_yes (r : Nat) (e : Int) (w : World) (h0 : w.cell? ⟨r, 3, none⟩ = some (.int .i64 0)) (hf : w.frozen? ⟨r, 3, none⟩ = false) : Calls Try.prog 45 #[.pointer (some ⟨r, 0, none⟩), .int .i64 e] w fun en w' => en = .returned (.tuple #[]) ∧ w' = w.setCell ⟨r, 3, none⟩ (.int .i64 e) := by
  go_enter Try.func45, Try.ntmps45
  go_wp2
  go_end0
  exact ⟨rfl, rfl⟩
theorem more_end (r : Nat) (c p : Nat) (s : ByteArray) (hp : ¬ p < s.size) (w : World) (h0 : w.cell? ⟨r, 0, none⟩ = some (.string s)) (h1 : w.cell? ⟨r, 1, none⟩ = some (.int .i64 p)) :
    Calls Try.prog 49 #[.pointer (some ⟨r, 0, none⟩), .int .u8 c] w fun e w' => e = .returned (.bool false) ∧ ∃ n, w' = w.drewN n := by
  have hp' : decide (p < s.size) = false := decide_eq_false hp
  clear hp
  go_enter Try.func49, Try.ntmps49
  go_wp2
  go_quiet (fail)
  go_wp2
  go_ret
  exact ⟨rfl, _, rfl⟩
theorem more_in (r : Nat) (c p : Nat) (s : ByteArray) (hp : p < s.size) (w : World) (h0 : w.cell? ⟨r, 0, none⟩ = some (.string s)) (h1 : w.cell? ⟨r, 1, none⟩ = some (.int .i64 p)) :
    Calls Try.prog 49 #[.pointer (some ⟨r, 0, none⟩), .int .u8 c] w fun e w' => e = .returned (.bool (by_ s p == c)) ∧ ∃ n, w' = w.drewN n := by
  have hp' : decide ((p : Int) < (s.size : Int)) = true := by simp; omega
  have h2 : (p : Int) < (s.size : Int) := by omega
  have h3 : (0 : Int) ≤ (p : Int) := by omega
  go_enter Try.func49, Try.ntmps49
  go_wp2
  go_quiet (fail)
  go_wp2
  go_ret
  exact ⟨ret_bool (by rw [by_at s p hp, cast_beq]), _, rfl⟩

def specS : ByteArray := ⟨#[92, 94, 36, 46, 124, 63, 42, 43, 40, 41, 91]⟩
theorem specS_yes (c k : Nat) (hk : k < specS.size) (h : by_ specS k = c) : specB c = true := by
  subst h
  have : k < 11 := hk
  rcases (show k = 0 ∨ k = 1 ∨ k = 2 ∨ k = 3 ∨ k = 4 ∨ k = 5 ∨ k = 6 ∨ k = 7 ∨ k = 8 ∨ k = 9 ∨ k = 10 from by omega) with rfl | rfl | rfl | rfl | rfl | rfl | rfl | rfl | rfl | rfl | rfl <;> rfl
theorem specS_no (c : Nat) (h : ∀ k, k < 11 → by_ specS k ≠ c) : specB c = false := by
  have h0 : 92 ≠ c := h 0 (by omega)
  have h1 : 94 ≠ c := h 1 (by omega)
  have h2 : 36 ≠ c := h 2 (by omega)
  have h3 : 46 ≠ c := h 3 (by omega)
  have h4 : 124 ≠ c := h 4 (by omega)
  have h5 : 63 ≠ c := h 5 (by omega)
  have h6 : 42 ≠ c := h 6 (by omega)
  have h7 : 43 ≠ c := h 7 (by omega)
  have h8 : 40 ≠ c := h 8 (by omega)
  have h9 : 41 ≠ c := h 9 (by omega)
  have h10 : 91 ≠ c := h 10 (by omega)
  simp [specB]
  omega
theorem spec_any (c : Nat) (hc : c < 256) (w : World) : Calls Try.prog 60 #[.int .u8 c] w fun e w' => e = .returned (.bool (specB c)) ∧ w = w' := by
  obtain ⟨S, hS⟩ : ∃ S, S = specS := ⟨_, rfl⟩
  have hsz : S.size = 11 := by rw [hS]; rfl
  have HZ := Lib.hid hsz
  have HS := Lib.hid hS
  have hS' : S = ⟨#[92, 94, 36, 46, 124, 63, 42, 43, 40, 41, 91]⟩ := hS
  have HS' := Lib.hid hS'
  clear hsz hS hS'
  go_enter Try.func60, Try.ntmps60
  go_wp2
  rw [← HS'.out]
  go_loop [4] (fun i => ∃ k : Nat, k ≤ 11 ∧ i = .int .i64 k ∧ Hid (∀ j, j < k → by_ S j ≠ c)) (fun i => 11 - (intOf i).toNat)
  case atStart => exact ⟨0, by omega, rfl, Lib.hid (fun j hj => absurd hj (by omega))⟩
  case round =>
    obtain ⟨k, hk, rfl, H⟩ := hrel
    by_cases hlt : k < S.size
    · have h1 : (k : Int) < (S.size : Int) := by omega
      have h0 : (0 : Int) ≤ (k : Int) := by omega
      by_cases hb : by_ S k = c
      · have hb' : ((S[k].toNat : Int) == (c : Int)) = true := by rw [cast_beq, ← by_at S k hlt]; simpa using hb
        have HB := Lib.hid hb
        clear hb
        go_wp2
        go_ret
        exact ⟨ret_bool (specS_yes c k (by rw [← HS.out]; exact hlt) (by rw [← HS.out]; exact HB.out)).symm, rfl⟩
      · have hb' : ((S[k].toNat : Int) == (c : Int)) = false := by rw [cast_beq, ← by_at S k hlt]; simpa using hb
        have HB := Lib.hid hb
        clear hb
        have hk10 : k ≤ 10 := by have := HZ.out; omega
        go_wp2
        go_round
        case rel => exact ⟨k + 1, by omega, by go_num, Lib.hid (fun j hj => by
          by_cases e : j = k
          · rw [e]; exact HB.out
          · exact H.out j (by omega))⟩
        case measure => simp [intOf]; omega
    · have h1 : ¬ (k : Int) < (S.size : Int) := by omega
      have hk11 : k = 11 := by have := HZ.out; omega
      have HK := Lib.hid hk11
      clear hk11
      go_wp2
      go_ret
      exact ⟨ret_bool (specS_no c (fun j hj => by rw [← HS.out]; exact H.out j (by rw [HK.out]; exact hj))).symm, rfl⟩
end Go.Proofs.Ytldcbkememonaaa

namespace Go.Proofs.Ytldcbkememonaaa
open Go.RowKit
set_option linter.unusedVariables false
set_option linter.unusedSimpArgs false

theorem heap_alloc_two (w : World) (a b : Obj) : ((w.alloc a).alloc b).heap[w.heap.size + 1]? = some b := by
  have := heap_alloc_new (w.alloc a) b
  simpa using this
theorem Try.info76 : (Try.prog.info? 76).map (fun i => (i.zero, i.size, i.bytes)) = some (some (.agg #[.int .i64 0, .int .i64 0, .int .i64 0, .string ⟨#[]⟩]), 4, 40) := by kernel_rfl

def insC (i : Ins) : List Value := [.int .i64 i.op, .int .i64 i.x, .int .i64 i.y, .string i.ps]
def cellsI (l : List Ins) : List Value := l.flatMap insC
theorem cellsI_append (a b : List Ins) : cellsI (a ++ b) = cellsI a ++ cellsI b := by simp [cellsI]
theorem cellsI_one (i : Ins) : cellsI [i] = insC i := by simp [cellsI]
theorem cellsI_length : ∀ l : List Ins, (cellsI l).length = l.length * 4
  | [] => rfl
  | i :: l => by
    have ih := cellsI_length l
    have e : cellsI (i :: l) = insC i ++ cellsI l := by simp [cellsI]
    rw [e, List.length_append, ih]
    simp [insC]; omega
theorem cellsI_at : ∀ (l : List Ins) (k : Nat) (i : Ins), l[k]? = some i → ∀ j, j < 4 → (cellsI l)[k * 4 + j]? = (insC i)[j]?
  | [], _, _, h, _, _ => by simp at h
  | i :: l, 0, a, h, j, hj => by
    simp at h
    subst h
    have e : cellsI (i :: l) = insC i ++ cellsI l := by simp [cellsI]
    rw [e, Nat.zero_mul, Nat.zero_add, List.getElem?_append_left (by simp [insC]; omega)]
  | i :: l, k + 1, a, h, j, hj => by
    have ih := cellsI_at l k a (by simpa using h) j hj
    have e : cellsI (i :: l) = insC i ++ cellsI l := by simp [cellsI]
    rw [e, List.getElem?_append_right (by simp [insC]; omega), ← ih]
    congr 1
    simp [insC]; omega
theorem insC_one (i : Ins) : ∀ u ∈ insC i, u.oneCell' = true := by
  intro u hu
  simp only [insC, List.mem_cons, List.not_mem_nil, or_false] at hu
  rcases hu with rfl | rfl | rfl | rfl <;> rfl

/-- instructions that lie somewhere -/
def RdI (L : List Ins) (g o : Nat) (w : World) : Prop := ∀ k i, L[k]? = some i → g < w.heap.size ∧
  w.cell? ⟨g, o + k * 4, none⟩ = some (.int .i64 i.op) ∧ w.cell? ⟨g, o + k * 4 + 1, none⟩ = some (.int .i64 i.x) ∧ w.cell? ⟨g, o + k * 4 + 2, none⟩ = some (.int .i64 i.y) ∧ w.cell? ⟨g, o + k * 4 + 3, none⟩ = some (.string i.ps)
theorem RdI.below {L : List Ins} {g o B : Nat} {w w' : World} (h : RdI L g o w) (hb : Below B w w') (hg : L ≠ [] → g < B) : RdI L g o w' := fun k i hk => by
  have hne : L ≠ [] := by intro e; subst e; simp at hk
  obtain ⟨h0, h1, h2, h3, h4⟩ := h k i hk
  have := hg hne
  exact ⟨Nat.lt_of_lt_of_le h0 hb.size, (hb.cell (p := ⟨g, _, none⟩) this).trans h1, (hb.cell (p := ⟨g, _, none⟩) this).trans h2, (hb.cell (p := ⟨g, _, none⟩) this).trans h3, (hb.cell (p := ⟨g, _, none⟩) this).trans h4⟩
theorem RdI.grow {L : List Ins} {g o : Nat} {w w' : World} (h : RdI L g o w) (hb : Grow w w') : RdI L g o w' := h.below hb (fun hne => by
  obtain ⟨i, l, rfl⟩ := List.exists_cons_of_ne_nil hne
  exact (h 0 i rfl).1)
theorem rdI_own {w : World} {B g n c : Nat} {L : List Ins} (h : w.ownsRow B 76 4 (.slice (some ⟨g, 0, none⟩) n c) n (cellsI L)) (hl : L.length = n) : RdI L g 0 w := fun k i hk => by
  have hkn : k < L.length := by
    rcases Nat.lt_or_ge k L.length with h1 | h1
    · exact h1
    · rw [List.getElem?_eq_none h1] at hk; cases hk
  have c := fun j (hj : j < 4) => (h.cellAt (k * 4 + j) (by omega)).trans (cellsI_at L k i hk j hj)
  refine ⟨(h.lt g rfl).2, ?_, ?_, ?_, ?_⟩
  · have := c 0 (by omega); simpa [insC] using this
  · have := c 1 (by omega); rw [Nat.zero_add]; simpa [insC] using this
  · have := c 2 (by omega); rw [Nat.zero_add]; simpa [insC] using this
  · have := c 3 (by omega); rw [Nat.zero_add]; simpa [insC] using this

theorem take_snocI (L : List Ins) (k : Nat) (i : Ins) (h : L[k]? = some i) : L.take (k + 1) = L.take k ++ [i] := by
  have hk : k < L.length := by
    rcases Nat.lt_or_ge k L.length with h1 | h1
    · exact h1
    · rw [List.getElem?_eq_none h1] at h; cases h
  rw [List.take_succ_eq_append_getElem hk]
  rw [List.getElem?_eq_getElem hk] at h
  injection h with h
  rw [h]

set_option maxHeartbeats 2000000 in
theorem moved_any (L : List Ins) (b : Int) (ao : Option Addr) (n c g o : Nat) (w : World) (hl : L.length = n) (hn : n ≤ 100000) (hs : RdI L g o w) (ha : 0 < n → ao = some ⟨g, o, none⟩) :
    Calls Try.prog 53 #[.slice ao n c, .int .i64 b] w fun e w' => ∃ v, e = .returned v ∧ w'.ownsRow w.heap.size 76 4 v n (cellsI (L.map (movI b))) ∧ Below w.heap.size w w' ∧ (n = 0 → v = .slice none 0 0) := by
  obtain ⟨i0, hi0, hz0, hz1, hz2⟩ := info_parts Try.info76
  have HL := Lib.hid hl
  have HS := Lib.hid hs
  have HA := Lib.hid ha
  have O0 := Lib.hid (World.ownsRow_nil w w.heap.size 76 4)
  clear hl hs ha
  go_enter Try.func53, Try.ntmps53
  go_wp2
  go_loopw [5, 6] (fun t i wr => ∃ k : Nat, k ≤ n ∧ i = .int .i64 k ∧ Hid (wr.ownsRow w.heap.size 76 4 t k (cellsI ((L.take k).map (movI b)))) ∧ Below w.heap.size w wr ∧ Hid (k = 0 → t = .slice none 0 0)) (fun _ i _ => n - (intOf i).toNat)
  case atStart => exact ⟨0, by omega, rfl, by simpa [cellsI] using O0, Below.refl _ _, Lib.hid (fun _ => rfl)⟩
  case round =>
    clear O0
    obtain ⟨k, hk, rfl, HO, hb, HZ⟩ := hrel
    by_cases hlt : k < n
    · obtain ⟨i, hi⟩ : ∃ i, L[k]? = some i := ⟨_, List.getElem?_eq_getElem (by rw [HL.out]; exact hlt)⟩
      have hao : ao = some ⟨g, o, none⟩ := HA.out (by omega)
      obtain ⟨hg, q0, q1, q2, q3⟩ := (HS.out.grow hb) k i hi
      have HT := Lib.hid (show cellsI ((L.take (k + 1)).map (movI b)) = cellsI ((L.take k).map (movI b)) ++ insC (movI b i) from by
        rw [take_snocI L k i hi, List.map_append, cellsI_append]; simp [cellsI])
      obtain ⟨p, x, y, ps⟩ := i
      simp only at q0 q1 q2 q3
      have k0 : (0 : Int) ≤ (k : Int) := by omega
      have k1 : (k : Int) < (n : Int) := by omega
      have mx : k + 1 ≤ maxLen := by unfold maxLen; omega
      have hsz := hb.size
      clear hi
      subst hao
      by_cases h2 : p = 2
      · subst h2
        rw [show movI b ⟨2, x, y, ps⟩ = ⟨2, wrap64 (x + b), wrap64 (y + b), ps⟩ from rfl] at HT
        go_wp2_with (at_builtin; refine wpList_append_lies _ (by rfl) _ _ _ (by rfl) w.heap.size 76 i0 _ 4 40 Try.underlying31 hi0 hz0 hz1 hz2 rfl (by omega) _ k (cellsI ((L.take k).map (movI b))) (by rfl) ((HO.out.alloc _).alloc _) ⟨wr.heap.size + 1, 0, none⟩ 1 1 (insC ⟨2, wrap64 (x + b), wrap64 (y + b), ps⟩) (by rfl) (by rfl) (World.news_of_block (cs := #[.int .i64 (2), .int .i64 (wrap64 (x + b)), .int .i64 (wrap64 (y + b)), .string ps]) (t := 76) (fr := (0, 0)) (heap_alloc_two wr _ _)) (insC_one _) (by omega) mx (by omega) (by simp; omega) (wr.heap.size + 1 + 1) (by simp) ?_; intro gg1 cp1 w3 hown3 hgrow3 hat3 hlt3; have H3 := Lib.hid (And.intro hown3 hgrow3); clear hown3 hgrow3 hat3)
        obtain ⟨hown3, hgrow3⟩ := H3.out
        rw [← HT.out] at hown3
        have OW := Lib.hid hown3
        have BB := Lib.hid (((hb.alloc hsz _).alloc (by simp; omega) _).grown hgrow3 (by simp; omega) (fun q hq => (HO.out.lt q hq).1))
        clear H3 hown3 hgrow3
        go_roundw
        case rel => exact ⟨k + 1, by omega, by go_num, OW, BB.out, Lib.hid (fun h => absurd h (by omega))⟩
        case measure => simp [intOf]; omega
      · by_cases h3 : p = 3
        · subst h3
          rw [show movI b ⟨3, x, y, ps⟩ = ⟨3, wrap64 (x + b), y, ps⟩ from rfl] at HT
          clear h2
          go_wp2_with (at_builtin; refine wpList_append_lies _ (by rfl) _ _ _ (by rfl) w.heap.size 76 i0 _ 4 40 Try.underlying31 hi0 hz0 hz1 hz2 rfl (by omega) _ k (cellsI ((L.take k).map (movI b))) (by rfl) ((HO.out.alloc _).alloc _) ⟨wr.heap.size + 1, 0, none⟩ 1 1 (insC ⟨3, wrap64 (x + b), y, ps⟩) (by rfl) (by rfl) (World.news_of_block (cs := #[.int .i64 (3), .int .i64 (wrap64 (x + b)), .int .i64 (y), .string ps]) (t := 76) (fr := (0, 0)) (heap_alloc_two wr _ _)) (insC_one _) (by omega) mx (by omega) (by simp; omega) (wr.heap.size + 1 + 1) (by simp) ?_; intro gg1 cp1 w3 hown3 hgrow3 hat3 hlt3; have H3 := Lib.hid (And.intro hown3 hgrow3); clear hown3 hgrow3 hat3)
          obtain ⟨hown3, hgrow3⟩ := H3.out
          rw [← HT.out] at hown3
          have OW := Lib.hid hown3
          have BB := Lib.hid (((hb.alloc hsz _).alloc (by simp; omega) _).grown hgrow3 (by simp; omega) (fun q hq => (HO.out.lt q hq).1))
          clear H3 hown3 hgrow3
          go_roundw
          case rel => exact ⟨k + 1, by omega, by go_num, OW, BB.out, Lib.hid (fun h => absurd h (by omega))⟩
          case measure => simp [intOf]; omega
        · have b2 : (p == 2) = false := by simpa using h2
          have b3 : (p == 3) = false := by simpa using h3
          rw [show movI b ⟨p, x, y, ps⟩ = ⟨p, x, y, ps⟩ from by simp [movI, h2, h3]] at HT
          clear h2 h3
          go_wp2_with (at_builtin; refine wpList_append_lies _ (by rfl) _ _ _ (by rfl) w.heap.size 76 i0 _ 4 40 Try.underlying31 hi0 hz0 hz1 hz2 rfl (by omega) _ k (cellsI ((L.take k).map (movI b))) (by rfl) ((HO.out.alloc _).alloc _) ⟨wr.heap.size + 1, 0, none⟩ 1 1 (insC ⟨p, x, y, ps⟩) (by rfl) (by rfl) (World.news_of_block (cs := #[.int .i64 (p), .int .i64 (x), .int .i64 (y), .string ps]) (t := 76) (fr := (0, 0)) (heap_alloc_two wr _ _)) (insC_one _) (by omega) mx (by omega) (by simp; omega) (wr.heap.size + 1 + 1) (by simp) ?_; intro gg1 cp1 w3 hown3 hgrow3 hat3 hlt3; have H3 := Lib.hid (And.intro hown3 hgrow3); clear hown3 hgrow3 hat3)
          obtain ⟨hown3, hgrow3⟩ := H3.out
          rw [← HT.out] at hown3
          have OW := Lib.hid hown3
          have BB := Lib.hid (((hb.alloc hsz _).alloc (by simp; omega) _).grown hgrow3 (by simp; omega) (fun q hq => (HO.out.lt q hq).1))
          clear H3 hown3 hgrow3
          go_roundw
          case rel => exact ⟨k + 1, by omega, by go_num, OW, BB.out, Lib.hid (fun h => absurd h (by omega))⟩
          case measure => simp [intOf]; omega
    · obtain rfl : k = n := by omega
      go_wp2
      go_ret
      refine ⟨_, rfl, ?_, hb, HZ.out⟩
      have := HO.out
      rwa [List.take_of_length_le (by rw [HL.out]; exact Nat.le_refl _)] at this
end Go.Proofs.Ytldcbkememonaaa

namespace Go.Proofs.Ytldcbkememonaaa
open Go.RowKit
set_option linter.unusedVariables false
set_option linter.unusedSimpArgs false

/-- the reader: its six cells, its instructions -/
structure RA (B r : Nat) (s : ByteArray) (st : RS) (v : Value) (w : World) : Prop where
  blk : w.heap[r]? = some (.cells #[.string s, .int .i64 st.at_, .int .i64 st.deep, .int .i64 st.err, .int .i64 st.grp, v] 97 (0, 0))
  own : w.ownsRow B 76 4 v st.L.length (cellsI st.L)
  rB : B ≤ r
theorem cell_blk {w : World} {r : Nat} {cs : Array Value} {t : TypeId} (h : w.heap[r]? = some (.cells cs t (0, 0))) (j : Nat) : w.cell? ⟨r, j, none⟩ = cs[j]? := by simp [World.cell?, h]
theorem froz_blk {w : World} {r : Nat} {cs : Array Value} {t : TypeId} (h : w.heap[r]? = some (.cells cs t (0, 0))) (j : Nat) : w.frozen? ⟨r, j, none⟩ = false := by simp [World.frozen?, h]
theorem lt_blk {w : World} {r : Nat} {o : Obj} (h : w.heap[r]? = some o) : r < w.heap.size := by
  rcases Nat.lt_or_ge r w.heap.size with h1 | h1
  · exact h1
  · rw [Array.getElem?_eq_none h1] at h; cases h
section
variable {B r : Nat} {s : ByteArray} {st : RS} {v : Value} {w : World}
theorem RA.c0 (h : RA B r s st v w) : w.cell? ⟨r, 0, none⟩ = some (.string s) := cell_blk h.blk 0
theorem RA.c1 (h : RA B r s st v w) : w.cell? ⟨r, 1, none⟩ = some (.int .i64 st.at_) := cell_blk h.blk 1
theorem RA.c2 (h : RA B r s st v w) : w.cell? ⟨r, 2, none⟩ = some (.int .i64 st.deep) := cell_blk h.blk 2
theorem RA.c3 (h : RA B r s st v w) : w.cell? ⟨r, 3, none⟩ = some (.int .i64 st.err) := cell_blk h.blk 3
theorem RA.c4 (h : RA B r s st v w) : w.cell? ⟨r, 4, none⟩ = some (.int .i64 st.grp) := cell_blk h.blk 4
theorem RA.c5 (h : RA B r s st v w) : w.cell? ⟨r, 5, none⟩ = some v := cell_blk h.blk 5
theorem RA.fz (h : RA B r s st v w) (j : Nat) : w.frozen? ⟨r, j, none⟩ = false := froz_blk h.blk j
theorem RA.lt (h : RA B r s st v w) : r < w.heap.size := lt_blk h.blk
theorem RA.ne (h : RA B r s st v w) : v.ownBlock ≠ some r := fun e => by
  rcases h.own.2 with ⟨h1, _⟩ | ⟨g, cap, cur, h1, _, h2, _⟩
  · rw [h1] at e; cases e
  · rw [h1] at e
    have e' : g = r := by simpa [Value.ownBlock] using e
    rw [e', h.blk] at h2
    injection h2 with h2
    injection h2 with _ h3
    exact absurd h3 (by decide)
end

/-- only block r, the row of v and new blocks were written -/
structure Fr (r : Nat) (v : Value) (w w' : World) : Prop where
  os : w'.os = w.os
  tape : w'.tape = w.tape
  output : w'.output = w.output
  size : w.heap.size ≤ w'.heap.size
  block : ∀ k, k < w.heap.size → k ≠ r → some k ≠ v.ownBlock → w'.heap[k]? = w.heap[k]?
/-- where a new value lies: in the row of the old one, or in new memory -/
def NewB (v v' : Value) (w : World) : Prop := ∀ g, v'.ownBlock = some g → v.ownBlock = some g ∨ w.heap.size ≤ g
theorem NewB.self (v : Value) (w : World) : NewB v v w := fun g h => .inl h
theorem NewB.trans {v v1 v2 : Value} {w w1 : World} (h : NewB v v1 w) (k : NewB v1 v2 w1) (hs : w.heap.size ≤ w1.heap.size) : NewB v v2 w := fun g hg => by
  rcases k g hg with h1 | h1
  · exact h g h1
  · exact .inr (Nat.le_trans hs h1)
theorem Fr.refl (r : Nat) (v : Value) (w : World) : Fr r v w w := ⟨rfl, rfl, rfl, Nat.le_refl _, fun _ _ _ _ => rfl⟩
theorem Fr.trans {r : Nat} {v v1 : Value} {a b c : World} (h : Fr r v a b) (k : Fr r v1 b c) (hn : NewB v v1 a) : Fr r v a c :=
  ⟨k.os.trans h.os, k.tape.trans h.tape, k.output.trans h.output, Nat.le_trans h.size k.size, fun i hi h1 h2 =>
    (k.block i (Nat.lt_of_lt_of_le hi h.size) h1 (fun e => by
      rcases hn i e.symm with h3 | h3
      · exact h2 h3.symm
      · omega)).trans (h.block i hi h1 h2)⟩
theorem Fr.of_below {r : Nat} {v : Value} {w w' : World} (h : Grow w w') : Fr r v w w' := ⟨Below.os h, Below.tape h, Below.output h, Below.size h, fun k hk _ _ => Below.block h k hk⟩
theorem Fr.below {r B : Nat} {v : Value} {w w' : World} (h : Fr r v w w') (hr : B ≤ r) (hv : ∀ g, v.ownBlock = some g → B ≤ g) (hB : B ≤ w.heap.size) : Below B w w' :=
  ⟨h.os, h.tape, h.output, h.size, fun k hk => h.block k (by omega) (by omega) (fun e => by have := hv k e.symm; omega)⟩
/-- the reader stays while other memory is written -/
theorem RA.grow {B r : Nat} {s : ByteArray} {st : RS} {v : Value} {w w' : World} (h : RA B r s st v w) (hg : Grow w w') : RA B r s st v w' :=
  ⟨(Below.block hg r h.lt).trans h.blk, own_grow h.own hg, h.rB⟩
/-- behind an append and its store -/
theorem RA.app {B r : Nat} {s : ByteArray} {st : RS} {v v' : Value} {w w1 w2 : World} {l : List Ins} (h : RA B r s st v w) (hg : Grow w w1) (hgr : w1.grownBy w2 v.ownBlock)
    (hown : w2.ownsRow B 76 4 v' (st.L.length + l.length) (cellsI st.L ++ cellsI l)) (hloc : ∀ g, v'.ownBlock = some g → v.ownBlock = some g ∨ w1.heap.size ≤ g) :
    RA B r s { st with L := st.L ++ l } v' (w2.setCell ⟨r, 5, none⟩ v') ∧ Fr r v w (w2.setCell ⟨r, 5, none⟩ v') ∧ NewB v v' w := by
  have hlt := h.lt
  have hs1 := hg.size
  have hb2 : w2.heap[r]? = w.heap[r]? := (hgr.block r (by omega) (fun e => h.ne e.symm)).trans (Below.block hg r hlt)
  have hb := hb2.trans h.blk
  have hne : v'.ownBlock ≠ some r := fun e => by
    rcases hloc r e with h1 | h1
    · exact h.ne h1
    · omega
  refine ⟨⟨?_, ?_, h.rB⟩, ⟨hgr.os.trans (Below.os hg), hgr.tape.trans (Below.tape hg), hgr.output.trans (Below.output hg), by simp; exact Nat.le_trans hs1 hgr.size, fun k hk h1 h2 => ?_⟩, fun g hgv => ?_⟩
  · rw [Go.heap_setCell_same w2 r 5 _ _ _ hb]; rfl
  · rw [cellsI_append, List.length_append]
    refine hown.kept (row := some r) ⟨rfl, rfl, rfl, by simp, fun k hk hkr => heap_setCell_other _ _ _ _ (fun e => hkr (by rw [e]))⟩ ?_
    right; exact hne
  · rw [heap_setCell_other _ _ _ _ h1, hgr.block k (by omega) h2]
    exact Below.block hg k hk
  · rcases hloc g hgv with h1 | h1
    · exact .inl h1
    · exact .inr (by omega)

set_option maxHeartbeats 2000000 in
theorem lay_any (B r : Nat) (s : ByteArray) (st : RS) (v : Value) (i : Ins) (w : World) (h : RA B r s st v w) (hn : st.L.length ≤ 100000) :
    Calls Try.prog 43 #[.pointer (some ⟨r, 0, none⟩), .agg #[.int .i64 i.op, .int .i64 i.x, .int .i64 i.y, .string i.ps]] w fun e w' => e = .returned (.int .i64 (st.L.length : Nat)) ∧ ∃ v', RA B r s (st.lay i) v' w' ∧ Fr r v w w' ∧ NewB v v' w := by
  obtain ⟨i0, hi0, hz0, hz1, hz2⟩ := info_parts Try.info76
  obtain ⟨p, x, y, ps⟩ := i
  obtain ⟨W1, hW⟩ : ∃ W1, W1 = w.alloc (.cells #[.int .i64 p, .int .i64 x, .int .i64 y, .string ps] 76) := ⟨_, rfl⟩
  have g1 : Grow w W1 := by rw [hW]; exact (Grow.refl w).alloc _
  have h1 := h.grow g1
  have x0 : W1.cell? ⟨w.heap.size, 0, none⟩ = some (.int .i64 p) := by rw [hW]; simp [go_sem]
  have x1 : W1.cell? ⟨w.heap.size, 1, none⟩ = some (.int .i64 x) := by rw [hW]; simp [go_sem]
  have x2 : W1.cell? ⟨w.heap.size, 2, none⟩ = some (.int .i64 y) := by rw [hW]; simp [go_sem]
  have x3 : W1.cell? ⟨w.heap.size, 3, none⟩ = some (.string ps) := by rw [hW]; simp [go_sem]
  obtain ⟨n, hN⟩ : ∃ n, n = st.L.length := ⟨_, rfl⟩
  have HN := Lib.hid hN
  have c5 := h1.c5
  have hs1 : w.heap.size < W1.heap.size := by rw [hW]; simp
  have hr1 := h1.lt
  have mx : n + 1 ≤ maxLen := by unfold maxLen; omega
  have hnn : n ≤ 100000 := by omega
  have H1 := Lib.hid h1
  have OW := Lib.hid (show W1.ownsRow B 76 4 v n (cellsI st.L) from hN ▸ h1.own)
  have G1 := Lib.hid g1
  have H := Lib.hid h
  have HW := Lib.hid hW
  rw [← hN]
  have HB : B ≤ W1.heap.size := by have := h1.rB; omega
  have c5A : ∀ ob, (W1.drew.alloc ob).cell? ⟨r, 5, none⟩ = some v := fun ob => (World.cell?_alloc_lt _ _ _ (by simpa using hr1)).trans (by simpa using c5)
  have FZ8 := Lib.hid (show ∀ (ob : Obj) (w8 : World), (W1.drew.alloc ob).grownBy w8 v.ownBlock → w8.frozen? ⟨r, 5, none⟩ = false from fun ob w8 hg => by
    rw [World.frozen?_of_block (a := ⟨r, 5, none⟩) (hg.block r (by simp; omega) (fun e => h1.ne e.symm)), World.frozen?_of_block (a := ⟨r, 5, none⟩) (Below.heap_alloc _ _ _ (by simpa using hr1))]
    simpa using h1.fz 5)
  clear h h1 g1 hW hN hn
  go_enter Try.func43, Try.ntmps43
  go_wp2
  rw [← HW.out]
  go_region_law
    (refine step_append_lies _ (by rfl) _ _ _ (by rfl) B 76 i0 _ 4 40 Try.underlying31 hi0 hz0 hz1 hz2 rfl (by omega) v n (cellsI st.L) (by rfl)
      ((own_grow OW.out (Grow.refl W1).drew).alloc _) ⟨W1.heap.size, 0, none⟩ 1 1 (insC ⟨p, x, y, ps⟩) (by rfl) (by rfl)
      (World.news_of_block (cs := #[.int .i64 p, .int .i64 x, .int .i64 y, .string ps]) (t := 76) (fr := (0, 0)) (heap_alloc_new W1.drew _)) (insC_one _) (by omega) mx (by omega) (by simp; omega) (W1.heap.size + 1) (by simp) ?_; intro gg8 cp8 w8 hown8 hgrow8 hat8 hlt8; have c8 := hgrow8.cell (a := ⟨r, 5, none⟩) (c5A _) (fun e => H1.out.ne e.symm); have f8 := FZ8.out _ _ hgrow8)
  all_goals
    have FIN := Lib.hid (H.out.app (l := [⟨p, x, y, ps⟩]) (v' := .slice (some ⟨gg8, 0, none⟩) (n + 1) cp8) ((G1.out.drew).alloc _) hgrow8 (by rw [← HN.out, cellsI_one]; exact hown8)
      (fun g hg => by
        have e : g = gg8 := by simpa [Value.ownBlock] using hg.symm
        subst e
        rcases hat8 with h8 | h8
        · exact .inl h8
        · exact .inr (by simp; omega)))
    clear hown8 hgrow8 hat8 hlt8 FZ8
    go_wp2
    go_ret
    exact ⟨ret_int (by simp), _, FIN.out⟩
end Go.Proofs.Ytldcbkememonaaa

namespace Go.Proofs.Ytldcbkememonaaa
open Go.RowKit
set_option linter.unusedVariables false
set_option linter.unusedSimpArgs false

theorem setCells_blk (b : Nat) : ∀ (vs : List Value) (o : Nat) (w : World) (cur : Array Value) (e : TypeId), w.heap[b]? = some (.cells cur e (0, 0)) →
    ∃ cur', (w.setCells b o vs).heap[b]? = some (.cells cur' e (0, 0)) ∧ cur'.size = cur.size
  | [], _, _, cur, _, h => ⟨cur, h, rfl⟩
  | v :: r, o, w, cur, e, h => by
    obtain ⟨cur', h1, h2⟩ := setCells_blk b r (o + 1) (w.setCell ⟨b, o, none⟩ v) _ e (Go.heap_setCell_same w b o _ _ v h)
    exact ⟨cur', h1, h2.trans (by simp)⟩
theorem setCells_frame (b : Nat) : ∀ (vs : List Value) (o : Nat) (w : World), w.grownBy (w.setCells b o vs) (some b)
  | [], _, w => ⟨rfl, rfl, rfl, Nat.le_refl _, fun _ _ _ => rfl⟩
  | v :: r, o, w => by
    have h := setCells_frame b r (o + 1) (w.setCell ⟨b, o, none⟩ v)
    refine ⟨h.os, h.tape, h.output, Nat.le_trans (by simp) h.size, fun k hk hkr => ?_⟩
    have hkb : k ≠ b := fun e => hkr (by rw [e])
    exact (h.block k (by simpa using hk) hkr).trans (heap_setCell_other _ _ _ _ hkb)

theorem grow_by {w w' : World} (h : Grow w w') (row : Option Nat) : w.grownBy w' row := ⟨Below.os h, Below.tape h, Below.output h, h.size, fun k hk _ => Below.block h k hk⟩
section
variable {P : Program} (w : World)
theorem run_append_srcs (B : Nat) (t tx ty e : TypeId) (i : TypeInfo) (z : Value) (bytes : Nat) (ht : P.underlying t = some (.slice e)) (hi : P.info? e = some i) (hz : i.zero = some z)
    (hsize : i.size = 1) (hby : i.bytes = bytes) (hzs : z.cells.size = 1)
    (v : Value) (n : Nat) (xs : List Value) (hown : w.ownsRow B e 1 v n xs) (x : Value) (m : Nat) (news : List Value) (hs : Src P 1 tx x m news w)
    (h63 : n + m ≤ maxLen) (hbytes : (n + m) * bytes ≤ 140737488355328) (hB : B ≤ w.heap.size) :
    ∃ v' w', (Builtin.append_ #[t, tx] ty #[v, x]).run P w = .ok v' w' ∧ w'.ownsRow B e 1 v' (n + m) (xs ++ news) ∧
      w.grownBy w' v.ownBlock ∧ (∀ g, v'.ownBlock = some g → v.ownBlock = some g ∨ w.heap.size ≤ g) := by
  subst hby
  have hsm : n + m ≤ 9223372036854775807 := by simp only [maxLen] at h63; omega
  have hnl := hs.newsLen
  simp only [Nat.mul_one] at hnl
  have hxl : xs.length = n := by have := hown.1; simpa using this
  have hge : ∀ cap, n + m ≤ grownCap w (n + m) cap e := fun cap => grownCap_ge w (n + m) cap e
  have hcm : ∀ cap, grownCap w (n + m) cap e ≤ maxLen := fun cap => grownCap_le_maxLen w (n + m) cap e h63
  have own' : ∀ cap, (w.drew.alloc (.cells ((xs ++ news).toArray ++ Builtin.zeroCells z.cells (grownCap w (n + m) cap e - (n + m))) e)).ownsRow B e 1 (.slice (some ⟨w.heap.size, 0, none⟩) (n + m) (grownCap w (n + m) cap e)) (n + m) (xs ++ news) := fun cap => by
    refine ⟨by simp [hxl, hnl], .inr ⟨w.heap.size, _, _, rfl, hB, heap_alloc_new w.drew _, hge cap, hcm cap, ?_, ?_⟩⟩
    · have := hge cap
      simp only [Array.size_append, List.size_toArray, size_zeroCells, hzs, List.length_append, hxl, hnl]
      omega
    · simp only [Array.toList_append]
      rw [show (n + m) * 1 = (xs ++ news).length from by simp [hxl, hnl]]
      exact List.take_left
  rcases hown.2 with ⟨rfl, hx0⟩ | ⟨g, cap, cur, rfl, hbg, hg, hnc, hcap, hcs, htake⟩
  · obtain rfl : n = 0 := by omega
    have hx : xs = [] := List.eq_nil_of_length_eq_zero hxl
    subst hx
    obtain ⟨v', w', h1, h2, h3, h4, h5⟩ := run_append_fresh w B t tx ty e i z 1 i.bytes ht hi hz hsize rfl hzs (.slice none 0 0) (.inl rfl) hown x m news hs (by omega) (by simpa using hbytes) hB
    refine ⟨v', w', h1, ?_, grow_by h3 _, fun g hg => ?_⟩
    · simpa using h2
    · rcases Nat.eq_zero_or_pos m with h0 | h0
      · rw [h5 h0] at hg; cases hg
      · obtain ⟨c, hc⟩ := h4 h0
        rw [hc] at hg
        have e : w.heap.size = g := by simpa [Value.ownBlock] using hg
        exact .inr (by omega)
  · by_cases hroom : n + m ≤ cap
    · have hcell : ∀ j, j < cur.size → (w.cell? ⟨g, j, none⟩).isSome = true := fun j hj => by rw [cell_blk hg j]; simp [hj]
      have hr := run_append_room_src (P := P) w t tx ty e i ht hi g 0 n cap x m news (by rw [hsize]; exact hs) hroom (fun j hj => by
          rw [hsize]; exact hcell _ (by omega)) (fun j hj => froz_blk hg _)
      rw [hsize] at hr
      simp only [Nat.zero_add, Nat.mul_one] at hr
      obtain ⟨cur', hg', hcs'⟩ := setCells_blk g news n w cur e hg
      refine ⟨_, _, hr, ⟨by simp [hxl, hnl], .inr ⟨g, cap, cur', rfl, hbg, hg', hroom, hcap, by omega, ?_⟩⟩, setCells_frame g news n w, fun q hq => .inl hq⟩
      apply List.ext_getElem?
      intro j
      rw [List.getElem?_take]
      by_cases hj : j < (n + m) * 1
      · rw [if_pos hj]
        have hcj : (w.setCells g n news).cell? ⟨g, j, none⟩ = cur'[j]? := cell_blk hg' j
        rw [Array.getElem?_toList, ← hcj]
        by_cases hjn : j < n
        · rw [World.cell?_setCells_out g news n w ⟨g, j, none⟩ (fun _ _ => .inl hjn), cell_blk hg j, List.getElem?_append_left (by omega), ← htake, List.getElem?_take, if_pos (by omega), Array.getElem?_toList]
        · have := World.cell?_setCells_in g news n w (fun k hk => hcell _ (by omega)) (j - n) (by omega)
          rw [show n + (j - n) = j from by omega] at this
          rw [this, List.getElem?_append_right (by omega), hxl, List.getElem?_eq_getElem (by omega)]
      · rw [if_neg hj, List.getElem?_eq_none (by simp [hxl, hnl]; omega)]
    · have hold : (Builtin.firstCells i.size n (.slice (some ⟨g, 0, none⟩) n cap)).run P w.drew = .ok xs.toArray w.drew := by
        rw [hsize]
        refine run_firstCells_some w.drew 1 n ⟨g, 0, none⟩ n cap xs (by simp [hxl]) (fun j u hu => ?_)
        exact hown.cells (g := g) rfl j u hu
      have hr := run_append_grow_src (P := P) w t tx ty e i z ht hi hz (some ⟨g, 0, none⟩) n cap xs hold x m news (by rw [hsize]; exact hs) (by omega) (by omega) (growslice_fits (by omega) hbytes)
      exact ⟨_, _, hr, own' cap, grow_by ((Grow.refl w).drew.alloc _) _, fun q hq => .inr (Nat.le_of_eq (by simpa [Value.ownBlock] using hq))⟩
theorem wp_append_srcs {o : Oper} {a : Act} {K : Act → World → Prop} {Q : Exit → Act → World → Prop} (s y : Operand) (t tx : TypeId)
    (ho : o.op = .call { callee := .builtin .append, args := #[s, y], argTypes := #[t, tx] })
    (B : Nat) (e : TypeId) (i : TypeInfo) (z : Value) (bytes : Nat) (ht : P.underlying t = some (.slice e)) (hi : P.info? e = some i) (hz : i.zero = some z)
    (hsize : i.size = 1) (hby : i.bytes = bytes) (hzs : z.cells.size = 1)
    (v : Value) (hsv : a.eval s = v) (n : Nat) (xs : List Value) (hown : w.ownsRow B e 1 v n xs) (x : Value) (hx : a.eval y = x) (m : Nat) (news : List Value) (hs : Src P 1 tx x m news w)
    (h63 : n + m ≤ maxLen) (hbytes : (n + m) * bytes ≤ 140737488355328) (hB : B ≤ w.heap.size)
    (h : ∀ v' w', w'.ownsRow B e 1 v' (n + m) (xs ++ news) → w.grownBy w' v.ownBlock → (∀ g, v'.ownBlock = some g → v.ownBlock = some g ∨ w.heap.size ≤ g) → K (a.put o.dst v') w') : o.wp P a w K Q := by
  obtain ⟨v', w', hrun, h2, h3, h4⟩ := run_append_srcs (P := P) w B t tx o.type e i z bytes ht hi hz hsize hby hzs v n xs hown x m news hs h63 hbytes hB
  unfold Oper.wp execOp
  simp only [ho, resolve, invoke, builtin, Sem.run_bind, Sem.run_pure, Result.andThen_ok, List.map_toArray, List.map_cons, List.map_nil, hsv, hx, hrun]
  exact h v' w' h2 h3 h4
theorem wpList_append_srcs {ops : Array Oper} {rest : List Oper} {o : Oper} {a : Act} {Q : Exit → Act → World → Prop} (hgd : o.guard = none) (s y : Operand) (t tx : TypeId)
    (ho : o.op = .call { callee := .builtin .append, args := #[s, y], argTypes := #[t, tx] })
    (B : Nat) (e : TypeId) (i : TypeInfo) (z : Value) (bytes : Nat) (ht : P.underlying t = some (.slice e)) (hi : P.info? e = some i) (hz : i.zero = some z)
    (hsize : i.size = 1) (hby : i.bytes = bytes) (hzs : z.cells.size = 1)
    (v : Value) (hsv : a.eval s = v) (n : Nat) (xs : List Value) (hown : w.ownsRow B e 1 v n xs) (x : Value) (hx : a.eval y = x) (m : Nat) (news : List Value) (hs : Src P 1 tx x m news w)
    (h63 : n + m ≤ maxLen) (hbytes : (n + m) * bytes ≤ 140737488355328) (hB : B ≤ w.heap.size)
    (h : ∀ v' w', w'.ownsRow B e 1 v' (n + m) (xs ++ news) → w.grownBy w' v.ownBlock → (∀ g, v'.ownBlock = some g → v.ownBlock = some g ∨ w.heap.size ≤ g) → wpList P ops Q rest (a.put o.dst v') w') : wpList P ops Q (o :: rest) a w :=
  wpList_plain hgd fun _ hK => wp_append_srcs w s y t tx ho B e i z bytes ht hi hz hsize hby hzs v hsv n xs hown x hx m news hs h63 hbytes hB fun v' w' h2 h3 h4 => hK _ _ (h v' w' h2 h3 h4)
end
end Go.Proofs.Ytldcbkememonaaa

namespace Go.Proofs.Ytldcbkememonaaa
open Go.RowKit
set_option linter.unusedVariables false
set_option linter.unusedSimpArgs false

theorem rdI_drop {L : List Ins} {g : Nat} {w : World} (h : RdI L g 0 w) (k : Nat) : RdI (L.drop k) g (k * 4) w := fun j i hj => by
  rw [List.getElem?_drop] at hj
  have := h (k + j) i hj
  rw [show k * 4 + j * 4 = 0 + (k + j) * 4 from by omega]
  exact this
theorem cells_take {w : World} {B g n c : Nat} {L : List Ins} (h : w.ownsRow B 76 4 (.slice (some ⟨g, 0, none⟩) n c) n (cellsI L)) (hl : L.length = n) (k : Nat) (hk : k ≤ n) :
    ∀ j u, (cellsI (L.take k))[j]? = some u → w.cell? ((⟨g, 0, none⟩ : Addr).add j) = some u := fun j u hj => by
  have hj' : j < (cellsI (L.take k)).length := by
    rcases Nat.lt_or_ge j (cellsI (L.take k)).length with h1 | h1
    · exact h1
    · rw [List.getElem?_eq_none h1] at hj; cases hj
  have e : cellsI L = cellsI (L.take k) ++ cellsI (L.drop k) := by rw [← cellsI_append, List.take_append_drop]
  have hc := h.cells (g := g) rfl j u (by rw [e, List.getElem?_append_left hj']; exact hj)
  exact hc

theorem cellsI_allone (L : List Ins) : ∀ u ∈ cellsI L, u.oneCell' = true := by
  intro u hu
  simp only [cellsI, List.mem_flatMap] at hu
  obtain ⟨i, _, hi⟩ := hu
  exact insC_one i u hi
theorem own_shape {w : World} {B n size : Nat} {e : TypeId} {v : Value} {xs : List Value} (h : w.ownsRow B e size v n xs) : ∃ a cap, v = .slice a n cap ∧ n ≤ cap := by
  rcases h.2 with ⟨h1, h2⟩ | ⟨g, cap, cur, h1, _, _, h2, _⟩
  · exact ⟨none, 0, by rw [h1, h2], by omega⟩
  · exact ⟨_, cap, h1, h2⟩
/-- what 'cut' leaves -/
def CutPost (B r : Nat) (s : ByteArray) (st : RS) (v : Value) (fr : Nat) (w : World) (e : Ending) (w' : World) : Prop :=
  ∃ vl v', e = .returned vl ∧ w'.ownsRow w.heap.size 76 4 vl (st.L.length - fr) (cellsI ((st.L.drop fr).map (movI (-(fr : Int))))) ∧ RA B r s { st with L := st.L.take fr } v' w' ∧ Fr r v w w' ∧ NewB v v' w ∧
    ∀ g, vl.ownBlock = some g → v'.ownBlock ≠ some g

theorem cut_post {B r : Nat} {s : ByteArray} {st : RS} {v vl v' : Value} {fr : Nat} {w w1 w2 : World} (h : RA B r s st v w) (hfr : fr ≤ st.L.length) (g1 : Grow w w1) (hvl : w1.ownsRow w.heap.size 76 4 vl (st.L.length - fr) (cellsI ((st.L.drop fr).map (movI (-(fr : Int))))))
    (g2 : Grow w1 w2) (hv' : w2.ownsRow w1.heap.size 76 4 v' fr (cellsI (st.L.take fr))) : CutPost B r s st v fr w (.returned vl) (w2.setCell ⟨r, 5, none⟩ v') := by
  have hlt := h.lt
  have h2 := (h.grow g1).grow g2
  have s1 := g1.size
  have s2 := g2.size
  have hlow : ∀ g, v'.ownBlock = some g → w1.heap.size ≤ g := fun g hg => (hv'.lt g hg).1
  refine ⟨vl, v', rfl, ?_, ⟨?_, ?_, h.rB⟩, ⟨?_, ?_, ?_, ?_, fun k hk h1 _ => ?_⟩, fun g hg => .inr (by have := hlow g hg; omega), fun g hg e => ?_⟩
  · exact ownsRow_setCell_below (own_grow hvl g2) hlt _
  · rw [Go.heap_setCell_same w2 r 5 _ _ _ h2.blk]; rfl
  · show World.ownsRow _ _ _ _ _ (st.L.take fr).length _
    rw [List.length_take, Nat.min_eq_left hfr]
    exact Joins.ownsRow_le (ownsRow_setCell_below hv' (by show r < _; omega) _) (by have := h.rB; omega)
  · exact (Below.os g2).trans (Below.os g1)
  · exact (Below.tape g2).trans (Below.tape g1)
  · exact (Below.output g2).trans (Below.output g1)
  · simp; omega
  · rw [heap_setCell_other _ _ _ _ h1, Below.block g2 k (by omega)]
    exact Below.block g1 k hk
  · have := (hvl.lt g hg).2
    have := hlow g e
    omega

set_option maxHeartbeats 2000000 in
theorem cut_any (B r : Nat) (s : ByteArray) (st : RS) (v : Value) (fr : Nat) (w : World) (h : RA B r s st v w) (hn : st.L.length ≤ 100000) (h0 : 0 < st.L.length) (hfr : fr ≤ st.L.length) :
    Calls Try.prog 50 #[.pointer (some ⟨r, 0, none⟩), .int .i64 fr] w (CutPost B r s st v fr w) := by
  obtain ⟨i0, hi0, hz0, hz1, hz2⟩ := info_parts Try.info76
  obtain ⟨g, c, hv, hg1, hg2⟩ := h.own.form h0
  subst hv
  have hcap : st.L.length ≤ c := by
    rcases h.own.2 with ⟨h1, _⟩ | ⟨_, _, _, h1, _, _, h2, _⟩
    · cases h1
    · injection h1 with _ _ h3; omega
  obtain ⟨n, hN⟩ : ∃ n, n = st.L.length := ⟨_, rfl⟩
  have HN := Lib.hid hN
  have c5 := h.c5
  have H := Lib.hid h
  have RD := Lib.hid (rdI_own h.own rfl)
  have HFR := Lib.hid hfr
  rw [← hN] at c5 hcap hn hfr h0
  have k1 : (fr : Int) ≤ (n : Int) := by omega
  have k2 : (fr : Int) ≤ (c : Int) := by omega
  have k3 : (0 : Int) ≤ (fr : Int) := by omega
  have k4 : (fr : Int) ≤ 100000 := by omega
  have hr := h.lt
  clear h hN
  by_cases hcf : c = fr
  · subst hcf
    obtain rfl : n = c := by omega
    have MV := Lib.hid (moved_any (st.L.drop n) (-(n : Int)) (some ⟨g, 0, none⟩) 0 0 g (n * 4) w (by rw [List.length_drop, ← HN.out]; omega) (by omega) (rdI_drop RD.out n) (fun h => by omega))
    clear k1 hcap hfr
    go_enter Try.func50, Try.ntmps50
    go_wp2_with fail
    refine MV.out.mono ?_
    rintro e w1 ⟨vl, rfl, own1, b1, hvz⟩
    clear hvz
    have d5 := (b1.cell (p := ⟨r, 5, none⟩) hr).trans c5
    have e5 := (b1.frozen (p := ⟨r, 5, none⟩) hr).trans (H.out.fz 5)
    have hr1 : r < w1.heap.size := Nat.lt_of_lt_of_le hr b1.size
    have SRC := Lib.hid (show Src Try.prog 4 31 (.slice (some ⟨g, 0, none⟩) n n) n (cellsI (st.L.take n)) (w1.alloc (.cells #[] 76)) from
      Src.ofSlice _ Try.underlying31 ⟨g, 0, none⟩ n n _ (by rw [cellsI_length, List.length_take, Nat.min_eq_left HFR.out]) (cells_take (own_grow H.out.own (((Grow.refl w).trans b1).alloc _)) rfl n HFR.out) (cellsI_allone _))
    have OWN0 := Lib.hid (ownsRow_empty0 w1 w1.heap.size 76 4 (Nat.le_refl _))
    have hB : w1.heap.size ≤ (w1.alloc (.cells #[] 76)).heap.size := by simp
    have O1 := Lib.hid own1
    have B1 := Lib.hid b1
    clear own1 b1 MV
    go_wp2_with (at_builtin; refine wpList_append_fresh _ (by rfl) _ _ 31 31 (by rfl) w1.heap.size 76 i0 _ 4 40 Try.underlying31 hi0 hz0 hz1 hz2 rfl _ (by rfl) (.inr ⟨w1.heap.size, rfl⟩) OWN0.out _ (by rfl) n (cellsI (st.L.take n)) SRC.out (by unfold maxLen; omega) (by omega) hB ?_; intro v5 w5 hown5 hgr5 hf5 hz5; obtain ⟨a5, x5, rfl, y5⟩ := own_shape hown5; clear y5; have K5 := Lib.hid (((Grow.refl w1).alloc (.cells #[] 76)).trans hgr5); have O5 := Lib.hid hown5; have d6 := (Below.cell K5.out (p := ⟨r, 5, none⟩) hr1).trans d5; have e6 := (Below.frozen K5.out (p := ⟨r, 5, none⟩) hr1).trans e5; clear hown5 hgr5 hf5 hz5 d5 e5 c5 hr1 hB SRC OWN0 hi0 hz0 hz1 hz2)
    go_ret
    exact cut_post H.out HFR.out B1.out (by rw [← HN.out, Nat.sub_self]; exact O1.out) K5.out O5.out
  · have MV := Lib.hid (moved_any (st.L.drop fr) (-(fr : Int)) (some ⟨g, fr * 4, none⟩) (n - fr) (c - fr) g (fr * 4) w (by rw [List.length_drop, HN.out]) (by omega) (rdI_drop RD.out fr) (fun _ => rfl))
    go_enter Try.func50, Try.ntmps50
    go_wp2_with fail
    refine MV.out.mono ?_
    rintro e w1 ⟨vl, rfl, own1, b1, hvz⟩
    clear hvz
    have d5 := (b1.cell (p := ⟨r, 5, none⟩) hr).trans c5
    have e5 := (b1.frozen (p := ⟨r, 5, none⟩) hr).trans (H.out.fz 5)
    have hr1 : r < w1.heap.size := Nat.lt_of_lt_of_le hr b1.size
    have SRC := Lib.hid (show Src Try.prog 4 31 (.slice (some ⟨g, 0, none⟩) fr c) fr (cellsI (st.L.take fr)) (w1.alloc (.cells #[] 76)) from
      Src.ofSlice _ Try.underlying31 ⟨g, 0, none⟩ fr c _ (by rw [cellsI_length, List.length_take, Nat.min_eq_left HFR.out]) (cells_take (own_grow H.out.own (((Grow.refl w).trans b1).alloc _)) rfl fr HFR.out) (cellsI_allone _))
    have OWN0 := Lib.hid (ownsRow_empty0 w1 w1.heap.size 76 4 (Nat.le_refl _))
    have hB : w1.heap.size ≤ (w1.alloc (.cells #[] 76)).heap.size := by simp
    have O1 := Lib.hid own1
    have B1 := Lib.hid b1
    clear own1 b1 MV
    go_wp2_with (at_builtin; refine wpList_append_fresh _ (by rfl) _ _ 31 31 (by rfl) w1.heap.size 76 i0 _ 4 40 Try.underlying31 hi0 hz0 hz1 hz2 rfl _ (by rfl) (.inr ⟨w1.heap.size, rfl⟩) OWN0.out _ (by rfl) fr (cellsI (st.L.take fr)) SRC.out (by unfold maxLen; omega) (by omega) hB ?_; intro v5 w5 hown5 hgr5 hf5 hz5; obtain ⟨a5, x5, rfl, y5⟩ := own_shape hown5; clear y5; have K5 := Lib.hid (((Grow.refl w1).alloc (.cells #[] 76)).trans hgr5); have O5 := Lib.hid hown5; have d6 := (Below.cell K5.out (p := ⟨r, 5, none⟩) hr1).trans d5; have e6 := (Below.frozen K5.out (p := ⟨r, 5, none⟩) hr1).trans e5; clear hown5 hgr5 hf5 hz5 d5 e5 c5 hr1 hB SRC OWN0 hi0 hz0 hz1 hz2)
    go_ret
    exact cut_post H.out HFR.out B1.out (by rw [← HN.out]; exact O1.out) K5.out O5.out
end Go.Proofs.Ytldcbkememonaaa

namespace Go.Proofs.Ytldcbkememonaaa
open Go.RowKit
set_option linter.unusedVariables false
set_option linter.unusedSimpArgs false

/-- append of a nil slice, at a step of a region that draws its order -/
theorem step_append_none {P : Program} {w : World} {ops : Array Oper} {o : Oper} {a : Act} {K : Act → World → Prop} {Q : Exit → Act → World → Prop} {E : Prop} (hgd : o.guard = none) (s x : Operand) (t : TypeId)
    (ho : o.op = .call { callee := .builtin .append, args := #[s, x], argTypes := #[t, t] })
    (base : Nat) (e : TypeId) (i : TypeInfo) (size : Nat) (ht : P.underlying t = some (.slice e)) (hi : P.info? e = some i)
    (v : Value) (n : Nat) (xs : List Value) (hs : a.eval s = v) (hown : w.ownsRow base e size v n xs) (hx : a.eval x = .slice none 0 0)
    (h : K (a.put o.dst v) w) : if Region.wanted o (yielded ops a.tmps) = true then Oper.wp P o a w K Q else E := by
  have hw : Region.wanted o (yielded ops a.tmps) = true := by simp [Region.wanted, hgd]
  rw [if_pos hw]
  have hrun := run_append_owned_none (P := P) (w := w) base t o.type e i size ht hi v n xs hown
  unfold Oper.wp
  simp [execOp, ho, resolve, invoke, builtin, hs, hx, hrun, Result.andThen]
  exact h

theorem frz {B r : Nat} {s : ByteArray} {st : RS} {v : Value} {w w1 : World} (h : RA B r s st v w) (hg : Grow w w1) : ∀ w8 : World, w1.grownBy w8 v.ownBlock → w8.frozen? ⟨r, 5, none⟩ = false := fun w8 h8 => by
  have := h.lt
  have := hg.size
  rw [World.frozen?_of_block (a := ⟨r, 5, none⟩) (h8.block r (by omega) (fun e => h.ne e.symm))]
  exact (h.grow hg).fz 5
def PutPost (B r : Nat) (s : ByteArray) (st : RS) (v : Value) (w : World) (e : Ending) (w' : World) : Prop :=
  e = .returned (.tuple #[]) ∧ ∃ v', RA B r s st v' w' ∧ Fr r v w w' ∧ NewB v v' w

theorem RdI.drew {L : List Ins} {g o : Nat} {w : World} (h : RdI L g o w) : RdI L g o w.drew := h.grow (Grow.refl w).drew

set_option maxHeartbeats 2000000 in
theorem put_some (B r : Nat) (s : ByteArray) (st : RS) (v : Value) (L2 : List Ins) (ao : Option Addr) (m c g o : Nat) (w : World) (h : RA B r s st v w) (hn : st.L.length + m ≤ 100000) (hm : 0 < m)
    (hl : L2.length = m) (hs : RdI L2 g o w) (ha : 0 < m → ao = some ⟨g, o, none⟩) :
    Calls Try.prog 51 #[.pointer (some ⟨r, 0, none⟩), .slice ao m c] w (PutPost B r s (st.put L2) v w) := by
  obtain ⟨i0, hi0, hz0, hz1, hz2⟩ := info_parts Try.info76
  obtain ⟨n, hN⟩ : ∃ n, n = st.L.length := ⟨_, rfl⟩
  obtain ⟨av, cv, hv, hcv⟩ := own_shape h.own
  subst hv
  have HN := Lib.hid hN
  have HL := Lib.hid hl
  have c5 := h.c5
  have hr := h.lt
  have h' : RA B r s st (.slice av n cv) w := by rw [hN]; exact h
  rw [show (Value.slice av st.L.length cv) = .slice av n cv from by rw [hN]]
  have H := Lib.hid h'
  have MV := Lib.hid (moved_any L2 (n : Nat) ao m c g o w.drew hl (by omega) hs.drew ha)
  have OW := Lib.hid (show w.ownsRow B 76 4 (.slice av n cv) n (cellsI st.L) from hN ▸ h.own)
  have hB : B ≤ w.heap.size := by have := h.rB; omega
  have mx : n + m ≤ maxLen := by unfold maxLen; omega
  have hnm : n + m ≤ 100000 := by omega
  rw [← hN] at c5
  clear h h' hl hs ha hN hn hcv
  go_enter Try.func51, Try.ntmps51
  go_wp2
  go_region_law
    (first
      | (refine step_append_lies _ (by rfl) _ _ _ (by rfl) B 76 i0 _ 4 40 Try.underlying31 hi0 hz0 hz1 hz2 rfl (by omega) (.slice av n cv) n (cellsI st.L) (by rfl)
          (own_grow OW.out GW.out) ⟨g2, 0, none⟩ m c2 (cellsI (L2.map (movI n))) (by rfl) (by rw [cellsI_length, List.length_map, HL.out]) (O2.out.cells (g := g2) rfl) (cellsI_allone _) hm mx (by omega) (Nat.le_trans hB GW.out.size) w1.heap.size (by rfl) ?_; intro gg8 cp8 w8 hown8 hgrow8 hat8 hlt8; have c8 := hgrow8.cell (a := ⟨r, 5, none⟩) c6 (fun e => NE.out e.symm); have f8 := FZ8.out _ hgrow8)
      | (go_simp; go_at_call 53; refine MV.out.mono ?_; rintro e w1 ⟨v2, rfl, own2, b2, hvz⟩; clear hvz; obtain ⟨g2, c2, rfl, _, _⟩ := own2.form hm; have GW := Lib.hid ((Grow.refl w).drew.trans b2); have O2 := Lib.hid own2; have c6 := (Below.cell GW.out (p := ⟨r, 5, none⟩) hr).trans c5; have NE := Lib.hid H.out.ne; have FZ8 := Lib.hid (frz H.out GW.out); clear own2 b2))
  all_goals
    have FIN := Lib.hid (H.out.app (l := L2.map (movI st.L.length)) (v' := .slice (some ⟨gg8, 0, none⟩) (n + m) cp8) GW.out hgrow8 (by rw [← HN.out, List.length_map, HL.out]; exact hown8)
      (fun g hg => by
        have e : g = gg8 := by simpa [Value.ownBlock] using hg.symm
        subst e
        rcases hat8 with h8 | h8
        · exact .inl h8
        · exact .inr (Nat.le_of_eq h8.symm)))
    clear hown8 hgrow8 hat8 hlt8 FZ8
    go_wp2
    go_end0
    exact ⟨rfl, _, FIN.out⟩

set_option maxHeartbeats 2000000 in
theorem put_none (B r : Nat) (s : ByteArray) (st : RS) (v : Value) (ao : Option Addr) (c : Nat) (w : World) (h : RA B r s st v w) (hn : st.L.length ≤ 100000) :
    Calls Try.prog 51 #[.pointer (some ⟨r, 0, none⟩), .slice ao 0 c] w (PutPost B r s (st.put []) v w) := by
  obtain ⟨i0, hi0, hz0, hz1, hz2⟩ := info_parts Try.info76
  obtain ⟨n, hN⟩ : ∃ n, n = st.L.length := ⟨_, rfl⟩
  obtain ⟨av, cv, hv, hcv⟩ := own_shape h.own
  subst hv
  have h' : RA B r s st (.slice av n cv) w := by rw [hN]; exact h
  rw [show (Value.slice av st.L.length cv) = .slice av n cv from by rw [hN]]
  have HN := Lib.hid hN
  have c5 := h.c5
  have hr := h.lt
  have H := Lib.hid h'
  have MV := Lib.hid (moved_any [] (n : Nat) ao 0 c 0 0 w.drew rfl (by omega) (fun k i hk => by simp at hk) (fun h => by omega))
  have OW := Lib.hid (show w.ownsRow B 76 4 (.slice av n cv) n (cellsI st.L) from hN ▸ h.own)
  have hnm : n ≤ 100000 := by omega
  rw [← hN] at c5
  clear h h' hN hn hcv
  go_enter Try.func51, Try.ntmps51
  go_wp2
  go_region_law
    (first
      | (refine step_append_none (by rfl) _ _ _ (by rfl) B 76 i0 4 Try.underlying31 hi0 (.slice av n cv) n (cellsI st.L) (by rfl) (own_grow OW.out GW.out) (by rfl) ?_)
      | (go_simp; go_at_call 53; refine MV.out.mono ?_; rintro e w1 ⟨v2, rfl, own2, b2, hvz⟩; obtain rfl := hvz (by trivial); have GW := Lib.hid ((Grow.refl w).drew.trans b2); have c6 := (Below.cell GW.out (p := ⟨r, 5, none⟩) hr).trans c5; have f8 := (H.out.grow GW.out).fz 5; clear own2 b2))
  all_goals
    have FIN := Lib.hid (H.out.app (w2 := w1) (l := []) (v' := .slice av n cv) GW.out ⟨rfl, rfl, rfl, Nat.le_refl _, fun _ _ _ => rfl⟩ (by rw [← HN.out]; simpa [cellsI] using own_grow OW.out GW.out) (fun g hg => .inl hg))
    go_wp2
    go_end0
    exact ⟨rfl, _, FIN.out⟩

theorem put_any (B r : Nat) (s : ByteArray) (st : RS) (v : Value) (L2 : List Ins) (ao : Option Addr) (m c g o : Nat) (w : World) (h : RA B r s st v w) (hn : st.L.length + m ≤ 100000)
    (hl : L2.length = m) (hs : RdI L2 g o w) (ha : 0 < m → ao = some ⟨g, o, none⟩) : Calls Try.prog 51 #[.pointer (some ⟨r, 0, none⟩), .slice ao m c] w (PutPost B r s (st.put L2) v w) := by
  rcases Nat.eq_zero_or_pos m with rfl | hm
  · obtain rfl : L2 = [] := List.eq_nil_of_length_eq_zero hl
    exact put_none B r s st v ao c w h hn
  · exact put_some B r s st v L2 ao m c g o w h hn hm hl hs ha
end Go.Proofs.Ytldcbkememonaaa
