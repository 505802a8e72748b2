/-
  The walk of (*bytes).lays: so many bytes of a number are appended to the row in the receiver's field.
-/
import Derived.Test.YtjgfhkgjaodjhaaRows
import Derived.Test.YtjgfhkgjaodjhaaBase
import Derived.Lib.Hide
import Derived.Outline
import Derived.Deep.RegionLaw
import Derived.Deep.AppendLies
namespace Go.Proofs.Ytjgfhkgjaodjhaa
open Go.RowKit

theorem Try.info5 : (Try.prog.info? 5).map (fun i => (i.zero, i.size, i.bytes)) = some (some (.int .u8 0), 1, 1) := by kernel_rfl

/-- the byte of N that lies 8 * j bits up -/
def byteOf (N j : Int) : Int := N / 2 ^ (8 * j).toNat % 256
/-- the first k of a number's bytes, written from the byte m - 1 downwards -/
def beTake (m : Nat) (N : Int) : Nat → List Value
  | 0 => []
  | k + 1 => beTake m N k ++ [.int .u8 (byteOf N ((m : Int) - 1 - k))]
theorem beTake_length (m : Nat) (N : Int) : ∀ k, (beTake m N k).length = k
  | 0 => rfl
  | k + 1 => by simp [beTake, beTake_length m N k]

/-- what the loop keeps -/
def LaysRel (w : World) (g base n many : Nat) (xs : List Value) (N : Int) (i : Value) (wr : World) : Prop :=
  ∃ (k : Nat) (v : Value), k ≤ many ∧ i = .int .i64 ((many : Int) - 1 - k) ∧ wr.cell? ⟨g, 0, none⟩ = some v ∧ wr.ownsRow base 5 1 v (n + k) (xs ++ beTake many N k) ∧
    wr.frozen? ⟨g, 0, none⟩ = false ∧ v.ownBlock ≠ some g ∧ g < wr.heap.size ∧ base ≤ wr.heap.size ∧ Below g w wr ∧ (∀ j, j ≠ 0 → wr.cell? ⟨g, j, none⟩ = w.cell? ⟨g, j, none⟩) ∧ (v = .slice none 0 0 ∨ ∃ gg c, v = .slice (some ⟨gg, 0, none⟩) (n + k) c) ∧ (∀ q, v.ownBlock = some q → g ≤ q)

theorem lays_step {w wr w1 : World} {g base n many k gg cap : Nat} {xs : List Value} {N b : Int} {v : Value} (hlt : k < many)
    (h4 : v.ownBlock ≠ some g) (h5 : g < wr.heap.size) (h6 : base ≤ wr.heap.size) (h7 : Below g w wr) (h8 : ∀ j, j ≠ 0 → wr.cell? ⟨g, j, none⟩ = w.cell? ⟨g, j, none⟩)
    (hvb : ∀ q, v.ownBlock = some q → g ≤ q)
    (o1 : w1.ownsRow base 5 1 (.slice (some ⟨gg, 0, none⟩) (n + k + 1) cap) (n + k + 1) (xs ++ beTake many N k ++ [.int .u8 (byteOf N ((many : Int) - 1 - k))]))
    (hgrow : (wr.alloc (.cells #[.int .u8 b] 5)).drew.grownBy w1 v.ownBlock) (hat : v.ownBlock = some gg ∨ gg = wr.heap.size + 1) (hf : w1.frozen? ⟨g, 0, none⟩ = false) (hc : w1.cell? ⟨g, 0, none⟩ = some v) :
    LaysRel w g base n many xs N (.int .i64 ((many : Int) - 1 - k - 1)) (w1.setCell ⟨g, 0, none⟩ (.slice (some ⟨gg, 0, none⟩) (n + k + 1) cap)) := by
  have hgg : gg ≠ g := by
    rcases hat with h | h
    · rintro rfl; exact h4 h
    · omega
  have hgg2 : g ≤ gg := by
    rcases hat with h | h
    · exact hvb _ h
    · omega
  have hsz := hgrow.size
  simp only [World.size_drew, World.size_alloc] at hsz
  refine ⟨k + 1, .slice (some ⟨gg, 0, none⟩) (n + k + 1) cap, by omega, by congr 1; omega, World.cell?_setCell_same _ _ _ hc, ?_, by simpa using hf, ?_, ?_, ?_, ?_, ?_, ?_⟩
  · have := ownsRow_setCell_other o1 (a := ⟨g, 0, none⟩) (by simpa [Value.ownBlock] using hgg) (.slice (some ⟨gg, 0, none⟩) (n + k + 1) cap)
    simpa [beTake, Nat.add_assoc] using this
  · simpa [Value.ownBlock] using hgg
  · simp; omega
  · simp; omega
  · refine Below.setCell (Below.trans (h7.alloc (by omega) _).drew ⟨hgrow.os, hgrow.tape, hgrow.output, hgrow.size, fun q hq => hgrow.block q (by simp; omega) (fun e => ?_)⟩) (Nat.le_refl _) _
    have := hvb q e.symm
    omega
  · intro j hj
    rw [World.cell?_setCell_other w1 ⟨g, 0, none⟩ ⟨g, j, none⟩ _ (fun e => hj (by injection e with _ e _; exact e.symm)), World.cell?_of_block (a := ⟨g, j, none⟩) (hgrow.block g (by simp; omega) (Ne.symm h4)), ← h8 j hj]
    simp [go_sem, h5]
  · exact ⟨.inr ⟨gg, cap, by simp [Nat.add_assoc]⟩, fun q hq => by simp [Value.ownBlock] at hq; omega⟩

set_option maxHeartbeats 1000000 in
theorem lays_any (g base many n : Nat) (v : Value) (xs : List Value) (N : Int) (hm : many ≤ 8) (hn : n ≤ 1000) (h0 : 0 ≤ N) (h1 : N ≤ 18446744073709551615) (w : World)
    (hrel : LaysRel w g base n many xs N (.int .i64 ((many : Int) - 1)) w) :
    Calls Try.prog 18 #[.pointer (some ⟨g, 0, none⟩), .int .u64 N, .int .i64 many] w fun e w' => e = .returned (.tuple #[]) ∧ LaysRel w g base n many xs N (.int .i64 (-1)) w' := by
  obtain ⟨i0, hi0, hz0, hz1, hz2⟩ := info_parts Try.info5
  have HR := Lib.hid hrel
  clear hrel
  go_enter Try.func18, Try.ntmps18
  go_wp2
  go_loopw [6] (fun i wr => LaysRel w g base n many xs N i wr) (fun i _ => (intOf i + 1).toNat)
  case atStart => exact HR.out
  case round =>
    clear HR
    obtain ⟨k, v, hk, rfl, hc, hown, hfz, hne, hgs, hbs, hbel, hoth, hform, hvb⟩ := hrel
    have HV := Lib.hid hvb
    clear hvb
    have HO := Lib.hid hoth
    clear hoth
    have HF := Lib.hid hform
    clear hform
    have HN := Lib.hid hne
    clear hne
    by_cases hlt : k < many
    · have hadd : (0 : Int) ≤ (many : Int) - 1 - k := by omega
      have hb8 : (8 : Int) * ((many : Int) - 1 - k) ≤ 64 := by omega
      have hb80 : (0 : Int) ≤ (8 : Int) * ((many : Int) - 1 - k) := by omega
      have hwr : IntKind.i64.wrap (8 * ((many : Int) - 1 - k)) = 8 * ((many : Int) - 1 - k) := IntWalk.i64_in _ ⟨by omega, by omega⟩
      have hby : IntKind.u8.wrap (N / 2 ^ (8 * ((many : Int) - 1 - k)).toNat) = byteOf N ((many : Int) - 1 - k) := by simp [IntKind.wrap_u8, byteOf]
      go_wp2
      go_region_law
        ((refine step_append_lies _ (by rfl) _ _ _ (by rfl) base 5 i0 _ 1 1 Try.underlying30 hi0 hz0 hz1 hz2 rfl (by omega) v (n + k) (xs ++ beTake many N k) (by rfl) ((hown.alloc _).drew) ⟨wr.heap.size, 0, none⟩ 1 1 [.int .u8 (byteOf N ((many : Int) - 1 - k))] (by rfl) (by rfl) (World.news_of_block (cs := #[.int .u8 (byteOf N ((many : Int) - 1 - k))]) (t := 5) (fr := (0, 0)) (heap_alloc_new wr _)) (by simp [Value.oneCell']) (by omega) (by unfold maxLen; omega) (by omega) (by simp; omega) (wr.heap.size + 1) (by simp) ?_; intro gg cap w1 hown1 hgrow hat hlt1; have hfz1 : w1.frozen? ⟨g, 0, none⟩ = false := (World.frozen?_of_block (a := ⟨g, 0, none⟩) (hgrow.block g (by simp; omega) (Ne.symm HN.out))).trans (by simpa [go_sem, hgs] using hfz); have hc1 : w1.cell? ⟨g, 0, none⟩ = some v := (World.cell?_of_block (a := ⟨g, 0, none⟩) (hgrow.block g (by simp; omega) (Ne.symm HN.out))).trans (by simpa [go_sem, hgs] using hc)))
      all_goals
        have R := lays_step hlt HN.out hgs hbs hbel HO.out HV.out hown1 hgrow hat hfz1 hc1
        clear hown1 hgrow hfz1 hc1 hown hc
        go_wp2
        go_roundw
        case rel => exact R
        case measure => simp [intOf]; omega
    · go_wp2
      obtain rfl : k = many := by omega
      refine bodyPost_end (results_none rfl _ _ _) rfl ?_
      exact ⟨rfl, k, v, Nat.le_refl _, by congr 1; omega, hc, hown, hfz, HN.out, hgs, hbs, hbel, HO.out, HF.out, HV.out⟩
end Go.Proofs.Ytjgfhkgjaodjhaa
