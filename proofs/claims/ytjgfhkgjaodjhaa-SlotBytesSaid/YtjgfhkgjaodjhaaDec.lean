/-
  The walks of slot.Decode and of its reference.
-/
import Derived.Test.YtjgfhkgjaodjhaaRef2
import Derived.Test.YtjgfhkgjaodjhaaWLawA
namespace Go.Proofs.Ytjgfhkgjaodjhaa
open Go.RowKit

/-- bytes as one number, the highest first -/
def foldB (l : List Int) : Int := l.foldl (fun a c => a * 256 + c) 0
def IsB (l : List Int) : Prop := ∀ n ∈ l, 0 ≤ n ∧ n < 256
theorem foldB_snoc (l : List Int) (c : Int) : foldB (l ++ [c]) = foldB l * 256 + c := by simp [foldB]
theorem foldB_in : ∀ (k : Nat) (l : List Int), l.length = k → IsB l → 0 ≤ foldB l ∧ foldB l < 256 ^ k
  | 0, l, h, _ => by
    obtain rfl := List.eq_nil_of_length_eq_zero h
    simp [foldB]
  | k + 1, l, h, hb => by
    obtain ⟨l', c, rfl⟩ : ∃ l' c, l = l' ++ [c] := by
      rcases List.eq_nil_or_concat l with h0 | ⟨l', c, h0⟩
      · subst h0; simp at h
      · exact ⟨l', c, by simpa using h0⟩
    have ih := foldB_in k l' (by simpa using h) (fun n hn => hb n (List.mem_append_left _ hn))
    have hc := hb c (by simp)
    rw [foldB_snoc, Int.pow_succ]
    omega
theorem take_snoc (l : List Int) (k : Nat) (h : k < l.length) : l.take (k + 1) = l.take k ++ [l.getD k 0] := by
  rw [List.take_succ_eq_append_getElem h]
  simp [List.getD, h]
theorem isB_take {l : List Int} (h : IsB l) (k : Nat) : IsB (l.take k) := fun n hn => h n (List.mem_of_mem_take hn)
theorem isB_drop {l : List Int} (h : IsB l) (k : Nat) : IsB (l.drop k) := fun n hn => h n (List.mem_of_mem_drop hn)

theorem dec_no (ao : Option Addr) (len cap : Nat) (hl : ¬ len = 12) (w : World) :
    Calls Try.prog 15 #[.slice ao len cap] w fun e w' => e = .returned (.tuple #[.agg #[.int .i64 0, .int .i64 0], .bool false]) ∧ Below w.heap.size w w' := by
  have hl' : ((len : Int) == 12) = false := by simp; omega
  go_enter Try.func15, Try.ntmps15
  go_wp2
  refine bodyPost_ret (v := .tuple #[.agg #[.int .i64 0, .int .i64 0], .bool false]) (by simp [results, Try.results15, go_sem]) rfl ⟨rfl, ?_⟩
  exact (Below.refl _ _).alloc (Nat.le_refl _) _
theorem rdec_no (ao : Option Addr) (len cap : Nat) (hl : ¬ len = 12) (w : World) :
    Calls Try.prog 16 #[.slice ao len cap] w fun e w' => e = .returned (.tuple #[.agg #[.int .i64 0, .int .i64 0], .bool false]) ∧ Below w.heap.size w w' := by
  have hl' : ((len : Int) == 12) = false := by simp; omega
  go_enter Try.func16, Try.ntmps16
  go_wp2
  refine bodyPost_ret (v := .tuple #[.agg #[.int .i64 0, .int .i64 0], .bool false]) (by simp [results, Try.results16, go_sem]) rfl ⟨rfl, ?_⟩
  exact (Below.refl _ _).alloc (Nat.le_refl _) _

theorem pow_mono {a b : Nat} (h : a ≤ b) : (256 : Int) ^ a ≤ 256 ^ b := by
  have h1 : 256 ^ a ≤ 256 ^ b := Nat.pow_le_pow_right (by omega) h
  have e : ∀ c : Nat, (256 : Int) ^ c = ((256 ^ c : Nat) : Int) := fun c => by simp
  rw [e a, e b]
  exact Int.ofNat_le.2 h1
def D0 (zs : List Int) (k : Nat) : Int := foldB (zs.take (min k 4))
def D1 (zs : List Int) (k : Nat) : Int := foldB ((zs.take k).drop 4)
theorem D0_low (zs : List Int) (k : Nat) (hz : zs.length = 12) (hk : k < 4) : D0 zs (k + 1) = D0 zs k * 256 + zs.getD k 0 := by
  unfold D0
  rw [show min (k + 1) 4 = k + 1 from by omega, show min k 4 = k from by omega, take_snoc zs k (by omega), foldB_snoc]
theorem D0_high (zs : List Int) (k : Nat) (hk : 4 ≤ k) : D0 zs (k + 1) = D0 zs k := by
  unfold D0
  rw [show min (k + 1) 4 = 4 from by omega, show min k 4 = 4 from by omega]
theorem D1_low (zs : List Int) (k : Nat) (hk : k < 4) : D1 zs (k + 1) = D1 zs k := by
  unfold D1
  rw [List.drop_eq_nil_of_le (by simp; omega), List.drop_eq_nil_of_le (by simp; omega)]
theorem D1_high (zs : List Int) (k : Nat) (hz : zs.length = 12) (hk : 4 ≤ k) (hk2 : k < 12) : D1 zs (k + 1) = D1 zs k * 256 + zs.getD k 0 := by
  unfold D1
  rw [take_snoc zs k (by omega), List.drop_append_of_le_length (by simp; omega), foldB_snoc]
theorem D0_in (zs : List Int) (k : Nat) (hz : zs.length = 12) (hu : IsB zs) (hk : k < 4) : 0 ≤ D0 zs k ∧ D0 zs k < 16777216 := by
  have h := foldB_in _ (zs.take (min k 4)) rfl (isB_take hu _)
  unfold D0
  have hl : (zs.take (min k 4)).length = k := by simp; omega
  rw [hl] at h
  have h2 : (256 : Int) ^ k ≤ 256 ^ 3 := pow_mono (by omega)
  have h3 : (256 : Int) ^ 3 = 16777216 := rfl
  omega
theorem D1_in (zs : List Int) (k : Nat) (hz : zs.length = 12) (hu : IsB zs) (hk : 4 ≤ k) (hk2 : k < 12) : 0 ≤ D1 zs k ∧ D1 zs k < 72057594037927936 := by
  have h := foldB_in _ ((zs.take k).drop 4) rfl (isB_drop (isB_take hu _) _)
  unfold D1
  have hl : ((zs.take k).drop 4).length = k - 4 := by simp; omega
  rw [hl] at h
  have h2 : (256 : Int) ^ (k - 4) ≤ 256 ^ 7 := pow_mono (by omega)
  have h3 : (256 : Int) ^ 7 = 72057594037927936 := rfl
  omega
theorem getD_in (zs : List Int) (k : Nat) (hk : k < zs.length) (hu : IsB zs) : 0 ≤ zs.getD k 0 ∧ zs.getD k 0 < 256 := by
  simp only [List.getD, List.getElem?_eq_getElem hk, Option.getD_some]
  exact hu _ (List.getElem_mem hk)

def DecRel (W0 : World) (g : Nat) (zs : List Int) (i : Value) (wr : World) : Prop :=
  ∃ k : Nat, k ≤ 12 ∧ i = .int .i64 k ∧ wr.cell? ⟨g, 0, none⟩ = some (.int .u64 (D0 zs k)) ∧ wr.cell? ⟨g, 1, none⟩ = some (.int .u64 (D1 zs k)) ∧ wr.frozen? ⟨g, 0, none⟩ = false ∧ wr.frozen? ⟨g, 1, none⟩ = false ∧ Below g W0 wr ∧ g < wr.heap.size

set_option maxHeartbeats 1000000 in
theorem dec_yes (b o cap : Nat) (zs : List Int) (hz : zs.length = 12) (hu : IsB zs) (w : World) (hb : b < w.heap.size) (hcell : ∀ j, j < 12 → w.cell? ⟨b, o + j, none⟩ = some (.int .u8 (zs.getD j 0))) :
    Calls Try.prog 15 #[.slice (some ⟨b, o, none⟩) 12 cap] w fun e w' => e = .returned (.tuple #[.agg #[.int .i64 (foldB (zs.take 4)), .int .i64 (wrap64 (foldB (zs.drop 4)))], .bool true]) ∧ Below w.heap.size w w' := by
  have HC := Lib.hid hcell
  have HZ := Lib.hid hz
  clear hcell hz
  go_enter Try.func15, Try.ntmps15
  go_wp2
  obtain ⟨W0, hW⟩ : ∃ W0, W0 = (w.alloc (.cells #[.int .i64 0, .int .i64 0] 29)).alloc (.cells #[.int .u64 0, .int .u64 0] 46) := ⟨_, rfl⟩
  have hst : DecRel W0 (w.heap.size + 1) zs (.int .i64 0) W0 := by
    rw [hW]
    exact ⟨0, by omega, rfl, by simp [go_sem, D0, foldB], by simp [go_sem, D1, foldB], by simp [go_sem], by simp [go_sem], Below.refl _ _, by simp⟩
  have hbW : Below w.heap.size w W0 := by rw [hW]; exact ((Below.refl _ _).alloc (Nat.le_refl _) _).alloc (by simp) _
  have hr0 : W0.cell? ⟨w.heap.size, 0, none⟩ = some (.int .i64 0) := by rw [hW]; simp [go_sem]
  have hr1 : W0.cell? ⟨w.heap.size, 1, none⟩ = some (.int .i64 0) := by rw [hW]; simp [go_sem]
  have hf0 : W0.frozen? ⟨w.heap.size, 0, none⟩ = false := by rw [hW]; simp [go_sem]
  have hf1 : W0.frozen? ⟨w.heap.size, 1, none⟩ = false := by rw [hW]; simp [go_sem]
  rw [← hW]
  clear hW
  have ST := Lib.hid hst
  clear hst
  go_loopw [15] (fun i wr => DecRel W0 (w.heap.size + 1) zs i wr) (fun i _ => 12 - (intOf i).toNat)
  case atStart => exact ST.out
  case round =>
    clear ST
    obtain ⟨k, hk, rfl, c0, c1, f0, f1, hbel, hgs⟩ := hrel
    by_cases hlt : k < 12
    · have hx : wr.cell? ⟨b, o + k, none⟩ = some (.int .u8 (zs.getD k 0)) := (hbel.cell (p := ⟨b, o + k, none⟩) (by simp; omega)).trans ((hbW.cell (p := ⟨b, o + k, none⟩) hb).trans (HC.out k hlt))
      obtain ⟨z0, z1⟩ := getD_in zs k (by rw [HZ.out]; exact hlt) hu
      obtain ⟨z, hzk⟩ : ∃ z, z = zs.getD k 0 := ⟨_, rfl⟩
      rw [← hzk] at hx z0 z1
      have ZK := Lib.hid hzk
      have HU := Lib.hid hu
      clear hzk hu
      by_cases h4 : k < 4
      · obtain ⟨d0, d1⟩ := D0_in zs k HZ.out HU.out h4
        obtain ⟨X, hX⟩ : ∃ X, X = D0 zs k := ⟨_, rfl⟩
        rw [← hX] at c0 d0 d1
        have HX := Lib.hid hX
        have hor := oru64 8 256 (X * 256) z rfl (by omega) (by omega) (by omega) (by omega) (by omega)
        clear hX
        go_wp2
        go_roundw
        case rel =>
          refine ⟨k + 1, by omega, by go_num, ?_, ?_, by simpa using f0, by simpa using f1, hbel.setCell (by simp) _, by simpa using hgs⟩
          · rw [World.cell?_setCell_same _ _ _ c0, D0_low zs k HZ.out h4, ← HX.out, ← ZK.out]
          · rw [World.cell?_setCell_other wr ⟨w.heap.size + 1, 0, none⟩ ⟨w.heap.size + 1, 1, none⟩ _ (by simp), c1, D1_low zs k h4]
        case measure => simp [intOf]; omega
      · obtain ⟨d0, d1⟩ := D1_in zs k HZ.out HU.out (by omega) hlt
        obtain ⟨X, hX⟩ : ∃ X, X = D1 zs k := ⟨_, rfl⟩
        rw [← hX] at c1 d0 d1
        have HX := Lib.hid hX
        have hor := oru64 8 256 (X * 256) z rfl (by omega) (by omega) (by omega) (by omega) (by omega)
        clear hX
        go_wp2
        go_roundw
        case rel =>
          refine ⟨k + 1, by omega, by go_num, ?_, ?_, by simpa using f0, by simpa using f1, hbel.setCell (by simp) _, by simpa using hgs⟩
          · rw [World.cell?_setCell_other wr ⟨w.heap.size + 1, 1, none⟩ ⟨w.heap.size + 1, 0, none⟩ _ (by simp), c0, D0_high zs k (by omega)]
          · rw [World.cell?_setCell_same _ _ _ c1, D1_high zs k HZ.out (by omega) hlt, ← HX.out, ← ZK.out]
        case measure => simp [intOf]; omega
    · obtain rfl : k = 12 := by omega
      have e0 : D0 zs 12 = foldB (zs.take 4) := rfl
      have e1 : D1 zs 12 = foldB (zs.drop 4) := by unfold D1; rw [List.take_of_length_le (by rw [HZ.out]; omega)]
      have q0 := (hbel.cell (p := ⟨w.heap.size, 0, none⟩) (by simp)).trans hr0
      have q1 := (hbel.cell (p := ⟨w.heap.size, 1, none⟩) (by simp)).trans hr1
      have q2 := (hbel.frozen (p := ⟨w.heap.size, 0, none⟩) (by simp)).trans hf0
      have q3 := (hbel.frozen (p := ⟨w.heap.size, 1, none⟩) (by simp)).trans hf1
      rw [e0] at c0
      rw [e1] at c1
      clear e0 e1
      have b4 := foldB_in 4 (zs.take 4) (by simp [HZ.out]) (isB_take hu _)
      obtain ⟨b5, b6⟩ : 0 ≤ foldB (zs.take 4) ∧ foldB (zs.take 4) ≤ 4294967295 := ⟨b4.1, by have := b4.2; have h3 : (256 : Int) ^ 4 = 4294967296 := rfl; omega⟩
      clear b4
      go_wp2
      have hs := hbel.size
      refine bodyPost_ret (v := .tuple #[.agg #[.int .i64 (foldB (zs.take 4)), .int .i64 (wrap64 (foldB (zs.drop 4)))], .bool true]) (by simp [results, Try.results15, go_sem, q0, q1]) rfl ⟨rfl, ?_⟩
      exact ((hbW.trans (hbel.mono (by omega))).setCell (Nat.le_refl _) _).setCell (Nat.le_refl _) _
end Go.Proofs.Ytjgfhkgjaodjhaa
