/-
  The walk of sign.Names.
-/
import Derived.Test.YtfldpaceebemhaaN1
namespace Go.Proofs.Ytfldpaceebemhaa
open Go.RowKit

/-- names in memory -/
def NamesAt (g : Nat) (l : List ByteArray) (w : World) : Prop := g < w.heap.size ∧ ∀ k x, l[k]? = some x → w.cell? ⟨g, k, none⟩ = some (.string x)
theorem NamesAt.grow {g : Nat} {l : List ByteArray} {w w' : World} (h : NamesAt g l w) (hb : Grow w w') : NamesAt g l w' :=
  ⟨Nat.lt_of_lt_of_le h.1 hb.size, fun k x hx => (Below.cell hb (p := ⟨g, k, none⟩) h.1).trans (h.2 k x hx)⟩
theorem Try.info9 : (Try.prog.info? 9).map (fun i => (i.zero, i.size, i.bytes)) = some (some (.string ⟨#[]⟩), 1, 16) := by kernel_rfl
open Go.Sort in
theorem sort_names (B g cap : Nat) (w : World) (h : w.ownsRow B 9 1 (.slice (some ⟨g, 0, none⟩) 78 cap) 78 (namesT.map Value.string)) :
    Calls Try.prog 28 #[.slice (some ⟨g, 0, none⟩) 78 cap] w fun e w' => e = .returned (.tuple #[]) ∧ NamesAt g namesS w' ∧ Below B w w' := by
  have hT : namesT.length = 78 := by unfold namesT; rw [List.length_map]; exact tab_len
  have hg := h.lt g rfl
  have hc : (codes namesT).length = 78 := by unfold codes; rw [List.length_map, hT]
  have hH : Holds encStr w g 0 (codes namesT).toArray := by
    intro j hj
    have hj' : j < namesT.length := by simpa [codes] using hj
    refine ⟨?_, ?_⟩
    · rw [Nat.zero_add, World.ownsRow.cellAt h j (by omega), List.getElem?_map, List.getElem?_eq_getElem hj']
      rw [getElem!_pos _ j hj]
      simp [codes]
    · rcases h.2 with ⟨h1, _⟩ | ⟨g', cap', cur, h1, _, h2, _⟩
      · cases h1
      · injection h1 with h1 _ _
        injection h1 with h1
        injection h1 with h1 _ _
        subst h1
        exact froz_blk h2 _
  have hs := Try.slices_Sort_string g 0 cap (codes namesT) w hH hg.2 (by rw [hc]; omega)
  rw [hc] at hs
  refine hs.mono ?_
  rintro e w' ⟨rfl, n, os, rfl⟩
  rw [names_sorted]
  have hS : (codes namesS).length = 78 := by unfold codes; rw [List.length_map]; rfl
  refine ⟨rfl, ⟨by simp; omega, fun k x hx => ?_⟩, ?_⟩
  · have hk : k < namesS.length := by
      rcases Nat.lt_or_ge k namesS.length with h1 | h1
      · exact h1
      · rw [List.getElem?_eq_none h1] at hx; cases hx
    have hk2 : k < (codes namesS).toArray.size := by simpa [codes] using hk
    rw [cell?_grow _ _ _ (by simpa using hg.2)]
    have hH' : Holds encStr (Sort.ahead w n) g 0 (codes namesT).toArray := hH
    have := cell?_putRow encStr (Sort.ahead w n) g 0 _ (codes namesS).toArray hH' (by simp [hS, hc]) k hk2
    rw [Nat.zero_add] at this
    rw [this, getElem!_pos _ k hk2]
    rw [List.getElem?_eq_getElem hk] at hx
    injection hx with hx
    simp [codes, hx]
  · refine ⟨rfl, rfl, rfl, by simp, fun k hk => ?_⟩
    have hkg : k ≠ g := by omega
    rw [heap_grow_old _ _ (by simp; omega)]
    simp [putRow, mapBlock, Array.getElem?_modify, Ne.symm hkg]
theorem namesT_at (k : Nat) (d : SigD) (h : tab[k]? = some d) : namesT.take (k + 1) = namesT.take k ++ [d.name] := by
  rw [List.take_add_one]
  unfold namesT
  rw [List.getElem?_map, h]
  rfl
set_option maxHeartbeats 2000000 in
theorem names15_any (w : World) : Calls Try.prog 15 #[] w fun e w' => ∃ g c, e = .returned (.slice (some ⟨g, 0, none⟩) 78 c) ∧ NamesAt g namesS w' ∧ Grow w w' := by
  obtain ⟨i0, hi0, hz0, hz1, hz2⟩ := info_parts Try.info9
  have AL := Lib.hid (fun W => all24 W)
  obtain ⟨n, hn⟩ : ∃ n, n = tab.length := ⟨_, rfl⟩
  have h78 : n = 78 := by rw [hn]; exact tab_len
  have HN := Lib.hid hn
  have HN8 := Lib.hid h78
  have hn1 : n ≤ 100 := by omega
  have hn0 : 0 < n := by omega
  clear hn h78
  go_enter Try.func15, Try.ntmps15
  go_wp2_with fail
  refine (AL.out _).mono ?_
  rintro e w1 ⟨v1, rfl, s1, g1⟩
  obtain ⟨g, c, cs, rfl, own, sg⟩ := s1.form (by rw [← HN.out]; exact hn0)
  rw [← HN.out] at own
  have OW := Lib.hid own
  have SG := Lib.hid sg
  have hg : g < w1.heap.size := (own.lt g rfl).2
  have G1 := Lib.hid g1
  have S0 := Lib.hid (World.ownsRow_nil w1 w1.heap.size 9 1)
  clear own sg s1 g1 AL
  rw [← HN.out]
  go_wp2
  go_loopw [1, 6] (fun t i wr => ∃ k : Nat, k ≤ n ∧ i = .int .i64 k ∧ Hid (wr.ownsRow w1.heap.size 9 1 t k ((namesT.take k).map Value.string)) ∧ Grow w1 wr) (fun _ i _ => n - (intOf i).toNat)
  case atStart => exact ⟨0, by omega, rfl, S0, Grow.refl _⟩
  case round =>
    clear S0
    obtain ⟨k, hk, rfl, HO, hb⟩ := hrel
    have k0 : (0 : Int) ≤ (k : Int) := by omega
    by_cases hlt : k < n
    · have k1 : (k : Int) < (n : Int) := by omega
      obtain ⟨d, hd⟩ : ∃ d, tab[k]? = some d := ⟨_, List.getElem?_eq_getElem (by rw [← HN.out]; exact hlt)⟩
      obtain ⟨nv, mv, i1, i2, q0, q1, q2, q3⟩ := SG.out.at k d hd
      obtain ⟨a1, n1, z1, rfl⟩ := i1.shape
      obtain ⟨a2, n2, z2, rfl⟩ := i2.shape
      have cc := fun j (hj : j < n * 4) => (Below.cell hb (p := ⟨g, j, none⟩) hg).trans (OW.out.cellAt j hj)
      have c0 := (cc (k * 4) (by omega)).trans q0
      have c1 := (cc (k * 4 + 1) (by omega)).trans q1
      have c2 := (cc (k * 4 + 2) (by omega)).trans q2
      have c3 := (cc (k * 4 + 3) (by omega)).trans q3
      have HT := Lib.hid (namesT_at k d hd)
      obtain ⟨nm, need, may, rest⟩ := d
      have HB := Lib.hid hb
      have hsz := hb.size
      have mx : k + 1 ≤ maxLen := by unfold maxLen; omega
      simp only at c0 c1 c2 c3 HT
      clear hd i1 i2 q0 q1 q2 q3 cc hb
      go_wp2_with (at_builtin; refine wpList_append_lies _ (by rfl) _ _ _ (by rfl) w1.heap.size 9 i0 _ 1 16 Try.underlying40 hi0 hz0 hz1 hz2 rfl (by omega) _ k ((namesT.take k).map Value.string) (by rfl) (own_grow HO.out (((Grow.refl _).alloc _).alloc _)) ⟨wr.heap.size + 1, 0, none⟩ 1 1 [.string nm] (by rfl) (by rfl) (World.news_of_block (cs := #[.string nm]) (t := 9) (fr := (0, 0)) (by have := heap_alloc_new (wr.alloc (.cells #[.string nm, .slice a1 n1 z1, .slice a2 n2 z2, .int .i64 rest] 34)) (.cells #[.string nm] 9); simpa using this)) (by intro u hu; simp at hu; subst hu; rfl) (by omega) mx (by omega) (by simp; omega) (wr.heap.size + 2) (by simp) ?_; intro gg8 cp8 w8 hown8 hgrow8 hat8 hlt8; have H8 := Lib.hid (And.intro hown8 hgrow8); clear hown8 hgrow8 hat8)
      obtain ⟨hown8, hgrow8⟩ := H8.out
      have BB := Lib.hid (HB.out.trans' (((Grow.refl wr).alloc _).alloc _) hgrow8 (fun q hq => (HO.out.lt q hq).1))
      have OO := Lib.hid (show w8.ownsRow w1.heap.size 9 1 (.slice (some ⟨gg8, 0, none⟩) (k + 1) cp8) (k + 1) ((namesT.take (k + 1)).map Value.string) from by rw [HT.out, List.map_append]; exact hown8)
      clear H8 hown8 hgrow8
      go_roundw
      case rel => exact ⟨k + 1, by omega, by go_num, OO, BB.out⟩
      case measure => simp [intOf]; omega
    · have k1 : ¬ (k : Int) < (n : Int) := by omega
      obtain rfl : k = n := by omega
      have h78 := HN8.out
      subst h78
      have own := HO.out
      rw [List.take_of_length_le (by unfold namesT; rw [List.length_map, tab_len]; exact Nat.le_refl _)] at own
      obtain ⟨gg, cc, rfl, _, _⟩ := own.form (by omega)
      have SN := Lib.hid (sort_names w1.heap.size gg cc wr own)
      have HB := Lib.hid hb
      have hgw := G1.out.size
      clear own HO hb
      go_wp2_with fail
      refine SN.out.mono ?_
      rintro e w9 ⟨rfl, na, bl⟩
      have NA := Lib.hid na
      have BL := Lib.hid bl
      clear na bl
      go_wp2
      go_ret
      exact ⟨_, _, rfl, NA.out, Below.trans (G1.out.trans HB.out) (BL.out.mono hgw)⟩
end Go.Proofs.Ytfldpaceebemhaa
