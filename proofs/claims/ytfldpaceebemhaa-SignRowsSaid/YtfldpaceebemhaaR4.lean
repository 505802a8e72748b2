/-
  The walk of slices.Concat at rows of signatures.
-/
import Derived.Test.YtfldpaceebemhaaR3
namespace Go.Proofs.Ytfldpaceebemhaa
open Go.RowKit

theorem SigsIn.shape {B : Nat} {ds : List SigD} {v : Value} {w : World} (h : SigsIn B ds v w) : ∃ a c, v = .slice a ds.length c ∧ ds.length ≤ c := by
  obtain ⟨cs, h1, _⟩ := h
  rcases h1.2 with ⟨h3, h4⟩ | ⟨g, cap, cur, h3, _, _, h4, _⟩
  · exact ⟨none, 0, by rw [h3, h4], by omega⟩
  · exact ⟨_, cap, h3, h4⟩
theorem SigsIn.form {B : Nat} {ds : List SigD} {v : Value} {w : World} (h : SigsIn B ds v w) (h0 : 0 < ds.length) : ∃ g c cs, v = .slice (some ⟨g, 0, none⟩) ds.length c ∧ w.ownsRow B 34 4 (.slice (some ⟨g, 0, none⟩) ds.length c) ds.length cs ∧ SigCs w ds cs := by
  obtain ⟨cs, h1, h2⟩ := h
  obtain ⟨g, c, hv, _⟩ := h1.form h0
  exact ⟨g, c, cs, hv, hv ▸ h1, h2⟩
theorem flat_take {α : Type} (l : List (List α)) (k : Nat) (d : List α) (h : l[k]? = some d) : (l.take (k + 1)).flatten = (l.take k).flatten ++ d := by
  rw [List.take_add_one, h]; simp

set_option maxHeartbeats 2000000 in
theorem concat_any (rs : List (List SigD)) (g c : Nat) (w : World) (hg : g < w.heap.size)
    (hc : ∀ k ds, rs[k]? = some ds → ∃ v B, w.cell? ⟨g, k, none⟩ = some v ∧ SigsIn B ds v w ∧ 0 < ds.length) (hl : rs.length ≤ 100) (hp : 0 < rs.length) (ht : ∀ k, (rs.take k).flatten.length ≤ 1000) :
    Calls Try.prog 39 #[.slice (some ⟨g, 0, none⟩) rs.length c] w fun e w' => ∃ v, e = .returned v ∧ SigsIn w.heap.size rs.flatten v w' ∧ Grow w w' := by
  obtain ⟨i0, hi0, hz0, hz1, hz2⟩ := info_parts Try.info34
  obtain ⟨n, hN⟩ : ∃ n, n = rs.length := ⟨_, rfl⟩
  have HN := Lib.hid hN
  have HC := Lib.hid hc
  have HT := Lib.hid ht
  rw [← hN] at hl hp ⊢
  clear hc ht hN
  go_enter Try.func39, Try.ntmps39
  go_wp2
  go_loop [3, 11] (fun s i => ∃ k S : Nat, k ≤ n ∧ i = .int .i64 k ∧ s = .int .i64 S ∧ Hid (S = (rs.take k).flatten.length)) (fun _ i => n - (intOf i).toNat)
  case atStart => exact ⟨0, 0, by omega, rfl, rfl, Lib.hid rfl⟩
  case round =>
    obtain ⟨k, s, hk, rfl, rfl, hS⟩ := hrel
    have k0 : (0 : Int) ≤ (k : Int) := by omega
    by_cases hlt : k < n
    · have k1 : (k : Int) < (n : Int) := by omega
      obtain ⟨ds, hds⟩ : ∃ ds, rs[k]? = some ds := ⟨_, List.getElem?_eq_getElem (by rw [← HN.out]; exact hlt)⟩
      obtain ⟨v, B, hv, hs, _⟩ := HC.out k ds hds
      obtain ⟨a, cc, rfl, hcc⟩ := hs.shape
      have hf := congrArg List.length (flat_take rs k ds hds)
      rw [List.length_append] at hf
      have ht1 := HT.out (k + 1)
      obtain ⟨m, hM⟩ : ∃ m, m = ds.length := ⟨_, rfl⟩
      rw [← hS.out] at hf
      rw [← hM] at hf hv hcc
      have HF := Lib.hid hf
      have s0 : (0 : Int) ≤ (s : Int) := by omega
      have m0 : (0 : Int) ≤ (m : Int) := by omega
      have s1 : (s : Int) + (m : Int) ≤ 1000 := by omega
      have s2 : ¬ (s : Int) + (m : Int) < 0 := by omega
      clear hds hs hf ht1 hM
      go_wp2
      go_round
      case rel => exact ⟨k + 1, s + m, by omega, by go_num, by go_num, Lib.hid HF.out.symm⟩
      case measure => simp [intOf]; omega
    · have k1 : ¬ (k : Int) < (n : Int) := by omega
      obtain rfl : k = n := by omega
      have hfl : (rs.take k).flatten = rs.flatten := by rw [List.take_of_length_le (by rw [HN.out]; exact Nat.le_refl _)]
      have hpos : 0 < (rs.take k).flatten.length := by
        obtain ⟨d0, hd0⟩ : ∃ d0, rs[0]? = some d0 := ⟨_, List.getElem?_eq_getElem (by rw [← HN.out]; exact hp)⟩
        obtain ⟨_, _, _, _, h0⟩ := HC.out 0 d0 hd0
        have h1 := congrArg List.length (flat_take rs 0 d0 hd0)
        rw [hfl]
        cases rs with
        | nil => simp at hd0
        | cons r rs => simp at hd0; subst hd0; simp; omega
      have GN := Lib.hid (fun W => grow_nil s (by rw [hS.out]; exact hpos) (by rw [hS.out]; exact HT.out k) W)
      have HFL := Lib.hid hfl
      clear hfl hpos k1
      go_wp2_with fail
      refine (GN.out _).mono ?_
      rintro e w1 ⟨v1, rfl, s1, b1⟩
      have S1 := Lib.hid (show SigsIn w.heap.size (rs.take 0).flatten v1 w1 from by simpa using s1)
      clear s1 GN
      go_wp2_with fail
      go_loopw [6, 27] (fun t i wr => ∃ j : Nat, j ≤ k ∧ i = .int .i64 j ∧ Hid (SigsIn w.heap.size (rs.take j).flatten t wr) ∧ Grow w wr) (fun _ i _ => k - (intOf i).toNat)
      case atStart => exact ⟨0, by omega, rfl, S1, b1⟩
      case round =>
        clear S1 b1
        obtain ⟨j, hj, rfl, HO, hb⟩ := hrel
        have j0 : (0 : Int) ≤ (j : Int) := by omega
        by_cases hlt : j < k
        · have j1 : (j : Int) < (k : Int) := by omega
          obtain ⟨ds, hds⟩ : ∃ ds, rs[j]? = some ds := ⟨_, List.getElem?_eq_getElem (by rw [← HN.out]; exact hlt)⟩
          obtain ⟨v, B, hv, hs, hm0⟩ := HC.out j ds hds
          obtain ⟨g2, c2, cs2, rfl, own2, sg2⟩ := (hs.grow hb).form hm0
          have hcv := (Below.cell hb (p := ⟨g, j, none⟩) hg).trans hv
          obtain ⟨cs, own, sg⟩ := HO.out
          have FT := Lib.hid (flat_take rs j ds hds)
          have ht1 := HT.out (j + 1)
          rw [FT.out, List.length_append] at ht1
          obtain ⟨s, hS⟩ : ∃ s, s = (rs.take j).flatten.length := ⟨_, rfl⟩
          obtain ⟨m, hM⟩ : ∃ m, m = ds.length := ⟨_, rfl⟩
          have HM := Lib.hid hM
          have HS := Lib.hid hS
          rw [← hS] at ht1 own
          rw [← hM] at ht1 hm0 own2 hcv
          have OW := Lib.hid own
          have SG := Lib.hid sg
          have O2 := Lib.hid own2
          have SG2 := Lib.hid sg2
          have NL := Lib.hid (show cs2.length = m * 4 from own2.1)
          have mx : s + m ≤ maxLen := by unfold maxLen; omega
          have my : (s + m) * 72 ≤ 140737488355328 := by omega
          have hsz := hb.size
          clear hds hv hs own sg own2 sg2 hS hM HO
          go_wp2_with (at_builtin; refine wpList_append_lies _ (by rfl) _ _ _ (by rfl) w.heap.size 34 i0 _ 4 72 Try.underlying50 hi0 hz0 hz1 hz2 rfl (by omega) _ s cs (by rfl) OW.out ⟨g2, 0, none⟩ m c2 cs2 (by rfl) NL.out (O2.out.cells rfl) SG2.out.one hm0 mx my hsz wr.heap.size rfl ?_; intro gg8 cp8 w8 hown8 hgrow8 hat8 hlt8; have H8 := Lib.hid (And.intro hown8 hgrow8); clear hown8 hgrow8 hat8)
          obtain ⟨hown8, hgrow8⟩ := H8.out
          have blk : IsSigBlk wr _ := own_sigblk OW.out
          have BB := Lib.hid (hb.trans' (Grow.refl _) hgrow8 (fun q hq => (OW.out.lt q hq).1))
          have SI : Hid (SigsIn w.heap.size (rs.take (j + 1)).flatten (.slice (some ⟨gg8, 0, none⟩) (s + m) cp8) w8) := by
            refine ⟨cs ++ cs2, ?_, ?_⟩
            · rw [FT.out, List.length_append, ← HS.out, ← HM.out]
              exact hown8
            · rw [FT.out]
              exact (SG.out.grown hgrow8 blk).append (SG2.out.grown hgrow8 blk)
          clear H8 hown8 hgrow8 blk
          go_roundw
          case rel => exact ⟨j + 1, by omega, by go_num, SI, BB.out⟩
          case measure => simp [intOf]; omega
        · have j1 : ¬ (j : Int) < (k : Int) := by omega
          obtain rfl : j = k := by omega
          go_wp2
          go_ret
          refine ⟨_, rfl, ?_, hb⟩
          have := HO.out
          rwa [HFL.out] at this
end Go.Proofs.Ytfldpaceebemhaa
