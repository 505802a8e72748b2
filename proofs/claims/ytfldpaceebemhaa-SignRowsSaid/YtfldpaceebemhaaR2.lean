/-
  The walk of sign.rows.
-/
import Derived.Test.YtfldpaceebemhaaR1
import Derived.Deep.RegionHeld3
import Derived.Outline
namespace Go.Proofs.Ytfldpaceebemhaa
open Go.RowKit

theorem IntsIn.shape {xs : List Int} {v : Value} {w : World} (h : IntsIn xs v w) : ∃ a n c, v = .slice a n c := by
  rcases h.2 with ⟨h1, _⟩ | ⟨g, cap, cur, h1, _⟩
  · exact ⟨_, _, _, h1⟩
  · exact ⟨_, _, _, h1⟩
theorem SigCs.snoc {w : World} {a : List SigD} {x : List Value} (h : SigCs w a x) (d : SigD) (nv mv : Value) (h1 : IntsIn d.need nv w) (h2 : IntsIn d.may mv w) : SigCs w (a ++ [d]) (x ++ [.string d.name, nv, mv, .int .i64 d.rest]) :=
  h.append (by have := SigCs.cons d [] nv mv [] h1 h2 .nil; simpa using this)

theorem sigc_one (x : ByteArray) (a2 : Option Addr) (n2 c2 : Nat) (a3 : Option Addr) (n3 c3 : Nat) (r : Int) : ∀ u ∈ [Value.string x, .slice a2 n2 c2, .slice a3 n3 c3, .int .i64 r], u.oneCell' = true := by
  intro u hu
  simp only [List.mem_cons, List.not_mem_nil, or_false] at hu
  rcases hu with rfl | rfl | rfl | rfl <;> rfl
theorem Grow.trans' {a b c d : World} {row : Option Nat} (h : Grow a b) (k : Grow b c) (hg : c.grownBy d row) (hr : ∀ q, row = some q → a.heap.size ≤ q) : Grow a d :=
  Below.grown (Below.trans h (Below.mono k h.size)) hg (Nat.le_trans h.size k.size) hr
set_option maxHeartbeats 2000000 in
theorem rows_any (need may : List Int) (rest : Int) (ns : List ByteArray) (nv mv : Value) (g c : Nat) (w : World) (hn : IntsIn need nv w) (hm : IntsIn may mv w) (hg : g < w.heap.size)
    (hc : ∀ k x, ns[k]? = some x → w.cell? ⟨g, k, none⟩ = some (.string x)) (hl : ns.length ≤ 100) (h1 : need.length ≤ 100) (h2 : may.length ≤ 100) :
    Calls Try.prog 40 #[nv, mv, .int .i64 rest, .slice (some ⟨g, 0, none⟩) ns.length c] w fun e w' => ∃ v, e = .returned v ∧ SigsIn w.heap.size (ns.map fun n => ⟨n, need, may, rest⟩) v w' ∧ Grow w w' := by
  obtain ⟨i0, hi0, hz0, hz1, hz2⟩ := info_parts Try.info34
  obtain ⟨n, hN⟩ : ∃ n, n = ns.length := ⟨_, rfl⟩
  have HN := Lib.hid hN
  have HC := Lib.hid hc
  have NI := Lib.hid hn
  have MI := Lib.hid hm
  have S0 := Lib.hid (SigsIn.nil w.heap.size w)
  rw [← hN] at hl ⊢
  clear hc hn hm hN
  go_enter Try.func40, Try.ntmps40
  go_wp2
  go_loopw [9, 14] (fun t i wr => ∃ k : Nat, k ≤ n ∧ i = .int .i64 k ∧ Hid (SigsIn w.heap.size ((ns.take k).map fun n => ⟨n, need, may, rest⟩) t wr) ∧ Grow w wr) (fun _ i _ => n - (intOf i).toNat)
  case atStart => exact ⟨0, by omega, rfl, S0, Grow.refl _⟩
  case round =>
    clear S0
    obtain ⟨k, hk, rfl, HO, hb⟩ := hrel
    have k0 : (0 : Int) ≤ (k : Int) := by omega
    by_cases hlt : k < n
    · have k1 : (k : Int) < (n : Int) := by omega
      obtain ⟨x, hx⟩ : ∃ x, ns[k]? = some x := ⟨_, List.getElem?_eq_getElem (by rw [← HN.out]; exact hlt)⟩
      have hcx := (Below.cell hb (p := ⟨g, k, none⟩) hg).trans (HC.out k x hx)
      have HT := Lib.hid (show ns.take (k + 1) = ns.take k ++ [x] from by rw [List.take_add_one, hx]; rfl)
      have NC := Lib.hid (fun W (hW : Grow wr W) => clone_any need nv W ((NI.out.grow hb).grow hW) h1)
      have MC := Lib.hid (fun W (hW : Grow wr W) => clone_any may mv W ((MI.out.grow hb).grow hW) h2)
      obtain ⟨cs, own, sg⟩ := HO.out
      have hkl : ((ns.take k).map fun n => (⟨n, need, may, rest⟩ : SigD)).length = k := by rw [List.length_map, List.length_take]; have := HN.out; omega
      rw [hkl] at own
      have OW := Lib.hid own
      have SG := Lib.hid sg
      have mx : k + 1 ≤ maxLen := by unfold maxLen; omega
      have hsz := hb.size
      clear hx own sg hkl HO
      go_wp2_with fail
      refine (NC.out _ (Grow.refl _)).mono ?_
      rintro e w2 ⟨v2, rfl, i2, b2⟩
      obtain ⟨a2, n2, c2, rfl⟩ := i2.shape
      have I2 := Lib.hid i2
      have B2 := Lib.hid b2
      clear i2 b2
      go_wp2_with fail
      refine (MC.out _ B2.out).mono ?_
      rintro e w3 ⟨v3, rfl, i3, b3⟩
      obtain ⟨a3, n3, c3, rfl⟩ := i3.shape
      have I3 := Lib.hid i3
      have B3 := Lib.hid (B2.out.trans b3)
      have I2' := Lib.hid (I2.out.grow b3)
      have hs3 : w.heap.size ≤ w3.heap.size := by have := B3.out.size; omega
      clear i3 b3 I2 B2
      go_wp2_with (at_builtin; refine wpList_append_lies _ (by rfl) _ _ _ (by rfl) w.heap.size 34 i0 _ 4 72 Try.underlying50 hi0 hz0 hz1 hz2 rfl (by omega) _ k cs (by rfl) (own_grow OW.out (B3.out.alloc _)) ⟨w3.heap.size, 0, none⟩ 1 1 [.string x, .slice a2 n2 c2, .slice a3 n3 c3, .int .i64 rest] (by rfl) (by rfl) (World.news_of_block (cs := #[.string x, .slice a2 n2 c2, .slice a3 n3 c3, .int .i64 rest]) (t := 34) (fr := (0, 0)) (heap_alloc_new w3 _)) (sigc_one _ _ _ _ _ _ _ _) (by omega) mx (by omega) (by simp; omega) (w3.heap.size + 1) (by simp) ?_; intro gg8 cp8 w8 hown8 hgrow8 hat8 hlt8; have H8 := Lib.hid (And.intro hown8 hgrow8); clear hown8 hgrow8 hat8)
      obtain ⟨hown8, hgrow8⟩ := H8.out
      have blk : IsSigBlk (w3.alloc (.cells #[.string x, .slice a2 n2 c2, .slice a3 n3 c3, .int .i64 rest] 34)) _ := own_sigblk (own_grow OW.out (B3.out.alloc _))
      have BB := Lib.hid (hb.trans' ((B3.out.alloc _)) hgrow8 (fun q hq => (OW.out.lt q hq).1))
      have SI : Hid (SigsIn w.heap.size ((ns.take (k + 1)).map fun n => ⟨n, need, may, rest⟩) (.slice (some ⟨gg8, 0, none⟩) (k + 1) cp8) w8) := by
        refine ⟨cs ++ [.string x, .slice a2 n2 c2, .slice a3 n3 c3, .int .i64 rest], ?_, ?_⟩
        · rw [List.length_map, List.length_take, Nat.min_eq_left (by have := HN.out; omega)]
          exact hown8
        · rw [HT.out, List.map_append]
          exact ((SG.out.grow (B3.out.alloc _)).grown hgrow8 blk).snoc ⟨x, need, may, rest⟩ _ _ ((I2'.out.grow ((Grow.refl _).alloc _)).grown hgrow8 blk) ((I3.out.grow ((Grow.refl _).alloc _)).grown hgrow8 blk)
      clear H8 hown8 hgrow8 blk
      go_roundw
      case rel => exact ⟨k + 1, by omega, by go_num, SI, BB.out⟩
      case measure => simp [intOf]; omega
    · have k1 : ¬ (k : Int) < (n : Int) := by omega
      obtain rfl : k = n := by omega
      go_wp2
      go_ret
      refine ⟨_, rfl, ?_, hb⟩
      have := HO.out
      rwa [List.take_of_length_le (by rw [HN.out]; exact Nat.le_refl _)] at this
end Go.Proofs.Ytfldpaceebemhaa
