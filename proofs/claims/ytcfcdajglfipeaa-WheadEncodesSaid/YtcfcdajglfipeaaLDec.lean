/-
  The walk of WheadDecodes.
-/
import Derived.Test.YtcfcdajglfipeaaRDec
import Derived.Test.YtcfcdajglfipeaaWDec
import Derived.Test.YtcfcdajglfipeaaHeads
import Derived.Test.YtcfcdajglfipeaaApp
import Derived.BigQuiet
namespace Go.Proofs.Ytcfcdajglfipeaa
open Go.RowKit

theorem src0_own {w : World} {B g c n : Nat} {xs : List Value} (h : w.ownsRow B 5 1 (.slice (some ⟨g, 0, none⟩) n c) n xs) (hu : AllU8 xs) : Src0 xs g 0 w := by
  have hl : xs.length = n := by have := h.1; omega
  refine ⟨hu, fun j u hj => ⟨(h.lt g rfl).2, ?_⟩⟩
  have hjl : j < xs.length := by
    rcases Nat.lt_or_ge j xs.length with h1 | h1
    · exact h1
    · rw [List.getElem?_eq_none h1] at hj; cases hj
  rw [Nat.zero_add, h.cellAt j (by omega), hj]
theorem src_of {ao : Option Addr} {n c g o : Nat} {xs : List Value} {w : World} (hN : xs.length = n) (hs : Src0 xs g o w) (ha : 0 < n → ao = some ⟨g, o, none⟩) : Src Try.prog 1 31 (.slice ao n c) n xs w := by
  cases ao with
  | none =>
    have h0 : n = 0 := by rcases Nat.eq_zero_or_pos n with h | h; exact h; cases ha h
    subst h0
    obtain rfl : xs = [] := List.eq_nil_of_length_eq_zero hN
    exact Src.ofNil w Try.underlying31 c
  | some a =>
    refine Src.ofSlice w Try.underlying31 a n c xs (by omega) (fun j u hu => ?_) hs.1.one
    have hjl : j < xs.length := by
      rcases Nat.lt_or_ge j xs.length with h1 | h1
      · exact h1
      · rw [List.getElem?_eq_none h1] at hu; cases hu
    have := ha (by omega)
    injection this with this
    subst this
    have e := (hs.2 j u hu).2
    unfold Addr.add; split <;> simp_all

theorem ldec_big (ao : Option Addr) (n c : Nat) (w : World) (h : 2000 < n) : Calls Try.prog 5 #[.slice ao n c] w fun e w' => e = .returned (.bool true) ∧ Below w.heap.size w w' := by
  have h' : (2000 : Int) < (n : Int) := by omega
  clear h
  go_enter Try.func5, Try.ntmps5
  go_wp2
  go_ret
  exact ⟨rfl, Below.refl _ _⟩

set_option maxHeartbeats 4000000 in
theorem ldec_mid (ao : Option Addr) (n c g o : Nat) (xs : List Value) (w : World) (hN : xs.length = n) (hc : n ≤ c) (hs : Src0 xs g o w) (ha : 0 < n → ao = some ⟨g, o, none⟩) (h : n ≤ 2000) :
    Calls Try.prog 5 #[.slice ao n c] w fun e w' => e = .returned (.bool true) ∧ Below w.heap.size w w' := by
  obtain ⟨i0, hi0, hz0, hz1, hz2⟩ := info_parts Try.info5
  have h' : ¬ (2000 : Int) < (n : Int) := by omega
  have HS := Lib.hid hs
  have HA := Lib.hid ha
  have HN := Lib.hid hN
  have SRC := Lib.hid (src_of (c := c) hN (hs.alloc (.cells #[] 5)) ha)
  have OWN0 := Lib.hid (ownsRow_empty0 w w.heap.size 5 1 (Nat.le_refl _))
  have hB : w.heap.size ≤ (w.alloc (.cells #[] 5)).heap.size := by simp
  clear hs ha hN
  go_enter Try.func5, Try.ntmps5
  go_wp2_with (at_builtin; refine wpList_append_fresh _ (by rfl) _ _ 31 31 (by rfl) w.heap.size 5 i0 _ 1 1 Try.underlying31 hi0 hz0 hz1 hz2 rfl _ (by rfl) (.inr ⟨w.heap.size, rfl⟩) OWN0.out _ (by rfl) n xs SRC.out (by unfold maxLen; omega) (by omega) hB ?_; intro v1 w1 hown1 hgr1 hf1 hz1'; have H1 := Lib.hid (And.intro hown1 (And.intro hgr1 (And.intro hf1 hz1'))); clear hown1 hgr1 hf1 hz1')
  obtain ⟨hown1, hgr1, hf1, hz1'⟩ := H1.out
  obtain ⟨g1, c1, rfl⟩ : ∃ g1 c1, v1 = .slice (some ⟨g1, 0, none⟩) n c1 := by
    rcases Nat.eq_zero_or_pos n with h0 | h0
    · rw [hz1' h0, h0]; exact ⟨_, _, rfl⟩
    · obtain ⟨c', e⟩ := hf1 h0
      exact ⟨_, _, e⟩
  have G1 := Lib.hid (((Grow.refl w).alloc (.cells #[] 5)).trans hgr1)
  have hs1 := src0_own hown1 HS.out.1
  have W1 := Lib.hid (wdec _ n c1 g1 0 xs w1 HN.out (own_cap hown1) hs1 (fun _ => rfl))
  clear H1 hown1 hgr1 hf1 hz1' hs1 SRC OWN0
  go_wp2_with fail
  refine W1.out.mono ?_
  rintro e w2 hp
  clear W1
  rcases hp with ⟨hok, ao2, cc2, rfl, hd2, b2⟩ | ⟨hno, rfl, b2⟩
  · have G2 := Lib.hid (G1.out.trans b2)
    have HD2 := Lib.hid hd2
    have HOK := Lib.hid hok
    obtain ⟨A, hA⟩ : ∃ A, A = nm xs 0 := ⟨_, rfl⟩
    obtain ⟨X, hX⟩ : ∃ X, X = nm xs 8 := ⟨_, rfl⟩
    obtain ⟨k, hk⟩ : ∃ k, k = (nm xs 12).toNat := ⟨_, rfl⟩
    obtain ⟨l, hl⟩ : ∃ l, l = arcs xs k := ⟨_, rfl⟩
    have k8 : k ≤ 8 := by have := hok.2.2.1; omega
    have hm : May A X l := by rw [hA, hX, hl, hk]; exact hok.2.2.2.2.1
    have heq : eqB (xs.take (16 + 12 * k)) (hdB A X l) = true := by rw [hA, hX, hl, hk]; exact hok.2.2.2.2.2
    have hkn : 16 + 12 * k ≤ n := by have := hok.2.2.2.1; have := HN.out; omega
    rw [← hk, ← hl] at HD2
    rw [← hA, ← hX, ← hk]
    have EQS := Lib.hid (And.intro hA (And.intro hX (And.intro hk hl)))
    have HM := Lib.hid hm
    have HEQB := Lib.hid heq
    clear hd2 hok b2 hA hX hk hl hm heq
    go_wp2_with fail
    have hs3 := HS.out.grow (G2.out.alloc (.cells #[.int .i64 A, .int .i64 X, .slice ao2 k cc2] 24))
    refine (rdec ao n c g o xs _ HN.out hc hs3 HA.out).mono ?_
    rintro e w3 hp
    rcases hp with ⟨_, ao3, cc3, rfl, hd3, b3⟩ | ⟨hno, _, _⟩
    · rw [← EQS.out.2.2.1, ← EQS.out.2.2.2] at hd3
      rw [← EQS.out.1, ← EQS.out.2.1, ← EQS.out.2.2.1]
      have G3 := Lib.hid ((G2.out.alloc _).trans b3)
      have HD3 := Lib.hid hd3
      have x0 : w3.cell? ⟨w2.heap.size, 0, none⟩ = some (.int .i64 A) := (b3.cell (p := ⟨w2.heap.size, 0, none⟩) (by simp)).trans (by simp [go_sem])
      have x1 : w3.cell? ⟨w2.heap.size, 1, none⟩ = some (.int .i64 X) := (b3.cell (p := ⟨w2.heap.size, 1, none⟩) (by simp)).trans (by simp [go_sem])
      have x2 : w3.cell? ⟨w2.heap.size, 2, none⟩ = some (.slice ao2 k cc2) := (b3.cell (p := ⟨w2.heap.size, 2, none⟩) (by simp)).trans (by simp [go_sem])
      have z3 : w2.heap.size < w3.heap.size := by have := b3.size; simp at this; omega
      have HD2' := Lib.hid (HD2.out.grow (((Grow.refl w2).alloc _).trans b3))
      clear hd3 hs3 b3 HD2 G2
      obtain ⟨q2, hq2⟩ : ∃ q2, q2 = w2.heap.size := ⟨_, rfl⟩
      rw [← hq2] at x0 x1 x2 z3 ⊢
      clear hq2
      go_wp2_with fail
      have hh := headers_any A X ao2 ao3 k cc2 cc3 l _ (HD2'.out.grow ((Grow.refl w3).alloc (.cells #[.int .i64 A, .int .i64 X, .slice ao3 k cc3] 24))) (HD3.out.grow ((Grow.refl w3).alloc (.cells #[.int .i64 A, .int .i64 X, .slice ao3 k cc3] 24))) (by omega)
      refine hh.mono ?_
      rintro e w5 ⟨rfl, b5⟩
      clear hh
      have y0 := (b5.cell (p := ⟨q2, 0, none⟩) (by simp; omega)).trans ((World.cell?_alloc_lt _ _ _ z3).trans x0)
      have y1 := (b5.cell (p := ⟨q2, 1, none⟩) (by simp; omega)).trans ((World.cell?_alloc_lt _ _ _ z3).trans x1)
      have y2 := (b5.cell (p := ⟨q2, 2, none⟩) (by simp; omega)).trans ((World.cell?_alloc_lt _ _ _ z3).trans x2)
      have G5 := Lib.hid ((G3.out.alloc _).trans b5)
      have HD5 := HD2'.out.grow (((Grow.refl w3).alloc _).trans b5)
      have k1 := (HD5.ear HM.out).1
      obtain ⟨b, o', rfl, har⟩ := HD5.2.2.2 (by omega)
      have EN := wenc_yes A X b o' k cc2 l w5 HD5 HM.out
      have HKL := Lib.hid HD5.1
      obtain ⟨K, hK⟩ : ∃ K, K = 16 + 12 * k := ⟨_, rfl⟩
      rw [← hK] at EN hkn HEQB
      have HK := Lib.hid hK
      have EN := Lib.hid EN
      have hxs : Src0 xs g o w5 := HS.out.grow G5.out
      have HXS := Lib.hid hxs
      have kk1 : (K : Int) ≤ (n : Int) := by omega
      have kk2 : (K : Int) ≤ (c : Int) := by omega
      have hao : ao = some ⟨g, o, none⟩ := HA.out (by omega)
      have HKN := Lib.hid hkn
      subst hao
      clear x0 x1 x2 b5 HD5 har hK hxs hkn k1 HD2' HD3 G3 HA z3
      go_wp2_with fail
      refine EN.out.mono ?_
      rintro e w6 ⟨gg, cc, rfl, hown6, b6⟩
      have G6 := Lib.hid (G5.out.trans b6)
      have RD1 := Lib.hid (rdB_own hown6 (hdB_u8 HM.out) (own_cap hown6))
      have hx6 := HXS.out.grow b6
      have RD2 := Lib.hid (show RdB (xs.take K) g o c w6 from RdB.take ⟨hx6.1, by have := HN.out; omega, (hx6.2 0 _ (bv_at hx6.1 (by have := HN.out; have := HK.out; have := HKN.out; omega))).1, fun j u hj => (hx6.2 j u hj).2⟩ K)
      have L1 := Lib.hid (show (hdB A X l).length = K from by rw [hdB_length, HK.out, HKL.out])
      have L2 := Lib.hid (show (xs.take K).length = K from by have := HN.out; have := HKN.out; simp; omega)
      obtain ⟨s1, hs1⟩ : ∃ s1, s1 = strOf (hdB A X l) := ⟨_, rfl⟩
      obtain ⟨s2, hs2⟩ : ∃ s2, s2 = strOf (xs.take K) := ⟨_, rfl⟩
      have e1 : (s1.toList == s2.toList) = true := by
        have := HEQB.out
        rw [eqB, ← hs1, ← hs2] at this
        rw [beq_iff_eq] at this ⊢
        exact this.symm
      have cv1 : ∀ y : Beyond w6.heap.size w6, (convert 31 9 (.slice (some ⟨gg, 0, none⟩) K cc)).run Try.prog y.w = .ok (.string s1) y.w := fun y => by
        rw [hs1]; exact conv_cells L1.out RD1.out.1 ((RD1.out.grow y.h).2.2.2)
      have cv2 : ∀ y : Beyond w6.heap.size w6, (convert 31 9 (.slice (some ⟨g, o, none⟩) K c)).run Try.prog y.w = .ok (.string s2) y.w := fun y => by
        rw [hs2]; exact conv_cells L2.out RD2.out.1 ((RD2.out.grow y.h).2.2.2)
      clear hs1 hs2 hown6 b6 hx6 y0 y1 y2
      go_wp2
      refine wp_region_beyond w6.heap.size (by kernel_rfl) (by kernel_rfl) ?_
      repeat (go_big_quiet_step ((exact Calls.beyond (Nat.le_refl _) (known_any _))))
      refine wpQuiet_nil ?_
      rintro w7 ⟨⟨_, hb7⟩, rfl⟩
      have HB7 := Lib.hid hb7
      clear hb7 cv1 cv2
      go_wp2
      go_ret
      exact ⟨rfl, G6.out.trans HB7.out⟩
    · exact absurd HOK.out hno
  · have G2 := Lib.hid (G1.out.trans b2)
    have HNO := Lib.hid hno
    clear hno b2
    go_wp2_with fail
    have hs3 := HS.out.grow (G2.out.alloc (.cells #[.int .i64 0, .int .i64 0, .slice none 0 0] 24))
    refine (rdec ao n c g o xs _ HN.out hc hs3 HA.out).mono ?_
    rintro e w3 hp
    rcases hp with ⟨hok, _⟩ | ⟨_, rfl, b3⟩
    · exact absurd hok HNO.out
    · have G3 := Lib.hid ((G2.out.alloc _).trans b3)
      have x0 : w3.cell? ⟨w2.heap.size, 0, none⟩ = some (.int .i64 0) := (b3.cell (p := ⟨w2.heap.size, 0, none⟩) (by simp)).trans (by simp [go_sem])
      have x1 : w3.cell? ⟨w2.heap.size, 1, none⟩ = some (.int .i64 0) := (b3.cell (p := ⟨w2.heap.size, 1, none⟩) (by simp)).trans (by simp [go_sem])
      have x2 : w3.cell? ⟨w2.heap.size, 2, none⟩ = some (.slice none 0 0) := (b3.cell (p := ⟨w2.heap.size, 2, none⟩) (by simp)).trans (by simp [go_sem])
      have z3 : w2.heap.size < w3.heap.size := by have := b3.size; simp at this; omega
      clear hs3 b3
      go_wp2_with fail
      refine (headers_nil 0 0 none none 0 0 _).mono ?_
      rintro e w5 ⟨rfl, b5⟩
      have G5 := Lib.hid ((G3.out.alloc _).trans b5)
      clear b5 x0 x1 x2
      go_wp2_with fail
      refine (known_any _).mono ?_
      rintro e w6 ⟨rfl, b6⟩
      go_wp2
      go_ret
      exact ⟨rfl, G5.out.trans b6⟩

theorem ldec (ao : Option Addr) (n c g o : Nat) (xs : List Value) (w : World) (hN : xs.length = n) (hc : n ≤ c) (hs : Src0 xs g o w) (ha : 0 < n → ao = some ⟨g, o, none⟩) :
    Calls Try.prog 5 #[.slice ao n c] w fun e w' => e = .returned (.bool true) ∧ Below w.heap.size w w' := by
  by_cases h : n ≤ 2000
  · exact ldec_mid ao n c g o xs w hN hc hs ha h
  · exact ldec_big ao n c w (by omega)

/-- what is told of a slice of integers that came in -/
def IsRow (k : IntKind) (w : World) (a : Option Addr) (len cap : Nat) (zs : List Int) : Prop :=
  (a = none ∧ len = 0 ∧ cap = 0 ∧ zs = []) ∨
  ∃ x, a = some x ∧ len ≤ cap ∧ cap ≤ maxLen ∧ zs.length = cap ∧ (∀ i, i < zs.length → w.cell? (x.add i) = some (.int k (zs.getD i 0))) ∧ ∀ n ∈ zs, (Lit.int k n).wf = true
theorem u8_of {x : Int} (h : (Lit.int .u8 x).wf = true) : 0 ≤ x ∧ x < 256 := by
  simp [Lit.wf, IntKind.min, IntKind.max, IntKind.signed, IntKind.bits] at h
  omega
theorem IsRow.src {w : World} {ao : Option Addr} {n c : Nat} {zs : List Int} (h : IsRow .u8 w ao n c zs) :
    ∃ g o xs, xs.length = n ∧ n ≤ c ∧ Src0 xs g o w ∧ (0 < n → ao = some ⟨g, o, none⟩) := by
  rcases h with ⟨rfl, rfl, rfl, rfl⟩ | ⟨x, rfl, h1, h2, h3, h4, h5⟩
  · exact ⟨0, 0, [], rfl, Nat.le_refl _, ⟨fun u hu => by simp at hu, fun j u hu => by simp at hu⟩, fun h => by omega⟩
  · rcases Nat.eq_zero_or_pos n with rfl | hn
    · exact ⟨0, 0, [], rfl, h1, ⟨fun u hu => by simp at hu, fun j u hu => by simp at hu⟩, fun h => by omega⟩
    · obtain ⟨b, o, sp⟩ := x
      have hc := h4 0 (by omega)
      have hsp : sp = none := by simpa [Addr.add] using World.cell?_spot hc
      subst hsp
      refine ⟨b, o, (zs.take n).map (.int .u8), by simp; omega, h1, ⟨fun u hu => ?_, fun j u hj => ?_⟩, fun _ => rfl⟩
      · obtain ⟨z, hz, rfl⟩ := List.mem_map.1 hu
        obtain ⟨a1, a2⟩ := u8_of (h5 z (List.mem_of_mem_take hz))
        exact ⟨z, rfl, a1, a2⟩
      · have hjn : j < n := by
          rcases Nat.lt_or_ge j n with h | h
          · exact h
          · rw [List.getElem?_eq_none (by simp; omega)] at hj; cases hj
        have hcell := h4 j (by omega)
        have e : u = .int .u8 (zs.getD j 0) := by
          simp [List.getElem?_map, List.getElem?_take, hjn] at hj
          obtain ⟨a, ha, rfl⟩ := hj
          simp [List.getD, ha]
        subst e
        have hcell' : w.cell? ⟨b, o + j, none⟩ = some (.int .u8 (zs.getD j 0)) := by
          rw [← hcell]; unfold Addr.add; split <;> simp_all
        exact ⟨World.block_lt_of_cell? w ⟨b, o + j, none⟩ hcell', hcell'⟩
theorem ldec_any (ao : Option Addr) (n c : Nat) (zs : List Int) (w : World) (h : IsRow .u8 w ao n c zs) :
    Calls Try.prog 5 #[.slice ao n c] w fun e w' => e = .returned (.bool true) ∧ Below w.heap.size w w' := by
  obtain ⟨g, o, xs, h1, h2, h3, h4⟩ := h.src
  exact ldec ao n c g o xs w h1 h2 h3 h4
end Go.Proofs.Ytcfcdajglfipeaa
