/-
  The walk of pairs.
-/
import Derived.Test.YtldcbkememonaaaA1
import Derived.Test.YtldcbkememonaaaPb
import Derived.Lib.SlBytesRow

namespace Go.Proofs.Ytldcbkememonaaa
open Go.RowKit
set_option linter.unusedVariables false
set_option linter.unusedSimpArgs false

theorem Try.info5 : (Try.prog.info? 5).map (fun i => (i.zero, i.size, i.bytes)) = some (some (.int .u8 0), 1, 1) := by kernel_rfl

/-- bytes as cells -/
def bytesV (l : List Nat) : List Value := l.map fun x => .int .u8 (x : Nat)
theorem bytesV_append (a b : List Nat) : bytesV (a ++ b) = bytesV a ++ bytesV b := by simp [bytesV]
theorem bytesV_length (l : List Nat) : (bytesV l).length = l.length := by simp [bytesV]
theorem bs_size (l : List Nat) : (bs l).size = l.length := by simp [bs, ByteArray.size]
theorem bytes_of {w : World} {B g n c : Nat} {l : List Nat} (h : w.ownsRow B 5 1 (.slice (some ⟨g, 0, none⟩) n c) n (bytesV l)) (hb : ∀ x ∈ l, x < 256) : Lib.Bytes w g 0 (bs l) := by
  intro i hi
  have hi' : i < l.length := by rw [bs_size] at hi; exact hi
  have hl : l.length = n := by have := h.1; rw [bytesV_length] at this; omega
  rw [Nat.zero_add, h.cellAt i (by omega)]
  simp only [bytesV, List.getElem?_map, List.getElem?_eq_getElem hi', Option.map_some]
  congr 2
  have : (bs l)[i] = UInt8.ofNat l[i] := by
    show (bs l).data[i] = _
    simp [bs]
  rw [this]
  have := hb l[i] (List.getElem_mem hi')
  simp only [UInt8.toNat_ofNat']
  omega
theorem conv80_nil (w : World) : (convert 80 9 (.slice none 0 0)).run Try.prog w = .ok (.string ⟨#[]⟩) w := by kernel_rfl
theorem conv80 {w : World} {B n : Nat} {v : Value} {l : List Nat} (h : w.ownsRow B 5 1 v n (bytesV l)) (hb : ∀ x ∈ l, x < 256) : (convert 80 9 v).run Try.prog w = .ok (.string (bs l)) w := by
  have hl : l.length = n := by have := h.1; rw [bytesV_length] at this; omega
  have h0 := h
  rcases h.2 with ⟨rfl, rfl⟩ | ⟨g, cap, cur, rfl, _⟩
  · obtain rfl : l = [] := List.eq_nil_of_length_eq_zero hl
    exact conv80_nil w
  · have := Lib.run_convert_whole (P := Try.prog) w 80 5 9 Try.underlying80 Try.underlying5 Try.underlying9 g 0 (bs l) (bytes_of h0 hb) cap
    rwa [bs_size, hl] at this

theorem pairsTo_in (m : Nat → Bool) : ∀ k, k ≤ 256 → (∀ x ∈ pairsTo m k, x < 256) ∧ (pairsTo m k).length ≤ 2 * k
  | 0, _ => ⟨fun x hx => by simp [pairsTo] at hx, by simp [pairsTo]⟩
  | k + 1, hk => by
    obtain ⟨h1, h2⟩ := pairsTo_in m k (by omega)
    refine ⟨fun x hx => ?_, ?_⟩
    · simp only [pairsTo, List.mem_append] at hx
      rcases hx with (hx | hx) | hx
      · exact h1 x hx
      · split at hx <;> simp at hx; omega
      · split at hx <;> simp at hx; omega
    · simp only [pairsTo, List.length_append]
      have e1 : (if m k && (k == 0 || !m (k - 1)) then [k] else []).length ≤ 1 := by split <;> simp
      have e2 : (if m k && (k == 255 || !m (k + 1)) then [k] else []).length ≤ 1 := by split <;> simp
      omega
/-! the walk -/
theorem pairs_succ {m : Nat → Bool} {k : Nat} (c1 c2 : Bool) (h1 : (m k && (k == 0 || !m (k - 1))) = c1) (h2 : (m k && (k == 255 || !m (k + 1))) = c2) :
    pairsTo m (k + 1) = pairsTo m k ++ (if c1 then [k] else []) ++ (if c2 then [k] else []) := by rw [pairsTo, h1, h2]
theorem one_u8 (k : Nat) : ∀ u ∈ [Value.int .u8 (k : Nat)], u.oneCell' = true := by intro u hu; simp at hu; subst hu; rfl
theorem pairs_next {w : World} {B L n : Nat} {v : Value} {l l' : List Nat} {xs : List Value} (h : w.ownsRow B 5 1 v n xs) (_hl : L = l.length) (hx : bytesV l' = xs) : w.ownsRow B 5 1 v l'.length (bytesV l') := by
  have e : l'.length = n := by rw [← bytesV_length, hx]; have := h.1; omega
  rw [e, hx]
  exact h

set_option maxRecDepth 100000 in
set_option maxHeartbeats 4000000 in
theorem pairs_any (m : Nat → Bool) (w : World) : Calls Try.prog 57 #[.agg (arrC m)] w fun e w' => e = .returned (.string (bs (pairsOf m))) ∧ Below w.heap.size w w' := by
  obtain ⟨i0, hi0, hz0, hz1, hz2⟩ := info_parts Try.info5
  obtain ⟨W1, hW⟩ : ∃ W1, W1 = w.alloc (.cells (arrC m) 110) := ⟨_, rfl⟩
  have A1 := Lib.hid (show Arr W1 w.heap.size m from by rw [hW]; exact heap_alloc_new w _)
  have B1 := Lib.hid (show Below w.heap.size w W1 from by rw [hW]; exact (Below.refl _ _).alloc (Nat.le_refl _) _)
  have HW1 := Lib.hid (show w.heap.size + 1 ≤ W1.heap.size from by rw [hW]; simp)
  have O1 := Lib.hid (World.ownsRow_nil W1 (w.heap.size + 1) 5 1)
  have HW := Lib.hid hW
  clear hW
  go_enter Try.func57, Try.ntmps57
  go_wp2
  rw [← HW.out]
  clear HW
  go_loopw [3, 4] (fun t i wr => ∃ k : Nat, k ≤ 256 ∧ i = .int .i64 k ∧ Hid (wr.ownsRow (w.heap.size + 1) 5 1 t (pairsTo m k).length (bytesV (pairsTo m k))) ∧ Below (w.heap.size + 1) W1 wr) (fun _ i _ => 256 - (intOf i).toNat)
  case atStart => exact ⟨0, by omega, rfl, O1, Below.refl _ _⟩
  case round =>
    clear O1
    obtain ⟨k, hk, rfl, HO, hb⟩ := hrel
    by_cases hlt : k < 256
    · have ha := A1.out.below hb (by omega)
      have q := ha.cell hlt
      have k0 : (0 : Int) ≤ (k : Int) := by omega
      have k1 : (k : Int) < 256 := by omega
      have HB := Lib.hid hb
      have HA := Lib.hid ha
      have HZ := Lib.hid (Nat.le_trans HW1.out hb.size)
      have hsz : w.heap.size + 1 ≤ wr.heap.size := HZ.out
      obtain ⟨L, hL⟩ : ∃ L, L = (pairsTo m k).length := ⟨_, rfl⟩
      have hL2 : L ≤ 2 * k := by rw [hL]; exact (pairsTo_in m k hk).2
      rw [← hL] at HO
      have HL := Lib.hid hL
      have mx : L + 1 ≤ maxLen := by unfold maxLen; omega
      have mx2 : L + 1 + 1 ≤ maxLen := by unfold maxLen; omega
      clear hb ha hL
      by_cases mk : m k = true
      · rw [mk] at q
        have MK := Lib.hid mk
        clear mk
        by_cases kz : k = 0
        · have b0 : ((k : Int) == 0) = true := by simp; omega
          have KZ := Lib.hid kz
          clear kz
          by_cases kl : k = 255
          · have b5 : ((k : Int) == 255) = true := by simp; omega
            have KL := Lib.hid kl
            clear kl
            go_wp2_with (first
              | (at_builtin; refine wpList_append_lies _ (by rfl) _ _ _ (by rfl) (w.heap.size + 1) 5 i0 _ 1 1 Try.underlying80 hi0 hz0 hz1 hz2 rfl (by omega) _ L (bytesV (pairsTo m k)) (by rfl) (HO.out.alloc _) ⟨wr.heap.size, 0, none⟩ 1 1 [.int .u8 (k : Nat)] (by rfl) (by rfl) (World.news_of_block (cs := #[.int .u8 (k : Nat)]) (t := 5) (fr := (0, 0)) (heap_alloc_new wr _)) (one_u8 k) (by omega) mx (by omega) (by simp; omega) (wr.heap.size + 1) (by simp) ?_; intro gg1 cp1 w3 hown3 hgrow3 hat3 hlt3; have O3 := Lib.hid hown3; have B3 := Lib.hid ((HB.out.alloc HZ.out _).grown hgrow3 (by simp; omega) (fun q hq => (HO.out.lt q hq).1)); have z3 := Nat.le_trans HW1.out B3.out.size; have q3 := ((A1.out.below B3.out (Nat.lt_succ_self _)).cell hlt).trans (congrArg (fun b => some (Value.bool b)) MK.out);  clear hown3 hgrow3 hat3 hlt3)
              | (at_builtin; refine wpList_append_lies _ (by rfl) _ _ _ (by rfl) (w.heap.size + 1) 5 i0 _ 1 1 Try.underlying80 hi0 hz0 hz1 hz2 rfl (by omega) _ (L + 1) (bytesV (pairsTo m k) ++ [.int .u8 (k : Nat)]) (by rfl) (O3.out.alloc _) ⟨w3.heap.size, 0, none⟩ 1 1 [.int .u8 (k : Nat)] (by rfl) (by rfl) (World.news_of_block (cs := #[.int .u8 (k : Nat)]) (t := 5) (fr := (0, 0)) (heap_alloc_new w3 _)) (one_u8 k) (by omega) mx2 (by omega) (by simp; omega) (w3.heap.size + 1) (by simp) ?_; intro gg4 cp4 w4 hown4 hgrow4 hat4 hlt4; have O4 := Lib.hid hown4; have B4 := Lib.hid ((B3.out.alloc z3 _).grown hgrow4 (by simp; omega) (fun q hq => (O3.out.lt q hq).1)); clear hown4 hgrow4 hat4 hlt4))
            go_roundw
            case rel => exact ⟨k + 1, by omega, by go_num, Lib.hid (pairs_next O4.out HL.out (by rw [pairs_succ true true (by rw [MK.out, show (k == 0) = true from by rw [KZ.out]; rfl]; rfl) (by rw [MK.out, show (k == 255) = true from by rw [KL.out]; rfl]; rfl)]; simp [bytesV])), B4.out⟩
            case measure => simp [intOf]; omega
          · have b5 : ((k : Int) == 255) = false := by simp; omega
            have k5 : (k : Int) + 1 < 256 := by omega
            have KN := Lib.hid (show k < 255 from by omega)
            have qn := HA.out.cell (i := k + 1) (by omega)
            have KL := Lib.hid kl
            clear kl
            by_cases mn : m (k + 1) = true
            · rw [mn] at qn
              have MN := Lib.hid mn
              clear mn
              go_wp2_with (at_builtin; refine wpList_append_lies _ (by rfl) _ _ _ (by rfl) (w.heap.size + 1) 5 i0 _ 1 1 Try.underlying80 hi0 hz0 hz1 hz2 rfl (by omega) _ L (bytesV (pairsTo m k)) (by rfl) (HO.out.alloc _) ⟨wr.heap.size, 0, none⟩ 1 1 [.int .u8 (k : Nat)] (by rfl) (by rfl) (World.news_of_block (cs := #[.int .u8 (k : Nat)]) (t := 5) (fr := (0, 0)) (heap_alloc_new wr _)) (one_u8 k) (by omega) mx (by omega) (by simp; omega) (wr.heap.size + 1) (by simp) ?_; intro gg1 cp1 w3 hown3 hgrow3 hat3 hlt3; have O3 := Lib.hid hown3; have B3 := Lib.hid ((HB.out.alloc HZ.out _).grown hgrow3 (by simp; omega) (fun q hq => (HO.out.lt q hq).1)); have z3 := Nat.le_trans HW1.out B3.out.size; have q3 := ((A1.out.below B3.out (Nat.lt_succ_self _)).cell hlt).trans (congrArg (fun b => some (Value.bool b)) MK.out); have q4 := ((A1.out.below B3.out (Nat.lt_succ_self _)).cell (i := k + 1) (Nat.lt_of_lt_of_le (Nat.succ_lt_succ KN.out) (Nat.le_refl _))).trans (congrArg (fun b => some (Value.bool b)) MN.out);  clear hown3 hgrow3 hat3 hlt3)
              go_roundw
              case rel => exact ⟨k + 1, by omega, by go_num, Lib.hid (pairs_next O3.out HL.out (by rw [pairs_succ true false (by rw [MK.out, show (k == 0) = true from by rw [KZ.out]; rfl]; rfl) (by rw [MK.out, show (k == 255) = false from by simp; exact KL.out, MN.out]; rfl)]; simp [bytesV])), B3.out⟩
              case measure => simp [intOf]; omega
            · have mn' : m (k + 1) = false := by simpa using mn
              rw [mn'] at qn
              have MN := Lib.hid mn'
              clear mn mn'
              go_wp2_with (first
                | (at_builtin; refine wpList_append_lies _ (by rfl) _ _ _ (by rfl) (w.heap.size + 1) 5 i0 _ 1 1 Try.underlying80 hi0 hz0 hz1 hz2 rfl (by omega) _ L (bytesV (pairsTo m k)) (by rfl) (HO.out.alloc _) ⟨wr.heap.size, 0, none⟩ 1 1 [.int .u8 (k : Nat)] (by rfl) (by rfl) (World.news_of_block (cs := #[.int .u8 (k : Nat)]) (t := 5) (fr := (0, 0)) (heap_alloc_new wr _)) (one_u8 k) (by omega) mx (by omega) (by simp; omega) (wr.heap.size + 1) (by simp) ?_; intro gg1 cp1 w3 hown3 hgrow3 hat3 hlt3; have O3 := Lib.hid hown3; have B3 := Lib.hid ((HB.out.alloc HZ.out _).grown hgrow3 (by simp; omega) (fun q hq => (HO.out.lt q hq).1)); have z3 := Nat.le_trans HW1.out B3.out.size; have q3 := ((A1.out.below B3.out (Nat.lt_succ_self _)).cell hlt).trans (congrArg (fun b => some (Value.bool b)) MK.out); have q4 := ((A1.out.below B3.out (Nat.lt_succ_self _)).cell (i := k + 1) (Nat.lt_of_lt_of_le (Nat.succ_lt_succ KN.out) (Nat.le_refl _))).trans (congrArg (fun b => some (Value.bool b)) MN.out);  clear hown3 hgrow3 hat3 hlt3)
                | (at_builtin; refine wpList_append_lies _ (by rfl) _ _ _ (by rfl) (w.heap.size + 1) 5 i0 _ 1 1 Try.underlying80 hi0 hz0 hz1 hz2 rfl (by omega) _ (L + 1) (bytesV (pairsTo m k) ++ [.int .u8 (k : Nat)]) (by rfl) (O3.out.alloc _) ⟨w3.heap.size, 0, none⟩ 1 1 [.int .u8 (k : Nat)] (by rfl) (by rfl) (World.news_of_block (cs := #[.int .u8 (k : Nat)]) (t := 5) (fr := (0, 0)) (heap_alloc_new w3 _)) (one_u8 k) (by omega) mx2 (by omega) (by simp; omega) (w3.heap.size + 1) (by simp) ?_; intro gg4 cp4 w4 hown4 hgrow4 hat4 hlt4; have O4 := Lib.hid hown4; have B4 := Lib.hid ((B3.out.alloc z3 _).grown hgrow4 (by simp; omega) (fun q hq => (O3.out.lt q hq).1)); clear hown4 hgrow4 hat4 hlt4))
              go_roundw
              case rel => exact ⟨k + 1, by omega, by go_num, Lib.hid (pairs_next O4.out HL.out (by rw [pairs_succ true true (by rw [MK.out, show (k == 0) = true from by rw [KZ.out]; rfl]; rfl) (by rw [MK.out, show (k == 255) = false from by simp; exact KL.out, MN.out]; rfl)]; simp [bytesV])), B4.out⟩
              case measure => simp [intOf]; omega
        · have b0 : ((k : Int) == 0) = false := by simp; omega
          have k2 : (0 : Int) ≤ (k : Int) - 1 := by omega
          have k3 : (k : Int) - 1 < 256 := by omega
          have qp := HA.out.cell (i := k - 1) (by omega)
          have KZ := Lib.hid kz
          have kpos : 1 ≤ k := by omega
          clear kz
          by_cases mp : m (k - 1) = true
          · rw [mp] at qp
            have MP := Lib.hid mp
            clear mp
            by_cases kl : k = 255
            · have b5 : ((k : Int) == 255) = true := by simp; omega
              have KL := Lib.hid kl
              clear kl
              go_wp2_with (at_builtin; refine wpList_append_lies _ (by rfl) _ _ _ (by rfl) (w.heap.size + 1) 5 i0 _ 1 1 Try.underlying80 hi0 hz0 hz1 hz2 rfl (by omega) _ L (bytesV (pairsTo m k)) (by rfl) (HO.out.alloc _) ⟨wr.heap.size, 0, none⟩ 1 1 [.int .u8 (k : Nat)] (by rfl) (by rfl) (World.news_of_block (cs := #[.int .u8 (k : Nat)]) (t := 5) (fr := (0, 0)) (heap_alloc_new wr _)) (one_u8 k) (by omega) mx (by omega) (by simp; omega) (wr.heap.size + 1) (by simp) ?_; intro gg1 cp1 w3 hown3 hgrow3 hat3 hlt3; have O3 := Lib.hid hown3; have B3 := Lib.hid ((HB.out.alloc HZ.out _).grown hgrow3 (by simp; omega) (fun q hq => (HO.out.lt q hq).1)); have z3 := Nat.le_trans HW1.out B3.out.size; have q3 := ((A1.out.below B3.out (Nat.lt_succ_self _)).cell hlt).trans (congrArg (fun b => some (Value.bool b)) MK.out);  clear hown3 hgrow3 hat3 hlt3)
              go_roundw
              case rel => exact ⟨k + 1, by omega, by go_num, Lib.hid (pairs_next O3.out HL.out (by rw [pairs_succ false true (by rw [MK.out, show (k == 0) = false from by simp; exact KZ.out, MP.out]; rfl) (by rw [MK.out, show (k == 255) = true from by rw [KL.out]; rfl]; rfl)]; simp [bytesV])), B3.out⟩
              case measure => simp [intOf]; omega
            · have b5 : ((k : Int) == 255) = false := by simp; omega
              have k5 : (k : Int) + 1 < 256 := by omega
              have KN := Lib.hid (show k < 255 from by omega)
              have qn := HA.out.cell (i := k + 1) (by omega)
              have KL := Lib.hid kl
              clear kl
              by_cases mn : m (k + 1) = true
              · rw [mn] at qn
                have MN := Lib.hid mn
                clear mn
                go_wp2
                go_roundw
                case rel => exact ⟨k + 1, by omega, by go_num, Lib.hid (pairs_next HO.out HL.out (by rw [pairs_succ false false (by rw [MK.out, show (k == 0) = false from by simp; exact KZ.out, MP.out]; rfl) (by rw [MK.out, show (k == 255) = false from by simp; exact KL.out, MN.out]; rfl)]; simp [bytesV])), HB.out⟩
                case measure => simp [intOf]; omega
              · have mn' : m (k + 1) = false := by simpa using mn
                rw [mn'] at qn
                have MN := Lib.hid mn'
                clear mn mn'
                go_wp2_with (at_builtin; refine wpList_append_lies _ (by rfl) _ _ _ (by rfl) (w.heap.size + 1) 5 i0 _ 1 1 Try.underlying80 hi0 hz0 hz1 hz2 rfl (by omega) _ L (bytesV (pairsTo m k)) (by rfl) (HO.out.alloc _) ⟨wr.heap.size, 0, none⟩ 1 1 [.int .u8 (k : Nat)] (by rfl) (by rfl) (World.news_of_block (cs := #[.int .u8 (k : Nat)]) (t := 5) (fr := (0, 0)) (heap_alloc_new wr _)) (one_u8 k) (by omega) mx (by omega) (by simp; omega) (wr.heap.size + 1) (by simp) ?_; intro gg1 cp1 w3 hown3 hgrow3 hat3 hlt3; have O3 := Lib.hid hown3; have B3 := Lib.hid ((HB.out.alloc HZ.out _).grown hgrow3 (by simp; omega) (fun q hq => (HO.out.lt q hq).1)); have z3 := Nat.le_trans HW1.out B3.out.size; have q3 := ((A1.out.below B3.out (Nat.lt_succ_self _)).cell hlt).trans (congrArg (fun b => some (Value.bool b)) MK.out); have q4 := ((A1.out.below B3.out (Nat.lt_succ_self _)).cell (i := k + 1) (Nat.lt_of_lt_of_le (Nat.succ_lt_succ KN.out) (Nat.le_refl _))).trans (congrArg (fun b => some (Value.bool b)) MN.out);  clear hown3 hgrow3 hat3 hlt3)
                go_roundw
                case rel => exact ⟨k + 1, by omega, by go_num, Lib.hid (pairs_next O3.out HL.out (by rw [pairs_succ false true (by rw [MK.out, show (k == 0) = false from by simp; exact KZ.out, MP.out]; rfl) (by rw [MK.out, show (k == 255) = false from by simp; exact KL.out, MN.out]; rfl)]; simp [bytesV])), B3.out⟩
                case measure => simp [intOf]; omega
          · have mp' : m (k - 1) = false := by simpa using mp
            rw [mp'] at qp
            have MP := Lib.hid mp'
            clear mp mp'
            by_cases kl : k = 255
            · have b5 : ((k : Int) == 255) = true := by simp; omega
              have KL := Lib.hid kl
              clear kl
              go_wp2_with (first
                | (at_builtin; refine wpList_append_lies _ (by rfl) _ _ _ (by rfl) (w.heap.size + 1) 5 i0 _ 1 1 Try.underlying80 hi0 hz0 hz1 hz2 rfl (by omega) _ L (bytesV (pairsTo m k)) (by rfl) (HO.out.alloc _) ⟨wr.heap.size, 0, none⟩ 1 1 [.int .u8 (k : Nat)] (by rfl) (by rfl) (World.news_of_block (cs := #[.int .u8 (k : Nat)]) (t := 5) (fr := (0, 0)) (heap_alloc_new wr _)) (one_u8 k) (by omega) mx (by omega) (by simp; omega) (wr.heap.size + 1) (by simp) ?_; intro gg1 cp1 w3 hown3 hgrow3 hat3 hlt3; have O3 := Lib.hid hown3; have B3 := Lib.hid ((HB.out.alloc HZ.out _).grown hgrow3 (by simp; omega) (fun q hq => (HO.out.lt q hq).1)); have z3 := Nat.le_trans HW1.out B3.out.size; have q3 := ((A1.out.below B3.out (Nat.lt_succ_self _)).cell hlt).trans (congrArg (fun b => some (Value.bool b)) MK.out);  clear hown3 hgrow3 hat3 hlt3)
                | (at_builtin; refine wpList_append_lies _ (by rfl) _ _ _ (by rfl) (w.heap.size + 1) 5 i0 _ 1 1 Try.underlying80 hi0 hz0 hz1 hz2 rfl (by omega) _ (L + 1) (bytesV (pairsTo m k) ++ [.int .u8 (k : Nat)]) (by rfl) (O3.out.alloc _) ⟨w3.heap.size, 0, none⟩ 1 1 [.int .u8 (k : Nat)] (by rfl) (by rfl) (World.news_of_block (cs := #[.int .u8 (k : Nat)]) (t := 5) (fr := (0, 0)) (heap_alloc_new w3 _)) (one_u8 k) (by omega) mx2 (by omega) (by simp; omega) (w3.heap.size + 1) (by simp) ?_; intro gg4 cp4 w4 hown4 hgrow4 hat4 hlt4; have O4 := Lib.hid hown4; have B4 := Lib.hid ((B3.out.alloc z3 _).grown hgrow4 (by simp; omega) (fun q hq => (O3.out.lt q hq).1)); clear hown4 hgrow4 hat4 hlt4))
              go_roundw
              case rel => exact ⟨k + 1, by omega, by go_num, Lib.hid (pairs_next O4.out HL.out (by rw [pairs_succ true true (by rw [MK.out, show (k == 0) = false from by simp; exact KZ.out, MP.out]; rfl) (by rw [MK.out, show (k == 255) = true from by rw [KL.out]; rfl]; rfl)]; simp [bytesV])), B4.out⟩
              case measure => simp [intOf]; omega
            · have b5 : ((k : Int) == 255) = false := by simp; omega
              have k5 : (k : Int) + 1 < 256 := by omega
              have KN := Lib.hid (show k < 255 from by omega)
              have qn := HA.out.cell (i := k + 1) (by omega)
              have KL := Lib.hid kl
              clear kl
              by_cases mn : m (k + 1) = true
              · rw [mn] at qn
                have MN := Lib.hid mn
                clear mn
                go_wp2_with (at_builtin; refine wpList_append_lies _ (by rfl) _ _ _ (by rfl) (w.heap.size + 1) 5 i0 _ 1 1 Try.underlying80 hi0 hz0 hz1 hz2 rfl (by omega) _ L (bytesV (pairsTo m k)) (by rfl) (HO.out.alloc _) ⟨wr.heap.size, 0, none⟩ 1 1 [.int .u8 (k : Nat)] (by rfl) (by rfl) (World.news_of_block (cs := #[.int .u8 (k : Nat)]) (t := 5) (fr := (0, 0)) (heap_alloc_new wr _)) (one_u8 k) (by omega) mx (by omega) (by simp; omega) (wr.heap.size + 1) (by simp) ?_; intro gg1 cp1 w3 hown3 hgrow3 hat3 hlt3; have O3 := Lib.hid hown3; have B3 := Lib.hid ((HB.out.alloc HZ.out _).grown hgrow3 (by simp; omega) (fun q hq => (HO.out.lt q hq).1)); have z3 := Nat.le_trans HW1.out B3.out.size; have q3 := ((A1.out.below B3.out (Nat.lt_succ_self _)).cell hlt).trans (congrArg (fun b => some (Value.bool b)) MK.out); have q4 := ((A1.out.below B3.out (Nat.lt_succ_self _)).cell (i := k + 1) (Nat.lt_of_lt_of_le (Nat.succ_lt_succ KN.out) (Nat.le_refl _))).trans (congrArg (fun b => some (Value.bool b)) MN.out);  clear hown3 hgrow3 hat3 hlt3)
                go_roundw
                case rel => exact ⟨k + 1, by omega, by go_num, Lib.hid (pairs_next O3.out HL.out (by rw [pairs_succ true false (by rw [MK.out, show (k == 0) = false from by simp; exact KZ.out, MP.out]; rfl) (by rw [MK.out, show (k == 255) = false from by simp; exact KL.out, MN.out]; rfl)]; simp [bytesV])), B3.out⟩
                case measure => simp [intOf]; omega
              · have mn' : m (k + 1) = false := by simpa using mn
                rw [mn'] at qn
                have MN := Lib.hid mn'
                clear mn mn'
                go_wp2_with (first
                  | (at_builtin; refine wpList_append_lies _ (by rfl) _ _ _ (by rfl) (w.heap.size + 1) 5 i0 _ 1 1 Try.underlying80 hi0 hz0 hz1 hz2 rfl (by omega) _ L (bytesV (pairsTo m k)) (by rfl) (HO.out.alloc _) ⟨wr.heap.size, 0, none⟩ 1 1 [.int .u8 (k : Nat)] (by rfl) (by rfl) (World.news_of_block (cs := #[.int .u8 (k : Nat)]) (t := 5) (fr := (0, 0)) (heap_alloc_new wr _)) (one_u8 k) (by omega) mx (by omega) (by simp; omega) (wr.heap.size + 1) (by simp) ?_; intro gg1 cp1 w3 hown3 hgrow3 hat3 hlt3; have O3 := Lib.hid hown3; have B3 := Lib.hid ((HB.out.alloc HZ.out _).grown hgrow3 (by simp; omega) (fun q hq => (HO.out.lt q hq).1)); have z3 := Nat.le_trans HW1.out B3.out.size; have q3 := ((A1.out.below B3.out (Nat.lt_succ_self _)).cell hlt).trans (congrArg (fun b => some (Value.bool b)) MK.out); have q4 := ((A1.out.below B3.out (Nat.lt_succ_self _)).cell (i := k + 1) (Nat.lt_of_lt_of_le (Nat.succ_lt_succ KN.out) (Nat.le_refl _))).trans (congrArg (fun b => some (Value.bool b)) MN.out);  clear hown3 hgrow3 hat3 hlt3)
                  | (at_builtin; refine wpList_append_lies _ (by rfl) _ _ _ (by rfl) (w.heap.size + 1) 5 i0 _ 1 1 Try.underlying80 hi0 hz0 hz1 hz2 rfl (by omega) _ (L + 1) (bytesV (pairsTo m k) ++ [.int .u8 (k : Nat)]) (by rfl) (O3.out.alloc _) ⟨w3.heap.size, 0, none⟩ 1 1 [.int .u8 (k : Nat)] (by rfl) (by rfl) (World.news_of_block (cs := #[.int .u8 (k : Nat)]) (t := 5) (fr := (0, 0)) (heap_alloc_new w3 _)) (one_u8 k) (by omega) mx2 (by omega) (by simp; omega) (w3.heap.size + 1) (by simp) ?_; intro gg4 cp4 w4 hown4 hgrow4 hat4 hlt4; have O4 := Lib.hid hown4; have B4 := Lib.hid ((B3.out.alloc z3 _).grown hgrow4 (by simp; omega) (fun q hq => (O3.out.lt q hq).1)); clear hown4 hgrow4 hat4 hlt4))
                go_roundw
                case rel => exact ⟨k + 1, by omega, by go_num, Lib.hid (pairs_next O4.out HL.out (by rw [pairs_succ true true (by rw [MK.out, show (k == 0) = false from by simp; exact KZ.out, MP.out]; rfl) (by rw [MK.out, show (k == 255) = false from by simp; exact KL.out, MN.out]; rfl)]; simp [bytesV])), B4.out⟩
                case measure => simp [intOf]; omega
      · have mk' : m k = false := by simpa using mk
        rw [mk'] at q
        have MK := Lib.hid mk'
        clear mk mk'
        go_wp2
        go_roundw
        case rel => exact ⟨k + 1, by omega, by go_num, Lib.hid (pairs_next HO.out HL.out (by rw [pairs_succ false false (by rw [MK.out]; rfl) (by rw [MK.out]; rfl)]; simp [bytesV])), HB.out⟩
        case measure => simp [intOf]; omega
    · obtain rfl : k = 256 := by omega
      have cv := conv80 HO.out (pairsTo_in m 256 (by omega)).1
      have HB := Lib.hid (B1.out.trans (hb.mono (Nat.le_succ _)))
      clear hb
      go_wp2
      go_ret
      exact ⟨rfl, HB.out⟩
end Go.Proofs.Ytldcbkememonaaa
