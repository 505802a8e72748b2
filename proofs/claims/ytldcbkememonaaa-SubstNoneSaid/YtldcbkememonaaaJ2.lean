/-
  The walk of PikePlain.
-/
import Derived.Test.YtldcbkememonaaaPl
import Derived.Test.YtldcbkememonaaaH6

namespace Go.Proofs.Ytldcbkememonaaa
open Go.RowKit
set_option linter.unusedVariables false
set_option linter.unusedSimpArgs false

theorem ext_len (tx : ByteArray) (q m : Nat) (h : q + m ≤ tx.size) : (tx.extract q (q + m)).size = m := by
  rw [ByteArray.size_extract]; omega
theorem by_ext (tx : ByteArray) (q m k : Nat) (h : q + m ≤ tx.size) (hk : k < m) : by_ (tx.extract q (q + m)) k = by_ tx (q + k) := by
  rw [by_at _ k (by rw [ext_len tx q m h]; exact hk), by_at tx (q + k) (by omega)]
  congr 1
  simp [ByteArray.getElem_extract]
theorem eq_of_by (a b : ByteArray) (h1 : a.size = b.size) (h2 : ∀ k, k < a.size → by_ a k = by_ b k) : a = b := by
  apply ByteArray.ext_getElem h1
  intro i hi hj
  have := h2 i hi
  rw [by_at a i hi, by_at b i hj] at this
  exact UInt8.toNat_inj.1 this
theorem stands_iff (s tx : ByteArray) (q : Nat) (h : q + s.size ≤ tx.size) : ((tx.extract q (q + s.size)).toList == s.toList) = true ↔ StandsAt s tx 0 q s.size := by
  rw [beq_iff_eq]
  constructor
  · intro e
    have e2 : tx.extract q (q + s.size) = s := by
      rw [ByteArray.toList_eq, ByteArray.toList_eq] at e
      exact ByteArray.ext (Array.toList_inj.1 e)
    refine ⟨h, fun k hk => ?_⟩
    rw [← by_ext tx q s.size k h hk, e2, Nat.zero_add]
  · rintro ⟨_, h2⟩
    have e2 : tx.extract q (q + s.size) = s := eq_of_by _ _ (ext_len tx q s.size h) (fun k hk => by
      rw [ext_len tx q s.size h] at hk
      rw [by_ext tx q s.size k h hk, h2 k hk, Nat.zero_add])
    rw [e2]
theorem num_same (xs : List Int) (hl : xs.length ≤ 3000) (v u : Value) (w : World) (h1 : IntsIn xs v w) (h2 : IntsIn xs u w) : Calls Try.prog 14 #[v, u] w (NumP true w) := by
  have := numbers_any xs xs v u w h1 h2 (by omega) (by omega)
  rw [decide_eq_true rfl] at this
  exact this
theorem plain_lok (s : ByteArray) (hs : s.size ≤ 60) : LOk (plainL s) := by
  have hm : ∀ i ∈ plainL s, i.ps.size ≤ 2 ∧ (i.x = 0 ∨ i.x = 1) ∧ i.y = 0 := fun i hi => by
    unfold plainL at hi
    simp only [List.mem_cons, List.mem_append, List.mem_map, List.not_mem_nil, or_false] at hi
    rcases hi with rfl | ⟨k, _, rfl⟩ | rfl | rfl
    · exact ⟨by decide, .inl rfl, rfl⟩
    · exact ⟨by unfold setI; simp only; rw [bs_size]; simp, .inl rfl, rfl⟩
    · exact ⟨by decide, .inr rfl, rfl⟩
    · exact ⟨by decide, .inl rfl, rfl⟩
  have w0 : wf64 0 := (show (Lit.int .i64 0).wf = true from rfl)
  have w1 : wf64 1 := (show (Lit.int .i64 1).wf = true from rfl)
  refine ⟨fun i hi => ?_, fun i hi => by have := (hm i hi).1; omega, by unfold plainL; simp; omega⟩
  obtain ⟨_, h2, h3⟩ := hm i hi
  rw [h3]
  rcases h2 with h2 | h2 <;> rw [h2]
  · exact ⟨w0, w0⟩
  · exact ⟨w1, w0⟩
/-- where the text stands first, above a place -/
def AtOk (s tx : ByteArray) (i at_ : Int) : Prop :=
  (at_ = -1 ∧ ∀ k : Nat, i < k → ¬ StandsAt s tx 0 k s.size) ∨ ∃ a : Nat, at_ = a ∧ i < a ∧ StandsAt s tx 0 a s.size ∧ ∀ k : Nat, i < k → k < a → ¬ StandsAt s tx 0 k s.size
theorem AtOk.yes {s tx : ByteArray} {q : Nat} {at_ : Int} (h : StandsAt s tx 0 q s.size) : AtOk s tx ((q : Int) - 1) q := .inr ⟨q, rfl, by omega, h, fun k h1 h2 => by omega⟩
theorem AtOk.no {s tx : ByteArray} {q : Nat} {at_ : Int} (h : AtOk s tx q at_) (hn : ¬ StandsAt s tx 0 q s.size) : AtOk s tx ((q : Int) - 1) at_ := by
  rcases h with ⟨h1, h2⟩ | ⟨a, h1, h2, h3, h4⟩
  · refine .inl ⟨h1, fun k hk => ?_⟩
    by_cases e : k = q
    · subst e; exact hn
    · exact h2 k (by omega)
  · refine .inr ⟨a, h1, by omega, h3, fun k hk hka => ?_⟩
    by_cases e : k = q
    · subst e; exact hn
    · exact h4 k (by omega) hka
set_option maxRecDepth 100000 in
set_option maxHeartbeats 8000000 in
theorem pplain_any (s tx : ByteArray) (w : World) : Calls Try.prog 4 #[.string s, .string tx] w (TrueP true w) := by
  have KN := Lib.hid known_any
  by_cases h1 : 60 < s.size
  · go_enter Try.func4, Try.ntmps4
    go_wp2
    go_ret
    exact ⟨rfl, Grow.refl w⟩
  · by_cases h2 : 60 < tx.size
    · go_enter Try.func4, Try.ntmps4
      go_wp2
      go_ret
      exact ⟨rfl, Grow.refl w⟩
    · go_enter Try.func4, Try.ntmps4
      go_wp2
      go_loop [5] (fun t => ∃ j : Nat, j ≤ s.size ∧ t = .int .i64 j ∧ Hid (∀ k, k < j → 97 ≤ by_ s k ∧ by_ s k ≤ 122)) (fun t => s.size - (intOf t).toNat)
      case atStart => exact ⟨0, by omega, rfl, Lib.hid (fun k hk => absurd hk (by omega))⟩
      case round =>
        obtain ⟨j, hj, rfl, HL⟩ := hrel
        have k0 : (0 : Int) ≤ (j : Int) := by omega
        by_cases hlt : j < s.size
        · have k1 : (j : Int) < (s.size : Int) := by omega
          obtain ⟨c, hc⟩ : ∃ c, c = by_ s j := ⟨_, rfl⟩
          have ec : s[j].toNat = c := by rw [hc, by_at s j hlt]
          have HC := Lib.hid hc
          clear hc
          by_cases h3 : c < 97
          · have d1 : (c : Int) < 97 := by omega
            go_wp2_with fail
            refine (KN.out _).mono ?_
            rintro e w6 ⟨rfl, g6⟩
            have G6 := Lib.hid g6
            clear g6
            go_wp2
            go_ret
            exact ⟨rfl, G6.out⟩
          · by_cases h4 : 122 < c
            · have d1 : ¬ (c : Int) < 97 := by omega
              have d2 : (122 : Int) < (c : Int) := by omega
              go_wp2_with fail
              refine (KN.out _).mono ?_
              rintro e w6 ⟨rfl, g6⟩
              have G6 := Lib.hid g6
              clear g6
              go_wp2
              go_ret
              exact ⟨rfl, G6.out⟩
            · have d1 : ¬ (c : Int) < 97 := by omega
              have d2 : ¬ (122 : Int) < (c : Int) := by omega
              go_wp2
              go_round
              case rel => exact ⟨j + 1, by omega, by go_num, Lib.hid (fun k hk => by
                by_cases e : k = j
                · subst e; rw [← HC.out]; omega
                · exact HL.out k (by omega))⟩
              case measure => simp [intOf]; omega
        · have k1 : ¬ (j : Int) < (s.size : Int) := by omega
          have LT : Letters s := fun k hk => HL.out k (by omega)
          have HLT := Lib.hid LT
          have OFK := of_lit s (fun p hp => by have := LT p hp; omega) (by omega) (by rw [comp_letters s LT (by omega)]; unfold plainL; simp; omega) w
          unfold OfP at OFK
          rw [comp_letters s LT (by omega)] at OFK
          simp only at OFK
          obtain ⟨L, hL⟩ : ∃ L, L = plainL s := ⟨_, rfl⟩
          have LO := plain_lok s (by omega)
          rw [← hL] at OFK LO
          have OFK1 := Lib.hid OFK
          have HLO := Lib.hid LO
          have HLL := Lib.hid hL
          clear OFK LO hL LT
          go_wp2
          go_loop [6, 7] (fun t6 t7 => ∃ (at_ i : Int), t6 = .int .i64 at_ ∧ t7 = .int .i64 i ∧ -61 ≤ i ∧ i + s.size ≤ tx.size ∧ -1 ≤ at_ ∧ at_ ≤ 100 ∧ Hid (AtOk s tx i at_)) (fun _ t7 => (intOf t7 + 100).toNat)
          case atStart => exact ⟨-1, (tx.size : Int) - (s.size : Int), rfl, rfl, by omega, by omega, by omega, by omega, Lib.hid (.inl ⟨rfl, fun k hk hm => by have := hm.1; omega⟩)⟩
          case round =>
            obtain ⟨at_, i, rfl, rfl, hi1, hi2, ha1, ha2, HAT⟩ := hrel
            by_cases hi0 : 0 ≤ i
            · obtain ⟨q, rfl⟩ : ∃ q : Nat, i = q := ⟨i.toNat, by omega⟩
              have hq : q + s.size ≤ tx.size := by omega
              have SI := Lib.hid (stands_iff s tx q hq)
              have e1 : ((q : Int) + (s.size : Int)).toNat = q + s.size := by omega
              cases hb : ((tx.extract q (q + s.size)).toList == s.toList) with
              | true =>
                have HB := Lib.hid (SI.out.1 hb)
                go_wp2
                go_round
                case rel => exact ⟨q, (q : Int) - 1, rfl, rfl, by omega, by omega, by omega, by omega, Lib.hid (AtOk.yes (at_ := 0) HB.out)⟩
                case measure => simp [intOf]; omega
              | false =>
                have HB := Lib.hid (show ¬ StandsAt s tx 0 q s.size from fun h => by have := SI.out.2 h; rw [hb] at this; cases this)
                go_wp2
                go_round
                case rel => exact ⟨at_, (q : Int) - 1, rfl, rfl, by omega, by omega, by omega, by omega, Lib.hid (HAT.out.no HB.out)⟩
                case measure => simp [intOf]; omega
            · obtain ⟨R, hR, hRR⟩ : ∃ R, findF 0 L tx 0 = some R ∧ ((at_ = -1 ∧ R = none) ∨ ∃ a : Nat, at_ = a ∧ R = some [(a : Int), ((a + s.size : Nat) : Int)]) := by
                rcases HAT.out with ⟨h3, h4⟩ | ⟨a, h3, h4, h5, h6⟩
                · exact ⟨none, by rw [HLL.out]; exact plain_miss s tx (fun k => h4 k (by omega)), .inl ⟨h3, rfl⟩⟩
                · exact ⟨_, by rw [HLL.out]; exact plain_find s tx a h5 (fun k hk => h6 k (by omega) hk), .inr ⟨a, h3, rfl⟩⟩
              have HRR := Lib.hid hR
              rcases hRR with ⟨rfl, rfl⟩ | ⟨a, rfl, rfl⟩
              · clear hR
                go_wp2_with fail
                refine OFK1.out.mono ?_
                rintro e w1 ⟨lv, rfl, own1, g1⟩
                obtain ⟨al, cl, gl, rfl, rd, had⟩ := of_rd own1
                obtain ⟨n, hn⟩ : ∃ n, n = L.length := ⟨_, rfl⟩
                have FN := Lib.hid (fun w' (h : Grow w1 w') => find_any L tx 0 0 none HRR.out w' al cl gl 0 (rd.grow h) had HLO.out (by omega))
                have G1 := Lib.hid g1
                rw [← hn] at FN ⊢
                clear own1 g1 rd had hn OFK1
                go_wp2_with fail
                refine (FN.out _ ((Grow.refl w1).alloc _)).mono ?_
                rintro e w2 ⟨v2, rfl, f2, g2⟩
                have G2 := Lib.hid (show Grow w w2 from G1.out.trans2 (((Grow.refl w1).alloc _).trans2 g2))
                clear f2 g2 FN
                go_wp2_with fail
                refine (KN.out _).mono ?_
                rintro e w6 ⟨rfl, g6⟩
                have G6 := Lib.hid (G2.out.trans2 g6)
                clear g6
                go_wp2
                go_ret
                exact ⟨rfl, G6.out⟩
              · clear hR
                have ea : ((a + s.size : Nat) : Int) = (a : Int) + (s.size : Int) := by omega
                have ha0 : (0 : Int) ≤ (a : Int) := by omega
                have NM := Lib.hid (num_same [(a : Int), ((a + s.size : Nat) : Int)] (by simp))
                have HEA := Lib.hid ea
                clear ea
                go_wp2_with fail
                refine OFK1.out.mono ?_
                rintro e w1 ⟨lv, rfl, own1, g1⟩
                obtain ⟨al, cl, gl, rfl, rd, had⟩ := of_rd own1
                obtain ⟨n, hn⟩ : ∃ n, n = L.length := ⟨_, rfl⟩
                have FN := Lib.hid (fun w' (h : Grow w1 w') => find_any L tx 0 0 _ HRR.out w' al cl gl 0 (rd.grow h) had HLO.out (by omega))
                have G1 := Lib.hid g1
                rw [← hn] at FN ⊢
                clear own1 g1 rd had hn OFK1
                go_wp2_with fail
                refine (FN.out _ ((Grow.refl w1).alloc _)).mono ?_
                rintro e w2 ⟨v2, rfl, f2, g2⟩
                have F2 := Lib.hid (show IntsIn [(a : Int), ((a + s.size : Nat) : Int)] v2 w2 from f2)
                have G2 := Lib.hid (show Grow w w2 from G1.out.trans2 (((Grow.refl w1).alloc _).trans2 g2))
                clear f2 g2 FN
                have LT := Lib.hid (show IntsIn [(a : Int), ((a + s.size : Nat) : Int)] (.slice (some ⟨w2.heap.size, 0, none⟩) 2 2) (w2.alloc (.cells #[.int .i64 a, .int .i64 ((a : Int) + (s.size : Int))] 3)) from by
                  rw [HEA.out]
                  have := World.ownsRow_lit (base := 0) (e := 3) (size := 1) w2 #[.int .i64 a, .int .i64 ((a : Int) + (s.size : Int))] 2 (Nat.zero_le _) (by unfold maxLen; omega) (by simp)
                  simpa [IntsIn] using this)
                have V2 := Lib.hid (F2.out.grow ((Grow.refl w2).alloc (.cells #[.int .i64 a, .int .i64 ((a : Int) + (s.size : Int))] 3)))
                go_wp2_with fail
                refine (NM.out _ _ _ V2.out LT.out).mono ?_
                rintro e w3 ⟨rfl, g3⟩
                have G3 := Lib.hid (show Grow w w3 from G2.out.trans2 (((Grow.refl w2).alloc _).trans2 g3))
                clear g3
                go_wp2_with fail
                refine (KN.out _).mono ?_
                rintro e w6 ⟨rfl, g6⟩
                have G6 := Lib.hid (G3.out.trans2 g6)
                clear g6
                go_wp2
                go_ret
                exact ⟨rfl, G6.out⟩
end Go.Proofs.Ytldcbkememonaaa
