/-
  The acts that came in; the walk of heavy.
-/
import Derived.Test.YticpldjcmhpjoaaQo

namespace Go.Proofs.Yticpldjcmhpjoaa
open Go.RowKit
set_option linter.unusedVariables false
set_option linter.unusedSimpArgs false

/-- an act's cells -/
structure ActCs (w : World) (b p : Nat) (a : Actn) (v : Value) : Prop where
  kind : w.cell? ⟨b, p, none⟩ = some (.int .i64 a.kind)
  at_ : w.cell? ⟨b, p + 1, none⟩ = some (.int .i64 a.at_)
  n : w.cell? ⟨b, p + 2, none⟩ = some (.int .i64 a.n)
  name : w.cell? ⟨b, p + 3, none⟩ = some (.string a.name)
  rows : w.cell? ⟨b, p + 4, none⟩ = some v
  parts : PartsIn w v a.b
  size : a.name.size ≤ maxLen
  atb : -9223372036854775808 ≤ a.at_ ∧ a.at_ ≤ 9223372036854775807
  nb : -9223372036854775808 ≤ a.n ∧ a.n ≤ 9223372036854775807
  few : a.b.length ≤ maxLen
  lens : ∀ l ∈ a.b, l.length ≤ maxLen
/-- the acts that came in -/
def ActsAt (w : World) (a : Option Addr) (n : Nat) (A : Nat → Actn) (V : Nat → Value) : Prop :=
  0 < n → ∃ b o, a = some ⟨b, o, none⟩ ∧ ∀ i, i < n → ActCs w b (o + i * 5) (A i) (V i)
/-- an act that is not heavy -/
structure Light (a : Actn) : Prop where
  few : a.b.length ≤ 5
  lens : ∀ l ∈ a.b, l.length ≤ 3000
theorem flat_le (k : Nat) : ∀ (ls : List (List UInt8)), (∀ l ∈ ls, l.length ≤ k) → ls.flatten.length ≤ ls.length * k
  | [], _ => by simp
  | l :: r, h => by
    have h1 := h l List.mem_cons_self
    have h2 := flat_le k r (fun x hx => h x (List.mem_cons_of_mem _ hx))
    simp only [List.flatten_cons, List.length_append, List.length_cons]
    rw [Nat.add_mul, Nat.one_mul]
    omega
theorem Light.flat {a : Actn} (h : Light a) : a.b.flatten.length ≤ 15000 := by
  have h1 := flat_le 3000 a.b h.lens
  have h2 := h.few
  have : a.b.length * 3000 ≤ 5 * 3000 := Nat.mul_le_mul_right _ h2
  omega
theorem ActCs.ok {w : World} {b p : Nat} {a : Actn} {v : Value} (h : ActCs w b p a v) (hl : Light a) : ActOk w a v :=
  ⟨h.parts, by have := hl.few; omega, by have := hl.flat; omega, h.atb, h.nb⟩
theorem ActCs.part {w : World} {b p : Nat} {a : Actn} {q : Option Addr} {n c : Nat} (h : ActCs w b p a (.slice q n c)) (k : Nat) (hk : k < a.b.length) :
    ∃ b' o' x cx l, q = some ⟨b', o', none⟩ ∧ a.b[k]? = some l ∧ w.cell? ⟨b', o' + k, none⟩ = some (.slice x l.length cx) := by
  obtain ⟨a', c', e, h2⟩ := h.parts
  injection e with e1 e2 e3
  subst e1
  obtain ⟨_, b', o', vs, ha, hP⟩ := h2 (by omega)
  obtain ⟨x, cap, l, h3, h4, _⟩ := hP.get k (by simpa using hk)
  rw [add_plain] at h4
  exact ⟨b', o', x, cap, l, ha, h3, h4⟩
def HeavyP (n : Nat) (A : Nat → Actn) (w : World) (e : Ending) (w' : World) : Prop := ∃ r : Bool, e = .returned (.bool r) ∧ (r = false → ∀ i, i < n → i < 100 → Light (A i)) ∧ Grow w w'
theorem ret_heavy {n : Nat} {A : Nat → Actn} {w : World} {r : Bool} (h : ∀ i, i < n → i < 100 → Light (A i)) : HeavyP n A w (.returned (.bool r)) w := ⟨r, rfl, fun _ => h, Grow.refl _⟩
theorem heavy_yes {n : Nat} {A : Nat → Actn} {w : World} : HeavyP n A w (.returned (.bool true)) w := ⟨true, rfl, (fun h => (by cases h)), Grow.refl _⟩
set_option maxRecDepth 20000 in
set_option maxHeartbeats 2000000 in
theorem heavy_any (a : Option Addr) (n c : Nat) (A : Nat → Actn) (V : Nat → Value) (w : World) (h : ActsAt w a n A V) (hn : n ≤ maxLen) : Calls Try.prog 17 #[.slice a n c] w (HeavyP n A w) := by
  have HA := Lib.hid h
  unfold maxLen at hn
  clear h
  go_enter Try.func17, Try.ntmps17
  go_wp2
  go_loop [3, 4] (fun m i => ∃ (j : Nat) (k : Int), j ≤ n ∧ j ≤ 100 ∧ i = .int .i64 (j : Int) ∧ m = .int .i64 k ∧ 0 ≤ k ∧ k ≤ 27000 ∧ Hid (∀ i, i < j → Light (A i))) (fun _ i => n - (intOf i).toNat)
  case atStart => exact ⟨0, 0, by omega, by omega, rfl, rfl, by omega, by omega, Lib.hid (fun i hi => absurd hi (by omega))⟩
  case round =>
    obtain ⟨j, m, hj, hj1, rfl, rfl, hm0, hm1, HL⟩ := hrel
    by_cases hlt : j < n
    · have k1 : (j : Int) < (n : Int) := by omega
      by_cases hlt2 : j < 100
      · have k2 : (j : Int) < 100 := by omega
        obtain ⟨b, o, ha, hA⟩ := HA.out (by omega)
        subst ha
        have hC := hA j hlt
        obtain ⟨q, bl, cq, hv⟩ : ∃ q bl cq, V j = .slice q bl cq := by obtain ⟨x, c, e, _⟩ := hC.parts; exact ⟨_, _, _, e⟩
        rw [hv] at hC
        have hbl : bl = (A j).b.length := by obtain ⟨x, c, e, _⟩ := hC.parts; injection e
        have c3 := hC.name
        have c4 := hC.rows
        have HC := Lib.hid hC
        have hsz := hC.size
        unfold maxLen at hsz
        obtain ⟨nm, hnm⟩ : ∃ nm, nm = (A j).name := ⟨_, rfl⟩
        rw [← hnm] at c3 hsz
        have HBL := Lib.hid hbl
        have HNM := Lib.hid hnm
        clear hA hC hv hbl hnm
        by_cases g1 : 300 < nm.size
        · have g1' : (300 : Int) < (nm.size : Int) := by omega
          go_wp2
          go_ret
          exact heavy_yes
        · have g1' : ¬ (300 : Int) < (nm.size : Int) := by omega
          have hw1 : IntKind.i64.wrap (m + 20 + (nm.size : Int)) = m + 20 + (nm.size : Int) := IntWalk.i64_in _ (by omega)
          by_cases g2 : 5 < bl
          · have g2' : (5 : Int) < (bl : Int) := by omega
            go_wp2
            go_ret
            exact heavy_yes
          · have g2' : ¬ (5 : Int) < (bl : Int) := by omega
            obtain ⟨m2, hm2⟩ : ∃ m2, m2 = m + 20 + (nm.size : Int) := ⟨_, rfl⟩
            by_cases g3 : 12000 < m + 20 + (nm.size : Int)
            · go_wp2
              go_ret
              exact heavy_yes
            · have hm2a : 0 ≤ m2 := by omega
              have hm2b : m2 ≤ 12000 := by omega
              have HM2 := Lib.hid hm2
              clear hm2
              go_wp2
              go_loop [3, 5] (fun m i => ∃ (k : Nat) (p : Int), k ≤ bl ∧ i = .int .i64 (k : Int) ∧ m = .int .i64 p ∧ 0 ≤ p ∧ p ≤ 12000 + 3000 * k ∧ Hid (∀ i l, i < k → (A j).b[i]? = some l → l.length ≤ 3000)) (fun _ i => bl - (intOf i).toNat)
              case atStart => exact ⟨0, _, by omega, rfl, rfl, by omega, by omega, Lib.hid (fun i l hi => absurd hi (by omega))⟩
              case round =>
                obtain ⟨k, p, hk, rfl, rfl, hp0, hp1, HK⟩ := hrel
                by_cases hkl : k < bl
                · have k3 : (k : Int) < (bl : Int) := by omega
                  obtain ⟨b', o', x, cx, l, hq, hl, hcell⟩ := HC.out.part k (by rw [← HBL.out]; exact hkl)
                  subst hq
                  have hll := HC.out.lens l (List.mem_of_getElem? hl)
                  unfold maxLen at hll
                  obtain ⟨ll, hll2⟩ : ∃ ll, ll = l.length := ⟨_, rfl⟩
                  rw [← hll2] at hcell hll
                  have HLL := Lib.hid hll2
                  have HLK := Lib.hid hl
                  clear hll2 hl
                  by_cases g4 : 3000 < ll
                  · have g4' : (3000 : Int) < (ll : Int) := by omega
                    go_wp2
                    go_ret
                    exact heavy_yes
                  · have g4' : ¬ (3000 : Int) < (ll : Int) := by omega
                    go_wp2
                    go_round
                    case rel =>
                      refine ⟨k + 1, p + ll, by omega, by go_num, by go_num, by omega, by omega, Lib.hid (fun i l' hi hil => ?_)⟩
                      by_cases hik : i < k
                      · exact HK.out i l' hik hil
                      · obtain rfl : i = k := by omega
                        rw [HLK.out] at hil
                        injection hil with hil
                        rw [← hil, ← HLL.out]
                        omega
                    case measure => simp [intOf]; omega
                · have k3 : ¬ (k : Int) < (bl : Int) := by omega
                  have HLJ := Lib.hid (show Light (A j) from ⟨by have := HBL.out; omega, fun l hl => by
                    obtain ⟨i, hi, he⟩ := List.getElem_of_mem hl
                    exact HK.out i l (by have := HBL.out; omega) (by rw [List.getElem?_eq_getElem hi, he])⟩)
                  go_wp2
                  go_round
                  case rel =>
                    refine ⟨j + 1, p, by omega, by omega, by go_num, rfl, by omega, by omega, Lib.hid (fun i hi => ?_)⟩
                    by_cases hij : i < j
                    · exact HL.out i hij
                    · obtain rfl : i = j := by omega
                      exact HLJ.out
                  case measure => simp [intOf]; omega
      · have k2 : ¬ (j : Int) < 100 := by omega
        have HF := Lib.hid (show ∀ i, i < n → i < 100 → Light (A i) from fun i _ hi => HL.out i (by omega))
        go_wp2
        go_ret
        exact ret_heavy HF.out
    · have k1 : ¬ (j : Int) < (n : Int) := by omega
      have HF := Lib.hid (show ∀ i, i < n → i < 100 → Light (A i) from fun i hi _ => HL.out i (by omega))
      go_wp2
      go_ret
      exact ret_heavy HF.out
end Go.Proofs.Yticpldjcmhpjoaa
