/-
  The walks of graticulelaw13.known and of SubstExpands.
-/
import Derived.Test.YtldcbkememonaaaK6
import Derived.Test.YtldcbkememonaaaK8

namespace Go.Proofs.Ytldcbkememonaaa
open Go.RowKit
set_option linter.unusedVariables false
set_option linter.unusedSimpArgs false

def OfL13 (L : List Ins) (gr : Nat) (w : World) (e : Ending) (w' : World) : Prop :=
  ∃ lv lq, e = .returned (.tuple #[.agg #[.int .i64 gr, lv], .agg #[.int .i64 gr, lq], .bool true]) ∧ w'.ownsRow w.heap.size 26 4 lv L.length (cellsI L) ∧ w'.ownsRow w.heap.size 76 4 lq L.length (cellsI L) ∧ Grow w w'
theorem of_known13 (s : ByteArray) (SO : SetOk s) (hs : s.size ≤ 10000) (gr : Nat) (L : List Ins) (hc : compF s = (gr, L, 0)) (hl : L.length ≤ 30000) (w : World) : Calls Try.prog 21 #[.string s] w (OfL13 L gr w) := by
  have := of21_any s w hs SO (by rw [hc]; exact hl)
  unfold OfP13 at this
  rw [hc] at this
  exact this
def kx : ByteArray := ⟨#[120]⟩
def kb : ByteArray := ⟨#[98, 97, 97, 99]⟩
def kr : ByteArray := ⟨#[120, 98, 120, 120, 99, 120]⟩
theorem known_all : allF 0 LA kx kb = (kr, 0) := by decide +kernel
set_option maxRecDepth 100000 in
set_option maxHeartbeats 2000000 in
theorem known13_any (w : World) : Calls Try.prog 22 #[] w (TrueP true w) := by
  have OA := Lib.hid (of_known13 kA (set_ok kA (by decide) kA_plain) (by decide) 0 LA comp_A (by decide))
  have kn : ∀ (w' : World) (a : Option Addr) (c g : Nat), RdI LA g 0 w' → (0 < LA.length → a = some ⟨g, 0, none⟩) → Calls Try.prog 23 #[.agg #[.int .i64 0, .slice a LA.length c], .string kx, .string kb] w' (AllPost (kr, 0) w') := fun w' a c g h1 h2 => by
    have := all23_any LA 0 kx kb w' a c g 0 h1 h2 LA_ok (by decide) (by decide)
    rw [known_all] at this
    exact this
  go_enter Try.func22, Try.ntmps22
  go_wp2_with fail
  refine (OA.out _).mono ?_
  rintro e w1 ⟨lv, lq, rfl, own1, own2, g1⟩
  obtain ⟨a, c, g, rfl, rd, had⟩ := of_rd own1
  obtain ⟨aq, cq, rfl, _⟩ := own_shape own2
  have G1 := Lib.hid g1
  have KA := Lib.hid (fun w' (h : Grow w1 w') => kn w' a c g (rd.grow h) had)
  clear own1 own2 g1 rd had kn OA
  go_wp2_with fail
  refine (KA.out _ (((Grow.refl w1).alloc _).alloc _)).mono ?_
  rintro e w2 ⟨rfl, g2⟩
  have G2 := Lib.hid (G1.out.trans2 ((((Grow.refl w1).alloc _).alloc _).trans2 g2))
  have ek : (kr.toList == [120, 98, 120, 120, 99, 120]) = true := by decide +kernel
  clear g2 KA
  go_wp2
  go_ret
  exact ⟨ret_bool (by first | rfl | simpa using ek), G2.out⟩
theorem str_eq (s : ByteArray) : (s.toList == s.toList) = true := by simp
set_option maxRecDepth 100000 in
set_option maxHeartbeats 4000000 in
theorem sexpands_any (t tx : ByteArray) (ps : List Int) (a : Option Addr) (c : Nat) (w : World) (h : RdN ps a w) : Calls Try.prog 10 #[.string t, .string tx, .slice a ps.length c] w (TrueP true w) := by
  by_cases h1 : 60 < t.size
  · clear h
    go_enter Try.func10, Try.ntmps10
    go_wp2
    go_ret
    exact ⟨rfl, Grow.refl w⟩
  · by_cases h2 : 60 < tx.size
    · clear h
      go_enter Try.func10, Try.ntmps10
      go_wp2
      go_ret
      exact ⟨rfl, Grow.refl w⟩
    · by_cases h3 : 60 < ps.length
      · clear h
        go_enter Try.func10, Try.ntmps10
        go_wp2
        go_ret
        exact ⟨rfl, Grow.refl w⟩
      · have C1 := fun w' (g : Grow w w') => expand25_any t tx ps a c w' (h.grow g) (by omega) (by omega) (by omega)
        have C2 := fun w' (g : Grow w w') => expand26_any t tx ps a c w' (h.grow g) (by omega) (by omega) (by omega)
        have K1 := Lib.hid (check27_any t (by omega))
        have K2 := Lib.hid (check28_any t (by omega))
        obtain ⟨n, hn⟩ : ∃ n, n = ps.length := ⟨_, rfl⟩
        obtain ⟨R, hR⟩ : ∃ R, R = expF t tx ps := ⟨_, rfl⟩
        rw [← hn, ← hR] at C1 C2
        rw [← hn] at h3 ⊢
        have C1 := Lib.hid C1
        have C2 := Lib.hid C2
        have KN := Lib.hid known13_any
        clear hn hR h
        go_enter Try.func10, Try.ntmps10
        go_wp2_with fail
        refine (C1.out _ (Grow.refl w)).mono ?_
        rintro e w1 ⟨rfl, g1⟩
        have G1 := Lib.hid g1
        clear g1
        go_wp2_with fail
        refine (C2.out _ G1.out).mono ?_
        rintro e w2 ⟨rfl, g2⟩
        have G2 := Lib.hid (G1.out.trans2 g2)
        clear g2
        go_wp2_with fail
        refine (K1.out _).mono ?_
        rintro e w3 ⟨rfl, rfl⟩
        go_wp2_with fail
        refine (K2.out _).mono ?_
        rintro e w4 ⟨rfl, rfl⟩
        go_wp2_with fail
        refine (KN.out _).mono ?_
        rintro e w5 ⟨rfl, g5⟩
        have G5 := Lib.hid (G2.out.trans2 g5)
        clear g5
        go_wp2
        go_ret
        exact ⟨rfl, G5.out⟩
end Go.Proofs.Ytldcbkememonaaa
