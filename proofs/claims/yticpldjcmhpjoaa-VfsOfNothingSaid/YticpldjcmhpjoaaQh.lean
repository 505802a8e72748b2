/-
  The walk of known: a write that is torn. / Bytes of two slices compared (same).
-/
import Derived.Test.YticpldjcmhpjoaaQg
import Derived.Lib.SlBytesConst
namespace Go.Proofs.Yticpldjcmhpjoaa
open Go.RowKit
set_option linter.unusedVariables false
set_option linter.unusedSimpArgs false

def nameA : ByteArray := { data := #[97] }
def abc : List UInt8 := [97, 98, 99]
def dK1 : Doc := ⟨100, [(nameA, abc)], [], [⟨0, nameA, 0, abc⟩]⟩
def dK2 : Doc := ⟨100, [(nameA, abc)], [(nameA, abc)], []⟩
def dK3 : Doc := ⟨100, [(nameA, [97, 120, 121])], [(nameA, abc)], [⟨1, nameA, 1, [120, 121]⟩]⟩
def dK4 : Doc := ⟨100, [(nameA, [97, 120, 99])], [(nameA, [97, 120, 99])], []⟩
theorem kn1 : createD (emptyD 100) nameA abc = (0, dK1) := by rfl
theorem kn3 : writeD dK2 nameA 1 [120, 121] = (0, dK3) := by rfl
theorem kn4 : crashD dK3 0 1 = dK4 := by rfl
theorem kn5 : readD dK4 nameA 0 3 = ([97, 120, 99], 0) := by rfl
theorem parts_one {W : World} {v : Value} {l : List UInt8} (h : Lib.HoldsBytes W v l) (t : TypeId) : PartsIn (W.alloc (.cells #[v] t)) (.slice (some ⟨W.heap.size, 0, none⟩) 1 1) [l] := by
  have hb := heap_alloc_new W (.cells #[v] t)
  refine ⟨_, _, rfl, fun _ => ⟨Nat.le_refl _, W.heap.size, 0, [v], rfl, rfl, fun i u hu => ?_, fun i u l' hu hl => ?_⟩⟩
  · rw [add_plain, Nat.zero_add, cell_blk hb]
    simpa using hu
  · cases i with
    | zero =>
      simp at hu hl
      subst hu
      subst hl
      exact holds_grow h ((Grow.refl W).alloc _)
    | succ i => simp at hu
theorem lit_holds (W : World) (l : List UInt8) (C : Array Value) (hC : C.toList = u8s l) (fr : Nat × Nat) (c : Nat) : Lib.HoldsBytes (W.alloc (.cells C 5 fr)) (.slice (some ⟨W.heap.size, 0, none⟩) l.length c) l := by
  refine ⟨_, c, rfl, (fun h => (by cases h)), fun a ha i x hx => ?_⟩
  injection ha with ha
  subst ha
  have hb := heap_alloc_new W (.cells C 5 fr)
  rw [add_plain, Nat.zero_add]
  have : C[i]? = some (.int .u8 (x.toNat : Int)) := by rw [← Array.getElem?_toList, hC, u8s_get, hx]; rfl
  unfold World.cell?
  rw [hb]
  simpa using this
set_option maxRecDepth 20000 in
theorem known_any (w : World) : Calls Try.prog 16 #[] w (OnlyP (.bool true) w) := by
  have kc := fun (w : World) (C : Array Value) (n c : Nat) => Lib.run_convert_bytes_const (P := Try.prog) w 22 5 C n c Try.underlying22 Try.underlying5
  have NW := Lib.hid (new2_any 100 (by omega) w)
  go_enter Try.func16, Try.ntmps16
  go_wp2_with fail
  refine NW.out.mono ?_
  rintro _ w1 ⟨rfl, hf1, g1⟩
  have C1 := Lib.hid (FsC.new (h0 := w) (B := w.heap.size) (by omega) (Nat.le_refl _) (Below.refl _ _) hf1 g1)
  have G1 := Lib.hid g1
  clear hf1 g1
  go_wp2_with fail
  have CR := create_any (P := More (fun _ => False) w w1) (w.heap.size + 3) 0 (emptyD 100) nameA (.slice (some ⟨w1.heap.size + 1, 0, none⟩) 1 1) [abc] ((w1.alloc (.cells #[.int .u8 97, .int .u8 98, .int .u8 99] 5 (3, 4))).alloc (.cells #[.slice (some ⟨w1.heap.size, 0, none⟩) 3 3] 22))
    (C1.out.fs.turn (Turn.of_grow (P := fun _ => False) (((Grow.refl w1).alloc _).alloc _)) (fun _ _ h => h)) C1.out.good (by omega)
    (by have := parts_one (lit_holds w1 abc #[.int .u8 97, .int .u8 98, .int .u8 99] rfl (3, 4) 3) 22; rw [show abc.length = 3 from rfl] at this; simpa using this) (by simp) (by simp [abc])
  rw [show [abc].flatten = abc from rfl, kn1] at CR
  have CR := Lib.hid CR
  refine CR.out.mono ?_
  rintro _ w2 ⟨rfl, hf2, t2⟩
  have hz1 := G1.out.size
  obtain ⟨P2, C2⟩ : ∃ P, Hid (FsC w.heap.size w w2 (w.heap.size + 3) (0 + 1) dK1 P) := ⟨_, Lib.hid ((C1.out.grow (by omega) (((Grow.refl w1).alloc (.cells #[.int .u8 97, .int .u8 98, .int .u8 99] 5 (3, 4))).alloc (.cells #[.slice (some ⟨w1.heap.size, 0, none⟩) 3 3] 22))).step (by simp; omega) hf2 t2 (D' := dK1) (by have := C1.out.good.create nameA abc (by simp [abc]); rw [kn1] at this; exact this))⟩
  have hz2 := Nat.le_trans (Nat.le_trans hz1 (by simp; omega)) t2.size
  clear hf2 t2 CR
  have SY := Lib.hid (sync_any (w.heap.size + 3) (0 + 1) dK1.fs w2 C2.out.fs)
  go_wp2_with fail
  refine SY.out.mono ?_
  rintro _ w3 ⟨rfl, hf3, t3⟩
  obtain ⟨P3, C3⟩ : ∃ P, Hid (FsC w.heap.size w w3 (w.heap.size + 3) (0 + 1 + 1) dK2 P) := ⟨_, Lib.hid (C2.out.step (by omega) hf3 t3 (D' := dK2) C2.out.good.sync)⟩
  have hz3 := Nat.le_trans hz2 t3.size
  clear hf3 t3 SY
  go_wp2_with fail
  have WR := write_any (P := P3) (w.heap.size + 3) (0 + 1 + 1) dK2 nameA 1 (.slice (some ⟨w3.heap.size + 1, 0, none⟩) 1 1) [[120, 121]] ((w3.alloc (.cells #[.int .u8 120, .int .u8 121] 5 (2, 3))).alloc (.cells #[.slice (some ⟨w3.heap.size, 0, none⟩) 2 2] 22))
    (C3.out.fs.turn (Turn.of_grow (P := fun _ => False) (((Grow.refl w3).alloc _).alloc _)) (fun _ _ h => h)) C3.out.good (by omega)
    (by have := parts_one (lit_holds w3 [120, 121] #[.int .u8 120, .int .u8 121] rfl (2, 3) 2) 22; rw [show ([120, 121] : List UInt8).length = 2 from rfl] at this; simpa using this) (by simp) (by simp)
  rw [show [([120, 121] : List UInt8)].flatten = [120, 121] from rfl, kn3] at WR
  have WR := Lib.hid WR
  refine WR.out.mono ?_
  rintro _ w4 ⟨rfl, hf4, t4⟩
  obtain ⟨P4, C4⟩ : ∃ P, Hid (FsC w.heap.size w w4 (w.heap.size + 3) (0 + 1 + 1 + 1) dK3 P) := ⟨_, Lib.hid ((C3.out.grow (by omega) (((Grow.refl w3).alloc (.cells #[.int .u8 120, .int .u8 121] 5 (2, 3))).alloc (.cells #[.slice (some ⟨w3.heap.size, 0, none⟩) 2 2] 22))).step (by simp; omega) hf4 t4 (D' := dK3) (by have := C3.out.good.write nameA 1 [120, 121] (by simp); rw [kn3] at this; exact this))⟩
  have hz4 := Nat.le_trans (Nat.le_trans hz3 (by simp; omega)) t4.size
  clear hf4 t4 WR
  have CS := crash_any (w.heap.size + 3) (0 + 1 + 1 + 1) dK3 0 1 w4 C4.out.fs C4.out.good (by omega) (by omega) (by omega)
  rw [kn4] at CS
  have CS := Lib.hid CS
  go_wp2_with fail
  refine CS.out.mono ?_
  rintro _ w5 ⟨rfl, hf5, t5⟩
  obtain ⟨P5, C5⟩ : ∃ P, Hid (FsC w.heap.size w w5 (w.heap.size + 3) (0 + 1 + 1 + 1 + 2) dK4 P) := ⟨_, Lib.hid (C4.out.step (by omega) hf5 t5 (D' := dK4) (by have := C4.out.good.crash 0 1; rw [kn4] at this; exact this))⟩
  have hz5 := Nat.le_trans hz4 t5.size
  clear hf5 t5 CS
  have RD := read_any (w.heap.size + 3) (0 + 1 + 1 + 1 + 2) dK4 nameA 0 3 w5 C5.out.fs C5.out.good (by omega) (by omega)
  rw [kn5] at RD
  have RD := Lib.hid RD
  go_wp2_with fail
  refine RD.out.mono ?_
  rintro _ w6 ⟨v6, rfl, ho6, g6⟩
  have FIN := Lib.hid (show Below w.heap.size w w6 from C5.out.gr.trans (Below.mono g6 hz5))
  obtain ⟨g, c, rfl, h2⟩ : ∃ g c, v6 = .slice (some ⟨g, 0, none⟩) 3 c ∧ ∀ i x, ([97, 120, 99] : List UInt8)[i]? = some x → w6.cell? ⟨g, i, none⟩ = some (.int .u8 (x.toNat : Int)) := by
    rcases ho6.bytes with ⟨_, h⟩ | ⟨g, c, h1, h2, _⟩
    · cases h
    · exact ⟨g, c, h1, h2⟩
  have CV : (convert 22 9 (.slice (some ⟨g, 0, none⟩) 3 c)).run Try.prog w6 = .ok (.string { data := #[97, 120, 99] }) w6 :=
    run_convert_bytes_back (P := Try.prog) w6 22 9 5 ⟨g, 0, none⟩ c [97, 120, 99] Try.underlying22 Try.underlying5 Try.underlying9 (fun j hj => by rw [add_plain, Nat.zero_add]; exact h2 j _ (List.getElem?_eq_getElem hj))
  clear RD ho6 g6 h2
  go_wp2
  go_ret
  exact ⟨rfl, FIN.out⟩
end Go.Proofs.Yticpldjcmhpjoaa

namespace Go.Proofs.Yticpldjcmhpjoaa
open Go.RowKit
set_option linter.unusedVariables false
set_option linter.unusedSimpArgs false

/-- v is a slice of the bytes l (where it lies matters only if there are any) -/
def HoldsAt (w : World) (v : Value) (l : List UInt8) : Prop :=
  ∃ p c b o, v = .slice p l.length c ∧ l.length ≤ c ∧ (0 < l.length → p = some ⟨b, o, none⟩) ∧ ∀ i x, l[i]? = some x → w.cell? ⟨b, o + i, none⟩ = some (.int .u8 (x.toNat : Int))
theorem HoldsAt.grow {w w' : World} {v : Value} {l : List UInt8} (h : HoldsAt w v l) (hg : Grow w w') : HoldsAt w' v l := by
  obtain ⟨p, c, b, o, h1, h2, h3, h4⟩ := h
  exact ⟨p, c, b, o, h1, h2, h3, fun i x hx => by have := h4 i x hx; exact (Below.cell hg (lt_of_cell this)).trans this⟩
theorem BytesIn.at {P : Nat → Prop} {w : World} {v : Value} {l : List UInt8} (h : BytesIn P w v l) : HoldsAt w v l := by
  rcases h with ⟨rfl, rfl⟩ | ⟨g, c, h1, h2, _, h4⟩
  · exact ⟨none, 0, 0, 0, rfl, Nat.le_refl _, fun h => absurd h (by simp), fun i x hx => by simp at hx⟩
  · exact ⟨some ⟨g, 0, none⟩, c, g, 0, h1, h4, fun _ => rfl, fun i x hx => by rw [Nat.zero_add]; exact h2 i x hx⟩
theorem HoldsAt.holds {w : World} {v : Value} {l : List UInt8} (h : HoldsAt w v l) : Lib.HoldsBytes w v l := by
  obtain ⟨p, c, b, o, h1, h2, h3, h4⟩ := h
  refine ⟨p, c, h1, fun hp => ?_, fun a ha i x hx => ?_⟩
  · cases l with
    | nil => rfl
    | cons y r => rw [h3 (by simp)] at hp; cases hp
  · have h0 : 0 < l.length := by have := (List.getElem?_eq_some_iff.1 hx).1; omega
    rw [h3 h0] at ha
    injection ha with ha
    subst ha
    rw [add_plain]
    exact h4 i x hx
theorem u8_ne {x y : UInt8} : ((x.toNat : Int) == (y.toNat : Int)) = (x == y) := by
  rw [Bool.eq_iff_iff]
  simp only [beq_iff_eq]
  constructor
  · intro h
    exact UInt8.toNat_inj.1 (by omega)
  · intro h
    rw [h]
theorem same_any (v1 v2 : Value) (l1 l2 : List UInt8) (w : World) (h1 : HoldsAt w v1 l1) (h2 : HoldsAt w v2 l2) (hl : l1.length ≤ 1073741824) (hl2 : l2.length ≤ 1073741824) :
    Calls Try.prog 15 #[v1, v2] w (OnlyP (.bool (decide (l1 = l2))) w) := by
  obtain ⟨p, c, b, o, rfl, _, hp, hc⟩ := h1
  obtain ⟨q, d, e, u, rfl, _, hq, hd⟩ := h2
  obtain ⟨n, hn⟩ : ∃ n, n = l1.length := ⟨_, rfl⟩
  obtain ⟨m, hm⟩ : ∃ m, m = l2.length := ⟨_, rfl⟩
  rw [← hn] at hp hl ⊢
  rw [← hm] at hq hl2 ⊢
  have HP := Lib.hid hp
  have HQ := Lib.hid hq
  have HC := Lib.hid hc
  have HD := Lib.hid hd
  have HN := Lib.hid hn
  have HM := Lib.hid hm
  by_cases hnm : n = m
  · have hqm : 0 < n → q = some ⟨e, u, none⟩ := fun h => hq (by omega)
    have HQ := Lib.hid hqm
    have HM := Lib.hid (show n = l2.length by omega)
    clear hp hq hc hd hn hm hqm
    subst hnm
    go_enter Try.func15, Try.ntmps15
    go_wp2
    go_loopw [5] (fun i wr => ∃ j : Nat, j ≤ n ∧ i = .int .i64 (j : Int) ∧ Hid (l1.take j = l2.take j) ∧ Hid (Grow w wr)) (fun i _ => n - (intOf i).toNat)
    case atStart => exact ⟨0, by omega, rfl, Lib.hid rfl, Lib.hid (Grow.refl w)⟩
    case round =>
      obtain ⟨j, hj, rfl, HT, HG⟩ := hrel
      have k0 : (0 : Int) ≤ (j : Int) := by omega
      by_cases hlt : j < n
      · have k1 : (j : Int) < (n : Int) := by omega
        obtain ⟨x, hx⟩ : ∃ x, l1[j]? = some x := ⟨_, List.getElem?_eq_getElem (by rw [← HN.out]; exact hlt)⟩
        obtain ⟨y, hy⟩ : ∃ y, l2[j]? = some y := ⟨_, List.getElem?_eq_getElem (by rw [← HM.out]; exact hlt)⟩
        have ep := HP.out (by omega)
        have eq := HQ.out (by omega)
        subst ep eq
        have x1 := HC.out j x hx
        have x1 := (Below.cell HG.out (lt_of_cell x1)).trans x1
        have y1 := HD.out j y hy
        have y1 := (Below.cell HG.out (lt_of_cell y1)).trans y1
        have HX := Lib.hid hx
        have HY := Lib.hid hy
        obtain ⟨xi, hxi⟩ : ∃ xi : Int, xi = (x.toNat : Int) := ⟨_, rfl⟩
        obtain ⟨yi, hyi⟩ : ∃ yi : Int, yi = (y.toNat : Int) := ⟨_, rfl⟩
        have hxy9 : (xi == yi) = (x == y) := by rw [hxi, hyi]; exact u8_ne
        rw [← hxi] at x1
        rw [← hyi] at y1
        clear hx hy hxi hyi
        cases hxy : (x == y) with
        | true =>
          rw [hxy] at hxy9
          have hxy2 : (xi != yi) = false := by simpa [bne] using hxy9
          have HXY := Lib.hid (show x = y from by simpa using hxy)
          clear hxy hxy9
          go_wp2
          go_quiet (fail)
          go_wp2
          go_roundw
          case rel => exact ⟨j + 1, by omega, by go_num, Lib.hid (by
            have a1 := HX.out
            have a2 := HY.out
            rw [← HXY.out] at a2
            rw [List.take_add_one, List.take_add_one, HT.out, a1, a2]), Lib.hid (below_drewN HG.out _)⟩
          case measure => simp [intOf]; omega
        | false =>
          rw [hxy] at hxy9
          have hxy2 : (xi != yi) = true := by simpa [bne] using hxy9
          have HXY := Lib.hid (show ¬ x = y from by simpa using hxy)
          clear hxy hxy9
          go_wp2
          go_quiet (fail)
          go_wp2
          go_ret
          refine ⟨ret_bool ?_, below_drewN HG.out _⟩
          symm
          rw [decide_eq_false_iff_not]
          intro e
          have a1 := HX.out
          rw [e, HY.out] at a1
          injection a1 with a1
          exact HXY.out a1.symm
      · have k1 : ¬ (j : Int) < (n : Int) := by omega
        obtain rfl : n = j := by omega
        go_wp2
        go_ret
        refine ⟨ret_bool ?_, HG.out⟩
        symm
        rw [decide_eq_true_iff]
        have := HT.out
        rw [List.take_of_length_le (by rw [← HN.out]; exact Nat.le_refl _), List.take_of_length_le (by rw [← HM.out]; exact Nat.le_refl _)] at this
        exact this
  · have k1 : ((n : Int) != (m : Int)) = true := by simp; omega
    have k2 : ((n : Int) == (m : Int)) = false := by simp; omega
    have HNM := Lib.hid hnm
    clear hp hq hc hd hn hm hnm
    go_enter Try.func15, Try.ntmps15
    go_wp2
    go_ret
    refine ⟨ret_bool ?_, Below.refl _ _⟩
    symm
    rw [decide_eq_false_iff_not]
    intro e
    exact HNM.out (by rw [HN.out, HM.out, e])
end Go.Proofs.Yticpldjcmhpjoaa
