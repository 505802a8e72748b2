/-
  The walk of known: a write that is torn.
-/
import Derived.Test.YticpldjcmhpjoaaV25
import Derived.Lib.SlBytesConst
namespace Go.Proofs.Yticpldjcmhpjoaa
open Go.RowKit
set_option linter.unusedVariables false
set_option linter.unusedSimpArgs false

def nameA : ByteArray := { data := #[97] }
def abc : List UInt8 := [97, 98, 99]
def dK1 : Doc := ⟨100, [(nameA, abc)], [], [⟨0, nameA, 0, abc⟩]⟩
def dK2 : Doc := ⟨100, [(nameA, abc)], [(nameA, abc)], []⟩
def dK3 : Doc := ⟨100, [(nameA, [97, 120, 121])], [(nameA, abc)], [⟨1, nameA, 1, [120, 121]⟩]⟩
def dK4 : Doc := ⟨100, [(nameA, [97, 120, 99])], [(nameA, [97, 120, 99])], []⟩
theorem kn1 : createD (emptyD 100) nameA abc = (0, dK1) := by rfl
theorem kn3 : writeD dK2 nameA 1 [120, 121] = (0, dK3) := by rfl
theorem kn4 : crashD dK3 0 1 = dK4 := by rfl
theorem kn5 : readD dK4 nameA 0 3 = ([97, 120, 99], 0) := by rfl
theorem parts_one {W : World} {v : Value} {l : List UInt8} (h : Lib.HoldsBytes W v l) (t : TypeId) : PartsIn (W.alloc (.cells #[v] t)) (.slice (some ⟨W.heap.size, 0, none⟩) 1 1) [l] := by
  have hb := heap_alloc_new W (.cells #[v] t)
  refine ⟨_, _, rfl, fun _ => ⟨Nat.le_refl _, W.heap.size, 0, [v], rfl, rfl, fun i u hu => ?_, fun i u l' hu hl => ?_⟩⟩
  · rw [add_plain, Nat.zero_add, cell_blk hb]
    simpa using hu
  · cases i with
    | zero =>
      simp at hu hl
      subst hu
      subst hl
      exact holds_grow h ((Grow.refl W).alloc _)
    | succ i => simp at hu
theorem lit_holds (W : World) (l : List UInt8) (C : Array Value) (hC : C.toList = u8s l) (fr : Nat × Nat) (c : Nat) : Lib.HoldsBytes (W.alloc (.cells C 5 fr)) (.slice (some ⟨W.heap.size, 0, none⟩) l.length c) l := by
  refine ⟨_, c, rfl, (fun h => nomatch h), fun a ha i x hx => ?_⟩
  injection ha with ha
  subst ha
  have hb := heap_alloc_new W (.cells C 5 fr)
  rw [add_plain, Nat.zero_add]
  have : C[i]? = some (.int .u8 (x.toNat : Int)) := by rw [← Array.getElem?_toList, hC, u8s_get, hx]; rfl
  unfold World.cell?
  rw [hb]
  simpa using this
set_option maxRecDepth 20000 in
theorem known_any (w : World) : Calls Try.prog 16 #[] w (OnlyP (.bool true) w) := by
  have kc := fun (w : World) (C : Array Value) (n c : Nat) => Lib.run_convert_bytes_const (P := Try.prog) w 22 5 C n c Try.underlying22 Try.underlying5
  have NW := Lib.hid (new2_any 100 (by omega) w)
  go_enter Try.func16, Try.ntmps16
  go_wp2_with fail
  refine NW.out.mono ?_
  rintro _ w1 ⟨rfl, hf1, g1⟩
  have C1 := Lib.hid (FsC.new (h0 := w) (B := w.heap.size) (by omega) (Nat.le_refl _) (Below.refl _ _) hf1 g1)
  have G1 := Lib.hid g1
  clear hf1 g1
  go_wp2_with fail
  have CR := create_any (P := More (fun _ => False) w w1) (w.heap.size + 3) 0 (emptyD 100) nameA (.slice (some ⟨w1.heap.size + 1, 0, none⟩) 1 1) [abc] ((w1.alloc (.cells #[.int .u8 97, .int .u8 98, .int .u8 99] 5 (3, 4))).alloc (.cells #[.slice (some ⟨w1.heap.size, 0, none⟩) 3 3] 22))
    (C1.out.fs.turn (Turn.of_grow (P := fun _ => False) (((Grow.refl w1).alloc _).alloc _)) (fun _ _ h => h)) C1.out.good (by omega)
    (by have := parts_one (lit_holds w1 abc #[.int .u8 97, .int .u8 98, .int .u8 99] rfl (3, 4) 3) 22; rw [show abc.length = 3 from rfl] at this; simpa using this) (by simp) (by simp [abc])
  rw [show [abc].flatten = abc from rfl, kn1] at CR
  have CR := Lib.hid CR
  refine CR.out.mono ?_
  rintro _ w2 ⟨rfl, hf2, t2⟩
  have hz1 := G1.out.size
  obtain ⟨P2, C2⟩ : ∃ P, Hid (FsC w.heap.size w w2 (w.heap.size + 3) (0 + 1) dK1 P) := ⟨_, Lib.hid ((C1.out.grow (by omega) (((Grow.refl w1).alloc (.cells #[.int .u8 97, .int .u8 98, .int .u8 99] 5 (3, 4))).alloc (.cells #[.slice (some ⟨w1.heap.size, 0, none⟩) 3 3] 22))).step (by simp; omega) hf2 t2 (D' := dK1) (by have := C1.out.good.create nameA abc (by simp [abc]); rw [kn1] at this; exact this))⟩
  have hz2 := Nat.le_trans (Nat.le_trans hz1 (by simp; omega)) t2.size
  clear hf2 t2 CR
  have SY := Lib.hid (sync_any (w.heap.size + 3) (0 + 1) dK1.fs w2 C2.out.fs)
  go_wp2_with fail
  refine SY.out.mono ?_
  rintro _ w3 ⟨rfl, hf3, t3⟩
  obtain ⟨P3, C3⟩ : ∃ P, Hid (FsC w.heap.size w w3 (w.heap.size + 3) (0 + 1 + 1) dK2 P) := ⟨_, Lib.hid (C2.out.step (by omega) hf3 t3 (D' := dK2) C2.out.good.sync)⟩
  have hz3 := Nat.le_trans hz2 t3.size
  clear hf3 t3 SY
  go_wp2_with fail
  have WR := write_any (P := P3) (w.heap.size + 3) (0 + 1 + 1) dK2 nameA 1 (.slice (some ⟨w3.heap.size + 1, 0, none⟩) 1 1) [[120, 121]] ((w3.alloc (.cells #[.int .u8 120, .int .u8 121] 5 (2, 3))).alloc (.cells #[.slice (some ⟨w3.heap.size, 0, none⟩) 2 2] 22))
    (C3.out.fs.turn (Turn.of_grow (P := fun _ => False) (((Grow.refl w3).alloc _).alloc _)) (fun _ _ h => h)) C3.out.good (by omega)
    (by have := parts_one (lit_holds w3 [120, 121] #[.int .u8 120, .int .u8 121] rfl (2, 3) 2) 22; rw [show ([120, 121] : List UInt8).length = 2 from rfl] at this; simpa using this) (by simp) (by simp)
  rw [show [([120, 121] : List UInt8)].flatten = [120, 121] from rfl, kn3] at WR
  have WR := Lib.hid WR
  refine WR.out.mono ?_
  rintro _ w4 ⟨rfl, hf4, t4⟩
  obtain ⟨P4, C4⟩ : ∃ P, Hid (FsC w.heap.size w w4 (w.heap.size + 3) (0 + 1 + 1 + 1) dK3 P) := ⟨_, Lib.hid ((C3.out.grow (by omega) (((Grow.refl w3).alloc (.cells #[.int .u8 120, .int .u8 121] 5 (2, 3))).alloc (.cells #[.slice (some ⟨w3.heap.size, 0, none⟩) 2 2] 22))).step (by simp; omega) hf4 t4 (D' := dK3) (by have := C3.out.good.write nameA 1 [120, 121] (by simp); rw [kn3] at this; exact this))⟩
  have hz4 := Nat.le_trans (Nat.le_trans hz3 (by simp; omega)) t4.size
  clear hf4 t4 WR
  have CS := crash_any (w.heap.size + 3) (0 + 1 + 1 + 1) dK3 0 1 w4 C4.out.fs C4.out.good (by omega) (by omega) (by omega)
  rw [kn4] at CS
  have CS := Lib.hid CS
  go_wp2_with fail
  refine CS.out.mono ?_
  rintro _ w5 ⟨rfl, hf5, t5⟩
  obtain ⟨P5, C5⟩ : ∃ P, Hid (FsC w.heap.size w w5 (w.heap.size + 3) (0 + 1 + 1 + 1 + 2) dK4 P) := ⟨_, Lib.hid (C4.out.step (by omega) hf5 t5 (D' := dK4) (by have := C4.out.good.crash 0 1; rw [kn4] at this; exact this))⟩
  have hz5 := Nat.le_trans hz4 t5.size
  clear hf5 t5 CS
  have RD := read_any (w.heap.size + 3) (0 + 1 + 1 + 1 + 2) dK4 nameA 0 3 w5 C5.out.fs C5.out.good (by omega) (by omega)
  rw [kn5] at RD
  have RD := Lib.hid RD
  go_wp2_with fail
  refine RD.out.mono ?_
  rintro _ w6 ⟨v6, rfl, ho6, g6⟩
  have FIN := Lib.hid (show Below w.heap.size w w6 from C5.out.gr.trans (Below.mono g6 hz5))
  obtain ⟨g, c, rfl, h2⟩ : ∃ g c, v6 = .slice (some ⟨g, 0, none⟩) 3 c ∧ ∀ i x, ([97, 120, 99] : List UInt8)[i]? = some x → w6.cell? ⟨g, i, none⟩ = some (.int .u8 (x.toNat : Int)) := by
    rcases ho6.bytes with ⟨_, h⟩ | ⟨g, c, h1, h2, _⟩
    · cases h
    · exact ⟨g, c, h1, h2⟩
  have CV : (convert 22 9 (.slice (some ⟨g, 0, none⟩) 3 c)).run Try.prog w6 = .ok (.string { data := #[97, 120, 99] }) w6 :=
    run_convert_bytes_back (P := Try.prog) w6 22 9 5 ⟨g, 0, none⟩ c [97, 120, 99] Try.underlying22 Try.underlying5 Try.underlying9 (fun j hj => by rw [add_plain, Nat.zero_add]; exact h2 j _ (List.getElem?_eq_getElem hj))
  clear RD ho6 g6 h2
  go_wp2
  go_ret
  exact ⟨rfl, FIN.out⟩
end Go.Proofs.Yticpldjcmhpjoaa
