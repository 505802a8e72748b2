/-
  The walks of isName (vfs), is (graticuleref3). / A nil FS. / The walk of total. / A map from names to slices, as raw values. / The walk of find. / The walk of Size. / The walk of New.
-/
import Derived.Test.YticpldjcmhpjoaaPhi
import Derived.Test.YticpldjcmhpjoaaProg
import Derived.Test.YticpldjcmhpjoaaBase
import Derived.WalkLawsBesides
import Derived.WalkSpells
import Derived.Lib.Hide
import Derived.Deep.QuietTactic
import Derived.BigQuiet
import Derived.Lib.SlParts
import Derived.Maps.OwnSet
import Derived.StringKeys
namespace Go.Proofs.Yticpldjcmhpjoaa
open Go.RowKit
set_option linter.unusedVariables false
set_option linter.unusedSimpArgs false

/-- is it a name? -/
def isB (s : ByteArray) : Bool := decide (1 ≤ s.size) && decide (s.size ≤ 255)
theorem ret_bool {a b : Bool} (h : a = b) : Ending.returned (.bool a) = .returned (.bool b) := by rw [h]
theorem isName_any (s : ByteArray) (w : World) : Calls Try.prog 29 #[.string s] w fun e w' => e = .returned (.bool (isB s)) ∧ w' = w := by
  unfold isB
  by_cases h1 : (1 : Int) ≤ (s.size : Int)
  · by_cases h2 : (s.size : Int) ≤ 255
    · go_enter Try.func29, Try.ntmps29
      go_wp2
      go_ret
      exact ⟨ret_bool (by simp; omega), rfl⟩
    · go_enter Try.func29, Try.ntmps29
      go_wp2
      go_ret
      exact ⟨ret_bool (by simp; omega), rfl⟩
  · go_enter Try.func29, Try.ntmps29
    go_wp2
    go_ret
    exact ⟨ret_bool (by simp; omega), rfl⟩
theorem is_any (s : ByteArray) (w : World) : Calls Try.prog 51 #[.string s] w fun e w' => e = .returned (.bool (isB s)) ∧ w' = w := by
  unfold isB
  by_cases h1 : (1 : Int) ≤ (s.size : Int)
  · by_cases h2 : (s.size : Int) ≤ 255
    · go_enter Try.func51, Try.ntmps51
      go_wp2
      go_ret
      exact ⟨ret_bool (by simp; omega), rfl⟩
    · go_enter Try.func51, Try.ntmps51
      go_wp2
      go_ret
      exact ⟨ret_bool (by simp; omega), rfl⟩
  · go_enter Try.func51, Try.ntmps51
    go_wp2
    go_ret
    exact ⟨ret_bool (by simp; omega), rfl⟩
end Go.Proofs.Yticpldjcmhpjoaa

namespace Go.Proofs.Yticpldjcmhpjoaa
open Go.RowKit
set_option linter.unusedVariables false
set_option linter.unusedSimpArgs false

/-- nothing but draws -/
def OnlyP (v : Value) (w : World) (e : Ending) (w' : World) : Prop := e = .returned v ∧ Below w.heap.size w w'
theorem find_nil (s : ByteArray) (w : World) : Calls Try.prog 33 #[.pointer none, .string s] w (OnlyP (.tuple #[.slice none 0 0, .int .i64 1]) w) := by
  go_enter Try.func33, Try.ntmps33
  go_wp2
  refine bodyPost_ret (v := .tuple #[.slice none 0 0, .int .i64 1]) (by simp [results, Try.results33, go_sem]) rfl ?_
  exact ⟨rfl, Below.refl _ _⟩
theorem read_nil (s : ByteArray) (at_ n : Int) (w : World) : Calls Try.prog 14 #[.pointer none, .string s, .int .i64 at_, .int .i64 n] w (OnlyP (.tuple #[.slice none 0 0, .int .i64 1]) w) := by
  have FN := Lib.hid (find_nil s)
  go_enter Try.func14, Try.ntmps14
  go_wp2_with fail
  refine (FN.out _).mono ?_
  rintro e w2 ⟨rfl, g2⟩
  have G2 := Lib.hid g2
  clear g2
  go_wp2
  refine bodyPost_ret (v := .tuple #[.slice none 0 0, .int .i64 1]) (by simp [results, Try.results14, go_sem]) rfl ?_
  exact ⟨rfl, G2.out⟩
theorem size_nil (s : ByteArray) (w : World) : Calls Try.prog 25 #[.pointer none, .string s] w (OnlyP (.tuple #[.int .i64 0, .int .i64 1]) w) := by
  have FN := Lib.hid (find_nil s)
  go_enter Try.func25, Try.ntmps25
  go_wp2_with fail
  refine (FN.out _).mono ?_
  rintro e w2 ⟨rfl, g2⟩
  have G2 := Lib.hid g2
  clear g2
  go_wp2
  refine bodyPost_ret (v := .tuple #[.int .i64 0, .int .i64 1]) (by simp [results, Try.results25, go_sem]) rfl ?_
  exact ⟨rfl, G2.out⟩
theorem sync_nil (w : World) : Calls Try.prog 22 #[.pointer none] w (OnlyP (.tuple #[]) w) := by
  go_enter Try.func22, Try.ntmps22
  go_wp2
  go_end0
  exact ⟨rfl, Below.refl _ _⟩
theorem crash_nil (n m : Int) (w : World) : Calls Try.prog 24 #[.pointer none, .int .i64 n, .int .i64 m] w (OnlyP (.tuple #[]) w) := by
  go_enter Try.func24, Try.ntmps24
  go_wp2
  go_end0
  exact ⟨rfl, Below.refl _ _⟩
theorem create_nil (s : ByteArray) (a : Option Addr) (n c : Nat) (w : World) : Calls Try.prog 10 #[.pointer none, .string s, .slice a n c] w (OnlyP (.int .i64 1) w) := by
  go_enter Try.func10, Try.ntmps10
  go_wp2
  go_ret
  exact ⟨rfl, Below.refl _ _⟩
theorem remove_nil (s : ByteArray) (w : World) : Calls Try.prog 26 #[.pointer none, .string s] w (OnlyP (.int .i64 1) w) := by
  have FN := Lib.hid (find_nil s)
  go_enter Try.func26, Try.ntmps26
  go_wp2_with fail
  refine (FN.out _).mono ?_
  rintro e w2 ⟨rfl, g2⟩
  have G2 := Lib.hid g2
  clear g2
  go_wp2
  go_ret
  exact ⟨rfl, G2.out⟩
theorem write_nil (s : ByteArray) (at_ : Int) (a : Option Addr) (n c : Nat) (w : World) : Calls Try.prog 11 #[.pointer none, .string s, .int .i64 at_, .slice a n c] w (OnlyP (.int .i64 1) w) := by
  have FN := Lib.hid (find_nil s)
  go_enter Try.func11, Try.ntmps11
  go_wp2_with fail
  refine (FN.out _).mono ?_
  rintro e w2 ⟨rfl, g2⟩
  have G2 := Lib.hid g2
  clear g2
  go_wp2
  go_ret
  exact ⟨rfl, G2.out⟩
theorem list_nil (w : World) : Calls Try.prog 27 #[.pointer none] w (OnlyP (.slice none 0 0) w) := by
  go_enter Try.func27, Try.ntmps27
  go_wp2
  go_ret
  exact ⟨rfl, Below.refl _ _⟩
theorem pending_nil (w : World) : Calls Try.prog 28 #[.pointer none] w (OnlyP (.int .i64 0) w) := by
  go_enter Try.func28, Try.ntmps28
  go_wp2
  go_ret
  exact ⟨rfl, Below.refl _ _⟩
theorem used_nil (w : World) : Calls Try.prog 20 #[.pointer none] w (OnlyP (.int .i64 0) w) := by
  go_enter Try.func20, Try.ntmps20
  go_wp2
  go_ret
  exact ⟨rfl, Below.refl _ _⟩
end Go.Proofs.Yticpldjcmhpjoaa

namespace Go.Proofs.Yticpldjcmhpjoaa
open Go.RowKit
set_option linter.unusedVariables false
set_option linter.unusedSimpArgs false

/-- how many bytes rows have; more than most: one more -/
def totF (most : Int) : Int → List (List UInt8) → Int
  | n, [] => n
  | n, l :: r => if most - n < (l.length : Int) then most + 1 else totF most (n + l.length) r
theorem add_plain (b o i : Nat) : (⟨b, o, none⟩ : Addr).add i = ⟨b, o + i, none⟩ := by unfold Addr.add; split <;> simp_all
theorem total_any (most : Int) (hm : 0 ≤ most ∧ most ≤ 1073741824) (b o N c : Nat) (a : Option Addr) (vs : List Value) (ls : List (List UInt8)) (w : World) (hn : ls.length = N) (hN9 : N ≤ 1000000) (ha : 0 < N → a = some ⟨b, o, none⟩) (hP : Lib.PartsAt w ⟨b, o, none⟩ vs ls) :
    Calls Try.prog 30 #[.int .i64 most, .slice a N c] w (OnlyP (.int .i64 (totF most 0 ls)) w) := by
  obtain ⟨T, hT⟩ : ∃ T, T = totF most 0 ls := ⟨_, rfl⟩
  rw [← hT]
  have HT := Lib.hid hT
  have HP := Lib.hid hP
  have HA := Lib.hid ha
  have HN := Lib.hid hn
  have k0 := hm.1
  have k1 := hm.2
  clear hT hP ha hn hm
  go_enter Try.func30, Try.ntmps30
  go_wp2
  go_loop [5, 10] (fun n i => ∃ (j : Nat) (m : Int), j ≤ N ∧ n = .int .i64 m ∧ i = .int .i64 j ∧ 0 ≤ m ∧ m ≤ most ∧ Hid (T = totF most m (ls.drop j))) (fun _ i => N - (intOf i).toNat)
  case atStart => exact ⟨0, 0, by omega, rfl, rfl, by omega, by omega, HT⟩
  case round =>
    obtain ⟨j, m, hj, rfl, rfl, m0, m1, HJ⟩ := hrel
    have j0 : (0 : Int) ≤ (j : Int) := by omega
    by_cases hlt : j < N
    · have j1 : (j : Int) < (N : Int) := by omega
      obtain ⟨p, cap, l, hl, hc, _, _⟩ := HP.out.get j (by rw [HN.out]; exact hlt)
      have e : (⟨b, o, none⟩ : Addr).add j = ⟨b, o + j, none⟩ := add_plain b o j
      have hd : ls.drop j = l :: ls.drop (j + 1) := by
        obtain ⟨h1, h2⟩ := List.getElem?_eq_some_iff.1 hl
        rw [← h2]
        exact List.drop_eq_getElem_cons h1
      have hTJ := HJ.out
      rw [hd] at hTJ
      unfold totF at hTJ
      have HTJ := Lib.hid hTJ
      obtain ⟨k, hk⟩ : ∃ k, k = l.length := ⟨_, rfl⟩
      rw [e, ← hk] at hc
      have HK := Lib.hid hk
      have haa := HA.out (by omega)
      subst haa
      clear hl hd hTJ hk e
      by_cases hg : most - m < (k : Int)
      · go_wp2
        go_ret
        refine ⟨?_, Below.refl _ _⟩
        rw [HTJ.out, if_pos (by rw [← HK.out]; exact hg)]
        rfl
      · go_wp2
        go_round
        case rel =>
          refine ⟨j + 1, m + k, by omega, rfl, ?_, ?_, ?_, ?_⟩
          · go_num
          · omega
          · omega
          · exact Lib.hid (by rw [HTJ.out, if_neg (by rw [← HK.out]; exact hg), HK.out])
        case measure => simp [intOf]; omega
    · have j1 : ¬ (j : Int) < (N : Int) := by omega
      have hTe : T = m := by
        rw [HJ.out, List.drop_eq_nil_of_le (by rw [HN.out]; omega)]
        rfl
      subst hTe
      go_wp2
      go_ret
      exact ⟨rfl, Below.refl _ _⟩
end Go.Proofs.Yticpldjcmhpjoaa

namespace Go.Proofs.Yticpldjcmhpjoaa
open Go.RowKit Go.ChangeMaps
set_option linter.unusedVariables false
set_option linter.unusedSimpArgs false

def rawE (v : Value) : Option (DataW Value × List MemPlace) := some (.held v, [])
theorem rawE_inv {v u : Value} {ps : List MemPlace} (h : rawE v = some (.held u, ps)) : v = u := by
  unfold rawE at h
  injection h with h
  injection h with h _
  injection h
def keyL (s : ByteArray) : Lit := .string s.data.toList
theorem keyL_ok (s : ByteArray) : WideAt.IsKeyLit (keyL s) := by first | trivial | simp [WideAt.IsKeyLit, keyL]
theorem keyL_inj {s t : ByteArray} (h : keyL s = keyL t) : s = t := by
  unfold keyL at h
  injection h with h
  apply ByteArray.ext
  exact Array.toList_inj.1 h
theorem keyed9 : Maps.Keyed Try.prog 9 := Maps.string_keyed Try.underlying9
/-- block mb is a map of at most n entries; at each name it holds what f says -/
def MapV (w : World) (mb n : Nat) (f : ByteArray → Option Value) : Prop :=
  ∃ D : DataW Value, w.ownsMap Try.prog 9 rawE mb n D ∧ Maps.Tidy D ∧ ∀ s, D.atKey (keyL s) (.held (.slice none 0 0)) = .held ((f s).getD (.slice none 0 0)) ∧ Maps.has D (keyL s) = (f s).isSome
theorem mapV_new (w : World) : MapV (w.alloc (.map #[] 0)) w.heap.size 0 (fun _ => none) := ⟨.map [], World.ownsMap_made w _ _ _, Maps.tidy_empty, fun s => ⟨rfl, rfl⟩⟩
theorem mapV_look {w : World} {mb n : Nat} {f : ByteArray → Option Value} (h : MapV w mb n f) (s : ByteArray) (hs : s.size ≤ maxLen) :
    (Instr.lookup 56 (.map (some mb)) (.string s) true).run Try.prog w = .ok (.tuple #[(f s).getD (.slice none 0 0), .bool (f s).isSome]) w := by
  obtain ⟨D, h1, h2, h3⟩ := h
  obtain ⟨v, ps, hrun, hv⟩ := h1.look_ok keyed9 Try.underlying56 (Try.zeroValue22 w) (show rawE (.slice none 0 0) = some (.held (.slice none 0 0), []) from rfl) (WideMaps.keyOf_string_mk Try.underlying9 hs)
  obtain ⟨e1, e2⟩ := h3 s
  unfold keyL at e1 e2
  rw [e1] at hv
  rw [e2, rawE_inv hv] at hrun
  exact hrun
theorem mapV_store {w : World} {mb n : Nat} {f : ByteArray → Option Value} (h : MapV w mb n f) (s : ByteArray) (hs : s.size ≤ maxLen) (u : Value) (hn : n < maxLen) :
    ∃ w', (Instr.mapUpdate 56 (.map (some mb)) (.string s) u).run Try.prog w = .ok () w' ∧ MapV w' mb (n + 1) (fun t => if t = s then some u else f t) ∧ w.mapTurned w' mb := by
  obtain ⟨D, h1, h2, h3⟩ := h
  obtain ⟨w', hrun, h4, h5⟩ := h1.store keyed9 Try.underlying56 hn (WideMaps.keyOf_string_mk Try.underlying9 hs) (show rawE u = some (.held u, []) from rfl)
  refine ⟨w', hrun, ⟨_, h4, h2.put (keyL_ok s) _, fun t => ?_⟩, h5⟩
  simp only
  by_cases e : t = s
  · subst e
    rw [if_pos rfl]
    exact ⟨Maps.atKey_put_same h2.isMap (keyL_ok t) _ _, Maps.has_put_same h2.isMap (keyL_ok t) _⟩
  · rw [if_neg e]
    have hne : keyL t ≠ keyL s := fun h => e (keyL_inj h)
    exact ⟨(Maps.atKey_put_other hne _ _).trans (h3 t).1, (Maps.has_put_other hne _).trans (h3 t).2⟩
theorem mapV_drop {w : World} {mb n : Nat} {f : ByteArray → Option Value} (h : MapV w mb n f) (s : ByteArray) (hs : s.size ≤ maxLen) (ty : TypeId) :
    ∃ w', (Builtin.delete_ #[56, 9] ty #[.map (some mb), .string s]).run Try.prog w = .ok (.tuple #[]) w' ∧ MapV w' mb n (fun t => if t = s then none else f t) ∧ w.mapTurned w' mb := by
  obtain ⟨D, h1, h2, h3⟩ := h
  obtain ⟨w', hrun, h4, h5⟩ := h1.drop keyed9 Try.underlying56 (WideMaps.keyOf_string_mk Try.underlying9 hs) ty
  refine ⟨w', hrun, ⟨_, h4, h2.del _, fun t => ?_⟩, h5⟩
  simp only
  by_cases e : t = s
  · subst e
    rw [if_pos rfl]
    exact ⟨Maps.atKey_del_same _, Maps.has_del_same⟩
  · rw [if_neg e]
    have hne : keyL t ≠ keyL s := fun h => e (keyL_inj h)
    exact ⟨(Maps.atKey_del_other hne _).trans (h3 t).1, (Maps.has_del_other hne).trans (h3 t).2⟩
end Go.Proofs.Yticpldjcmhpjoaa

namespace Go.Proofs.Yticpldjcmhpjoaa
open Go.RowKit
set_option linter.unusedVariables false
set_option linter.unusedSimpArgs false

/-- what find answers -/
def findR (f : ByteArray → Option Value) (s : ByteArray) : Value × Int :=
  if isB s then (match f s with | some v => (v, 0) | none => (.slice none 0 0, 5)) else (.slice none 0 0, 1)
theorem find_any (s : ByteArray) (fb mb n : Nat) (f : ByteArray → Option Value) (w : World) (h2 : w.cell? ⟨fb, 2, none⟩ = some (.map (some mb))) (hm : MapV w mb n f) :
    Calls Try.prog 33 #[.pointer (some ⟨fb, 0, none⟩), .string s] w (OnlyP (.tuple #[(findR f s).1, .int .i64 (findR f s).2]) w) := by
  have IS := Lib.hid (isName_any s)
  obtain ⟨R, hR⟩ : ∃ R, R = findR f s := ⟨_, rfl⟩
  rw [← hR]
  unfold findR at hR
  cases hb : isB s with
  | false =>
    rw [hb] at IS hR
    have HR := Lib.hid hR
    clear hm hR hb
    go_enter Try.func33, Try.ntmps33
    go_wp2_with fail
    refine (IS.out _).mono ?_
    rintro e w2 ⟨rfl, rfl⟩
    go_wp2
    refine bodyPost_ret (v := .tuple #[.slice none 0 0, .int .i64 1]) (by simp [results, Try.results33, go_sem]) rfl ?_
    exact ⟨by rw [HR.out]; rfl, Below.refl _ _⟩
  | true =>
    have hs : s.size ≤ maxLen := by
      unfold isB at hb
      simp at hb
      unfold maxLen
      omega
    have LK := mapV_look hm s hs
    rw [hb] at IS hR
    simp only [if_true] at hR
    cases hf : f s with
    | none =>
      rw [hf] at LK hR
      have HR := Lib.hid hR
      simp only [Option.getD_none, Option.isSome_none] at LK
      clear hm hR hb hf hs
      go_enter Try.func33, Try.ntmps33
      go_wp2_with fail
      refine (IS.out _).mono ?_
      rintro e w2 ⟨rfl, rfl⟩
      go_wp2
      refine bodyPost_ret (v := .tuple #[.slice none 0 0, .int .i64 5]) (by simp [results, Try.results33, go_sem]) rfl ?_
      exact ⟨by rw [HR.out], Below.refl _ _⟩
    | some v =>
      rw [hf] at LK hR
      have HR := Lib.hid hR
      simp only [Option.getD_some, Option.isSome_some] at LK
      clear hm hR hb hf hs
      go_enter Try.func33, Try.ntmps33
      go_wp2_with fail
      refine (IS.out _).mono ?_
      rintro e w2 ⟨rfl, rfl⟩
      go_wp2
      refine bodyPost_ret (v := .tuple #[v, .int .i64 0]) (by simp [results, Try.results33, go_sem]) rfl ?_
      exact ⟨by rw [HR.out], Below.refl _ _⟩
end Go.Proofs.Yticpldjcmhpjoaa

namespace Go.Proofs.Yticpldjcmhpjoaa
open Go.RowKit
set_option linter.unusedVariables false
set_option linter.unusedSimpArgs false

theorem size_any (s : ByteArray) (fb mb n : Nat) (f : ByteArray → Option Value) (w : World) (h2 : w.cell? ⟨fb, 2, none⟩ = some (.map (some mb))) (hm : MapV w mb n f) (a : Option Addr) (k c : Nat) (e : Int) (hR : findR f s = (.slice a k c, e)) :
    Calls Try.prog 25 #[.pointer (some ⟨fb, 0, none⟩), .string s] w (OnlyP (.tuple #[.int .i64 k, .int .i64 e]) w) := by
  have FN := find_any s fb mb n f w h2 hm
  rw [hR] at FN
  have FN := Lib.hid FN
  clear hm hR h2
  go_enter Try.func25, Try.ntmps25
  go_wp2_with fail
  refine FN.out.mono ?_
  rintro _ w2 ⟨rfl, g2⟩
  have G2 := Lib.hid g2
  clear g2
  go_wp2
  refine bodyPost_ret (v := .tuple #[.int .i64 k, .int .i64 e]) (by simp [results, Try.results25, go_sem]) rfl ?_
  exact ⟨rfl, G2.out⟩
end Go.Proofs.Yticpldjcmhpjoaa

namespace Go.Proofs.Yticpldjcmhpjoaa
open Go.RowKit
set_option linter.unusedVariables false
set_option linter.unusedSimpArgs false

theorem new_bad (room : Int) (hr : room < 0 ∨ 1073741824 < room) (w : World) : Calls Try.prog 8 #[.int .i64 room] w (OnlyP (.tuple #[.pointer none, .int .i64 1]) w) := by
  by_cases h1 : room < 0
  · go_enter Try.func8, Try.ntmps8
    go_wp2
    refine bodyPost_ret (v := .tuple #[.pointer none, .int .i64 1]) (by simp [results, Try.results8, go_sem]) rfl ?_
    exact ⟨rfl, Below.refl _ _⟩
  · have h2 : 1073741824 < room := by omega
    go_enter Try.func8, Try.ntmps8
    go_wp2
    refine bodyPost_ret (v := .tuple #[.pointer none, .int .i64 1]) (by simp [results, Try.results8, go_sem]) rfl ?_
    exact ⟨rfl, Below.refl _ _⟩
/-- the world behind New -/
def newW (room : Int) (w : World) : World := (((w.alloc (.map #[] 0)).alloc (.cells #[.slice none 0 0, .map (some w.heap.size)] 59)).alloc (.map #[] 0)).alloc (.cells #[.pointer (some ⟨w.heap.size + 1, 0, none⟩), .int .i64 room, .map (some (w.heap.size + 2))] 61)
theorem new_any (room : Int) (h0 : 0 ≤ room) (h1 : room ≤ 1073741824) (w : World) : Calls Try.prog 8 #[.int .i64 room] w fun e w' => e = .returned (.tuple #[.pointer (some ⟨w.heap.size + 3, 0, none⟩), .int .i64 0]) ∧ w' = newW room w := by
  have hmm := @run_makeMap Try.prog
  go_enter Try.func8, Try.ntmps8
  go_wp2
  refine bodyPost_ret (v := .tuple #[.pointer (some ⟨w.heap.size + 3, 0, none⟩), .int .i64 0]) (by simp [results, Try.results8, go_sem]) rfl ?_
  exact ⟨rfl, rfl⟩
end Go.Proofs.Yticpldjcmhpjoaa
