/-
  The walks of find, Size, Remove, Read, WriteAt over an FS in memory. / The walk of Read. / The walk of WriteAt.
-/
import Derived.Test.YticpldjcmhpjoaaQe
namespace Go.Proofs.Yticpldjcmhpjoaa
open Go.RowKit
set_option linter.unusedVariables false
set_option linter.unusedSimpArgs false

def findD (D : Doc) (s : ByteArray) : List UInt8 × Int := if isB s then (match look D.now s with | some l => (l, 0) | none => ([], 5)) else ([], 1)
theorem findD_cases (D : Doc) (s : ByteArray) : findD D s = ([], 1) ∨ findD D s = ([], 5) ∨ ∃ l, findD D s = (l, 0) ∧ isB s = true ∧ look D.now s = some l := by
  unfold findD
  cases hb : isB s with
  | false => left; rfl
  | true =>
    cases hl : look D.now s with
    | none => right; left; rfl
    | some l => right; right; exact ⟨l, rfl, rfl, rfl⟩
theorem find2_any {P : Nat → Prop} (fb K : Nat) (D : Doc) (s : ByteArray) (w : World) (hS : FsAt P w fb D.fs K) :
    Calls Try.prog 33 #[.pointer (some ⟨fb, 0, none⟩), .string s] w fun e w' => ∃ a c, e = .returned (.tuple #[.slice a (findD D s).1.length c, .int .i64 (findD D s).2]) ∧ Hid (BytesIn P w' (.slice a (findD D s).1.length c) (findD D s).1) ∧ Grow w w' := by
  obtain ⟨pb, mb, sb, n, m, cv, cs, hM, hnK, hmK⟩ := hS
  have f2 : w.cell? ⟨fb, 2, none⟩ = some (.map (some mb)) := by rw [cell_blk hM.hf]; rfl
  obtain ⟨f, hmv, hfl⟩ := hM.now
  refine (find_any s fb mb n f w f2 hmv).mono ?_
  rintro e w' ⟨rfl, hg⟩
  unfold findR findD
  cases hb : isB s with
  | false => exact ⟨none, 0, rfl, Lib.hid (.inl ⟨rfl, rfl⟩), hg⟩
  | true =>
    cases hl : look D.now s with
    | none =>
      have := (hfl s).1 hl
      simp only [this, if_true]
      exact ⟨none, 0, rfl, Lib.hid (.inl ⟨rfl, rfl⟩), hg⟩
    | some l =>
      obtain ⟨v, h1, h2⟩ := (hfl s).2 l hl
      obtain ⟨a, c, rfl⟩ := h2.shape
      simp only [h1, if_true]
      exact ⟨a, c, rfl, Lib.hid (h2.turn (Turn.of_grow (P := fun _ => False) hg)), hg⟩
theorem size2_any {P : Nat → Prop} (fb K : Nat) (D : Doc) (s : ByteArray) (w : World) (hS : FsAt P w fb D.fs K) :
    Calls Try.prog 25 #[.pointer (some ⟨fb, 0, none⟩), .string s] w (OnlyP (.tuple #[.int .i64 ((findD D s).1.length : Int), .int .i64 (findD D s).2]) w) := by
  have FN := find2_any fb K D s w hS
  obtain ⟨k, hk⟩ : ∃ k, k = (findD D s).1.length := ⟨_, rfl⟩
  obtain ⟨er, her⟩ : ∃ er, er = (findD D s).2 := ⟨_, rfl⟩
  rw [← hk, ← her] at FN ⊢
  have FN := Lib.hid FN
  clear hS hk her
  go_enter Try.func25, Try.ntmps25
  go_wp2_with fail
  refine FN.out.mono ?_
  rintro _ w2 ⟨a, c, rfl, hb, g2⟩
  have G2 := Lib.hid g2
  clear g2 hb
  go_wp2
  refine bodyPost_ret (v := .tuple #[.int .i64 k, .int .i64 er]) (by simp [results, Try.results25, go_sem]) rfl ?_
  exact ⟨rfl, G2.out⟩
def removeD (D : Doc) (s : ByteArray) : Int × Doc := if (findD D s).2 = 0 then (0, D.did ⟨2, s, 0, []⟩) else ((findD D s).2, D)
theorem FsP.only {P : Nat → Prop} {w w' : World} {fb K : Nat} {D : Doc} {v : Value} (h : FsAt P w fb D.fs K) (hg : Grow w w') : FsP P fb K v D w (.returned v) w' := ⟨rfl, h.more hg, Turn.of_grow hg⟩
set_option maxHeartbeats 2000000 in
theorem remove_any {P : Nat → Prop} (fb K : Nat) (D : Doc) (s : ByteArray) (w : World) (hS : FsAt P w fb D.fs K) (hG : Good D) (hK : K ≤ 1000000) :
    Calls Try.prog 26 #[.pointer (some ⟨fb, 0, none⟩), .string s] w (FsP P fb K (.int .i64 (removeD D s).1) (removeD D s).2 w) := by
  have FN := find2_any fb K D s w hS
  have HS := Lib.hid hS
  unfold removeD
  rcases findD_cases D s with h | h | ⟨l, h, hb, hl⟩
  · rw [h] at FN ⊢
    have FN := Lib.hid FN
    clear hS h hG
    go_enter Try.func26, Try.ntmps26
    go_wp2_with fail
    refine FN.out.mono ?_
    rintro _ w2 ⟨a, c, rfl, hb, g2⟩
    have G2 := Lib.hid g2
    clear g2 hb
    go_wp2
    go_ret
    exact FsP.only HS.out G2.out
  · rw [h] at FN ⊢
    have FN := Lib.hid FN
    clear hS h hG
    go_enter Try.func26, Try.ntmps26
    go_wp2_with fail
    refine FN.out.mono ?_
    rintro _ w2 ⟨a, c, rfl, hb, g2⟩
    have G2 := Lib.hid g2
    clear g2 hb
    go_wp2
    go_ret
    exact FsP.only HS.out G2.out
  · rw [h] at FN ⊢
    have FN := Lib.hid FN
    have HC := Lib.hid (show OkC D.now ⟨2, s, 0, []⟩ from ⟨hb, by simp, .inr (.inr ⟨rfl, l, hl⟩)⟩)
    have hs : s.size ≤ maxLen := by
      unfold isB at hb
      simp at hb
      unfold maxLen
      omega
    have HSZ := Lib.hid hs
    have HSM := Lib.hid (hG.runs.last.small hG.room)
    clear hS h hG hb hl hs
    rw [if_pos rfl]
    go_enter Try.func26, Try.ntmps26
    go_wp2_with fail
    refine FN.out.mono ?_
    rintro _ w2 ⟨a, c, rfl, hb, g2⟩
    have DA := Lib.hid (does_any (P := More P w w2) fb K D.fs ⟨2, s, 0, []⟩ (.slice none 0 0) w2 HC.out.valid ((HS.out.turn (Turn.of_grow (P := fun _ => False) g2) (fun _ _ h => h)).mono (fun k _ h => .inl h)) hK HSZ.out (.inl ⟨rfl, rfl⟩) HC.out.data HSM.out)
    unfold Chg.val at DA
    have G2 := Lib.hid g2
    clear g2 hb
    go_wp2_with fail
    refine DA.out.mono ?_
    rintro e w8 ⟨rfl, hF8, t8⟩
    rw [← fs_did HC.out] at hF8
    have FIN := Lib.hid (FsAt.after G2.out hF8 t8)
    clear hF8 t8
    go_wp2
    go_ret
    exact ⟨rfl, FIN.out.1, FIN.out.2⟩
end Go.Proofs.Yticpldjcmhpjoaa

namespace Go.Proofs.Yticpldjcmhpjoaa
open Go.RowKit
set_option linter.unusedVariables false
set_option linter.unusedSimpArgs false

def readL (l : List UInt8) (at_ n : Int) : List UInt8 × Int := if 0 ≤ at_ ∧ 0 ≤ n ∧ at_ + n ≤ (l.length : Int) then ((l.drop at_.toNat).take n.toNat, 0) else ([], 1)
def readD (D : Doc) (s : ByteArray) (at_ n : Int) : List UInt8 × Int := if (findD D s).2 = 0 then readL (findD D s).1 at_ n else ([], (findD D s).2)
def ReadP (v : List UInt8 × Int) (w : World) (e : Ending) (w' : World) : Prop := ∃ u, e = .returned (.tuple #[u, .int .i64 v.2]) ∧ OwnL w.heap.size w' u v.1 ∧ Grow w w'
theorem clone_sub {P : Nat → Prop} (a : Option Addr) (c : Nat) (l : List UInt8) (i n : Nat) (w : World) (h : BytesIn P w (.slice a l.length c) l) (hi : i + n ≤ l.length) (hl : l.length ≤ 140737488355328) :
    (a = none → Calls Try.prog 34 #[.slice none 0 0] w fun e w' => ∃ v', e = .returned v' ∧ Hid (OwnL w.heap.size w' v' ((l.drop i).take n)) ∧ Below w.heap.size w w') ∧
    (∀ g, a = some ⟨g, 0, none⟩ → ∀ cc, Calls Try.prog 34 #[.slice (if c = i then some ⟨g, 0, none⟩ else some ⟨g, i, none⟩) n cc] w fun e w' => ∃ v', e = .returned v' ∧ Hid (OwnL w.heap.size w' v' ((l.drop i).take n)) ∧ Below w.heap.size w w') := by
  have hn : ((l.drop i).take n).length = n := by simp; omega
  rcases h with ⟨hv, rfl⟩ | ⟨g', c', hv, h2, hpg, hlc⟩
  · injection hv with hv1 hv2 hv3
    subst hv1
    refine ⟨fun _ => ?_, (fun g hg => (by cases hg))⟩
    refine (Try.bytes_Clone_nil 0 0 w).mono ?_
    rintro e w' ⟨rfl, rfl⟩
    simp only [List.length_nil] at hi
    obtain rfl : n = 0 := by omega
    exact ⟨_, rfl, Lib.hid (show OwnL _ _ _ _ from ⟨by simp [u8s], .inl ⟨rfl, by simp⟩⟩), Below.refl _ _⟩
  · injection hv with hv1 hv2 hv3
    subst hv1
    refine ⟨(fun hg => (by cases hg)), fun g hg cc => ?_⟩
    injection hg with hg
    injection hg with hg
    subst hg
    have key : ∀ ad : Addr, (∀ j, j < n → w.cell? (ad.add j) = some (.int .u8 (((((l.drop i).take n).map fun x => (x.toNat : Int))).getD j 0))) → Calls Try.prog 34 #[.slice (some ad) n cc] w fun e w' => ∃ v', e = .returned v' ∧ Hid (OwnL w.heap.size w' v' ((l.drop i).take n)) ∧ Below w.heap.size w w' := fun ad hc => by
      refine (Try.bytes_Clone_at ad n cc (((l.drop i).take n).map fun x => (x.toNat : Int)) w (by rw [List.length_map, hn]) (by omega) hc).mono ?_
      rintro e w' ⟨v', rfl, h3, _, h5⟩
      refine ⟨v', rfl, Lib.hid ?_, h5⟩
      unfold OwnL u8s
      rw [List.map_map] at h3
      rw [hn]
      exact h3
    by_cases hci : c = i
    · rw [if_pos hci]
      refine key _ (fun j hj => ?_)
      exfalso
      subst hv3
      omega
    · rw [if_neg hci]
      refine key _ (fun j hj => ?_)
      have e : ((l.drop i).take n)[j]? = l[i + j]? := by rw [List.getElem?_take, if_pos hj, List.getElem?_drop]
      have hlt : i + j < l.length := by omega
      rw [add_plain, h2 (i + j) l[i + j] (List.getElem?_eq_getElem hlt)]
      rw [List.getElem?_eq_getElem hlt] at e
      have e2 : (((l.drop i).take n).map fun x => (x.toNat : Int)).getD j 0 = (l[i + j].toNat : Int) := by rw [List.getD, List.getElem?_map, e]; rfl
      rw [e2]
theorem OwnL.weaken {B B' : Nat} {w : World} {v : Value} {l : List UInt8} (h : OwnL B w v l) (hb : B' ≤ B) : OwnL B' w v l := by
  refine ⟨h.1, ?_⟩
  rcases h.2 with h2 | ⟨g, cap, cur, h3, h4, h5⟩
  · exact .inl h2
  · exact .inr ⟨g, cap, cur, h3, by omega, h5⟩
set_option maxHeartbeats 2000000 in
theorem read_any {P : Nat → Prop} (fb K : Nat) (D : Doc) (s : ByteArray) (at_ n : Int) (w : World) (hS : FsAt P w fb D.fs K) (hG : Good D) (h1 : -9223372036854775808 ≤ at_ ∧ at_ ≤ 9223372036854775807) (h2 : -9223372036854775808 ≤ n ∧ n ≤ 9223372036854775807) :
    Calls Try.prog 14 #[.pointer (some ⟨fb, 0, none⟩), .string s, .int .i64 at_, .int .i64 n] w (ReadP (readD D s at_ n) w) := by
  have FN := find2_any fb K D s w hS
  unfold readD
  have nilOwn : ∀ w' : World, OwnL w.heap.size w' (.slice none 0 0) [] := fun w' => ⟨rfl, .inl ⟨rfl, rfl⟩⟩
  rcases findD_cases D s with h | h | ⟨l, h, hb, hl⟩
  · rw [h] at FN ⊢
    have FN := Lib.hid FN
    have NO := Lib.hid nilOwn
    clear hS h hG nilOwn
    go_enter Try.func14, Try.ntmps14
    go_wp2_with fail
    refine FN.out.mono ?_
    rintro _ w2 ⟨a, c, rfl, hb, g2⟩
    have G2 := Lib.hid g2
    clear g2 hb
    go_wp2
    refine bodyPost_ret (v := .tuple #[.slice none 0 0, .int .i64 1]) (by simp [results, Try.results14, go_sem]) rfl ?_
    exact ⟨_, rfl, NO.out _, G2.out⟩
  · rw [h] at FN ⊢
    have FN := Lib.hid FN
    have NO := Lib.hid nilOwn
    clear hS h hG nilOwn
    go_enter Try.func14, Try.ntmps14
    go_wp2_with fail
    refine FN.out.mono ?_
    rintro _ w2 ⟨a, c, rfl, hb, g2⟩
    have G2 := Lib.hid g2
    clear g2 hb
    go_wp2
    refine bodyPost_ret (v := .tuple #[.slice none 0 0, .int .i64 5]) (by simp [results, Try.results14, go_sem]) rfl ?_
    exact ⟨_, rfl, NO.out _, G2.out⟩
  · have hsm := (hG.runs.last.small hG.room) _ _ hl
    rw [h] at FN ⊢
    rw [if_pos rfl]
    obtain ⟨k, hk⟩ : ∃ k, k = l.length := ⟨_, rfl⟩
    obtain ⟨R, hR⟩ : ∃ R, R = readL l at_ n := ⟨_, rfl⟩
    rw [← hR]
    unfold readL at hR
    simp only at FN
    have SUB := Lib.hid (fun (w2 : World) (a : Option Addr) (c i m : Nat) (hh : Hid (BytesIn P w2 (.slice a l.length c) l)) (hi : i + m ≤ l.length) => clone_sub (P := P) a c l i m w2 hh.out hi (by omega))
    rw [← hk] at FN hsm hR SUB
    have FN := Lib.hid FN
    have NO := Lib.hid nilOwn
    have HR := Lib.hid hR
    have SH := Lib.hid (show ∀ (w2 : World) (a : Option Addr) (c : Nat), BytesIn P w2 (.slice a k c) l → (a = none ∧ k = 0 ∧ c = 0) ∨ ∃ g, a = some ⟨g, 0, none⟩ ∧ k ≤ c from fun w2 a c hh => by
      rcases hh with ⟨hv, hl0⟩ | ⟨g, c', hv, _, _, hlc⟩
      · injection hv with hv1 hv2 hv3
        exact .inl ⟨hv1, hv2, hv3⟩
      · injection hv with hv1 hv2 hv3
        subst hv3
        exact .inr ⟨g, hv1, by omega⟩)
    clear hS h hG nilOwn hb hl hk hR
    by_cases c1 : at_ < 0
    · rw [if_neg (by omega)] at HR
      have c1' : ¬ (0 ≤ at_) := by omega
      go_enter Try.func14, Try.ntmps14
      go_wp2_with fail
      refine FN.out.mono ?_
      rintro _ w2 ⟨a, c, rfl, hb, g2⟩
      have G2 := Lib.hid g2
      clear g2 hb
      go_wp2
      refine bodyPost_ret (v := .tuple #[.slice none 0 0, .int .i64 1]) (by simp [results, Try.results14, go_sem]) rfl ?_
      rw [HR.out]
      exact ⟨_, rfl, NO.out _, G2.out⟩
    · by_cases c2 : n < 0
      · rw [if_neg (by omega)] at HR
        go_enter Try.func14, Try.ntmps14
        go_wp2_with fail
        refine FN.out.mono ?_
        rintro _ w2 ⟨a, c, rfl, hb, g2⟩
        have G2 := Lib.hid g2
        clear g2 hb
        go_wp2
        refine bodyPost_ret (v := .tuple #[.slice none 0 0, .int .i64 1]) (by simp [results, Try.results14, go_sem]) rfl ?_
        rw [HR.out]
        exact ⟨_, rfl, NO.out _, G2.out⟩
      · obtain ⟨i, rfl⟩ := Int.eq_ofNat_of_zero_le (show 0 ≤ at_ by omega)
        obtain ⟨m, rfl⟩ := Int.eq_ofNat_of_zero_le (show 0 ≤ n by omega)
        by_cases c3 : (k : Int) < (i : Int)
        · rw [if_neg (by omega)] at HR
          go_enter Try.func14, Try.ntmps14
          go_wp2_with fail
          refine FN.out.mono ?_
          rintro _ w2 ⟨a, c, rfl, hb, g2⟩
          have G2 := Lib.hid g2
          clear g2 hb
          go_wp2
          refine bodyPost_ret (v := .tuple #[.slice none 0 0, .int .i64 1]) (by simp [results, Try.results14, go_sem]) rfl ?_
          rw [HR.out]
          exact ⟨_, rfl, NO.out _, G2.out⟩
        · have hwr : IntKind.i64.wrap ((k : Int) - (i : Int)) = (k : Int) - (i : Int) := IntWalk.i64_in _ (by omega)
          by_cases c4 : (k : Int) - (i : Int) < (m : Int)
          · rw [if_neg (by omega)] at HR
            go_enter Try.func14, Try.ntmps14
            go_wp2_with fail
            refine FN.out.mono ?_
            rintro _ w2 ⟨a, c, rfl, hb, g2⟩
            have G2 := Lib.hid g2
            clear g2 hb
            go_wp2
            refine bodyPost_ret (v := .tuple #[.slice none 0 0, .int .i64 1]) (by simp [results, Try.results14, go_sem]) rfl ?_
            rw [HR.out]
            exact ⟨_, rfl, NO.out _, G2.out⟩
          · rw [if_pos (by omega)] at HR
            have hwr2 : IntKind.i64.wrap ((i : Int) + (m : Int)) = (i : Int) + (m : Int) := IntWalk.i64_in _ (by omega)
            have him : i + m ≤ k := by omega
            go_enter Try.func14, Try.ntmps14
            go_wp2_with fail
            refine FN.out.mono ?_
            rintro _ w2 ⟨a, c, rfl, hb, g2⟩
            have G2 := Lib.hid g2
            have SB := SUB.out w2 a c i m hb him
            rcases SH.out w2 a c hb.out with ⟨rfl, hk0, rfl⟩ | ⟨g, rfl, hkc⟩
            · have SB2 := Lib.hid (SB.1 rfl)
              have i0 : i = 0 := by omega
              have m0 : m = 0 := by omega
              subst i0
              subst m0
              subst hk0
              clear SB g2 hb SUB SH
              go_wp2_with fail
              refine SB2.out.mono ?_
              rintro e w3 ⟨v3, rfl, h3, g3⟩
              have FIN := Lib.hid (And.intro h3 (Grow.trans2 G2.out g3))
              have Z := G2.out.size
              clear h3 g3
              go_wp2
              refine bodyPost_ret (v := .tuple #[v3, .int .i64 0]) (by simp [results, Try.results14, go_sem]) rfl ?_
              rw [HR.out]
              exact ⟨v3, rfl, FIN.out.1.out.weaken Z, FIN.out.2⟩
            · have SBA := Lib.hid (fun (hci : c = i) cc => by have := SB.2 g rfl cc; rw [if_pos hci] at this; exact this)
              have SBB := Lib.hid (fun (hci : ¬ c = i) cc => by have := SB.2 g rfl cc; rw [if_neg hci] at this; exact this)
              clear SB g2 hb SUB SH
              by_cases hci : c = i
              · have SBX := Lib.hid (SBA.out hci)
                clear SBA SBB
                subst hci
                go_wp2_with fail
                refine (SBX.out _).mono ?_
                rintro e w3 ⟨v3, rfl, h3, g3⟩
                have FIN := Lib.hid (And.intro h3 (Grow.trans2 G2.out g3))
                have Z := G2.out.size
                clear h3 g3
                go_wp2
                refine bodyPost_ret (v := .tuple #[v3, .int .i64 0]) (by simp [results, Try.results14, go_sem]) rfl ?_
                rw [HR.out]
                exact ⟨v3, rfl, FIN.out.1.out.weaken Z, FIN.out.2⟩
              · have SBX := Lib.hid (SBB.out hci)
                clear SBA SBB
                go_wp2_with fail
                refine (SBX.out _).mono ?_
                rintro e w3 ⟨v3, rfl, h3, g3⟩
                have FIN := Lib.hid (And.intro h3 (Grow.trans2 G2.out g3))
                have Z := G2.out.size
                clear h3 g3
                go_wp2
                refine bodyPost_ret (v := .tuple #[v3, .int .i64 0]) (by simp [results, Try.results14, go_sem]) rfl ?_
                rw [HR.out]
                exact ⟨v3, rfl, FIN.out.1.out.weaken Z, FIN.out.2⟩
end Go.Proofs.Yticpldjcmhpjoaa

namespace Go.Proofs.Yticpldjcmhpjoaa
open Go.RowKit
set_option linter.unusedVariables false
set_option linter.unusedSimpArgs false

def writeD (D : Doc) (s : ByteArray) (at_ : Int) (data : List UInt8) : Int × Doc :=
  if (findD D s).2 = 0 then (if 0 ≤ at_ ∧ at_ + (data.length : Int) ≤ ((findD D s).1.length : Int) then (0, D.did ⟨1, s, at_.toNat, data⟩) else (1, D)) else ((findD D s).2, D)
set_option maxHeartbeats 2000000 in
theorem write_any {P : Nat → Prop} (fb K : Nat) (D : Doc) (s : ByteArray) (at_ : Int) (pv : Value) (ls : List (List UInt8)) (w : World) (hS : FsAt P w fb D.fs K) (hG : Good D) (hK : K ≤ 1000000) (hp : PartsIn w pv ls) (hn : ls.length ≤ 1000000) (hl9 : ls.flatten.length ≤ 1073741824) :
    Calls Try.prog 11 #[.pointer (some ⟨fb, 0, none⟩), .string s, .int .i64 at_, pv] w (FsP P fb K (.int .i64 (writeD D s at_ ls.flatten).1) (writeD D s at_ ls.flatten).2 w) := by
  have FN := find2_any fb K D s w hS
  have HS := Lib.hid hS
  have hp' := hp
  obtain ⟨pa, pc, hpv, hpx⟩ := hp'
  clear hpx
  unfold writeD
  rcases findD_cases D s with h | h | ⟨l, h, hb, hl⟩
  · rw [h] at FN ⊢
    have FN := Lib.hid FN
    subst hpv
    clear hS h hG hp
    go_enter Try.func11, Try.ntmps11
    go_wp2_with fail
    refine FN.out.mono ?_
    rintro _ w2 ⟨a, c, rfl, hb, g2⟩
    have G2 := Lib.hid g2
    clear g2 hb
    go_wp2
    go_ret
    exact FsP.only HS.out G2.out
  · rw [h] at FN ⊢
    have FN := Lib.hid FN
    subst hpv
    clear hS h hG hp
    go_enter Try.func11, Try.ntmps11
    go_wp2_with fail
    refine FN.out.mono ?_
    rintro _ w2 ⟨a, c, rfl, hb, g2⟩
    have G2 := Lib.hid g2
    clear g2 hb
    go_wp2
    go_ret
    exact FsP.only HS.out G2.out
  · have hsm := (hG.runs.last.small hG.room) _ _ hl
    rw [h] at FN ⊢
    rw [if_pos rfl]
    obtain ⟨k, hk⟩ : ∃ k, k = l.length := ⟨_, rfl⟩
    obtain ⟨data, hdata⟩ : ∃ data, data = ls.flatten := ⟨_, rfl⟩
    obtain ⟨dl, hdl⟩ : ∃ dl, dl = data.length := ⟨_, rfl⟩
    have TT := Lib.hid (show ∀ W, Grow w W → Calls Try.prog 30 #[.int .i64 1073741824, pv] W (fun e w' => e = .returned (.int .i64 (dl : Int)) ∧ Grow W w') from fun W hW => by
      have := totalp_any pv ls W (hp.grow hW) hn hl9
      rw [← hdata, ← hdl] at this
      exact this)
    have JJ := Lib.hid (show ∀ W, Grow w W → Calls Try.prog 32 #[pv, .slice none 0 0] W fun e w' => ∃ v', e = .returned v' ∧ Hid (BytesIn (fun k => W.heap.size ≤ k) w' v' data) ∧ Grow W w' from fun W hW => by
      refine (join_any pv ls W (hp.grow hW) hn (by omega)).mono ?_
      rintro e w' ⟨v', rfl, h1, h2⟩
      rw [← hdata] at h1
      exact ⟨v', rfl, Lib.hid h1, h2⟩)
    simp only at FN ⊢
    rw [← hdata] at hl9 ⊢
    rw [← hdl] at hl9 ⊢
    have HKL := Lib.hid hk
    rw [← hk] at FN hsm ⊢
    have FN := Lib.hid FN
    have HC := Lib.hid (fun (i : Nat) (hi : i + dl ≤ k) => (show OkC D.now ⟨1, s, i, data⟩ from ⟨hb, by rw [← hdl]; exact hl9, .inr (.inl ⟨rfl, l, hl, by rw [← hdl, ← hk]; exact hi⟩)⟩))
    have hs : s.size ≤ maxLen := by
      unfold isB at hb
      simp at hb
      unfold maxLen
      omega
    have HSZ := Lib.hid hs
    have HSM := Lib.hid (hG.runs.last.small hG.room)
    subst hpv
    clear hS h hG hb hl hk hp hdata hdl hs
    by_cases c1 : at_ < 0
    · rw [if_neg (by omega)]
      go_enter Try.func11, Try.ntmps11
      go_wp2_with fail
      refine FN.out.mono ?_
      rintro _ w2 ⟨a, c, rfl, hb, g2⟩
      have G2 := Lib.hid g2
      clear g2 hb
      go_wp2
      go_ret
      exact FsP.only HS.out G2.out
    · obtain ⟨i, rfl⟩ := Int.eq_ofNat_of_zero_le (show 0 ≤ at_ by omega)
      by_cases c3 : (k : Int) < (i : Int)
      · rw [if_neg (by omega)]
        go_enter Try.func11, Try.ntmps11
        go_wp2_with fail
        refine FN.out.mono ?_
        rintro _ w2 ⟨a, c, rfl, hb, g2⟩
        have G2 := Lib.hid g2
        clear g2 hb
        go_wp2
        go_ret
        exact FsP.only HS.out G2.out
      · have hwr : IntKind.i64.wrap ((k : Int) - (i : Int)) = (k : Int) - (i : Int) := IntWalk.i64_in _ (by omega)
        by_cases c4 : (k : Int) - (i : Int) < (dl : Int)
        · rw [if_neg (by omega)]
          go_enter Try.func11, Try.ntmps11
          go_wp2_with fail
          refine FN.out.mono ?_
          rintro _ w2 ⟨a, c, rfl, hb, g2⟩
          have G2 := Lib.hid g2
          clear g2 hb
          go_wp2_with fail
          refine (TT.out _ G2.out).mono ?_
          rintro _ w3 ⟨rfl, g3⟩
          have G3 := Lib.hid (G2.out.trans2 g3)
          clear g3
          go_wp2
          go_ret
          exact FsP.only HS.out G3.out
        · rw [if_pos (by omega)]
          have HC := Lib.hid (HC.out i (by omega))
          have e9 : ((i : Nat) : Int).toNat = i := by simp
          rw [e9]
          clear e9
          go_enter Try.func11, Try.ntmps11
          go_wp2_with fail
          refine FN.out.mono ?_
          rintro _ w2 ⟨a, c, rfl, hb, g2⟩
          have G2 := Lib.hid g2
          clear g2 hb
          go_wp2_with fail
          refine (TT.out _ G2.out).mono ?_
          rintro _ w3 ⟨rfl, g3⟩
          have G3 := Lib.hid (G2.out.trans2 g3)
          clear g3
          go_wp2_with fail
          refine (JJ.out _ G3.out).mono ?_
          rintro e w7 ⟨v7, rfl, b7, g7⟩
          obtain ⟨a7, c7, hv7⟩ := b7.out.shape
          subst hv7
          have g67 : Grow w w7 := G3.out.trans2 g7
          have hz6 : w.heap.size ≤ w3.heap.size := Grow.size G3.out
          have hF7 : FsAt (More P w w7) w7 fb D.fs K := (HS.out.turn (Turn.of_grow (P := fun _ => False) g67) (fun _ _ h => h)).mono (fun k _ h => .inl h)
          have DA := Lib.hid (does_any (P := More P w w7) fb K D.fs ⟨1, s, i, data⟩ _ w7 HC.out.valid hF7 hK HSZ.out (b7.out.mono (fun k hk h => .inr ⟨by omega, hk⟩)) HC.out.data HSM.out)
          have G67 := Lib.hid g67
          unfold Chg.val at DA
          clear g67 g7 hF7 hz6
          go_wp2_with fail
          refine DA.out.mono ?_
          rintro e w8 ⟨rfl, hF8, t8⟩
          rw [← fs_did HC.out] at hF8
          have FIN := Lib.hid (FsAt.after G67.out hF8 t8)
          clear hF8 t8
          go_wp2
          go_ret
          exact ⟨rfl, FIN.out.1, FIN.out.2⟩
end Go.Proofs.Yticpldjcmhpjoaa
