/-
  The walk of Read.
-/
import Derived.Test.YticpldjcmhpjoaaV19
namespace Go.Proofs.Yticpldjcmhpjoaa
open Go.RowKit
set_option linter.unusedVariables false
set_option linter.unusedSimpArgs false

def readL (l : List UInt8) (at_ n : Int) : List UInt8 × Int := if 0 ≤ at_ ∧ 0 ≤ n ∧ at_ + n ≤ (l.length : Int) then ((l.drop at_.toNat).take n.toNat, 0) else ([], 1)
def readD (D : Doc) (s : ByteArray) (at_ n : Int) : List UInt8 × Int := if (findD D s).2 = 0 then readL (findD D s).1 at_ n else ([], (findD D s).2)
def ReadP (v : List UInt8 × Int) (w : World) (e : Ending) (w' : World) : Prop := ∃ u, e = .returned (.tuple #[u, .int .i64 v.2]) ∧ OwnL w.heap.size w' u v.1 ∧ Grow w w'
theorem clone_sub {P : Nat → Prop} (a : Option Addr) (c : Nat) (l : List UInt8) (i n : Nat) (w : World) (h : BytesIn P w (.slice a l.length c) l) (hi : i + n ≤ l.length) (hl : l.length ≤ 140737488355328) :
    (a = none → Calls Try.prog 34 #[.slice none 0 0] w fun e w' => ∃ v', e = .returned v' ∧ Hid (OwnL w.heap.size w' v' ((l.drop i).take n)) ∧ Below w.heap.size w w') ∧
    (∀ g, a = some ⟨g, 0, none⟩ → ∀ cc, Calls Try.prog 34 #[.slice (if c = i then some ⟨g, 0, none⟩ else some ⟨g, i, none⟩) n cc] w fun e w' => ∃ v', e = .returned v' ∧ Hid (OwnL w.heap.size w' v' ((l.drop i).take n)) ∧ Below w.heap.size w w') := by
  have hn : ((l.drop i).take n).length = n := by simp; omega
  rcases h with ⟨hv, rfl⟩ | ⟨g', c', hv, h2, hpg, hlc⟩
  · injection hv with hv1 hv2 hv3
    subst hv1
    refine ⟨fun _ => ?_, (fun g hg => nomatch hg)⟩
    refine (Try.bytes_Clone_nil 0 0 w).mono ?_
    rintro e w' ⟨rfl, rfl⟩
    simp only [List.length_nil] at hi
    obtain rfl : n = 0 := by omega
    exact ⟨_, rfl, Lib.hid (show OwnL _ _ _ _ from ⟨by simp [u8s], .inl ⟨rfl, by simp⟩⟩), Below.refl _ _⟩
  · injection hv with hv1 hv2 hv3
    subst hv1
    refine ⟨(fun hg => nomatch hg), fun g hg cc => ?_⟩
    injection hg with hg
    injection hg with hg
    subst hg
    have key : ∀ ad : Addr, (∀ j, j < n → w.cell? (ad.add j) = some (.int .u8 (((((l.drop i).take n).map fun x => (x.toNat : Int))).getD j 0))) → Calls Try.prog 34 #[.slice (some ad) n cc] w fun e w' => ∃ v', e = .returned v' ∧ Hid (OwnL w.heap.size w' v' ((l.drop i).take n)) ∧ Below w.heap.size w w' := fun ad hc => by
      refine (Try.bytes_Clone_at ad n cc (((l.drop i).take n).map fun x => (x.toNat : Int)) w (by rw [List.length_map, hn]) (by omega) hc).mono ?_
      rintro e w' ⟨v', rfl, h3, _, h5⟩
      refine ⟨v', rfl, Lib.hid ?_, h5⟩
      unfold OwnL u8s
      rw [List.map_map] at h3
      rw [hn]
      exact h3
    by_cases hci : c = i
    · rw [if_pos hci]
      refine key _ (fun j hj => ?_)
      exfalso
      subst hv3
      omega
    · rw [if_neg hci]
      refine key _ (fun j hj => ?_)
      have e : ((l.drop i).take n)[j]? = l[i + j]? := by rw [List.getElem?_take, if_pos hj, List.getElem?_drop]
      have hlt : i + j < l.length := by omega
      rw [add_plain, h2 (i + j) l[i + j] (List.getElem?_eq_getElem hlt)]
      rw [List.getElem?_eq_getElem hlt] at e
      have e2 : (((l.drop i).take n).map fun x => (x.toNat : Int)).getD j 0 = (l[i + j].toNat : Int) := by rw [List.getD, List.getElem?_map, e]; rfl
      rw [e2]
theorem OwnL.weaken {B B' : Nat} {w : World} {v : Value} {l : List UInt8} (h : OwnL B w v l) (hb : B' ≤ B) : OwnL B' w v l := by
  refine ⟨h.1, ?_⟩
  rcases h.2 with h2 | ⟨g, cap, cur, h3, h4, h5⟩
  · exact .inl h2
  · exact .inr ⟨g, cap, cur, h3, by omega, h5⟩
set_option maxHeartbeats 2000000 in
theorem read_any {P : Nat → Prop} (fb K : Nat) (D : Doc) (s : ByteArray) (at_ n : Int) (w : World) (hS : FsAt P w fb D.fs K) (hG : Good D) (h1 : -9223372036854775808 ≤ at_ ∧ at_ ≤ 9223372036854775807) (h2 : -9223372036854775808 ≤ n ∧ n ≤ 9223372036854775807) :
    Calls Try.prog 14 #[.pointer (some ⟨fb, 0, none⟩), .string s, .int .i64 at_, .int .i64 n] w (ReadP (readD D s at_ n) w) := by
  have FN := find2_any fb K D s w hS
  unfold readD
  have nilOwn : ∀ w' : World, OwnL w.heap.size w' (.slice none 0 0) [] := fun w' => ⟨rfl, .inl ⟨rfl, rfl⟩⟩
  rcases findD_cases D s with h | h | ⟨l, h, hb, hl⟩
  · rw [h] at FN ⊢
    have FN := Lib.hid FN
    have NO := Lib.hid nilOwn
    clear hS h hG nilOwn
    go_enter Try.func14, Try.ntmps14
    go_wp2_with fail
    refine FN.out.mono ?_
    rintro _ w2 ⟨a, c, rfl, hb, g2⟩
    have G2 := Lib.hid g2
    clear g2 hb
    go_wp2
    refine bodyPost_ret (v := .tuple #[.slice none 0 0, .int .i64 1]) (by simp [results, Try.results14, go_sem]) rfl ?_
    exact ⟨_, rfl, NO.out _, G2.out⟩
  · rw [h] at FN ⊢
    have FN := Lib.hid FN
    have NO := Lib.hid nilOwn
    clear hS h hG nilOwn
    go_enter Try.func14, Try.ntmps14
    go_wp2_with fail
    refine FN.out.mono ?_
    rintro _ w2 ⟨a, c, rfl, hb, g2⟩
    have G2 := Lib.hid g2
    clear g2 hb
    go_wp2
    refine bodyPost_ret (v := .tuple #[.slice none 0 0, .int .i64 5]) (by simp [results, Try.results14, go_sem]) rfl ?_
    exact ⟨_, rfl, NO.out _, G2.out⟩
  · have hsm := (hG.runs.last.small hG.room) _ _ hl
    rw [h] at FN ⊢
    rw [if_pos rfl]
    obtain ⟨k, hk⟩ : ∃ k, k = l.length := ⟨_, rfl⟩
    obtain ⟨R, hR⟩ : ∃ R, R = readL l at_ n := ⟨_, rfl⟩
    rw [← hR]
    unfold readL at hR
    simp only at FN
    have SUB := Lib.hid (fun (w2 : World) (a : Option Addr) (c i m : Nat) (hh : Hid (BytesIn P w2 (.slice a l.length c) l)) (hi : i + m ≤ l.length) => clone_sub (P := P) a c l i m w2 hh.out hi (by omega))
    rw [← hk] at FN hsm hR SUB
    have FN := Lib.hid FN
    have NO := Lib.hid nilOwn
    have HR := Lib.hid hR
    have SH := Lib.hid (show ∀ (w2 : World) (a : Option Addr) (c : Nat), BytesIn P w2 (.slice a k c) l → (a = none ∧ k = 0 ∧ c = 0) ∨ ∃ g, a = some ⟨g, 0, none⟩ ∧ k ≤ c from fun w2 a c hh => by
      rcases hh with ⟨hv, hl0⟩ | ⟨g, c', hv, _, _, hlc⟩
      · injection hv with hv1 hv2 hv3
        exact .inl ⟨hv1, hv2, hv3⟩
      · injection hv with hv1 hv2 hv3
        subst hv3
        exact .inr ⟨g, hv1, by omega⟩)
    clear hS h hG nilOwn hb hl hk hR
    by_cases c1 : at_ < 0
    · rw [if_neg (by omega)] at HR
      have c1' : ¬ (0 ≤ at_) := by omega
      go_enter Try.func14, Try.ntmps14
      go_wp2_with fail
      refine FN.out.mono ?_
      rintro _ w2 ⟨a, c, rfl, hb, g2⟩
      have G2 := Lib.hid g2
      clear g2 hb
      go_wp2
      refine bodyPost_ret (v := .tuple #[.slice none 0 0, .int .i64 1]) (by simp [results, Try.results14, go_sem]) rfl ?_
      rw [HR.out]
      exact ⟨_, rfl, NO.out _, G2.out⟩
    · by_cases c2 : n < 0
      · rw [if_neg (by omega)] at HR
        go_enter Try.func14, Try.ntmps14
        go_wp2_with fail
        refine FN.out.mono ?_
        rintro _ w2 ⟨a, c, rfl, hb, g2⟩
        have G2 := Lib.hid g2
        clear g2 hb
        go_wp2
        refine bodyPost_ret (v := .tuple #[.slice none 0 0, .int .i64 1]) (by simp [results, Try.results14, go_sem]) rfl ?_
        rw [HR.out]
        exact ⟨_, rfl, NO.out _, G2.out⟩
      · obtain ⟨i, rfl⟩ := Int.eq_ofNat_of_zero_le (show 0 ≤ at_ by omega)
        obtain ⟨m, rfl⟩ := Int.eq_ofNat_of_zero_le (show 0 ≤ n by omega)
        by_cases c3 : (k : Int) < (i : Int)
        · rw [if_neg (by omega)] at HR
          go_enter Try.func14, Try.ntmps14
          go_wp2_with fail
          refine FN.out.mono ?_
          rintro _ w2 ⟨a, c, rfl, hb, g2⟩
          have G2 := Lib.hid g2
          clear g2 hb
          go_wp2
          refine bodyPost_ret (v := .tuple #[.slice none 0 0, .int .i64 1]) (by simp [results, Try.results14, go_sem]) rfl ?_
          rw [HR.out]
          exact ⟨_, rfl, NO.out _, G2.out⟩
        · have hwr : IntKind.i64.wrap ((k : Int) - (i : Int)) = (k : Int) - (i : Int) := IntWalk.i64_in _ (by omega)
          by_cases c4 : (k : Int) - (i : Int) < (m : Int)
          · rw [if_neg (by omega)] at HR
            go_enter Try.func14, Try.ntmps14
            go_wp2_with fail
            refine FN.out.mono ?_
            rintro _ w2 ⟨a, c, rfl, hb, g2⟩
            have G2 := Lib.hid g2
            clear g2 hb
            go_wp2
            refine bodyPost_ret (v := .tuple #[.slice none 0 0, .int .i64 1]) (by simp [results, Try.results14, go_sem]) rfl ?_
            rw [HR.out]
            exact ⟨_, rfl, NO.out _, G2.out⟩
          · rw [if_pos (by omega)] at HR
            have hwr2 : IntKind.i64.wrap ((i : Int) + (m : Int)) = (i : Int) + (m : Int) := IntWalk.i64_in _ (by omega)
            have him : i + m ≤ k := by omega
            go_enter Try.func14, Try.ntmps14
            go_wp2_with fail
            refine FN.out.mono ?_
            rintro _ w2 ⟨a, c, rfl, hb, g2⟩
            have G2 := Lib.hid g2
            have SB := SUB.out w2 a c i m hb him
            rcases SH.out w2 a c hb.out with ⟨rfl, hk0, rfl⟩ | ⟨g, rfl, hkc⟩
            · have SB2 := Lib.hid (SB.1 rfl)
              have i0 : i = 0 := by omega
              have m0 : m = 0 := by omega
              subst i0
              subst m0
              subst hk0
              clear SB g2 hb SUB SH
              go_wp2_with fail
              refine SB2.out.mono ?_
              rintro e w3 ⟨v3, rfl, h3, g3⟩
              have FIN := Lib.hid (And.intro h3 (Grow.trans2 G2.out g3))
              have Z := G2.out.size
              clear h3 g3
              go_wp2
              refine bodyPost_ret (v := .tuple #[v3, .int .i64 0]) (by simp [results, Try.results14, go_sem]) rfl ?_
              rw [HR.out]
              exact ⟨v3, rfl, FIN.out.1.out.weaken Z, FIN.out.2⟩
            · have SBA := Lib.hid (fun (hci : c = i) cc => by have := SB.2 g rfl cc; rw [if_pos hci] at this; exact this)
              have SBB := Lib.hid (fun (hci : ¬ c = i) cc => by have := SB.2 g rfl cc; rw [if_neg hci] at this; exact this)
              clear SB g2 hb SUB SH
              by_cases hci : c = i
              · have SBX := Lib.hid (SBA.out hci)
                clear SBA SBB
                subst hci
                go_wp2_with fail
                refine (SBX.out _).mono ?_
                rintro e w3 ⟨v3, rfl, h3, g3⟩
                have FIN := Lib.hid (And.intro h3 (Grow.trans2 G2.out g3))
                have Z := G2.out.size
                clear h3 g3
                go_wp2
                refine bodyPost_ret (v := .tuple #[v3, .int .i64 0]) (by simp [results, Try.results14, go_sem]) rfl ?_
                rw [HR.out]
                exact ⟨v3, rfl, FIN.out.1.out.weaken Z, FIN.out.2⟩
              · have SBX := Lib.hid (SBB.out hci)
                clear SBA SBB
                go_wp2_with fail
                refine (SBX.out _).mono ?_
                rintro e w3 ⟨v3, rfl, h3, g3⟩
                have FIN := Lib.hid (And.intro h3 (Grow.trans2 G2.out g3))
                have Z := G2.out.size
                clear h3 g3
                go_wp2
                refine bodyPost_ret (v := .tuple #[v3, .int .i64 0]) (by simp [results, Try.results14, go_sem]) rfl ?_
                rw [HR.out]
                exact ⟨v3, rfl, FIN.out.1.out.weaken Z, FIN.out.2⟩
end Go.Proofs.Yticpldjcmhpjoaa
