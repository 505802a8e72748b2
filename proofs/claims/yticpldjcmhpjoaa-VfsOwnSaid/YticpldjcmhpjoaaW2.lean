/-
  The walk of VfsOwn.
-/
import Derived.Test.YticpldjcmhpjoaaQi

namespace Go.Proofs.Yticpldjcmhpjoaa
open Go.RowKit
set_option linter.unusedVariables false
set_option linter.unusedSimpArgs false

theorem own1 (l : List UInt8) (hl : l.length ≤ 3000) : createD (emptyD 65536) nameA l = (0, ⟨65536, [(nameA, l)], [], [⟨0, nameA, 0, l⟩]⟩) := by
  have hb : isB nameA = true := by rfl
  unfold createD
  rw [hb]
  simp only [if_true]
  rw [if_neg (by simp [emptyD, look]), if_neg (by simp [emptyD, sumL]; omega)]
  rfl
def ownD (l lc : List UInt8) : Doc := ⟨65536, [(nameA, over l 0 lc)], [], [⟨0, nameA, 0, l⟩, ⟨1, nameA, 0, lc⟩]⟩
theorem ownF (l : List UInt8) (a : List Chg) (w : List File) (r : Nat) : findD ⟨r, [(nameA, l)], w, a⟩ nameA = (l, 0) := by
  have hb : isB nameA = true := by rfl
  unfold findD
  rw [hb]
  simp [look]
theorem own2 (l lc : List UInt8) (h : lc.length ≤ l.length) : writeD ⟨65536, [(nameA, l)], [], [⟨0, nameA, 0, l⟩]⟩ nameA 0 lc = (0, ownD l lc) := by
  unfold writeD
  rw [ownF]
  simp only [if_true]
  rw [if_pos (by omega)]
  simp [Doc.did, doesL, ownD]
theorem over0 (l lc : List UInt8) : over l 0 lc = lc ++ l.drop lc.length := by simp [over]
theorem own3 (l lc : List UInt8) (h : lc.length ≤ l.length) : readD (ownD l lc) nameA 0 (l.length : Int) = (lc ++ l.drop lc.length, 0) := by
  unfold readD ownD
  rw [ownF]
  simp only [if_true]
  unfold readL
  rw [if_pos (by rw [over_len l 0 lc (by omega)]; omega)]
  have : l.length = (over l 0 lc).length := (over_len l 0 lc (by omega)).symm
  simp only [Int.toNat_natCast, Int.toNat_zero, List.drop_zero]
  rw [this, List.take_length, over0]
/-- an append of bytes, run -/
structure AppRun (w : World) (x y v : Value) (w' : World) : Prop where
  out : ∀ ty, (Builtin.append_ #[22, 22] ty #[x, y]).run Try.prog w = .ok v w'
theorem step_app {w : World} {ops : Array Oper} {o : Oper} {a : Act} {K : Act → World → Prop} {Q : Exit → Act → World → Prop} {E : Prop} {x y v : Value} {w' : World} (hrun : AppRun w x y v w') (hgd : Region.wanted o (yielded ops a.tmps) = true) (d s : Operand)
    (ho : o.op = .call { callee := .builtin .append, args := #[d, s], argTypes := #[22, 22] }) (hx : a.eval d = x) (hy : a.eval s = y)
    (h : K (a.put o.dst v) w') : if Region.wanted o (yielded ops a.tmps) = true then Oper.wp Try.prog o a w K Q else E :=
  step_append_run hgd d s 22 22 ho x y v w' hx hy hrun.out h
theorem app2 {W : World} {c b : Value} {lc l2 : List UInt8} (hc : HoldsAt W c lc) (hb : HoldsAt W b l2) (hs : lc.length + l2.length ≤ 1073741824) :
    ∃ v1 w1 v2 w2, AppRun (W.alloc (.cells #[] 5)) (.slice (some ⟨W.heap.size, 0, none⟩) 0 0) c v1 w1 ∧ AppRun w1 v1 b v2 w2 ∧ OwnL W.heap.size w2 v2 (lc ++ l2) ∧ Grow W w2 := by
  obtain ⟨v1, w1, r1, o1, g1, _⟩ := app_bytes (w := W.alloc (.cells #[] 5)) (B := W.heap.size) (by simp) (own_nil W) (hc.grow ((Grow.refl W).alloc _)) (by simp; omega)
  rw [List.nil_append] at o1
  have b1 : Grow W w1 := grownB ((Grow.refl W).alloc _) g1 (by simp) (own_nil W).own
  obtain ⟨v2, w2, r2, o2, g2, _⟩ := app_bytes (w := w1) (B := W.heap.size) (Grow.size b1) o1 (hb.grow b1) (by omega)
  exact ⟨v1, w1, v2, w2, ⟨r1⟩, ⟨r2⟩, o2, grownB b1 g2 (Grow.size b1) o1.own⟩
theorem OwnL.cap {B n c : Nat} {a : Option Addr} {w : World} {l : List UInt8} (h : OwnL B w (.slice a n c) l) : n ≤ c := by
  obtain ⟨aa, c', e0, hnc, hxx⟩ := h.shape
  injection e0 with ea e1 e2
  omega
set_option maxRecDepth 20000 in
set_option maxHeartbeats 3000000 in
theorem own_any (bv cv : Value) (l lc : List UInt8) (w : World) (hb : HoldsAt w bv l) (hc : HoldsAt w cv lc) : Calls Try.prog 3 #[bv, cv] w (OnlyP (.bool true) w) := by
  obtain ⟨q, d, b0, o0, hbv, hld, hq, hd⟩ := hb
  have hb : HoldsAt w bv l := ⟨q, d, b0, o0, hbv, hld, hq, hd⟩
  obtain ⟨p, e, b1, o1, hcv, hle, hp, he⟩ := hc
  have hc : HoldsAt w cv lc := ⟨p, e, b1, o1, hcv, hle, hp, he⟩
  obtain ⟨n, hn⟩ : ∃ n, n = l.length := ⟨_, rfl⟩
  obtain ⟨m, hm⟩ : ∃ m, m = lc.length := ⟨_, rfl⟩
  rw [← hn] at hbv hld
  rw [← hm] at hcv hle
  subst hbv hcv
  have KN := Lib.hid known_any
  by_cases h1 : (3000 : Int) < (n : Int)
  · clear hb hc hq hd hp he hn hm
    go_enter Try.func3, Try.ntmps3
    go_wp2
    go_ret
    exact ⟨rfl, Below.refl _ _⟩
  · by_cases h2 : (n : Int) < (m : Int)
    · clear hb hc hq hd hp he hn hm
      go_enter Try.func3, Try.ntmps3
      go_wp2
      go_ret
      exact ⟨rfl, Below.refl _ _⟩
    · have h1' : n ≤ 3000 := by omega
      have h2' : m ≤ n := by omega
      have HBV := Lib.hid hb
      have HCV := Lib.hid hc
      have HN := Lib.hid hn
      have HM := Lib.hid hm
      have NW := Lib.hid (new2_any 65536 (by omega) w)
      have RB := Lib.hid (fun W (hW : Below w.heap.size w W) => by have := roomy_any _ l W (hb.below (Nat.le_refl _) hW) (by omega); rw [← hn] at this; exact this)
      have RC := Lib.hid (fun W (hW : Below w.heap.size w W) => by have := roomy_any _ lc W (hc.below (Nat.le_refl _) hW) (by omega); rw [← hm] at this; exact this)
      clear hb hc hq hd hp he hn hm
      go_enter Try.func3, Try.ntmps3
      go_wp2_with fail
      refine NW.out.mono ?_
      rintro _ w1 ⟨rfl, hf1, g1⟩
      obtain ⟨P1, C1⟩ : ∃ P, Hid (FsC w.heap.size w w1 (w.heap.size + 3) 0 (emptyD 65536) P) := ⟨_, Lib.hid (FsC.new (by omega) (Nat.le_refl _) (Below.refl _ _) hf1 g1)⟩
      have z1 := Grow.size g1
      clear hf1 g1 NW
      go_wp2_with fail
      refine (RB.out _ C1.out.gr).mono ?_
      rintro _ w2 ⟨gw, cw, rfl, ow2, g2⟩
      have C2 := Lib.hid (C1.out.grow z1 g2)
      have z2 := Nat.le_trans z1 (Grow.size g2)
      have OW := Lib.hid ow2
      have lw0 : w1.heap.size ≤ gw := ow2.own gw rfl
      have kw := ow2.cap
      have lw2 : gw < w2.heap.size := ow2.lt gw rfl
      have NPW := Lib.hid (show ¬ P1 gw from fun h => by have := C1.out.hi gw h; omega)
      clear g2 ow2 C1
      go_wp2_with fail
      refine (RC.out _ C2.out.gr).mono ?_
      rintro _ w3 ⟨gv, cv, rfl, ov3, g3⟩
      have C3 := Lib.hid (C2.out.grow z2 g3)
      have z3 := Nat.le_trans z2 (Grow.size g3)
      have OW3 := Lib.hid (OW.out.grow g3)
      have OV3 := Lib.hid ov3
      have lv0 : w2.heap.size ≤ gv := ov3.own gv rfl
      have kv := ov3.cap
      have lv3 : gv < w3.heap.size := ov3.lt gv rfl
      have NPV := Lib.hid (show ¬ P1 gv from fun h => by have := C2.out.hi gv h; omega)
      clear g3 ov3 C2 OW RB RC
      go_wp2_with fail
      have HL := Lib.hid (show l.length ≤ 3000 from by rw [← HN.out]; exact h1')
      have HLC := Lib.hid (show lc.length ≤ l.length from by rw [← HN.out, ← HM.out]; exact h2')
      have CR := create_any (P := P1) (w.heap.size + 3) 0 (emptyD 65536) nameA (.slice (some ⟨w3.heap.size, 0, none⟩) 1 1) [l] (w3.alloc (.cells #[.slice (some ⟨gw, 0, none⟩) n cw] 22))
        (C3.out.fs.turn (Turn.of_grow (P := fun _ => False) ((Grow.refl w3).alloc _)) (fun _ _ h => h)) C3.out.good (by omega)
        (parts_one (by have := OW3.out.front.holds; rw [← HN.out] at this; exact this) 22) (by simp) (by have := HL.out; simp; omega)
      rw [show [l].flatten = l from by simp, own1 l HL.out] at CR
      have CRH := Lib.hid CR
      clear CR
      refine CRH.out.mono ?_
      rintro _ w4 ⟨rfl, hf4, t4⟩
      have tt4 : Turn P1 w3 w4 := (Turn.of_grow (P := P1) ((Grow.refl w3).alloc _)).same t4
      have z4 := Nat.le_trans z3 tt4.size
      have NPW4 := Lib.hid (show ¬ More P1 (w3.alloc (.cells #[.slice (some ⟨gw, 0, none⟩) n cw] 22)) w4 gw from fun h => by rcases h with h | h; exact NPW.out h; simp at h; omega)
      have NPV4 := Lib.hid (show ¬ More P1 (w3.alloc (.cells #[.slice (some ⟨gw, 0, none⟩) n cw] 22)) w4 gv from fun h => by rcases h with h | h; exact NPV.out h; simp at h; omega)
      have OW4 := Lib.hid (OW3.out.turn tt4 (fun k hk => by injection hk with hk; subst hk; exact NPW.out))
      have OV4 := Lib.hid (OV3.out.turn tt4 (fun k hk => by injection hk with hk; subst hk; exact NPV.out))
      have C4 := Lib.hid ((C3.out.grow z3 ((Grow.refl w3).alloc (.cells #[.slice (some ⟨gw, 0, none⟩) n cw] 22))).step (by simp; omega) hf4 t4 (D' := ⟨65536, [(nameA, l)], [], [⟨0, nameA, 0, l⟩]⟩) (by have := C3.out.good.create nameA l (by have := HL.out; omega); rw [own1 l HL.out] at this; exact this))
      obtain ⟨P4, hP4⟩ : ∃ P4, P4 = More P1 (w3.alloc (.cells #[.slice (some ⟨gw, 0, none⟩) n cw] 22)) w4 := ⟨_, rfl⟩
      rw [← hP4] at C4 NPW4 NPV4
      have lw4 := Nat.lt_of_lt_of_le lw2 (Nat.le_trans (Nat.le_trans lv0 (Nat.le_of_lt lv3)) tt4.size)
      have lv4 := Nat.lt_of_lt_of_le lv3 tt4.size
      clear hf4 t4 tt4 CRH hP4 C3 OW3 OV3 NPW NPV
      go_wp2_with fail
      have WR := write_any (P := P4) (w.heap.size + 3) (0 + 1) ⟨65536, [(nameA, l)], [], [⟨0, nameA, 0, l⟩]⟩ nameA 0 (.slice (some ⟨w4.heap.size, 0, none⟩) 1 1) [lc] (w4.alloc (.cells #[.slice (some ⟨gv, 0, none⟩) m cv] 22))
        (C4.out.fs.turn (Turn.of_grow (P := fun _ => False) ((Grow.refl w4).alloc _)) (fun _ _ h => h)) C4.out.good (by omega)
        (parts_one (by have := OV4.out.front.holds; rw [← HM.out] at this; exact this) 22) (by simp) (by have := HL.out; have := HLC.out; simp; omega)
      rw [show [lc].flatten = lc from by simp, own2 l lc HLC.out] at WR
      have WRH := Lib.hid WR
      clear WR
      refine WRH.out.mono ?_
      rintro _ w5 ⟨rfl, hf5, t5⟩
      have tt5 : Turn P4 w4 w5 := (Turn.of_grow (P := P4) ((Grow.refl w4).alloc _)).same t5
      have z5 := Nat.le_trans z4 tt5.size
      have NPW5 := Lib.hid (show ¬ More P4 (w4.alloc (.cells #[.slice (some ⟨gv, 0, none⟩) m cv] 22)) w5 gw from fun h => by rcases h with h | h; exact NPW4.out h; simp at h; omega)
      have NPV5 := Lib.hid (show ¬ More P4 (w4.alloc (.cells #[.slice (some ⟨gv, 0, none⟩) m cv] 22)) w5 gv from fun h => by rcases h with h | h; exact NPV4.out h; simp at h; omega)
      have OW5 := Lib.hid (OW4.out.turn tt5 (fun k hk => by injection hk with hk; subst hk; exact NPW4.out))
      have OV5 := Lib.hid (OV4.out.turn tt5 (fun k hk => by injection hk with hk; subst hk; exact NPV4.out))
      have C5 := Lib.hid ((C4.out.grow z4 ((Grow.refl w4).alloc (.cells #[.slice (some ⟨gv, 0, none⟩) m cv] 22))).step (by simp; omega) hf5 t5 (D' := ownD l lc) (by have := C4.out.good.write nameA 0 lc (by have := HL.out; have := HLC.out; omega); rw [own2 l lc HLC.out] at this; exact this))
      obtain ⟨P5, hP5⟩ : ∃ P5, P5 = More P4 (w4.alloc (.cells #[.slice (some ⟨gv, 0, none⟩) m cv] 22)) w5 := ⟨_, rfl⟩
      rw [← hP5] at C5 NPW5 NPV5
      clear hf5 t5 tt5 WRH hP5 C4 OW4 OV4 NPW4 NPV4
      have SW := stands_any gw cw (.slice q n d) l w1.heap.size w5 (by rw [← HN.out]; exact OW5.out) (HBV.out.below (Nat.le_refl _) C5.out.gr) (by have := HL.out; omega)
      rw [← HN.out] at SW
      have SWH := Lib.hid SW
      clear SW
      go_wp2_with fail
      refine SWH.out.mono ?_
      rintro _ w6 ⟨rfl, g6⟩
      have C6 := Lib.hid (C5.out.grow z5 g6)
      have OW6 := Lib.hid (OW5.out.grow g6)
      have OV6 := Lib.hid (OV5.out.grow g6)
      have z6 := Nat.le_trans z5 (Grow.size g6)
      clear g6 SWH C5 OW5 OV5
      have SV := stands_any gv cv (.slice p m e) lc w2.heap.size w6 (by rw [← HM.out]; exact OV6.out) (HCV.out.below (Nat.le_refl _) C6.out.gr) (by have := HL.out; have := HLC.out; omega)
      rw [← HM.out] at SV
      have SVH := Lib.hid SV
      clear SV
      go_wp2_with fail
      refine SVH.out.mono ?_
      rintro _ w7 ⟨rfl, g7⟩
      have C7 := Lib.hid (C6.out.grow z6 g7)
      have OW7 := Lib.hid (OW6.out.grow g7)
      have OV7 := Lib.hid (OV6.out.grow g7)
      have z7 := Nat.le_trans z6 (Grow.size g7)
      clear g7 SVH C6 OW6 OV6
      have QW := Lib.hid (spoil_any _ _ w1.heap.size w7 OW7.out (by have := OW7.out.lt gw rfl; omega) (by have := HL.out; simp; omega))
      go_wp2_with fail
      refine QW.out.mono ?_
      rintro _ w8 ⟨rfl, g8⟩
      have OV8 := Lib.hid (own_kept OV7.out (fun k hk => by injection hk with hk; subst hk; exact g8.block gv (OV7.out.lt gv rfl) (fun e => by injection e with e; simp only at e; omega)))
      have C8 := Lib.hid (C7.out.keep z7 g8 (fun k hk => by injection hk with hk; subst hk; exact ⟨NPW5.out, by simp only; omega⟩))
      have z8 := Nat.le_trans z7 g8.size
      clear g8 C7 OV7 OW7 QW
      have QV := Lib.hid (spoil_any _ _ w2.heap.size w8 OV8.out (by have := OV8.out.lt gv rfl; omega) (by have := HL.out; have := HLC.out; simp; omega))
      go_wp2_with fail
      refine QV.out.mono ?_
      rintro _ w9 ⟨rfl, g9⟩
      have C9 := Lib.hid (C8.out.keep z8 g9 (fun k hk => by injection hk with hk; subst hk; exact ⟨NPV5.out, by simp only; omega⟩))
      have z9 := Nat.le_trans z8 g9.size
      clear g9 C8 OV8 QV
      have RD := read_any (w.heap.size + 3) (0 + 1 + 1) (ownD l lc) nameA 0 (l.length : Int) w9 C9.out.fs C9.out.good (by omega) (by have := HL.out; omega)
      rw [own3 l lc HLC.out, ← HN.out, ← HM.out] at RD
      have RDH := Lib.hid RD
      clear RD
      go_wp2_with fail
      refine RDH.out.mono ?_
      rintro _ w10 ⟨v10, rfl, o10, g10⟩
      have C10 := Lib.hid (C9.out.grow z9 g10)
      have z10 := Nat.le_trans z9 (Grow.size g10)
      have O10 := Lib.hid o10
      have NP10 := Lib.hid (show ∀ k, v10.ownBlock = some k → ¬ P5 k ∧ w.heap.size ≤ k from fun k hk => ⟨fun h => by have := o10.own k hk; have := C9.out.hi k h; omega, by have := o10.own k hk; omega⟩)
      have G9 := Lib.hid (Grow.size g10)
      clear g10 o10 C9 RDH
      go_wp2_with fail
      have HDR := Lib.hid (fun (W : World) (hW : Below w.heap.size w W) => (HBV.out.below (Nat.le_refl _) hW).drop m h2')
      have HB0 := Lib.hid (show q = none → n = 0 from fun e => by
        obtain ⟨q', c', b', o', e1, _, e3, _⟩ := HBV.out
        injection e1 with e1 e2 _
        subst e1
        rcases Nat.eq_zero_or_pos n with h | h
        · exact h
        · have := e3 (by omega); rw [e] at this; cases this)
      cases q with
      | none =>
        have n0 : n = 0 := HB0.out rfl
        have m0 : m = 0 := by omega
        subst n0
        subst m0
        have DRA := Lib.hid (fun (W : World) (hW : Below w.heap.size w W) => (show HoldsAt W (.slice none 0 d) (List.drop 0 l) from by rw [List.drop_zero]; exact HBV.out.below (Nat.le_refl _) hW))
        have DR := DRA.out _ C10.out.gr
        obtain ⟨v11, w11, v12, w12, r11, r12, o12, g12⟩ := app2 (W := w10.drew) ((HCV.out.below (Nat.le_refl _) C10.out.gr).grow (Grow.refl w10).drew) (DR.grow (Grow.refl w10).drew) (by simp; have := HL.out; have := HLC.out; omega)
        have SM := same_any v10 v12 _ _ w12 (O10.out.at.grow ((Grow.refl w10).drew.trans g12)) o12.at (by simp; have := HL.out; have := HLC.out; omega) (by simp; have := HL.out; have := HLC.out; omega)
        rw [show decide (lc ++ List.drop 0 l = lc ++ List.drop 0 l) = true from by simp] at SM
        have SM := Lib.hid SM
        have G12 := Lib.hid ((Grow.refl w10).drew.trans g12)
        clear o12 g12
        go_region_held3 (fun _ => True) (trivial)
          (first
            | (refine step_app r11 (by rfl) _ _ (by rfl) (by rfl) (by rfl) ?_)
            | (refine step_app r12 (by rfl) _ _ (by rfl) (by rfl) (by rfl) ?_)
            | (go_at_call 15; refine SM.out.mono ?_; rintro _ w13 ⟨rfl, g13⟩))
        have G13 := Lib.hid (show Grow w10 w13 from G12.out.trans2 g13)
        have z13 := Nat.le_trans z10 (Grow.size G13.out)
        have C13 := Lib.hid (C10.out.grow z10 G13.out)
        have QP := Lib.hid (spoil_any v10 _ w9.heap.size w13 (O10.out.grow G13.out) (by have := Grow.size G13.out; have := G9.out; omega) (by simp; have := HL.out; have := HLC.out; omega))
        clear SM G12 g13 r11 r12
        go_wp2_with fail
        refine QP.out.mono ?_
        rintro _ w14 ⟨rfl, g14⟩
        have C14 := Lib.hid (C13.out.keep z13 g14 NP10.out)
        have z14 := Nat.le_trans z13 g14.size
        clear g14 C13 QP
        have RD := read_any (w.heap.size + 3) (0 + 1 + 1) (ownD l lc) nameA 0 (l.length : Int) w14 C14.out.fs C14.out.good (by omega) (by have := HL.out; omega)
        rw [own3 l lc HLC.out, ← HN.out, ← HM.out] at RD
        have RDH := Lib.hid RD
        clear RD
        go_wp2_with fail
        refine RDH.out.mono ?_
        rintro _ w15 ⟨v15, rfl, o15, g15⟩
        have C15 := Lib.hid (C14.out.grow z14 g15)
        have z15 := Nat.le_trans z14 (Grow.size g15)
        have O15 := Lib.hid o15
        clear g15 o15 RDH
        obtain ⟨v21, w21, v22, w22, r21, r22, o22, g22⟩ := app2 (W := w15.drew) ((HCV.out.below (Nat.le_refl _) C15.out.gr).grow (Grow.refl w15).drew) ((DRA.out _ C15.out.gr).grow (Grow.refl w15).drew) (by simp; have := HL.out; have := HLC.out; omega)
        have SM := same_any v15 v22 _ _ w22 (O15.out.at.grow ((Grow.refl w15).drew.trans g22)) o22.at (by simp; have := HL.out; have := HLC.out; omega) (by simp; have := HL.out; have := HLC.out; omega)
        rw [show decide (lc ++ List.drop 0 l = lc ++ List.drop 0 l) = true from by simp] at SM
        have SM := Lib.hid SM
        have G22 := Lib.hid ((Grow.refl w15).drew.trans g22)
        clear o22 g22
        go_wp2_with fail
        go_region_held3 (fun _ => True) (trivial)
          (first
            | (refine step_app r21 (by rfl) _ _ (by rfl) (by rfl) (by rfl) ?_)
            | (refine step_app r22 (by rfl) _ _ (by rfl) (by rfl) (by rfl) ?_)
            | (go_at_call 15; refine SM.out.mono ?_; rintro _ w23 ⟨rfl, g23⟩)
            | (go_at_call 16; refine (KN.out _).mono ?_; rintro _ w24 ⟨rfl, g24⟩))
        have FIN := Lib.hid (show Below w.heap.size w w24 from C15.out.gr.trans (Below.mono ((G22.out.trans2 g23).trans2 g24) z15))
        clear g23 g24 r21 r22 SM
        go_wp2
        go_ret
        exact ⟨rfl, FIN.out⟩
      | some a =>
        by_cases hdm : d = m
        · have hnm : n = m := by omega
          have DRA := Lib.hid (fun W hW => by have := (HDR.out W hW).2 a rfl; rw [if_pos hdm, show n - m = 0 from by omega, show d - m = 0 from by omega] at this; exact this)
          subst hdm
          subst hnm
          have DR := DRA.out _ C10.out.gr
          obtain ⟨v11, w11, v12, w12, r11, r12, o12, g12⟩ := app2 (W := w10.drew) ((HCV.out.below (Nat.le_refl _) C10.out.gr).grow (Grow.refl w10).drew) (DR.grow (Grow.refl w10).drew) (by simp; have := HL.out; have := HLC.out; omega)
          have SM := same_any v10 v12 _ _ w12 (O10.out.at.grow ((Grow.refl w10).drew.trans g12)) o12.at (by simp; have := HL.out; have := HLC.out; omega) (by simp; have := HL.out; have := HLC.out; omega)
          rw [show decide (lc ++ List.drop n l = lc ++ List.drop n l) = true from by simp] at SM
          have SM := Lib.hid SM
          have G12 := Lib.hid ((Grow.refl w10).drew.trans g12)
          clear o12 g12
          go_region_held3 (fun _ => True) (trivial)
            (first
              | (refine step_app r11 (by rfl) _ _ (by rfl) (by rfl) (by rfl) ?_)
              | (refine step_app r12 (by rfl) _ _ (by rfl) (by rfl) (by rfl) ?_)
              | (go_at_call 15; refine SM.out.mono ?_; rintro _ w13 ⟨rfl, g13⟩))
          have G13 := Lib.hid (show Grow w10 w13 from G12.out.trans2 g13)
          have z13 := Nat.le_trans z10 (Grow.size G13.out)
          have C13 := Lib.hid (C10.out.grow z10 G13.out)
          have QP := Lib.hid (spoil_any v10 _ w9.heap.size w13 (O10.out.grow G13.out) (by have := Grow.size G13.out; have := G9.out; omega) (by simp; have := HL.out; have := HLC.out; omega))
          clear SM G12 g13 r11 r12
          go_wp2_with fail
          refine QP.out.mono ?_
          rintro _ w14 ⟨rfl, g14⟩
          have C14 := Lib.hid (C13.out.keep z13 g14 NP10.out)
          have z14 := Nat.le_trans z13 g14.size
          clear g14 C13 QP
          have RD := read_any (w.heap.size + 3) (0 + 1 + 1) (ownD l lc) nameA 0 (l.length : Int) w14 C14.out.fs C14.out.good (by omega) (by have := HL.out; omega)
          rw [own3 l lc HLC.out, ← HN.out, ← HM.out] at RD
          have RDH := Lib.hid RD
          clear RD
          go_wp2_with fail
          refine RDH.out.mono ?_
          rintro _ w15 ⟨v15, rfl, o15, g15⟩
          have C15 := Lib.hid (C14.out.grow z14 g15)
          have z15 := Nat.le_trans z14 (Grow.size g15)
          have O15 := Lib.hid o15
          clear g15 o15 RDH
          obtain ⟨v21, w21, v22, w22, r21, r22, o22, g22⟩ := app2 (W := w15.drew) ((HCV.out.below (Nat.le_refl _) C15.out.gr).grow (Grow.refl w15).drew) ((DRA.out _ C15.out.gr).grow (Grow.refl w15).drew) (by simp; have := HL.out; have := HLC.out; omega)
          have SM := same_any v15 v22 _ _ w22 (O15.out.at.grow ((Grow.refl w15).drew.trans g22)) o22.at (by simp; have := HL.out; have := HLC.out; omega) (by simp; have := HL.out; have := HLC.out; omega)
          rw [show decide (lc ++ List.drop n l = lc ++ List.drop n l) = true from by simp] at SM
          have SM := Lib.hid SM
          have G22 := Lib.hid ((Grow.refl w15).drew.trans g22)
          clear o22 g22
          go_wp2_with fail
          go_region_held3 (fun _ => True) (trivial)
            (first
              | (refine step_app r21 (by rfl) _ _ (by rfl) (by rfl) (by rfl) ?_)
              | (refine step_app r22 (by rfl) _ _ (by rfl) (by rfl) (by rfl) ?_)
              | (go_at_call 15; refine SM.out.mono ?_; rintro _ w23 ⟨rfl, g23⟩)
              | (go_at_call 16; refine (KN.out _).mono ?_; rintro _ w24 ⟨rfl, g24⟩))
          have FIN := Lib.hid (show Below w.heap.size w w24 from C15.out.gr.trans (Below.mono ((G22.out.trans2 g23).trans2 g24) z15))
          clear g23 g24 r21 r22 SM
          go_wp2
          go_ret
          exact ⟨rfl, FIN.out⟩
        · have DRA := Lib.hid (fun W hW => by have := (HDR.out W hW).2 a rfl; rw [if_neg hdm] at this; exact this)
          have DR := DRA.out _ C10.out.gr
          obtain ⟨v11, w11, v12, w12, r11, r12, o12, g12⟩ := app2 (W := w10.drew) ((HCV.out.below (Nat.le_refl _) C10.out.gr).grow (Grow.refl w10).drew) (DR.grow (Grow.refl w10).drew) (by simp; have := HL.out; have := HLC.out; omega)
          have SM := same_any v10 v12 _ _ w12 (O10.out.at.grow ((Grow.refl w10).drew.trans g12)) o12.at (by simp; have := HL.out; have := HLC.out; omega) (by simp; have := HL.out; have := HLC.out; omega)
          rw [show decide (lc ++ List.drop m l = lc ++ List.drop m l) = true from by simp] at SM
          have SM := Lib.hid SM
          have G12 := Lib.hid ((Grow.refl w10).drew.trans g12)
          clear o12 g12
          go_region_held3 (fun _ => True) (trivial)
            (first
              | (refine step_app r11 (by rfl) _ _ (by rfl) (by rfl) (by rfl) ?_)
              | (refine step_app r12 (by rfl) _ _ (by rfl) (by rfl) (by rfl) ?_)
              | (go_at_call 15; refine SM.out.mono ?_; rintro _ w13 ⟨rfl, g13⟩))
          have G13 := Lib.hid (show Grow w10 w13 from G12.out.trans2 g13)
          have z13 := Nat.le_trans z10 (Grow.size G13.out)
          have C13 := Lib.hid (C10.out.grow z10 G13.out)
          have QP := Lib.hid (spoil_any v10 _ w9.heap.size w13 (O10.out.grow G13.out) (by have := Grow.size G13.out; have := G9.out; omega) (by simp; have := HL.out; have := HLC.out; omega))
          clear SM G12 g13 r11 r12
          go_wp2_with fail
          refine QP.out.mono ?_
          rintro _ w14 ⟨rfl, g14⟩
          have C14 := Lib.hid (C13.out.keep z13 g14 NP10.out)
          have z14 := Nat.le_trans z13 g14.size
          clear g14 C13 QP
          have RD := read_any (w.heap.size + 3) (0 + 1 + 1) (ownD l lc) nameA 0 (l.length : Int) w14 C14.out.fs C14.out.good (by omega) (by have := HL.out; omega)
          rw [own3 l lc HLC.out, ← HN.out, ← HM.out] at RD
          have RDH := Lib.hid RD
          clear RD
          go_wp2_with fail
          refine RDH.out.mono ?_
          rintro _ w15 ⟨v15, rfl, o15, g15⟩
          have C15 := Lib.hid (C14.out.grow z14 g15)
          have z15 := Nat.le_trans z14 (Grow.size g15)
          have O15 := Lib.hid o15
          clear g15 o15 RDH
          obtain ⟨v21, w21, v22, w22, r21, r22, o22, g22⟩ := app2 (W := w15.drew) ((HCV.out.below (Nat.le_refl _) C15.out.gr).grow (Grow.refl w15).drew) ((DRA.out _ C15.out.gr).grow (Grow.refl w15).drew) (by simp; have := HL.out; have := HLC.out; omega)
          have SM := same_any v15 v22 _ _ w22 (O15.out.at.grow ((Grow.refl w15).drew.trans g22)) o22.at (by simp; have := HL.out; have := HLC.out; omega) (by simp; have := HL.out; have := HLC.out; omega)
          rw [show decide (lc ++ List.drop m l = lc ++ List.drop m l) = true from by simp] at SM
          have SM := Lib.hid SM
          have G22 := Lib.hid ((Grow.refl w15).drew.trans g22)
          clear o22 g22
          go_wp2_with fail
          go_region_held3 (fun _ => True) (trivial)
            (first
              | (refine step_app r21 (by rfl) _ _ (by rfl) (by rfl) (by rfl) ?_)
              | (refine step_app r22 (by rfl) _ _ (by rfl) (by rfl) (by rfl) ?_)
              | (go_at_call 15; refine SM.out.mono ?_; rintro _ w23 ⟨rfl, g23⟩)
              | (go_at_call 16; refine (KN.out _).mono ?_; rintro _ w24 ⟨rfl, g24⟩))
          have FIN := Lib.hid (show Below w.heap.size w w24 from C15.out.gr.trans (Below.mono ((G22.out.trans2 g23).trans2 g24) z15))
          clear g23 g24 r21 r22 SM
          go_wp2
          go_ret
          exact ⟨rfl, FIN.out⟩
end Go.Proofs.Yticpldjcmhpjoaa
