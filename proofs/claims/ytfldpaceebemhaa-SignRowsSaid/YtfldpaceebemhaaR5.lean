/-
  The walk of sign.all.
-/
import Derived.Test.YtfldpaceebemhaaTab
namespace Go.Proofs.Ytfldpaceebemhaa
open Go.RowKit

set_option maxRecDepth 100000 in
set_option maxHeartbeats 4000000 in
theorem all24 (w : World) : Calls Try.prog 24 #[] w fun e w' => ∃ v, e = .returned v ∧ SigsIn 0 tab v w' ∧ Grow w w' := by
  have ON := Lib.hid (ints_lit w w.heap.size rfl [1] 1 rfl (by decide))
  have HG := Lib.hid ((Grow.refl w).alloc (.cells #[.int .i64 1] 3))
  have R := Lib.hid (RowsIn.nil (w := w.alloc (.cells #[.int .i64 1] 3)))
  have RW := Lib.hid (fun need may rest ns nv mv g c w hn hm hg hc hl h1 h2 => rows_any need may rest ns nv mv g c w hn hm hg hc hl h1 h2)
  have CC := Lib.hid (fun g W hg hc => concat_any tabs g 18 W hg hc (by decide) (by decide) tabs_total)
  go_enter Try.func24, Try.ntmps24
  go_wp2_with fail
  refine (RW.out [1] [] 0 nms0 _ _ _ 16 _ (ON.out.grow ((Grow.refl _).alloc _)) (ints_nil _) (by simp) (cells_alloc (w.alloc (.cells #[.int .i64 1] 3)) _ (by simp) nms0 9) (by decide) (by decide) (by decide)).mono ?_
  rintro e w0 ⟨v0, rfl, s0, b0⟩
  obtain ⟨a0, c0, rfl, hle⟩ := s0.shape
  clear hle
  have R0 := Lib.hid ((R.out.grow ((((Grow.refl _).alloc _)).trans b0)).snoc _ _ _ _ _ s0 (by decide))
  have HG0 := Lib.hid (HG.out.trans ((((Grow.refl _).alloc _)).trans b0))
  have ON0 := Lib.hid (ON.out.grow ((((Grow.refl _).alloc _)).trans b0))
  clear s0 b0 R HG ON
  go_wp2_with fail
  refine (RW.out [1, 2] [] 0 nms1 _ _ _ 13 _ ((ints_lit w0 _ (by rfl) [1, 2] 2 rfl (by decide)).grow ((Grow.refl _).alloc _)) (ints_nil _) (by simp) (cells_alloc (w0.alloc (.cells #[.int .i64 1, .int .i64 2] 3)) _ (by simp) nms1 9) (by decide) (by decide) (by decide)).mono ?_
  rintro e w1 ⟨v1, rfl, s1, b1⟩
  obtain ⟨a1, c1, rfl, hle⟩ := s1.shape
  clear hle
  have R1 := Lib.hid ((R0.out.grow (((((Grow.refl _).alloc _).alloc _)).trans b1)).snoc _ _ _ _ _ s1 (by decide))
  have HG1 := Lib.hid (HG0.out.trans (((((Grow.refl _).alloc _).alloc _)).trans b1))
  have ON1 := Lib.hid (ON0.out.grow (((((Grow.refl _).alloc _).alloc _)).trans b1))
  clear s1 b1 R0 HG0 ON0
  go_wp2_with fail
  refine (RW.out [1, 3] [] 0 nms2 _ _ _ 17 _ ((ints_lit w1 _ (by rfl) [1, 3] 2 rfl (by decide)).grow ((Grow.refl _).alloc _)) (ints_nil _) (by simp) (cells_alloc (w1.alloc (.cells #[.int .i64 1, .int .i64 3] 3)) _ (by simp) nms2 9) (by decide) (by decide) (by decide)).mono ?_
  rintro e w2 ⟨v2, rfl, s2, b2⟩
  obtain ⟨a2, c2, rfl, hle⟩ := s2.shape
  clear hle
  have R2 := Lib.hid ((R1.out.grow (((((Grow.refl _).alloc _).alloc _)).trans b2)).snoc _ _ _ _ _ s2 (by decide))
  have HG2 := Lib.hid (HG1.out.trans (((((Grow.refl _).alloc _).alloc _)).trans b2))
  have ON2 := Lib.hid (ON1.out.grow (((((Grow.refl _).alloc _).alloc _)).trans b2))
  clear s2 b2 R1 HG1 ON1
  go_wp2_with fail
  refine (RW.out [1] [2] 0 nms3 _ _ _ 3 _ (ON2.out.grow (((Grow.refl _).alloc _).alloc _)) ((ints_lit w2 _ (by simp) [2] 1 rfl (by decide)).grow ((Grow.refl _).alloc _)) (by simp) (cells_alloc (w2.alloc (.cells #[.int .i64 2] 3)) _ (by simp) nms3 9) (by decide) (by decide) (by decide)).mono ?_
  rintro e w3 ⟨v3, rfl, s3, b3⟩
  obtain ⟨a3, c3, rfl, hle⟩ := s3.shape
  clear hle
  have R3 := Lib.hid ((R2.out.grow (((((Grow.refl _).alloc _).alloc _)).trans b3)).snoc _ _ _ _ _ s3 (by decide))
  have HG3 := Lib.hid (HG2.out.trans (((((Grow.refl _).alloc _).alloc _)).trans b3))
  have ON3 := Lib.hid (ON2.out.grow (((((Grow.refl _).alloc _).alloc _)).trans b3))
  clear s3 b3 R2 HG2 ON2
  go_wp2_with fail
  refine (RW.out [1] [3] 0 nms4 _ _ _ 2 _ (ON3.out.grow (((Grow.refl _).alloc _).alloc _)) ((ints_lit w3 _ (by simp) [3] 1 rfl (by decide)).grow ((Grow.refl _).alloc _)) (by simp) (cells_alloc (w3.alloc (.cells #[.int .i64 3] 3)) _ (by simp) nms4 9) (by decide) (by decide) (by decide)).mono ?_
  rintro e w4 ⟨v4, rfl, s4, b4⟩
  obtain ⟨a4, c4, rfl, hle⟩ := s4.shape
  clear hle
  have R4 := Lib.hid ((R3.out.grow (((((Grow.refl _).alloc _).alloc _)).trans b4)).snoc _ _ _ _ _ s4 (by decide))
  have HG4 := Lib.hid (HG3.out.trans (((((Grow.refl _).alloc _).alloc _)).trans b4))
  have ON4 := Lib.hid (ON3.out.grow (((((Grow.refl _).alloc _).alloc _)).trans b4))
  clear s4 b4 R3 HG3 ON3
  go_wp2_with fail
  refine (RW.out [1, 6] [7] 0 nms5 _ _ _ 1 _ ((ints_lit w4 _ (by rfl) [1, 6] 2 rfl (by decide)).grow (((Grow.refl _).alloc _).alloc _)) ((ints_lit (w4.alloc (.cells #[.int .i64 1, .int .i64 6] 3)) _ (by simp) [7] 1 rfl (by decide)).grow ((Grow.refl _).alloc _)) (by simp) (cells_alloc ((w4.alloc (.cells #[.int .i64 1, .int .i64 6] 3)).alloc (.cells #[.int .i64 7] 3)) _ (by simp) nms5 9) (by decide) (by decide) (by decide)).mono ?_
  rintro e w5 ⟨v5, rfl, s5, b5⟩
  obtain ⟨a5, c5, rfl, hle⟩ := s5.shape
  clear hle
  have R5 := Lib.hid ((R4.out.grow ((((((Grow.refl _).alloc _).alloc _).alloc _)).trans b5)).snoc _ _ _ _ _ s5 (by decide))
  have HG5 := Lib.hid (HG4.out.trans ((((((Grow.refl _).alloc _).alloc _).alloc _)).trans b5))
  have ON5 := Lib.hid (ON4.out.grow ((((((Grow.refl _).alloc _).alloc _).alloc _)).trans b5))
  clear s5 b5 R4 HG4 ON4
  go_wp2_with fail
  refine (RW.out [1, 6] [] 0 nms6 _ _ _ 2 _ ((ints_lit w5 _ (by rfl) [1, 6] 2 rfl (by decide)).grow ((Grow.refl _).alloc _)) (ints_nil _) (by simp) (cells_alloc (w5.alloc (.cells #[.int .i64 1, .int .i64 6] 3)) _ (by simp) nms6 9) (by decide) (by decide) (by decide)).mono ?_
  rintro e w6 ⟨v6, rfl, s6, b6⟩
  obtain ⟨a6, c6, rfl, hle⟩ := s6.shape
  clear hle
  have R6 := Lib.hid ((R5.out.grow (((((Grow.refl _).alloc _).alloc _)).trans b6)).snoc _ _ _ _ _ s6 (by decide))
  have HG6 := Lib.hid (HG5.out.trans (((((Grow.refl _).alloc _).alloc _)).trans b6))
  have ON6 := Lib.hid (ON5.out.grow (((((Grow.refl _).alloc _).alloc _)).trans b6))
  clear s6 b6 R5 HG5 ON5
  go_wp2_with fail
  refine (RW.out [1] [] 1 nms7 _ _ _ 11 _ (ON6.out.grow ((Grow.refl _).alloc _)) (ints_nil _) (by simp) (cells_alloc w6 _ (by simp) nms7 9) (by decide) (by decide) (by decide)).mono ?_
  rintro e w7 ⟨v7, rfl, s7, b7⟩
  obtain ⟨a7, c7, rfl, hle⟩ := s7.shape
  clear hle
  have R7 := Lib.hid ((R6.out.grow ((((Grow.refl _).alloc _)).trans b7)).snoc _ _ _ _ _ s7 (by decide))
  have HG7 := Lib.hid (HG6.out.trans ((((Grow.refl _).alloc _)).trans b7))
  have ON7 := Lib.hid (ON6.out.grow ((((Grow.refl _).alloc _)).trans b7))
  clear s7 b7 R6 HG6 ON6
  go_wp2_with fail
  refine (RW.out [1, 1] [] 0 nms8 _ _ _ 1 _ ((ints_lit w7 _ (by rfl) [1, 1] 2 rfl (by decide)).grow ((Grow.refl _).alloc _)) (ints_nil _) (by simp) (cells_alloc (w7.alloc (.cells #[.int .i64 1, .int .i64 1] 3)) _ (by simp) nms8 9) (by decide) (by decide) (by decide)).mono ?_
  rintro e w8 ⟨v8, rfl, s8, b8⟩
  obtain ⟨a8, c8, rfl, hle⟩ := s8.shape
  clear hle
  have R8 := Lib.hid ((R7.out.grow (((((Grow.refl _).alloc _).alloc _)).trans b8)).snoc _ _ _ _ _ s8 (by decide))
  have HG8 := Lib.hid (HG7.out.trans (((((Grow.refl _).alloc _).alloc _)).trans b8))
  have ON8 := Lib.hid (ON7.out.grow (((((Grow.refl _).alloc _).alloc _)).trans b8))
  clear s8 b8 R7 HG7 ON7
  go_wp2_with fail
  refine (RW.out [1] [1] 0 nms9 _ _ _ 1 _ (ON8.out.grow ((Grow.refl _).alloc _)) (ON8.out.grow ((Grow.refl _).alloc _)) (by simp) (cells_alloc w8 _ (by simp) nms9 9) (by decide) (by decide) (by decide)).mono ?_
  rintro e w9 ⟨v9, rfl, s9, b9⟩
  obtain ⟨a9, c9, rfl, hle⟩ := s9.shape
  clear hle
  have R9 := Lib.hid ((R8.out.grow ((((Grow.refl _).alloc _)).trans b9)).snoc _ _ _ _ _ s9 (by decide))
  have HG9 := Lib.hid (HG8.out.trans ((((Grow.refl _).alloc _)).trans b9))
  have ON9 := Lib.hid (ON8.out.grow ((((Grow.refl _).alloc _)).trans b9))
  clear s9 b9 R8 HG8 ON8
  go_wp2_with fail
  refine (RW.out [1, 4] [] 0 nms10 _ _ _ 3 _ ((ints_lit w9 _ (by rfl) [1, 4] 2 rfl (by decide)).grow ((Grow.refl _).alloc _)) (ints_nil _) (by simp) (cells_alloc (w9.alloc (.cells #[.int .i64 1, .int .i64 4] 3)) _ (by simp) nms10 9) (by decide) (by decide) (by decide)).mono ?_
  rintro e w10 ⟨v10, rfl, s10, b10⟩
  obtain ⟨a10, c10, rfl, hle⟩ := s10.shape
  clear hle
  have R10 := Lib.hid ((R9.out.grow (((((Grow.refl _).alloc _).alloc _)).trans b10)).snoc _ _ _ _ _ s10 (by decide))
  have HG10 := Lib.hid (HG9.out.trans (((((Grow.refl _).alloc _).alloc _)).trans b10))
  have ON10 := Lib.hid (ON9.out.grow (((((Grow.refl _).alloc _).alloc _)).trans b10))
  clear s10 b10 R9 HG9 ON9
  go_wp2_with fail
  refine (RW.out [1, 7] [] 0 nms11 _ _ _ 2 _ ((ints_lit w10 _ (by rfl) [1, 7] 2 rfl (by decide)).grow ((Grow.refl _).alloc _)) (ints_nil _) (by simp) (cells_alloc (w10.alloc (.cells #[.int .i64 1, .int .i64 7] 3)) _ (by simp) nms11 9) (by decide) (by decide) (by decide)).mono ?_
  rintro e w11 ⟨v11, rfl, s11, b11⟩
  obtain ⟨a11, c11, rfl, hle⟩ := s11.shape
  clear hle
  have R11 := Lib.hid ((R10.out.grow (((((Grow.refl _).alloc _).alloc _)).trans b11)).snoc _ _ _ _ _ s11 (by decide))
  have HG11 := Lib.hid (HG10.out.trans (((((Grow.refl _).alloc _).alloc _)).trans b11))
  have ON11 := Lib.hid (ON10.out.grow (((((Grow.refl _).alloc _).alloc _)).trans b11))
  clear s11 b11 R10 HG10 ON10
  go_wp2_with fail
  refine (RW.out [1, 4, 4] [] 0 nms12 _ _ _ 1 _ ((ints_lit w11 _ (by rfl) [1, 4, 4] 3 rfl (by decide)).grow ((Grow.refl _).alloc _)) (ints_nil _) (by simp) (cells_alloc (w11.alloc (.cells #[.int .i64 1, .int .i64 4, .int .i64 4] 3)) _ (by simp) nms12 9) (by decide) (by decide) (by decide)).mono ?_
  rintro e w12 ⟨v12, rfl, s12, b12⟩
  obtain ⟨a12, c12, rfl, hle⟩ := s12.shape
  clear hle
  have R12 := Lib.hid ((R11.out.grow (((((Grow.refl _).alloc _).alloc _)).trans b12)).snoc _ _ _ _ _ s12 (by decide))
  have HG12 := Lib.hid (HG11.out.trans (((((Grow.refl _).alloc _).alloc _)).trans b12))
  have ON12 := Lib.hid (ON11.out.grow (((((Grow.refl _).alloc _).alloc _)).trans b12))
  clear s12 b12 R11 HG11 ON11
  go_wp2_with fail
  refine (RW.out [1, 3] [] 3 nms13 _ _ _ 1 _ ((ints_lit w12 _ (by rfl) [1, 3] 2 rfl (by decide)).grow ((Grow.refl _).alloc _)) (ints_nil _) (by simp) (cells_alloc (w12.alloc (.cells #[.int .i64 1, .int .i64 3] 3)) _ (by simp) nms13 9) (by decide) (by decide) (by decide)).mono ?_
  rintro e w13 ⟨v13, rfl, s13, b13⟩
  obtain ⟨a13, c13, rfl, hle⟩ := s13.shape
  clear hle
  have R13 := Lib.hid ((R12.out.grow (((((Grow.refl _).alloc _).alloc _)).trans b13)).snoc _ _ _ _ _ s13 (by decide))
  have HG13 := Lib.hid (HG12.out.trans (((((Grow.refl _).alloc _).alloc _)).trans b13))
  have ON13 := Lib.hid (ON12.out.grow (((((Grow.refl _).alloc _).alloc _)).trans b13))
  clear s13 b13 R12 HG12 ON12
  go_wp2_with fail
  refine (RW.out [1, 3] [3] 0 nms14 _ _ _ 1 _ ((ints_lit w13 _ (by rfl) [1, 3] 2 rfl (by decide)).grow (((Grow.refl _).alloc _).alloc _)) ((ints_lit (w13.alloc (.cells #[.int .i64 1, .int .i64 3] 3)) _ (by simp) [3] 1 rfl (by decide)).grow ((Grow.refl _).alloc _)) (by simp) (cells_alloc ((w13.alloc (.cells #[.int .i64 1, .int .i64 3] 3)).alloc (.cells #[.int .i64 3] 3)) _ (by simp) nms14 9) (by decide) (by decide) (by decide)).mono ?_
  rintro e w14 ⟨v14, rfl, s14, b14⟩
  obtain ⟨a14, c14, rfl, hle⟩ := s14.shape
  clear hle
  have R14 := Lib.hid ((R13.out.grow ((((((Grow.refl _).alloc _).alloc _).alloc _)).trans b14)).snoc _ _ _ _ _ s14 (by decide))
  have HG14 := Lib.hid (HG13.out.trans ((((((Grow.refl _).alloc _).alloc _).alloc _)).trans b14))
  have ON14 := Lib.hid (ON13.out.grow ((((((Grow.refl _).alloc _).alloc _).alloc _)).trans b14))
  clear s14 b14 R13 HG13 ON13
  go_wp2_with fail
  refine (RW.out [1, 3, 7] [] 0 nms15 _ _ _ 1 _ ((ints_lit w14 _ (by rfl) [1, 3, 7] 3 rfl (by decide)).grow ((Grow.refl _).alloc _)) (ints_nil _) (by simp) (cells_alloc (w14.alloc (.cells #[.int .i64 1, .int .i64 3, .int .i64 7] 3)) _ (by simp) nms15 9) (by decide) (by decide) (by decide)).mono ?_
  rintro e w15 ⟨v15, rfl, s15, b15⟩
  obtain ⟨a15, c15, rfl, hle⟩ := s15.shape
  clear hle
  have R15 := Lib.hid ((R14.out.grow (((((Grow.refl _).alloc _).alloc _)).trans b15)).snoc _ _ _ _ _ s15 (by decide))
  have HG15 := Lib.hid (HG14.out.trans (((((Grow.refl _).alloc _).alloc _)).trans b15))
  have ON15 := Lib.hid (ON14.out.grow (((((Grow.refl _).alloc _).alloc _)).trans b15))
  clear s15 b15 R14 HG14 ON14
  go_wp2_with fail
  refine (RW.out [1, 7, 3] [] 3 nms16 _ _ _ 1 _ ((ints_lit w15 _ (by rfl) [1, 7, 3] 3 rfl (by decide)).grow ((Grow.refl _).alloc _)) (ints_nil _) (by simp) (cells_alloc (w15.alloc (.cells #[.int .i64 1, .int .i64 7, .int .i64 3] 3)) _ (by simp) nms16 9) (by decide) (by decide) (by decide)).mono ?_
  rintro e w16 ⟨v16, rfl, s16, b16⟩
  obtain ⟨a16, c16, rfl, hle⟩ := s16.shape
  clear hle
  have R16 := Lib.hid ((R15.out.grow (((((Grow.refl _).alloc _).alloc _)).trans b16)).snoc _ _ _ _ _ s16 (by decide))
  have HG16 := Lib.hid (HG15.out.trans (((((Grow.refl _).alloc _).alloc _)).trans b16))
  have ON16 := Lib.hid (ON15.out.grow (((((Grow.refl _).alloc _).alloc _)).trans b16))
  clear s16 b16 R15 HG15 ON15
  go_wp2_with fail
  refine (RW.out [2] [] 0 nms17 _ _ _ 1 _ ((ints_lit w16 _ (by rfl) [2] 1 rfl (by decide)).grow ((Grow.refl _).alloc _)) (ints_nil _) (by simp) (cells_alloc (w16.alloc (.cells #[.int .i64 2] 3)) _ (by simp) nms17 9) (by decide) (by decide) (by decide)).mono ?_
  rintro e w17 ⟨v17, rfl, s17, b17⟩
  obtain ⟨a17, c17, rfl, hle⟩ := s17.shape
  clear hle
  have R17 := Lib.hid ((R16.out.grow (((((Grow.refl _).alloc _).alloc _)).trans b17)).snoc _ _ _ _ _ s17 (by decide))
  have HG17 := Lib.hid (HG16.out.trans (((((Grow.refl _).alloc _).alloc _)).trans b17))
  have ON17 := Lib.hid (ON16.out.grow (((((Grow.refl _).alloc _).alloc _)).trans b17))
  clear s17 b17 R16 HG16 ON16
  have RR := Lib.hid (rowsin_blk (show RowsIn w17 tabs [.slice a0 16 c0, .slice a1 13 c1, .slice a2 17 c2, .slice a3 3 c3, .slice a4 2 c4, .slice a5 1 c5, .slice a6 2 c6, .slice a7 11 c7, .slice a8 1 c8, .slice a9 1 c9, .slice a10 3 c10, .slice a11 2 c11, .slice a12 1 c12, .slice a13 1 c13, .slice a14 1 c14, .slice a15 1 c15, .slice a16 1 c16, .slice a17 1 c17] from R17.out) 50)
  clear R17 ON17 RW
  go_wp2_with fail
  refine (CC.out _ _ (by simp) RR.out).mono ?_
  rintro e w18 ⟨v18, rfl, s18, b18⟩
  have FIN := Lib.hid (And.intro (s18.base (Nat.zero_le _)) (HG17.out.trans (((Grow.refl _).alloc _).trans b18)))
  clear s18 b18 HG17 RR CC
  go_wp2_with fail
  go_ret
  exact ⟨_, rfl, FIN.out.1, FIN.out.2⟩
end Go.Proofs.Ytfldpaceebemhaa
