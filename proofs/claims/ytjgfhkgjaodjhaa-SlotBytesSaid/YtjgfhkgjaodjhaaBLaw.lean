/-
  The walk of SlotBytes.
-/
import Derived.Test.YtjgfhkgjaodjhaaRDec
import Derived.Test.YtjgfhkgjaodjhaaWLaw
namespace Go.Proofs.Ytjgfhkgjaodjhaa
open Go.RowKit

def encI (a n : Int) : List Int := [clampAt a / 16777216, clampAt a / 65536 % 256, clampAt a / 256 % 256, clampAt a % 256, uOf n / 4294967296 / 16777216, uOf n / 4294967296 / 65536 % 256, uOf n / 4294967296 / 256 % 256, uOf n / 4294967296 % 256,
  uOf n % 4294967296 / 16777216, uOf n % 4294967296 / 65536 % 256, uOf n % 4294967296 / 256 % 256, uOf n % 4294967296 % 256]
theorem enc_encI (a n : Int) : enc a n = (encI a n).map (Value.int .u8) := by rw [enc_eq]; rfl
theorem encI_isB (a n : Int) : IsB (encI a n) := by
  have h := clampAt_in a
  have h2 := uOf_in n
  intro x hx
  simp only [encI, List.mem_cons, List.not_mem_nil, or_false] at hx
  omega
theorem encI_at (a n : Int) : foldB ((encI a n).take 4) = clampAt a := by
  have h := clampAt_in a
  simp only [encI, List.take_succ_cons, List.take_zero, foldB, List.foldl_cons, List.foldl_nil]
  omega
theorem encI_n (a n : Int) (hn : I64 n) : wrap64 (foldB ((encI a n).drop 4)) = n := by
  have h := uOf_in n
  obtain ⟨h1, h2⟩ := hn
  simp only [encI, List.drop_succ_cons, List.drop_zero, foldB, List.foldl_cons, List.foldl_nil]
  unfold uOf wrap64 at *
  omega

theorem blaw_big (a n : Int) (ao : Option Addr) (len cap : Nat) (hl : 100 < len) (w : World) :
    Calls Try.prog 6 #[.agg #[.int .i64 a, .int .i64 n], .slice ao len cap] w fun e w' => e = .returned (.bool true) ∧ Below w.heap.size w w' := by
  have hl' : (100 : Int) < (len : Int) := by omega
  go_enter Try.func6, Try.ntmps6
  go_wp2
  go_ret
  exact ⟨rfl, (Below.refl _ _).alloc (Nat.le_refl _) _⟩

def phi6 (gg c : Nat) (a n X Y : Int) (ok : Bool) : Nat → Value → World → Prop
  | 0 => fun v _ => v = .slice (some ⟨gg, 0, none⟩) 12 c
  | 1 => fun v _ => v = .string (strOf (enc a n))
  | 2 => fun v _ => v = .agg #[.int .i64 a, .int .i64 n]
  | 3 => Rd 0 (enc a n)
  | 4 => fun v _ => v = .string (strOf (enc a n))
  | 7 => fun v _ => v = .agg #[.int .i64 X, .int .i64 Y]
  | 8 => fun v _ => v = .agg #[.int .i64 X, .int .i64 Y]
  | 12 => fun v _ => v = .bool ok
  | 13 => fun v _ => v = .bool ok
  | _ => fun v _ => v = .bool false
theorem phi6_grow (gg c : Nat) (a n X Y : Int) (ok : Bool) (i : Nat) (v : Value) (w w' : World) (hg : Grow w w') (h : phi6 gg c a n X Y ok i v w) : phi6 gg c a n X Y ok i v w' := by
  by_cases h3 : i = 3
  · subst h3; exact Rd.grow h hg
  · unfold phi6 at h ⊢
    split at h <;> simp_all

set_option maxHeartbeats 4000000 in
theorem blaw_mid (a n : Int) (hn : I64 n) (ao : Option Addr) (len cap : Nat) (hl : len ≤ 100) (X Y : Int) (ok : Bool) (w : World)
    (hd : ∀ W, Grow w W → Calls Try.prog 15 #[.slice ao len cap] W fun e w' => e = .returned (.tuple #[.agg #[.int .i64 X, .int .i64 Y], .bool ok]) ∧ Below W.heap.size W w')
    (hr : ∀ W, Grow w W → Calls Try.prog 16 #[.slice ao len cap] W fun e w' => e = .returned (.tuple #[.agg #[.int .i64 X, .int .i64 Y], .bool ok]) ∧ Below W.heap.size W w') :
    Calls Try.prog 6 #[.agg #[.int .i64 a, .int .i64 n], .slice ao len cap] w fun e w' => e = .returned (.bool true) ∧ Below w.heap.size w w' := by
  have hl' : ¬ (100 : Int) < (len : Int) := by omega
  have HD := Lib.hid (And.intro hd hr)
  clear hd hr
  go_enter Try.func6, Try.ntmps6
  go_wp2_with fail
  refine (enc_any a n hn _).mono ?_
  rintro e w1 ⟨gg, c, rfl, o1, b1⟩
  have g1 : Grow w w1 := ((Grow.refl w).alloc _).trans b1
  have p0 : w1.cell? ⟨w.heap.size, 0, none⟩ = some (.int .i64 a) := (b1.cell (p := ⟨w.heap.size, 0, none⟩) (by simp)).trans (by simp [go_sem])
  have p1 : w1.cell? ⟨w.heap.size, 1, none⟩ = some (.int .i64 n) := (b1.cell (p := ⟨w.heap.size, 1, none⟩) (by simp)).trans (by simp [go_sem])
  have hs1 : w.heap.size + 1 ≤ w1.heap.size := by have := b1.size; simpa using this
  have R1 := Lib.hid (Rd.of_own o1 (by omega))
  clear o1 b1
  go_wp2_with fail
  refine (HD.out.1 w1 g1).mono ?_
  rintro e w2 ⟨rfl, b2⟩
  have g2 : Grow w w2 := g1.trans b2
  have p0' := (b2.cell (p := ⟨w.heap.size, 0, none⟩) (by simp; omega)).trans p0
  have p1' := (b2.cell (p := ⟨w.heap.size, 1, none⟩) (by simp; omega)).trans p1
  have hs2 : w.heap.size + 1 ≤ w2.heap.size := by have := b2.size; omega
  have R2 := Lib.hid (R1.out.grow b2)
  clear R1 p0 p1 b2 hs1 g1
  go_wp2_with fail
  refine (HD.out.2 _ (g2.alloc _)).mono ?_
  rintro e w3 ⟨rfl, b3⟩
  have g3 : Grow w w3 := (g2.alloc _).trans b3
  have k3 : Grow w2 w3 := ((Grow.refl w2).alloc _).trans b3
  have p0 := (k3.cell (p := ⟨w.heap.size, 0, none⟩) (by simp; omega)).trans p0'
  have p1 := (k3.cell (p := ⟨w.heap.size, 1, none⟩) (by simp; omega)).trans p1'
  have qa0 : w3.cell? ⟨w2.heap.size, 0, none⟩ = some (.int .i64 X) := (b3.cell (p := ⟨w2.heap.size, 0, none⟩) (by simp)).trans (by simp [go_sem])
  have qa1 : w3.cell? ⟨w2.heap.size, 1, none⟩ = some (.int .i64 Y) := (b3.cell (p := ⟨w2.heap.size, 1, none⟩) (by simp)).trans (by simp [go_sem])
  have hs3 : w2.heap.size + 1 ≤ w3.heap.size := by have := b3.size; simpa using this
  have R3 := Lib.hid (R2.out.grow k3)
  clear R2 p0' p1' b3 k3 g2 HD
  obtain ⟨ga, hga'⟩ : ∃ ga, ga = w2.heap.size := ⟨_, rfl⟩
  rw [← hga'] at qa0 qa1 hs3 hs2 ⊢
  clear hga'
  go_wp2
  obtain ⟨w4, hw4⟩ : ∃ w4, w4 = w3.alloc (.cells #[.int .i64 X, .int .i64 Y] 29) := ⟨_, rfl⟩
  have k4 : Grow w3 w4 := by rw [hw4]; exact (Grow.refl w3).alloc _
  have qb0 : w4.cell? ⟨w3.heap.size, 0, none⟩ = some (.int .i64 X) := by rw [hw4]; simp [go_sem]
  have qb1 : w4.cell? ⟨w3.heap.size, 1, none⟩ = some (.int .i64 Y) := by rw [hw4]; simp [go_sem]
  have hgb' : w3.heap.size < w4.heap.size := by rw [hw4]; simp
  rw [← hw4]
  clear hw4
  replace qa0 := (k4.cell (p := ⟨ga, 0, none⟩) (by simp; omega)).trans qa0
  replace qa1 := (k4.cell (p := ⟨ga, 1, none⟩) (by simp; omega)).trans qa1
  replace p0 := (k4.cell (p := ⟨w.heap.size, 0, none⟩) (by simp; omega)).trans p0
  replace p1 := (k4.cell (p := ⟨w.heap.size, 1, none⟩) (by simp; omega)).trans p1
  have g4 : Grow w w4 := g3.trans k4
  have hga : ga < w4.heap.size := by omega
  have hw0 : w.heap.size < w4.heap.size := by omega
  have R4 := R3.out.grow k4
  clear R3 k4 g3
  obtain ⟨gb, hgbe⟩ : ∃ gb, gb = w3.heap.size := ⟨_, rfl⟩
  rw [← hgbe] at qb0 qb1 hgb' ⊢
  have hgb : gb < w4.heap.size := hgb'
  obtain ⟨g', o', n', c', hv, hl0, hl1, hl2, hl3, hgg', hl5⟩ := R4
  injection hv with hv1 hv2 hv3
  injection hv1 with hv1
  injection hv1 with hv1 hv4 _
  subst hv1 hv4 hv3 hv2
  have ROW := Lib.hid hl5
  have hgg : gg < w4.heap.size := hgg'
  clear hl0 hl5 hgbe hgb' hgg' hs3
  refine wp_region_phi' (phi6 gg c a n X Y ok) (by kernel_rfl) (by kernel_rfl) (phi6_grow _ _ _ _ _ _ _) ?_ ?_
  · intro x wq hG
    refine ⟨fun hp => ?_, fun hp => ?_, fun hp => ?_, fun hp => ?_, fun hp => ?_, fun hp => ?_, fun hp => ?_, fun hp => ?_, fun hp => ?_, fun hp => ?_, fun hp => ?_, fun hp => ?_, fun hp => ?_, fun hp => ?_, fun hp => ?_, fun hp => ?_, trivial⟩
    · unfold PhiStep
      rw [if_pos (by rfl)]
      intro K hK
      simp only [fillFrom, Act.put, List.setIfInBounds_toArray, List.set_cons_zero, List.set_cons_succ, Nat.reduceAdd] at hK ⊢
      go_simp
      exact hK _ _ (Grow.refl _) rfl
    · have h0 : x 0 = Value.slice (some ⟨gg, 0, none⟩) 12 c := hp.1 rfl
      unfold PhiStep
      rw [if_pos (by rfl)]
      intro K hK
      simp only [fillFrom, Act.put, List.setIfInBounds_toArray, List.set_cons_zero, List.set_cons_succ, Nat.reduceAdd, h0] at hK ⊢
      clear h0
      have cv := conv_cells (w := wq) (c := c) (enc_length a n) (allU8_enc a n) (fun j u hu => (Below.cell hG (p := ⟨gg, 0 + j, none⟩) hgg).trans (ROW.out j u hu))
      go_simp
      exact hK _ _ (Grow.refl _) rfl
    · unfold PhiStep
      rw [if_pos (by rfl)]
      intro K hK
      simp only [fillFrom, Act.put, List.setIfInBounds_toArray, List.set_cons_zero, List.set_cons_succ, Nat.reduceAdd] at hK ⊢
      have v0 := (Below.cell hG (p := ⟨w.heap.size, 0, none⟩) hw0).trans p0
      have v1 := (Below.cell hG (p := ⟨w.heap.size, 1, none⟩) hw0).trans p1
      go_simp
      exact hK _ _ (Grow.refl _) rfl
    · have h2 : x 2 = Value.agg #[.int .i64 a, .int .i64 n] := hp.1 rfl
      unfold PhiStep
      rw [if_pos (by rfl)]
      intro K hK
      simp only [fillFrom, Act.put, List.setIfInBounds_toArray, List.set_cons_zero, List.set_cons_succ, Nat.reduceAdd, h2] at hK ⊢
      clear h2
      go_simp
      refine (renc_any a n wq).mono ?_
      rintro e w5 ⟨g5, c5, rfl, o5, b5⟩
      exact hK _ _ b5 (Rd.of_own o5 (by omega) |>.le (Nat.zero_le _))
    · obtain ⟨g5, o5, n5, c5, h3, f1, f2, f3, f4, f5, f6⟩ : Rd 0 (enc a n) (x 3) wq := hp.1 rfl
      have cv := conv_cells (w := wq) (c := c5) f1 (allU8_enc a n) f6
      unfold PhiStep
      rw [if_pos (by rfl)]
      intro K hK
      simp only [fillFrom, Act.put, List.setIfInBounds_toArray, List.set_cons_zero, List.set_cons_succ, Nat.reduceAdd, h3] at hK ⊢
      clear h3 f1 f2 f3 f4 f5 f6
      go_simp
      exact hK _ _ (Grow.refl _) rfl
    · have h1 : x 1 = Value.string (strOf (enc a n)) := hp.1 rfl
      have h4 : x 4 = Value.string (strOf (enc a n)) := hp.2.1 rfl
      unfold PhiStep
      rw [if_pos (by rfl)]
      intro K hK
      simp only [fillFrom, Act.put, List.setIfInBounds_toArray, List.set_cons_zero, List.set_cons_succ, Nat.reduceAdd, h1, h4] at hK ⊢
      clear h1 h4
      go_simp
      exact hK _ _ (Grow.refl _) rfl
    · have h5 : x 5 = Value.bool false := hp.1 rfl
      unfold PhiStep
      rw [if_pos (by rfl)]
      intro K hK
      simp only [fillFrom, Act.put, List.setIfInBounds_toArray, List.set_cons_zero, List.set_cons_succ, Nat.reduceAdd, h5] at hK ⊢
      clear h5
      go_simp
      exact hK _ _ (Grow.refl _) rfl
    · have h6 : x 6 = Value.bool false := hp.1 rfl
      unfold PhiStep
      rw [if_pos (by simp only [fillFrom, Act.put, List.setIfInBounds_toArray, List.set_cons_zero, List.set_cons_succ, Nat.reduceAdd, h6]; rfl)]
      intro K hK
      simp only [fillFrom, Act.put, List.setIfInBounds_toArray, List.set_cons_zero, List.set_cons_succ, Nat.reduceAdd, h6] at hK ⊢
      clear h6
      have v0 := (Below.cell hG (p := ⟨ga, 0, none⟩) hga).trans qa0
      have v1 := (Below.cell hG (p := ⟨ga, 1, none⟩) hga).trans qa1
      go_simp
      exact hK _ _ (Grow.refl _) rfl
    · have h6 : x 6 = Value.bool false := hp.1 rfl
      unfold PhiStep
      rw [if_pos (by simp only [fillFrom, Act.put, List.setIfInBounds_toArray, List.set_cons_zero, List.set_cons_succ, Nat.reduceAdd, h6]; rfl)]
      intro K hK
      simp only [fillFrom, Act.put, List.setIfInBounds_toArray, List.set_cons_zero, List.set_cons_succ, Nat.reduceAdd, h6] at hK ⊢
      clear h6
      have v0 := (Below.cell hG (p := ⟨gb, 0, none⟩) hgb).trans qb0
      have v1 := (Below.cell hG (p := ⟨gb, 1, none⟩) hgb).trans qb1
      go_simp
      exact hK _ _ (Grow.refl _) rfl
    · have h7 : x 7 = Value.agg #[.int .i64 X, .int .i64 Y] := hp.1 rfl
      have h8 : x 8 = Value.agg #[.int .i64 X, .int .i64 Y] := hp.2.1 rfl
      have h6 : x 6 = Value.bool false := hp.2.2.1 rfl
      unfold PhiStep
      rw [if_pos (by simp only [fillFrom, Act.put, List.setIfInBounds_toArray, List.set_cons_zero, List.set_cons_succ, Nat.reduceAdd, h6]; rfl)]
      intro K hK
      simp only [fillFrom, Act.put, List.setIfInBounds_toArray, List.set_cons_zero, List.set_cons_succ, Nat.reduceAdd, h7, h8, h6] at hK ⊢
      clear h7 h8 h6
      go_simp
      exact hK _ _ (Grow.refl _) rfl
    · have h6 : x 6 = Value.bool false := hp.1 rfl
      have h9 : x 9 = Value.bool false := hp.2.1 rfl
      unfold PhiStep
      rw [if_pos (by rfl)]
      intro K hK
      simp only [fillFrom, Act.put, List.setIfInBounds_toArray, List.set_cons_zero, List.set_cons_succ, Nat.reduceAdd, h6, h9] at hK ⊢
      clear h6 h9
      go_simp
      exact hK _ _ (Grow.refl _) rfl
    · have h10 : x 10 = Value.bool false := hp.1 rfl
      unfold PhiStep
      rw [if_pos (by rfl)]
      intro K hK
      simp only [fillFrom, Act.put, List.setIfInBounds_toArray, List.set_cons_zero, List.set_cons_succ, Nat.reduceAdd, h10] at hK ⊢
      clear h10
      go_simp
      exact hK _ _ (Grow.refl _) rfl
    · have h11 : x 11 = Value.bool false := hp.1 rfl
      unfold PhiStep
      rw [if_pos (by simp only [fillFrom, Act.put, List.setIfInBounds_toArray, List.set_cons_zero, List.set_cons_succ, Nat.reduceAdd, h11]; rfl)]
      intro K hK
      simp only [fillFrom, Act.put, List.setIfInBounds_toArray, List.set_cons_zero, List.set_cons_succ, Nat.reduceAdd, h11] at hK ⊢
      clear h11
      go_simp
      exact hK _ _ (Grow.refl _) rfl
    · have h11 : x 11 = Value.bool false := hp.1 rfl
      unfold PhiStep
      rw [if_pos (by simp only [fillFrom, Act.put, List.setIfInBounds_toArray, List.set_cons_zero, List.set_cons_succ, Nat.reduceAdd, h11]; rfl)]
      intro K hK
      simp only [fillFrom, Act.put, List.setIfInBounds_toArray, List.set_cons_zero, List.set_cons_succ, Nat.reduceAdd, h11] at hK ⊢
      clear h11
      go_simp
      exact hK _ _ (Grow.refl _) rfl
    · have h12 : x 12 = Value.bool ok := hp.1 rfl
      have h13 : x 13 = Value.bool ok := hp.2.1 rfl
      have h11 : x 11 = Value.bool false := hp.2.2.1 rfl
      unfold PhiStep
      rw [if_pos (by simp only [fillFrom, Act.put, List.setIfInBounds_toArray, List.set_cons_zero, List.set_cons_succ, Nat.reduceAdd, h11]; rfl)]
      intro K hK
      simp only [fillFrom, Act.put, List.setIfInBounds_toArray, List.set_cons_zero, List.set_cons_succ, Nat.reduceAdd, h12, h13, h11] at hK ⊢
      clear h12 h13 h11
      go_simp
      exact hK _ _ (Grow.refl _) rfl
    · have h11 : x 11 = Value.bool false := hp.1 rfl
      have h14 : x 14 = Value.bool false := hp.2.1 rfl
      unfold PhiStep
      rw [if_pos (by rfl)]
      intro K hK
      simp only [fillFrom, Act.put, List.setIfInBounds_toArray, List.set_cons_zero, List.set_cons_succ, Nat.reduceAdd, h11, h14] at hK ⊢
      clear h11 h14
      go_simp
      exact hK _ _ (Grow.refl _) rfl
  · intro x wq hG hP
    have h15 : x 15 = Value.bool false := hP.2.2.2.2.2.2.2.2.2.2.2.2.2.2.2.1
    clear hP
    simp only [fillFrom, Act.put, List.setIfInBounds_toArray, List.set_cons_zero, List.set_cons_succ, Nat.reduceAdd, h15]
    have p0q := (Below.cell hG (p := ⟨w.heap.size, 0, none⟩) hw0).trans p0
    have p1q := (Below.cell hG (p := ⟨w.heap.size, 1, none⟩) hw0).trans p1
    have gq : Grow w wq := g4.trans hG
    have hwq : w.heap.size < wq.heap.size := Nat.lt_of_lt_of_le hw0 hG.size
    have row : ∀ j, j < 12 → wq.cell? ⟨gg, 0 + j, none⟩ = some (.int .u8 ((encI a n).getD j 0)) := fun j hj => by
      refine (Below.cell hG (p := ⟨gg, 0 + j, none⟩) hgg).trans (ROW.out j _ ?_)
      rw [enc_encI, List.getElem?_map]
      have hlen : j < (encI a n).length := hj
      simp [List.getD, List.getElem?_eq_getElem hlen]
    have DC := Lib.hid (dec_yes gg 0 c (encI a n) rfl (encI_isB a n) wq (Nat.lt_of_lt_of_le hgg hG.size) row)
    clear p0 p1 qa0 qa1 qb0 qb1 ROW row h15 hG g4
    go_wp2_with fail
    refine DC.out.mono ?_
    rintro e w6 ⟨rfl, b6⟩
    rw [encI_at, encI_n a n hn]
    clear DC
    have z0 := (b6.cell (p := ⟨w.heap.size, 0, none⟩) hwq).trans p0q
    have z1 := (b6.cell (p := ⟨w.heap.size, 1, none⟩) hwq).trans p1q
    have hw6 : w.heap.size < w6.heap.size := Nat.lt_of_lt_of_le hwq b6.size
    have g6 : Grow w w6 := gq.trans b6
    clear p0q p1q b6 gq hwq
    by_cases c1 : a < 0
    · go_wp2_with (go_at_call 11; refine (known_any _).mono ?_; rintro e w7 ⟨rfl, b7⟩)
      go_ret
      exact ⟨rfl, (g6.alloc _).trans b7⟩
    by_cases c2 : 4294967295 < a
    · go_wp2_with (go_at_call 11; refine (known_any _).mono ?_; rintro e w7 ⟨rfl, b7⟩)
      go_ret
      exact ⟨rfl, (g6.alloc _).trans b7⟩
    · have hcl : clampAt a = a := by unfold clampAt; omega
      rw [hcl]
      clear hcl
      go_wp2_with (go_at_call 11; refine (known_any _).mono ?_; rintro e w7 ⟨rfl, b7⟩)
      go_ret
      exact ⟨rfl, (g6.alloc _).trans b7⟩
/-- The law, whatever bytes come in. -/
theorem blaw_any (a n : Int) (hn : I64 n) (ao : Option Addr) (len cap : Nat) (zs : List Int) (w : World) (h : IsRow .u8 w ao len cap zs) :
    Calls Try.prog 6 #[.agg #[.int .i64 a, .int .i64 n], .slice ao len cap] w fun e w' => e = .returned (.bool true) ∧ Below w.heap.size w w' := by
  by_cases hl : 100 < len
  · exact blaw_big a n ao len cap hl w
  by_cases h12 : len = 12
  · subst h12
    obtain ⟨b, o, rfl, hb, hcap, _, hlen, hu, hc⟩ := h.cells (by omega)
    have hz : (zs.take 12).length = 12 := by simpa using hlen
    have hcell : ∀ j, j < 12 → w.cell? ⟨b, o + j, none⟩ = some (.int .u8 ((zs.take 12).getD j 0)) := fun j hj => by
      have hjl : j < (zs.take 12).length := by omega
      have := hc j (.int .u8 ((zs.take 12).getD j 0)) (by rw [List.getElem?_map, List.getElem?_eq_getElem hjl]; simp [List.getD, List.getElem?_eq_getElem hjl])
      unfold Addr.add at this
      split at this <;> simp_all
    have hB : IsB (zs.take 12) := fun n hn => hu n (List.mem_of_mem_take hn)
    exact blaw_mid a n hn _ 12 cap (by omega) _ _ _ w
      (fun W hG => dec_yes b o cap (zs.take 12) hz hB W (Nat.lt_of_lt_of_le hb hG.size) fun j hj => (Below.cell hG (p := ⟨b, o + j, none⟩) hb).trans (hcell j hj))
      (fun W hG => rdec_yes b o cap (zs.take 12) hz hB W (Nat.lt_of_lt_of_le hb hG.size) hcap fun j hj => (Below.cell hG (p := ⟨b, o + j, none⟩) hb).trans (hcell j hj))
  · exact blaw_mid a n hn ao len cap (by omega) 0 0 false w (fun W _ => dec_no ao len cap h12 W) (fun W _ => rdec_no ao len cap h12 W)
end Go.Proofs.Ytjgfhkgjaodjhaa
