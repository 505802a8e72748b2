/-
  What Check answers, as a plain function of a node's kids; the walk of sign.Check.
-/
import Derived.Test.YtfldpaceebemhaaK1
namespace Go.Proofs.Ytfldpaceebemhaa
open Go.RowKit

/-- a node that stands in a row -/
structure KidD where
  kd : Int
  tx : ByteArray
  n : Int
  ao : Option Addr
  l : Nat
  c : Nat
def KidD.val (k : KidD) : Value := .agg #[.int .i64 k.kd, .string k.tx, .int .i64 k.n, .slice k.ao k.l k.c]
def KidIn (w : World) (g o i : Nat) (k : KidD) : Prop :=
  w.cell? ⟨g, o + i * 4, none⟩ = some (.int .i64 k.kd) ∧ w.cell? ⟨g, o + i * 4 + 1, none⟩ = some (.string k.tx) ∧ w.cell? ⟨g, o + i * 4 + 2, none⟩ = some (.int .i64 k.n) ∧ w.cell? ⟨g, o + i * 4 + 3, none⟩ = some (.slice k.ao k.l k.c) ∧ k.tx.size ≤ maxLen
def KidRow (w : World) (a : Option Addr) (l : Nat) (K : Nat → KidD) : Prop := l ≤ maxLen ∧ (0 < l → ∃ g o, a = some ⟨g, o, none⟩ ∧ g < w.heap.size ∧ ∀ i, i < l → KidIn w g o i (K i))
theorem KidRow.grow {w w' : World} {a : Option Addr} {l : Nat} {K : Nat → KidD} (h : KidRow w a l K) (hb : Grow w w') : KidRow w' a l K := by
  refine ⟨h.1, fun h0 => ?_⟩
  obtain ⟨g, o, h1, h2, h3⟩ := h.2 h0
  refine ⟨g, o, h1, Nat.lt_of_lt_of_le h2 hb.size, fun i hi => ?_⟩
  obtain ⟨q0, q1, q2, q3, q4⟩ := h3 i hi
  exact ⟨(Below.cell hb (p := ⟨g, _, none⟩) h2).trans q0, (Below.cell hb (p := ⟨g, _, none⟩) h2).trans q1, (Below.cell hb (p := ⟨g, _, none⟩) h2).trans q2, (Below.cell hb (p := ⟨g, _, none⟩) h2).trans q3, q4⟩
def fewB (d : SigD) (l : Nat) : Bool := decide ((l : Int) < d.need.length) || (d.rest == 0 && decide ((d.need.length : Int) + d.may.length < l))
noncomputable def okKid (d : SigD) (K : Nat → KidD) (i : Nat) : Bool := sortB (K i).kd (K i).tx (K i).n (sortAt d i)
def badKid (K : Nat → KidD) (E : Nat → Int) (i : Nat) : Bool := (K i).kd == 1 && E i != 0
/-- what Check answers -/
noncomputable def chk1 (kd : Int) (tx : ByteArray) (l : Nat) (K : Nat → KidD) (E : Nat → Int) : Int :=
  if kd == 2 then 0 else if kd != 1 then 11 else if (ofF tx).2 = false then 9 else if fewB (ofF tx).1 l then 10 else
  if ((List.range l).all (okKid (ofF tx).1 K)) = false then 11 else
  match (List.range l).find? (badKid K E) with
  | some i => E i
  | none => 0
theorem tab_small : (tab.all fun d => decide (d.need.length ≤ 3) && decide (d.may.length ≤ 1) && decide (0 < d.need.length)) = true := by decide +kernel
theorem ofF_small (s : ByteArray) : (ofF s).1.need.length ≤ 3 ∧ (ofF s).1.may.length ≤ 1 ∧ ((ofF s).2 = true → 0 < (ofF s).1.need.length ∧ (ofF s).1.name = s ∧ (ofF s).1 ∈ tab) := by
  unfold ofF
  cases h : tab.find? (fun d => d.name.toList == s.toList) with
  | none => exact ⟨by simp, by simp, fun h => by simp at h⟩
  | some d =>
    have hm := List.mem_of_find?_eq_some h
    have hs := List.find?_some h
    have h2 := List.all_eq_true.mp tab_small d hm
    simp only [Bool.and_eq_true, decide_eq_true_eq] at h2
    refine ⟨h2.1.1, h2.1.2, fun _ => ⟨h2.2, ?_, hm⟩⟩
    rw [beq_iff_eq, ByteArray.toList_eq, ByteArray.toList_eq] at hs
    have : d.name.data = s.data := Array.ext' hs
    cases hd : d.name; cases s; simp_all
theorem range_all_false {l k : Nat} (p : Nat → Bool) (hk : k < l) (h : p k = false) : (List.range l).all p = false := by
  rw [← Bool.not_eq_true, List.all_eq_true]
  intro H
  have := H k (by simpa using hk)
  rw [h] at this; cases this
theorem range_all_true {l : Nat} (p : Nat → Bool) (h : ∀ k, k < l → p k = true) : (List.range l).all p = true := by
  rw [List.all_eq_true]
  intro x hx
  exact h x (by simpa using hx)
theorem range_find {l k : Nat} (p : Nat → Bool) (hk : k < l) (h : ∀ j, j < k → p j = false) (hp : p k = true) : (List.range l).find? p = some k :=
  find_step _ p k k (by simp [hk]) (fun j e hj he => by
    have hjl : j < l := by omega
    simp [hjl] at he
    subst he
    exact h j hj) hp
theorem range_none {l : Nat} (p : Nat → Bool) (h : ∀ j, j < l → p j = false) : (List.range l).find? p = none :=
  find_none _ p (fun j e hj he => by
    have hjl : j < l := by simpa using hj
    simp [hjl] at he
    subst he
    exact h j hjl)
set_option maxHeartbeats 4000000 in
theorem check11_walk (kd : Int) (tx : ByteArray) (n : Int) (a : Option Addr) (l c : Nat) (K : Nat → KidD) (E : Nat → Int) (w : World) (htx : tx.size ≤ maxLen) (hk : KidRow w a l K)
    (IH : ∀ i, i < l → (K i).kd = 1 → ∀ w', Grow w w' → Calls Try.prog 11 #[(K i).val] w' fun e w'' => e = .returned (.int .i64 (E i)) ∧ Grow w' w'') :
    Calls Try.prog 11 #[.agg #[.int .i64 kd, .string tx, .int .i64 n, .slice a l c]] w fun e w' => e = .returned (.int .i64 (chk1 kd tx l K E)) ∧ Grow w w' := by
  obtain ⟨hl, hk⟩ := hk
  unfold maxLen at hl
  cases t2 : (kd == 2) with
  | true =>
    have hs : chk1 kd tx l K E = 0 := by unfold chk1; rw [t2]; rfl
    rw [hs]
    clear hk IH hs
    go_enter Try.func11, Try.ntmps11
    go_wp2
    go_ret
    exact ⟨rfl, (Grow.refl _).alloc _⟩
  | false =>
    by_cases t1 : kd = 1
    · subst t1
      have HI := Lib.hid IH
      have HK := Lib.hid hk
      have OF := Lib.hid (fun W => of13_any tx W)
      obtain ⟨S, hS⟩ : ∃ S, S = chk1 1 tx l K E := ⟨_, rfl⟩
      rw [← hS]
      have HS := Lib.hid hS
      clear hk IH hS
      go_enter Try.func11, Try.ntmps11
      go_wp2_with fail
      refine (OF.out _).mono ?_
      rintro e w1 ⟨d, ok, nv, mv, rfl, i1, i2, g1, hof⟩
      obtain ⟨s1, s2, s3⟩ := ofF_small tx
      rw [hof] at s1 s2
      clear s3
      simp only at s1 s2
      have hG : Grow w w1 := ((Grow.refl w).alloc _).trans g1
      have hb0 : w1.heap[w.heap.size]? = some (.cells #[.int .i64 1, .string tx, .int .i64 n, .slice a l c] 24 (0, 0)) :=
        (Below.block g1 _ (by simp)).trans (heap_alloc_new w (.cells #[.int .i64 1, .string tx, .int .i64 n, .slice a l c] 24))
      have hz : w.heap.size < w1.heap.size := by have := Grow.size g1; simp at this; omega
      have HG := Lib.hid hG
      clear g1 hG OF
      obtain ⟨-, a1, z1, rfl, -⟩ := i1.open'
      obtain ⟨-, a2, z2, rfl, -⟩ := i2.open'
      have I1 := Lib.hid i1
      have I2 := Lib.hid i2
      have HOF := Lib.hid hof
      clear i1 i2 hof
      obtain ⟨nm, need, may, rest⟩ := d
      simp only at s1 s2
      obtain ⟨N, hN⟩ : ∃ N, N = need.length := ⟨_, rfl⟩
      obtain ⟨M, hM⟩ : ∃ M, M = may.length := ⟨_, rfl⟩
      simp only [← hN, ← hM] at s1 s2 ⊢
      have HN := Lib.hid hN
      have HM := Lib.hid hM
      clear hN hM
      have b0 := cell_blk hb0 0
      have b1 := cell_blk hb0 1
      have b2 := cell_blk hb0 2
      have b3 := cell_blk hb0 3
      simp at b0 b1 b2 b3
      have HB0 := Lib.hid hb0
      clear hb0
      cases ok with
      | false =>
        have hs : S = 9 := by rw [HS.out]; unfold chk1; rw [HOF.out]; rfl
        subst hs
        go_wp2
        go_ret
        exact ⟨rfl, HG.out.alloc _⟩
      | true =>
        have u1 : IntKind.i64.wrap ((N : Int) + M) = (N : Int) + M := IntWalk.i64_in _ (by omega)
        rcases (show ((l : Int) < N) ∨ (¬ ((l : Int) < N) ∧ (rest == 0) = true ∧ (N : Int) + M < l) ∨ (¬ ((l : Int) < N) ∧ (rest == 0) = true ∧ ¬ (N : Int) + M < l) ∨ (¬ ((l : Int) < N) ∧ (rest == 0) = false) from by
          by_cases f1 : (l : Int) < N
          · exact .inl f1
          · cases f2 : (rest == 0)
            · exact .inr (.inr (.inr ⟨f1, rfl⟩))
            · by_cases f3 : (N : Int) + M < l
              · exact .inr (.inl ⟨f1, rfl, f3⟩)
              · exact .inr (.inr (.inl ⟨f1, rfl, f3⟩))) with f1 | ⟨f1, f2, f3⟩ | ⟨f1, f2, f3⟩ | ⟨f1, f2⟩
        · have hs : S = 10 := by
            have hf : fewB ⟨nm, need, may, rest⟩ l = true := by unfold fewB; simp only [← HN.out, ← HM.out]; simp; omega
            rw [HS.out]; unfold chk1; rw [HOF.out]; simp only [hf]; rfl
          subst hs
          go_wp2
          go_ret
          exact ⟨rfl, HG.out.alloc _⟩
        · have hs : S = 10 := by
            have hf : fewB ⟨nm, need, may, rest⟩ l = true := by unfold fewB; simp only [← HN.out, ← HM.out, f2]; simp; omega
            rw [HS.out]; unfold chk1; rw [HOF.out]; simp only [hf]; rfl
          subst hs
          go_wp2
          go_ret
          exact ⟨rfl, HG.out.alloc _⟩
        all_goals
          obtain ⟨F, hF⟩ : ∃ F, F = fewB ⟨nm, need, may, rest⟩ l := ⟨_, rfl⟩
          have HF := Lib.hid (show fewB ⟨nm, need, may, rest⟩ l = false from by unfold fewB; simp only [← HN.out, ← HM.out, f2]; simp; omega)
          clear hF F
          go_wp2
          obtain ⟨w2, hw2⟩ : ∃ w2, w2 = w1.alloc (.cells #[.string nm, .slice a1 N z1, .slice a2 M z2, .int .i64 rest] 34) := ⟨_, rfl⟩
          have hs2 := heap_alloc_new w1 (.cells #[.string nm, .slice a1 N z1, .slice a2 M z2, .int .i64 rest] 34)
          have g2 := (Grow.refl w1).alloc (.cells #[.string nm, .slice a1 N z1, .slice a2 M z2, .int .i64 rest] 34)
          have z2' : (w1.alloc (.cells #[.string nm, .slice a1 N z1, .slice a2 M z2, .int .i64 rest] 34)).heap.size = w1.heap.size + 1 := by simp
          rw [← hw2] at hs2 g2 z2' ⊢
          have hn0 : w2.heap[w.heap.size]? = some (.cells #[.int .i64 1, .string tx, .int .i64 n, .slice a l c] 24 (0, 0)) := (Below.block g2 _ hz).trans HB0.out
          have HN0 := Lib.hid hn0
          have HS2 := Lib.hid hs2
          have G2 := Lib.hid (HG.out.trans g2)
          have J1 := Lib.hid (I1.out.grow g2)
          have J2 := Lib.hid (I2.out.grow g2)
          clear b0 b1 b2 b3 hn0 hs2 g2 hw2 I1 I2 HB0 HG f1 f2
          go_loopw [54] (fun i wr => ∃ k : Nat, k ≤ l ∧ i = .int .i64 k ∧ Hid (∀ j, j < k → okKid ⟨nm, need, may, rest⟩ K j = true) ∧ Grow w2 wr) (fun i _ => l - (intOf i).toNat)
          case atStart => exact ⟨0, by omega, rfl, Lib.hid (fun j hj => absurd hj (by omega)), Grow.refl _⟩
          case round =>
            obtain ⟨k, hk, rfl, H, hb⟩ := hrel
            have k0 : (0 : Int) ≤ (k : Int) := by omega
            have hrs := hb.size
            have hn := (Below.block hb _ (show w.heap.size < w2.heap.size by omega)).trans HN0.out
            have hsg := (Below.block hb _ (show w1.heap.size < w2.heap.size by omega)).trans HS2.out
            have HB := Lib.hid hb
            have b3 := cell_blk hn 3
            simp at b3
            by_cases hlt : k < l
            · have k1 : (k : Int) < (l : Int) := by omega
              obtain ⟨g, o, rfl, hg, hki⟩ := HK.out (by omega)
              obtain ⟨q0, q1, q2, q3, q4⟩ := hki k hlt
              obtain ⟨D, hD⟩ : ∃ D, D = K k := ⟨_, rfl⟩
              have HD := Lib.hid hD
              rw [← hD] at q0 q1 q2 q3 q4
              clear hD hki
              obtain ⟨kd', tx', n', ao', l', c'⟩ := D
              simp only at q0 q1 q2 q3 q4
              have hgw : g < w2.heap.size := Nat.lt_of_lt_of_le hg (G2.out.size)
              have hgr : g < wr.heap.size := by omega
              have hw2r : Grow w wr := G2.out.trans hb
              replace q0 := (Below.cell hw2r (p := ⟨g, _, none⟩) hg).trans q0
              replace q1 := (Below.cell hw2r (p := ⟨g, _, none⟩) hg).trans q1
              replace q2 := (Below.cell hw2r (p := ⟨g, _, none⟩) hg).trans q2
              replace q3 := (Below.cell hw2r (p := ⟨g, _, none⟩) hg).trans q3
              clear hw2r
              have d0 := cell_blk hsg 0
              have d1 := cell_blk hsg 1
              have d2 := cell_blk hsg 2
              have d3 := cell_blk hsg 3
              simp at d0 d1 d2 d3
              clear hsg hn hb
              have hok : okKid ⟨nm, need, may, rest⟩ K k = sortB kd' tx' n' (sortAt ⟨nm, need, may, rest⟩ k) := by unfold okKid; rw [← HD.out]
              have HJ1 : Hid (IntsIn need (.slice a1 N z1) wr) := Lib.hid (by have := J1.out.grow HB.out; rw [← HN.out] at this; exact this)
              have HJ2 : Hid (IntsIn may (.slice a2 M z2) wr) := Lib.hid (by have := J2.out.grow HB.out; rw [← HM.out] at this; exact this)
              have F22 : Hid (∀ W, Grow wr W → Calls Try.prog 22 #[.agg #[.string nm, .slice a1 N z1, .slice a2 M z2, .int .i64 rest], .int .i64 k] W fun e w' => e = .returned (.int .i64 (sortAt ⟨nm, need, may, rest⟩ k)) ∧ Below W.heap.size W w') :=
                Lib.hid (fun W hW => sort22_any ⟨nm, need, may, rest⟩ k _ _ W (HJ1.out.grow hW) (HJ2.out.grow hW) (by rw [← HN.out]; omega) (by rw [← HM.out]; omega) (by unfold maxLen; omega))
              cases hsb : okKid ⟨nm, need, may, rest⟩ K k
              all_goals
                rw [hsb] at hok
                have F8 : Hid (∀ W, Calls Try.prog 8 #[.agg #[.int .i64 kd', .string tx', .int .i64 n', .slice ao' l' c'], .int .i64 (sortAt ⟨nm, need, may, rest⟩ k)] W fun e w' => e = .returned (.bool (okKid ⟨nm, need, may, rest⟩ K k)) ∧ Below W.heap.size W w') :=
                  Lib.hid (fun W => by rw [hsb, hok]; exact sort8_any kd' n' tx' ao' l' c' _ W q4)
                rw [hsb] at F8
                have HSB := Lib.hid hsb
                obtain ⟨SA, hSA⟩ : ∃ SA, SA = sortAt ⟨nm, need, may, rest⟩ k := ⟨_, rfl⟩
                rw [← hSA] at F8 F22
                clear hok hsb hSA
                go_wp2
                obtain ⟨W, hW⟩ : ∃ W, W = wr.alloc (.cells #[.int .i64 kd', .string tx', .int .i64 n', .slice ao' l' c'] 24) := ⟨_, rfl⟩
                have x := cell_blk (heap_alloc_new wr (.cells #[.int .i64 kd', .string tx', .int .i64 n', .slice ao' l' c'] 24))
                have x0 := x 0
                have x1 := x 1
                have x2 := x 2
                have x3 := x 3
                have gW := (Grow.refl wr).alloc (.cells #[.int .i64 kd', .string tx', .int .i64 n', .slice ao' l' c'] 24)
                have zW : (wr.alloc (.cells #[.int .i64 kd', .string tx', .int .i64 n', .slice ao' l' c'] 24)).heap.size = wr.heap.size + 1 := by simp
                clear x
                rw [← hW] at x0 x1 x2 x3 gW zW ⊢
                simp at x0 x1 x2 x3
                clear hW
                have hsr : w1.heap.size < wr.heap.size := by omega
                refine wp_region_beyond W.heap.size (by kernel_rfl) (by kernel_rfl) ?_
                have y0 : ∀ y : Beyond W.heap.size W, y.w.cell? ⟨wr.heap.size, 0, none⟩ = some (.int .i64 kd') := fun y => (y.h.cell (p := ⟨_, 0, none⟩) (by simp only; omega)).trans x0
                have y1 : ∀ y : Beyond W.heap.size W, y.w.cell? ⟨wr.heap.size, 1, none⟩ = some (.string tx') := fun y => (y.h.cell (p := ⟨_, 1, none⟩) (by simp only; omega)).trans x1
                have y2 : ∀ y : Beyond W.heap.size W, y.w.cell? ⟨wr.heap.size, 2, none⟩ = some (.int .i64 n') := fun y => (y.h.cell (p := ⟨_, 2, none⟩) (by simp only; omega)).trans x2
                have y3 : ∀ y : Beyond W.heap.size W, y.w.cell? ⟨wr.heap.size, 3, none⟩ = some (.slice ao' l' c') := fun y => (y.h.cell (p := ⟨_, 3, none⟩) (by simp only; omega)).trans x3
                have y4 : ∀ y : Beyond W.heap.size W, y.w.cell? ⟨w1.heap.size, 0, none⟩ = some (.string nm) := fun y => (y.h.cell (p := ⟨_, 0, none⟩) (by simp only; omega)).trans ((gW.cell (p := ⟨_, 0, none⟩) hsr).trans d0)
                have y5 : ∀ y : Beyond W.heap.size W, y.w.cell? ⟨w1.heap.size, 1, none⟩ = some (.slice a1 N z1) := fun y => (y.h.cell (p := ⟨_, 1, none⟩) (by simp only; omega)).trans ((gW.cell (p := ⟨_, 1, none⟩) hsr).trans d1)
                have y6 : ∀ y : Beyond W.heap.size W, y.w.cell? ⟨w1.heap.size, 2, none⟩ = some (.slice a2 M z2) := fun y => (y.h.cell (p := ⟨_, 2, none⟩) (by simp only; omega)).trans ((gW.cell (p := ⟨_, 2, none⟩) hsr).trans d2)
                have y7 : ∀ y : Beyond W.heap.size W, y.w.cell? ⟨w1.heap.size, 3, none⟩ = some (.int .i64 rest) := fun y => (y.h.cell (p := ⟨_, 3, none⟩) (by simp only; omega)).trans ((gW.cell (p := ⟨_, 3, none⟩) hsr).trans d3)
                have GW := Lib.hid gW
                clear q0 q1 q2 q3 x0 x1 x2 x3 b3 gW d0 d1 d2 d3
                have F22' : Hid (∀ y : Beyond W.heap.size W, Calls Try.prog 22 #[.agg #[.string nm, .slice a1 N z1, .slice a2 M z2, .int .i64 rest], .int .i64 k] y.w fun e w' => e = .returned (.int .i64 SA) ∧ Below y.w.heap.size y.w w') :=
                  Lib.hid (fun y => F22.out _ (GW.out.trans y.h))
                repeat (go_big_quiet_step ((first
                  | (go_at_call 22; exact Calls.beyond (Nat.le_refl _) (F22'.out _))
                  | (go_at_call 8; exact Calls.beyond (Nat.le_refl _) (F8.out _)))))
                refine wpQuiet_nil ?_
                rintro w3 ⟨⟨_, hb3⟩, rfl⟩
                have HB3 := Lib.hid hb3
                clear y0 y1 y2 y3 y4 y5 y6 y7 hb3
              · have hs : S = 11 := by
                  rw [HS.out]; unfold chk1; rw [HOF.out]
                  simp only [HF.out, range_all_false _ hlt HSB.out]
                  rfl
                subst hs
                go_wp2
                go_ret
                exact ⟨rfl, ((G2.out.trans HB.out).trans GW.out).trans HB3.out⟩
              · go_wp2
                go_roundw
                case rel => exact ⟨k + 1, by omega, by go_num, Lib.hid (fun j hj => by
                  rcases Nat.lt_or_ge j k with h | h
                  · exact H.out j h
                  · obtain rfl : j = k := by omega
                    exact HSB.out), (HB.out.trans GW.out).trans HB3.out⟩
                case measure => simp [intOf]; omega
            · have k1 : ¬ (k : Int) < (l : Int) := by omega
              obtain rfl : k = l := by omega
              have HA := Lib.hid (range_all_true _ H.out)
              clear hsg H hn hb b3
              have hn := (Below.block HB.out _ (show w.heap.size < w2.heap.size by omega)).trans HN0.out
              have b3 := cell_blk hn 3
              simp at b3
              clear hn
              obtain ⟨w4, hw4⟩ : ∃ w4, w4 = wr := ⟨_, rfl⟩
              rw [← hw4] at b3 ⊢
              have G4 := Lib.hid (show Grow w w4 from by rw [hw4]; exact G2.out.trans HB.out)
              have z4 : w2.heap.size ≤ w4.heap.size := by rw [hw4]; omega
              have HN4 := Lib.hid (show w4.heap[w.heap.size]? = some (.cells #[.int .i64 1, .string tx, .int .i64 n, .slice a k c] 24 (0, 0)) from by rw [hw4]; exact (Below.block HB.out _ (show w.heap.size < w2.heap.size by omega)).trans HN0.out)
              clear hw4 HB hrs HN0 HS2 hk J1 J2 G2
              go_wp2
              go_loopw [69] (fun i wr => ∃ j : Nat, j ≤ k ∧ i = .int .i64 j ∧ Hid (∀ i, i < j → badKid K E i = false) ∧ Grow w4 wr) (fun i _ => k - (intOf i).toNat)
              case atStart => exact ⟨0, by omega, rfl, Lib.hid (fun j hj => absurd hj (by omega)), Grow.refl _⟩
              case round =>
                obtain ⟨j, hk, rfl, H, hb⟩ := hrel
                have k0 : (0 : Int) ≤ (j : Int) := by omega
                have hrs := hb.size
                by_cases hlt : j < k
                · have k1 : (j : Int) < (k : Int) := by omega
                  obtain ⟨g, o, rfl, hg, hki⟩ := HK.out (by omega)
                  obtain ⟨q0, q1, q2, q3, q4⟩ := hki j hlt
                  have hgr : g < wr.heap.size := by omega
                  have hw2r : Grow w wr := G4.out.trans hb
                  replace q0 := (Below.cell hw2r (p := ⟨g, _, none⟩) hg).trans q0
                  replace q1 := (Below.cell hw2r (p := ⟨g, _, none⟩) hg).trans q1
                  replace q2 := (Below.cell hw2r (p := ⟨g, _, none⟩) hg).trans q2
                  replace q3 := (Below.cell hw2r (p := ⟨g, _, none⟩) hg).trans q3
                  have HB := Lib.hid hb
                  have HW := Lib.hid hw2r
                  clear hw2r hb hki
                  by_cases t5 : (K j).kd = 1
                  · have HC : Hid (∀ W, Grow w W → Calls Try.prog 11 #[.agg #[.int .i64 1, .string (K j).tx, .int .i64 (K j).n, .slice (K j).ao (K j).l (K j).c]] W fun e w'' => e = .returned (.int .i64 (E j)) ∧ Grow W w'') :=
                      Lib.hid (fun W hW => by have := HI.out j hlt t5 W hW; unfold KidD.val at this; rw [t5] at this; exact this)
                    rw [t5] at q0
                    have HT := Lib.hid (show ((K j).kd == 1) = true from by simpa using t5)
                    clear t5
                    cases he : (E j != 0)
                    all_goals
                      have he' : (E j == 0) = !(E j != 0) := by simp [bne]
                      rw [he] at he'
                      simp only [Bool.not_false, Bool.not_true] at he'
                      have HE := Lib.hid he
                      clear he
                      go_wp2_with fail
                      refine (HC.out _ (HW.out.alloc _)).mono ?_
                      rintro e w5 ⟨rfl, g5⟩
                      have G5 := Lib.hid g5
                      clear g5
                    · go_wp2
                      go_roundw
                      case rel => exact ⟨j + 1, by omega, by go_num, Lib.hid (fun i hi => by
                        rcases Nat.lt_or_ge i j with h | h
                        · exact H.out i h
                        · obtain rfl : i = j := by omega
                          unfold badKid; rw [HE.out, Bool.and_false]), (HB.out.alloc _).trans G5.out⟩
                      case measure => simp [intOf]; omega
                    · have hs : S = E j := by
                        rw [HS.out]; unfold chk1; rw [HOF.out]
                        simp only [HF.out, HA.out, range_find (badKid K E) hlt H.out (by unfold badKid; rw [HE.out, HT.out]; rfl)]
                        rfl
                      go_wp2
                      go_ret
                      exact ⟨ret_int hs.symm, (HW.out.alloc _).trans G5.out⟩
                  · have t6 : ((K j).kd == 1) = false := by simpa using t5
                    have HT := Lib.hid t6
                    clear t5
                    go_wp2
                    go_roundw
                    case rel => exact ⟨j + 1, by omega, by go_num, Lib.hid (fun i hi => by
                      rcases Nat.lt_or_ge i j with h | h
                      · exact H.out i h
                      · obtain rfl : i = j := by omega
                        unfold badKid; rw [HT.out, Bool.false_and]), HB.out.alloc _⟩
                    case measure => simp [intOf]; omega
                · have k1 : ¬ (j : Int) < (k : Int) := by omega
                  obtain rfl : j = k := by omega
                  have hs : S = 0 := by
                    rw [HS.out]; unfold chk1; rw [HOF.out]
                    simp only [HF.out, HA.out, range_none (badKid K E) H.out]
                    rfl
                  subst hs
                  have HB := Lib.hid hb
                  clear hb
                  go_wp2
                  go_ret
                  exact ⟨rfl, G4.out.trans HB.out⟩
    · have t3 : (kd != 1) = true := by simpa using t1
      have t4 : (kd == 1) = false := by simpa using t1
      have hs : chk1 kd tx l K E = 11 := by unfold chk1; rw [t2, t3]; rfl
      rw [hs]
      clear hk IH hs
      go_enter Try.func11, Try.ntmps11
      go_wp2
      go_ret
      exact ⟨rfl, (Grow.refl _).alloc _⟩
end Go.Proofs.Ytfldpaceebemhaa
