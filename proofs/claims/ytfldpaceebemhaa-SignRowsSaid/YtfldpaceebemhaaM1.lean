/-
  The walk of SignMany.
-/
import Derived.Test.YtfldpaceebemhaaN2
namespace Go.Proofs.Ytfldpaceebemhaa
open Go.RowKit

theorem Try.info24 : (Try.prog.info? 24).map (fun i => (i.zero, i.size, i.bytes)) = some (some (.agg #[.int .i64 0, .string ⟨#[]⟩, .int .i64 0, .slice none 0 0]), 4, 56) := by kernel_rfl
theorem grown_blk {w w' : World} {row : Option Nat} {bn : Nat} {o : Obj} (h : w.grownBy w' row) (hb : w.heap[bn]? = some o) (hr : ∀ q, row = some q → bn < q) : w'.heap[bn]? = some o := by
  have hlt : bn < w.heap.size := by
    rcases Nat.lt_or_ge bn w.heap.size with h1 | h1
    · exact h1
    · rw [Array.getElem?_eq_none h1] at hb; cases hb
  rw [h.block bn hlt (fun e => by have := hr bn e.symm; omega), hb]
theorem own_set {w : World} {B e s n : Nat} {v : Value} {xs : List Value} {bn j : Nat} (h : w.ownsRow B e s v n xs) (hb : bn < B) (x : Value) : (w.setCell ⟨bn, j, none⟩ x).ownsRow B e s v n xs := by
  refine World.ownsRow.kept h (row := some bn) ⟨rfl, rfl, rfl, by simp, fun k hk hkr => heap_setCell_other _ _ _ _ (fun e => hkr (by rw [e]))⟩ ?_
  rcases h.2 with ⟨h1, _⟩ | ⟨g, cap, cur, h1, h2, _⟩
  · left; rw [h1]; rfl
  · right
    rw [h1]
    intro e
    injection e with e
    have : g = bn := e
    omega
theorem chk_many (x : ByteArray) (d : SigD) (m : Nat) (K : Nat → KidD) (E : Nat → Int) (h : ofF x = (d, true)) (hK : ∀ i, i < m → (K i).kd = 2) :
    (fewB d m = true → chk1 1 x m K E = 10) ∧ (fewB d m = false → chk1 1 x m K E = 11 ∨ chk1 1 x m K E = 0) := by
  refine ⟨fun hf => ?_, fun hf => ?_⟩
  · unfold chk1; rw [h]; simp only [hf]; rfl
  · unfold chk1; rw [h]; simp only [hf]
    rw [range_none (badKid K E) (fun j hj => by unfold badKid; rw [hK j hj]; rfl)]
    cases hA : ((List.range m).all (okKid d K)) with
    | false => left; rfl
    | true => right; rfl
/-- paths 'a', so many -/
def aCells : Nat → List Value
  | 0 => []
  | n + 1 => aCells n ++ [.int .i64 2, .string ⟨#[97]⟩, .int .i64 0, .slice none 0 0]
theorem aCells_len : ∀ n, (aCells n).length = n * 4
  | 0 => rfl
  | n + 1 => by simp [aCells, aCells_len n]; omega
theorem aCells_at : ∀ (n i : Nat), i < n → (aCells n)[i * 4]? = some (.int .i64 2) ∧ (aCells n)[i * 4 + 1]? = some (.string ⟨#[97]⟩) ∧ (aCells n)[i * 4 + 2]? = some (.int .i64 0) ∧ (aCells n)[i * 4 + 3]? = some (.slice none 0 0)
  | 0, i, h => absurd h (by omega)
  | n + 1, i, h => by
    have hl := aCells_len n
    by_cases hi : i < n
    · obtain ⟨h0, h1, h2, h3⟩ := aCells_at n i hi
      refine ⟨?_, ?_, ?_, ?_⟩
      · rw [aCells, List.getElem?_append_left (by omega)]; exact h0
      · rw [aCells, List.getElem?_append_left (by omega)]; exact h1
      · rw [aCells, List.getElem?_append_left (by omega)]; exact h2
      · rw [aCells, List.getElem?_append_left (by omega)]; exact h3
    · obtain rfl : i = n := by omega
      refine ⟨?_, ?_, ?_, ?_⟩
      · rw [aCells, List.getElem?_append_right (by omega), hl, Nat.sub_self]; rfl
      · rw [aCells, List.getElem?_append_right (by omega), hl, show i * 4 + 1 - i * 4 = 1 from by omega]; rfl
      · rw [aCells, List.getElem?_append_right (by omega), hl, show i * 4 + 2 - i * 4 = 2 from by omega]; rfl
      · rw [aCells, List.getElem?_append_right (by omega), hl, show i * 4 + 3 - i * 4 = 3 from by omega]; rfl
theorem aRow {w : World} {B m : Nat} {v : Value} (h : w.ownsRow B 24 4 v m (aCells m)) (hm : m ≤ 12) : ∃ a c, v = .slice a m c ∧ KidRow w a m (fun _ => ⟨2, ⟨#[97]⟩, 0, none, 0, 0⟩) := by
  by_cases h0 : 0 < m
  · obtain ⟨g, c, rfl, hB, hg⟩ := h.form h0
    refine ⟨_, c, rfl, by unfold maxLen; omega, fun _ => ⟨g, 0, rfl, hg, fun i hi => ?_⟩⟩
    obtain ⟨q0, q1, q2, q3⟩ := aCells_at m i hi
    unfold KidIn
    rw [Nat.zero_add]
    exact ⟨(World.ownsRow.cellAt h _ (by omega)).trans q0, (World.ownsRow.cellAt h _ (by omega)).trans q1, (World.ownsRow.cellAt h _ (by omega)).trans q2, (World.ownsRow.cellAt h _ (by omega)).trans q3, by show (⟨#[97]⟩ : ByteArray).size ≤ maxLen; decide⟩
  · obtain rfl : m = 0 := by omega
    rcases h.2 with ⟨h1, _⟩ | ⟨g, cap, cur, h1, _⟩
    · exact ⟨none, 0, h1, by unfold maxLen; omega, fun h => absurd h (by omega)⟩
    · exact ⟨_, cap, h1, by unfold maxLen; omega, fun h => absurd h (by omega)⟩
theorem and16 (i : Int) : ∃ q : Nat, q < 78 ∧ (bits BinOp.and IntKind.i64 i 65535).tmod 78 = (q : Int) := by
  have h : (BitVec.ofInt 64 i &&& BitVec.ofInt 64 65535).toNat ≤ 65535 := by
    rw [BitVec.toNat_and]
    exact Nat.le_trans Nat.and_le_right (by decide)
  have e : bits BinOp.and IntKind.i64 i 65535 = ((BitVec.ofInt 64 i &&& BitVec.ofInt 64 65535).toNat : Int) := by
    show IntKind.i64.wrap ((BitVec.ofInt 64 i &&& BitVec.ofInt 64 65535).toNat : Int) = _
    exact IntWalk.i64_in _ (by omega)
  rw [e]
  exact ⟨_, Nat.mod_lt _ (by omega), rfl⟩
theorem names_known (x : ByteArray) (h : x ∈ namesT) : (ofF x).2 = true := by
  unfold namesT at h
  obtain ⟨d, hd, he⟩ := List.mem_map.mp h
  unfold ofF
  cases hf : tab.find? (fun d => d.name.toList == x.toList) with
  | none =>
    rw [List.find?_eq_none] at hf
    have := hf d hd
    simp [he] at this
  | some d => rfl
theorem names_small (x : ByteArray) (h : x ∈ namesT) : x.size ≤ maxLen := by
  have h1 : (namesT.all fun x => decide (x.size ≤ 100)) = true := by decide +kernel
  have := List.all_eq_true.mp h1 x h
  simp only [decide_eq_true_eq] at this
  unfold maxLen; omega
theorem kid_one : ∀ u ∈ [Value.int .i64 2, .string ⟨#[97]⟩, .int .i64 0, .slice none 0 0], u.oneCell' = true := by
  intro u hu
  simp only [List.mem_cons, List.not_mem_nil, or_false] at hu
  rcases hu with rfl | rfl | rfl | rfl <;> rfl
set_option maxHeartbeats 4000000 in
theorem many_any (i n : Int) (w : World) : Calls Try.prog 6 #[.int .i64 i, .int .i64 n] w fun e w' => e = .returned (.bool true) ∧ Grow w w' := by
  obtain ⟨i0, hi0, hz0, hz1, hz2⟩ := info_parts Try.info24
  have F10 := Lib.hid (fun W => known_any W)
  have F15 := Lib.hid (fun W => names15_any W)
  go_enter Try.func6, Try.ntmps6
  go_wp2_with fail
  refine (F15.out _).mono ?_
  rintro e w1 ⟨g, c, rfl, na, g1⟩
  have G1 := Lib.hid g1
  have NA := Lib.hid na
  clear g1 na
  by_cases h1 : n < 0
  · go_wp2_with fail
    refine (F10.out _).mono ?_
    rintro e w2 ⟨rfl, g2⟩
    go_wp2
    go_ret
    exact ⟨rfl, G1.out.trans g2⟩
  by_cases h2 : 12 < n
  · go_wp2_with fail
    refine (F10.out _).mono ?_
    rintro e w2 ⟨rfl, g2⟩
    go_wp2
    go_ret
    exact ⟨rfl, G1.out.trans g2⟩
  obtain ⟨m, rfl⟩ : ∃ m : Nat, n = m := ⟨n.toNat, by omega⟩
  have hm : m ≤ 12 := by omega
  obtain ⟨q, hq, hqe⟩ := and16 i
  obtain ⟨x, hx⟩ : ∃ x, namesS[q]? = some x := ⟨_, List.getElem?_eq_getElem (by rw [namesS_len]; exact hq)⟩
  have hc := NA.out.2 q x hx
  have hgs := NA.out.1
  have q0 : (0 : Int) ≤ (q : Int) := by omega
  have q1 : (q : Int) < 78 := by omega
  have OF := Lib.hid (fun W => of13_any x W)
  have HX := Lib.hid (show x ∈ namesT from names_perm.mem_iff.mpr (List.mem_of_getElem? hx))
  clear hx
  go_wp2_with fail
  refine (OF.out _).mono ?_
  rintro e w2 ⟨d, ok, nv, mv, rfl, i1, i2, g2, hof⟩
  obtain ⟨s1, s2, s3⟩ := ofF_small x
  have hk := names_known x HX.out
  rw [hof] at s1 s2 s3 hk
  simp only at s1 s2 s3 hk
  subst hk
  obtain ⟨s4, s5, -⟩ := s3 rfl
  clear s3
  have HXS := Lib.hid (names_small x HX.out)
  obtain ⟨-, a1, z1, rfl, -⟩ := i1.open'
  obtain ⟨-, a2, z2, rfl, -⟩ := i2.open'
  have HOF := Lib.hid hof
  obtain ⟨nm, need, may, rest⟩ := d
  simp only at s1 s2 s4 s5
  subst s5
  obtain ⟨N, hN⟩ : ∃ N, N = need.length := ⟨_, rfl⟩
  obtain ⟨M, hM⟩ : ∃ M, M = may.length := ⟨_, rfl⟩
  simp only [← hN, ← hM] at s1 s2 s4 ⊢
  have HN := Lib.hid hN
  have HM := Lib.hid hM
  have G2 := Lib.hid (G1.out.trans g2)
  clear hN hM hof i1 i2 g2 hc OF hqe q0 q1 hgs
  go_wp2
  obtain ⟨w3, hw3⟩ : ∃ w3, w3 = w2.alloc (.cells #[.string nm, .slice a1 N z1, .slice a2 M z2, .int .i64 rest] 34) := ⟨_, rfl⟩
  have z3 : w3.heap.size = w2.heap.size + 1 := by rw [hw3]; simp
  have S3 := Lib.hid (show w3.heap[w2.heap.size]? = some (.cells #[.string nm, .slice a1 N z1, .slice a2 M z2, .int .i64 rest] 34 (0, 0)) from by rw [hw3]; exact heap_alloc_new w2 _)
  have G3 := Lib.hid (show Grow w w3 from by rw [hw3]; exact G2.out.alloc _)
  rw [← hw3]
  clear hw3
  have H4 := Lib.hid (heap_alloc_new w3 (.cells #[.int .i64 1, .string nm, .int .i64 0, .slice none 0 0] 24))
  rw [z3] at H4
  have N4 := Lib.hid (World.ownsRow_nil (w3.alloc (.cells #[.int .i64 1, .string nm, .int .i64 0, .slice none 0 0] 24)) (w2.heap.size + 2) 24 4)
  go_loopw [9] (fun t wr => ∃ (j : Nat) (kv : Value), j ≤ m ∧ t = .int .i64 j ∧ Hid (wr.ownsRow (w2.heap.size + 2) 24 4 kv j (aCells j)) ∧ Hid (wr.heap[w2.heap.size + 1]? = some (.cells #[.int .i64 1, .string nm, .int .i64 0, kv] 24 (0, 0))) ∧ Grow w3 wr) (fun t _ => m - (intOf t).toNat)
  case atStart => exact ⟨0, _, by omega, rfl, N4, H4, (Grow.refl _).alloc _⟩
  case round =>
    clear N4 H4
    obtain ⟨j, kv, hj, rfl, OW, HBN, hb⟩ := hrel
    have k0 : (0 : Int) ≤ (j : Int) := by omega
    have hbn : w2.heap.size + 1 < wr.heap.size := by
      have := HBN.out
      rcases Nat.lt_or_ge (w2.heap.size + 1) wr.heap.size with h1 | h1
      · exact h1
      · rw [Array.getElem?_eq_none h1] at this; cases this
    by_cases hlt : j < m
    · have k1 : (j : Int) < (m : Int) := by omega
      obtain ⟨a0, c0, rfl⟩ : ∃ a0 c0, kv = .slice a0 j c0 := by
        rcases OW.out.2 with ⟨h1, h2⟩ | ⟨g', cap', cur', h1, _⟩
        · have hl := aCells_len j
          rw [h2] at hl
          have : j = 0 := by simp at hl; omega
          exact ⟨none, 0, by rw [h1, this]⟩
        · exact ⟨_, _, h1⟩
      have e3 := cell_blk HBN.out 3
      have f3 := froz_blk HBN.out 3
      simp at e3
      have HB := Lib.hid hb
      have mx : j + 1 ≤ maxLen := by unfold maxLen; omega
      clear hb
      go_wp2_with (at_builtin; refine wpList_append_lies _ (by rfl) _ _ _ (by rfl) (w2.heap.size + 2) 24 i0 _ 4 56 Try.underlying22 hi0 hz0 hz1 hz2 rfl (by omega) _ j (aCells j) (by rfl) (own_grow OW.out ((Grow.refl _).alloc _)) ⟨wr.heap.size, 0, none⟩ 1 1 [.int .i64 2, .string ⟨#[97]⟩, .int .i64 0, .slice none 0 0] (by rfl) (by rfl) (World.news_of_block (cs := #[.int .i64 2, .string ⟨#[97]⟩, .int .i64 0, .slice none 0 0]) (t := 24) (fr := (0, 0)) (heap_alloc_new wr _)) kid_one (by omega) mx (by omega) (by simp; omega) (wr.heap.size + 1) (by simp) ?_; intro gg8 cp8 w8 hown8 hgrow8 hat8 hlt8; have b8 := grown_blk hgrow8 ((Below.block ((Grow.refl wr).alloc _) _ hbn).trans HBN.out) (fun q hq => by have := (OW.out.lt q hq).1; omega); have e8 := cell_blk b8 3; have f8 := froz_blk b8 3; simp at e8; have H8 := Lib.hid (And.intro hown8 (And.intro hgrow8 b8)); clear hown8 hgrow8 hat8 b8)
      obtain ⟨hown8, hgrow8, b8⟩ := H8.out
      have R1 := Lib.hid (own_set (j := 3) hown8 (show w2.heap.size + 1 < w2.heap.size + 2 by omega) (.slice (some ⟨gg8, 0, none⟩) (j + 1) cp8))
      have R2 := Lib.hid (show (w8.setCell ⟨w2.heap.size + 1, 3, none⟩ (.slice (some ⟨gg8, 0, none⟩) (j + 1) cp8)).heap[w2.heap.size + 1]? = some (.cells #[.int .i64 1, .string nm, .int .i64 0, .slice (some ⟨gg8, 0, none⟩) (j + 1) cp8] 24 (0, 0)) from by
        rw [Go.heap_setCell_same w8 _ 3 _ _ _ b8]; rfl)
      have R3 := Lib.hid (show Grow w3 (w8.setCell ⟨w2.heap.size + 1, 3, none⟩ (.slice (some ⟨gg8, 0, none⟩) (j + 1) cp8)) from
        (HB.out.trans' ((Grow.refl wr).alloc _) hgrow8 (fun q hq => by have := (OW.out.lt q hq).1; omega)).setCell (by simp only; omega) _)
      clear H8 hown8 hgrow8 b8
      go_roundw
      case rel => exact ⟨j + 1, _, by omega, by go_num, R1, R2, R3.out⟩
      case measure => simp [intOf]; omega
    · have k1 : ¬ (j : Int) < (m : Int) := by omega
      obtain rfl : j = m := by omega
      obtain ⟨a0, c0, rfl, kr⟩ := aRow OW.out hm
      have hsg := (Below.block hb _ (show w2.heap.size < w3.heap.size by omega)).trans S3.out
      have e0 := cell_blk HBN.out 0
      have e1 := cell_blk HBN.out 1
      have e2 := cell_blk HBN.out 2
      have e3 := cell_blk HBN.out 3
      simp at e0 e1 e2 e3
      obtain ⟨E, hE⟩ : ∃ E, E = chk1 1 nm j (fun _ => ⟨2, ⟨#[97]⟩, 0, none, 0, 0⟩) (fun _ => 0) := ⟨_, rfl⟩
      have CH := Lib.hid (check11_walk 1 nm 0 a0 j c0 (fun _ => ⟨2, ⟨#[97]⟩, 0, none, 0, 0⟩) (fun _ => 0) wr HXS.out kr (fun i hi h => by simp at h))
      rw [← hE] at CH
      have HE := Lib.hid hE
      have HB := Lib.hid hb
      have HSG := Lib.hid hsg
      clear kr hE hb hsg
      go_wp2_with fail
      refine CH.out.mono ?_
      rintro e w5 ⟨rfl, g5⟩
      have hs5 := (Below.block g5 _ (show w2.heap.size < wr.heap.size by omega)).trans HSG.out
      have d1 := cell_blk hs5 1
      have d2 := cell_blk hs5 2
      have d3 := cell_blk hs5 3
      simp at d1 d2 d3
      have u1 : IntKind.i64.wrap ((N : Int) + M) = (N : Int) + M := IntWalk.i64_in _ (by omega)
      have G5 := Lib.hid (show Grow w w5 from (G3.out.trans HB.out).trans g5)
      have s4' : (0 : Int) < (N : Int) := by omega
      have CM := Lib.hid (chk_many nm ⟨nm, need, may, rest⟩ j (fun _ => ⟨2, ⟨#[97]⟩, 0, none, 0, 0⟩) (fun _ => 0) HOF.out (fun _ _ => rfl))
      rw [← HE.out] at CM
      clear hs5 g5 e0 e1 e2 e3
      rcases (show ((j : Int) < N) ∨ (¬ ((j : Int) < N) ∧ (rest == 0) = true ∧ (N : Int) + M < j) ∨ (¬ ((j : Int) < N) ∧ (rest == 0) = true ∧ ¬ (N : Int) + M < j) ∨ (¬ ((j : Int) < N) ∧ (rest == 0) = false) from by
        by_cases f1 : (j : Int) < N
        · exact .inl f1
        · cases f2 : (rest == 0)
          · exact .inr (.inr (.inr ⟨f1, rfl⟩))
          · by_cases f3 : (N : Int) + M < j
            · exact .inr (.inl ⟨f1, rfl, f3⟩)
            · exact .inr (.inr (.inl ⟨f1, rfl, f3⟩))) with f1 | ⟨f1, f2, f3⟩ | ⟨f1, f2, f3⟩ | ⟨f1, f2⟩
      · obtain rfl : E = 10 := CM.out.1 (by unfold fewB; simp only [← HN.out, ← HM.out]; simp; omega)
        go_wp2_with fail
        refine (F10.out _).mono ?_
        rintro e w6 ⟨rfl, g6⟩
        go_wp2
        go_ret
        exact ⟨rfl, G5.out.trans g6⟩
      · obtain rfl : E = 10 := CM.out.1 (by unfold fewB; simp only [← HN.out, ← HM.out, f2]; simp; omega)
        go_wp2_with fail
        refine (F10.out _).mono ?_
        rintro e w6 ⟨rfl, g6⟩
        go_wp2
        go_ret
        exact ⟨rfl, G5.out.trans g6⟩
      all_goals
        have hE := CM.out.2 (by unfold fewB; simp only [← HN.out, ← HM.out, f2]; simp; omega)
        rcases hE with rfl | rfl
        all_goals
          go_wp2_with fail
          refine (F10.out _).mono ?_
          rintro e w6 ⟨rfl, g6⟩
          go_wp2
          go_ret
          refine ⟨ret_bool ?_, G5.out.trans g6⟩
          simp only [Bool.and_eq_true, Bool.not_eq_true', decide_eq_false_iff_not]
          omega
end Go.Proofs.Ytfldpaceebemhaa
