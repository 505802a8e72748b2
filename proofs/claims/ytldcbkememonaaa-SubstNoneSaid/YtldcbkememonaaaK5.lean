/-
  What All answers, plain; the walk of subst.Expand.
-/
import Derived.Test.YtldcbkememonaaaK4
import Derived.Test.YtldcbkememonaaaH6

namespace Go.Proofs.Ytldcbkememonaaa
open Go.RowKit
set_option linter.unusedVariables false
set_option linter.unusedSimpArgs false

/-- places of a text, or nowhere -/
def PsIn (n : Nat) (ps : List Int) : Prop := ∀ x ∈ ps, -1 ≤ x ∧ x ≤ n
theorem PsIn.withF {n : Nat} {ps : List Int} (h : PsIn n ps) (i : Int) (place : Nat) (hp : place ≤ n) : PsIn n (withF ps i place) := by
  unfold Go.Proofs.Ytldcbkememonaaa.withF
  split
  · intro x hx
    rcases List.mem_or_eq_of_mem_set hx with h1 | h1
    · exact h x h1
    · subst h1; omega
  · exact h
theorem pushT_psIn {n : Nat} {i : Ins} {x : Way} {tl place : Nat} (h : PsIn n x.ps) (hp : place ≤ n) : ∀ y ∈ pushT i x tl place, PsIn n y.ps := by
  intro y hy
  unfold pushT at hy
  repeat' split at hy
  all_goals simp at hy
  all_goals first
    | (rcases hy with rfl | rfl <;> exact h)
    | (subst hy; first | exact h | exact h.withF _ _ hp)
theorem Cl.psIn {L : List Ins} {tl place n : Nat} (hp : place ≤ n) {todo : List Way} {S : List Int} {o : List Way} {S' : List Int} (h : Cl L tl place todo S o S') : (∀ x ∈ todo, PsIn n x.ps) → ∀ x ∈ o, PsIn n x.ps := by
  induction h with
  | nil S => intro _ x hx; cases hx
  | skip x rest S o S' hb _ ih => intro ht; exact ih (fun y hy => ht y (by simp [hy]))
  | go x rest S o S' i hb hi _ ih =>
    intro ht y hy
    rcases List.mem_append.1 hy with hy | hy
    · split at hy
      · simp at hy; subst hy; exact ht y (by simp)
      · cases hy
    · refine ih (fun z hz => ?_) y hy
      rcases List.mem_append.1 hz with hz | hz
      · exact pushT_psIn (ht x (by simp)) hp z hz
      · exact ht z (by simp [hz])
theorem fresh_psIn {L : List Ins} {tl place n : Nat} {x : Way} (hp : place ≤ n) (hx : PsIn n x.ps) : ∀ y ∈ fresh L tl place x, PsIn n y.ps := by
  obtain ⟨S', _, hc⟩ := fresh_cl L tl place x
  exact hc.psIn hp (fun y hy => by simp at hy; subst hy; exact hx)
theorem find_psIn {n : Nat} {f : Way → Option (List Int)} {l : List Way} {ps : List Int} (h : l.findSome? f = some ps) (hf : ∀ x ∈ l, ∀ ps, f x = some ps → PsIn n ps) : PsIn n ps := by
  obtain ⟨x, hx, e⟩ := List.exists_of_findSome?_eq_some h
  exact hf x hx ps e
theorem RD_psIn (L : List Ins) (tx : ByteArray) : ∀ (k : Nat) (x : Way) (ps : List Int), RD L tx k x = some ps → PsIn tx.size x.ps → PsIn tx.size ps
  | 0, x, ps, h, hx => by
    unfold RD at h
    split at h
    · cases h
    · split at h
      · injection h with h; subst h; exact hx
      · cases h
  | k + 1, x, ps, h, hx => by
    unfold RD at h
    split at h
    · cases h
    · split at h
      · injection h with h; subst h; exact hx
      · split at h
        · exact find_psIn h (fun y hy ps hps => RD_psIn L tx k y ps hps (fresh_psIn (by omega) (by exact hx) y hy))
        · cases h
theorem ST_psIn (L : List Ins) (tx : ByteArray) (nw : List Int) (hn : PsIn tx.size nw) : ∀ (k : Nat) (ps : List Int), k ≤ tx.size → ST L tx nw k = some ps → PsIn tx.size ps
  | 0, ps, _, h => find_psIn (show (fresh L tx.size tx.size ⟨nw, 0⟩).findSome? (RD L tx 0) = some ps from h) (fun y hy ps hps => RD_psIn L tx 0 y ps hps (fresh_psIn (Nat.le_refl _) hn y hy))
  | k + 1, ps, hk, h => by
    have h : ((fresh L tx.size (tx.size - (k + 1)) ⟨nw, 0⟩).findSome? (RD L tx (k + 1))).or (ST L tx nw k) = some ps := h
    cases hf : (fresh L tx.size (tx.size - (k + 1)) ⟨nw, 0⟩).findSome? (RD L tx (k + 1)) with
    | some q =>
      rw [hf] at h
      simp at h
      subst h
      exact find_psIn hf (fun y hy ps hps => RD_psIn L tx (k + 1) y ps hps (fresh_psIn (by omega) hn y hy))
    | none =>
      rw [hf] at h
      simp at h
      exact ST_psIn L tx nw hn k ps (by omega) h
theorem findF_psIn {gr : Int} {L : List Ins} {tx : ByteArray} {from_ : Int} {ps : List Int} (h : findF gr L tx from_ = some (some ps)) : PsIn tx.size ps ∧ 2 ≤ ps.length ∧ ps.length ≤ 3000 := by
  obtain ⟨R, hR, h1, h2⟩ := findF_total gr L tx from_
  rw [h] at hR
  injection hR with hR
  subst hR
  have h3 := h2 ps rfl
  refine ⟨?_, by omega, h1⟩
  by_cases hc : from_ < 0 ∨ (tx.size : Int) < from_ ∨ gr < 0 ∨ 1024 < gr
  · unfold findF at h
    rw [if_pos hc] at h
    cases h
  · rw [findF_spec _ _ _ _ hc] at h
    injection h with h
    exact ST_psIn L tx _ (fun x hx => by rw [List.eq_of_mem_replicate hx]; omega) _ ps (by omega) h
/-- what is left of a text -/
def tailP (tx : ByteArray) (p : Nat) : List ByteArray := if p < tx.size then [tx.extract p tx.size] else []
/-- what All lays, from a place on -/
def allP (gr : Int) (L : List Ins) (t tx : ByteArray) : Nat → Nat → List ByteArray
  | 0, p => tailP tx p
  | k + 1, p => if tx.size < p then [] else
    match findF gr L tx p with
    | some (some ps) => if ps.getD 0 0 < p ∨ ps.getD 1 0 < ps.getD 0 0 then tailP tx p
      else tx.extract p (ps.getD 0 0).toNat :: (pcs t tx ps (t.size + 1) 0 ++
        (if ps.getD 0 0 = ps.getD 1 0 then (if (ps.getD 1 0).toNat < tx.size then [tx.extract (ps.getD 1 0).toNat ((ps.getD 1 0).toNat + 1)] else []) ++ allP gr L t tx k ((ps.getD 1 0).toNat + 1)
        else allP gr L t tx k (ps.getD 1 0).toNat))
    | _ => tailP tx p
theorem joinB_size (s : ByteArray) : ∀ l : List ByteArray, (joinB s l).size = s.size + (l.map ByteArray.size).sum
  | [] => by simp [joinB]
  | x :: l => by
    unfold joinB
    rw [List.foldl_cons]
    have := joinB_size (s ++ x) l
    unfold joinB at this
    rw [this, ByteArray.size_append, List.map_cons, List.sum_cons]
    omega
theorem joinB_append (s : ByteArray) (a b : List ByteArray) : joinB s (a ++ b) = joinB (joinB s a) b := by unfold joinB; rw [List.foldl_append]
theorem laysA_append (most : Int) (st : WS) (a b : List ByteArray) : laysA most st (a ++ b) = laysA most (laysA most st a) b := by unfold laysA; rw [List.foldl_append]
/-- laid as long as there is room -/
theorem laysA_spec (most : Nat) : ∀ (l : List ByteArray) (st : WS), st.ov = false → st.b.size ≤ most → ((most < (joinB st.b l).size ∧ (laysA most st l).ov = true) ∨ ((joinB st.b l).size ≤ most ∧ laysA most st l = ⟨joinB st.b l, false⟩))
  | [], st, h, hb => by
    right
    refine ⟨hb, ?_⟩
    show st = ⟨st.b, false⟩
    rw [← h]
  | x :: l, st, h, hb => by
    have e1 : laysA most st (x :: l) = laysA most (laysW most st x) l := rfl
    have e2 : joinB st.b (x :: l) = joinB (st.b ++ x) l := rfl
    rw [e1, e2]
    by_cases hx : most < st.b.size + x.size
    · left
      have e3 : laysW most st x = ⟨st.b, true⟩ := by
        unfold laysW
        rw [if_pos (.inr ⟨by omega, by omega⟩)]
      rw [e3, laysA_over _ _ rfl]
      refine ⟨?_, rfl⟩
      rw [joinB_size, ByteArray.size_append]
      omega
    · have e3 : laysW most st x = ⟨st.b ++ x, false⟩ := by
        unfold laysW
        rw [if_neg (by rw [h]; simp; omega)]
      rw [e3]
      exact laysA_spec most l ⟨st.b ++ x, false⟩ rfl (by simp only; rw [ByteArray.size_append]; omega)
theorem laysA_free : ∀ (l : List ByteArray) (st : WS), st.ov = false → laysA (-1) st l = ⟨joinB st.b l, false⟩
  | [], st, h => by
    show st = ⟨st.b, false⟩
    rw [← h]
  | x :: l, st, h => by
    have e3 : laysW (-1) st x = ⟨st.b ++ x, false⟩ := by
      unfold laysW
      rw [if_neg (by rw [h]; simp)]
    show laysA (-1) (laysW (-1) st x) l = _
    rw [e3]
    exact laysA_free l ⟨st.b ++ x, false⟩ rfl
theorem bs_toNat (s : ByteArray) : bs (s.data.toList.map UInt8.toNat) = s := by
  apply ByteArray.ext
  apply Array.toList_inj.1
  unfold bs
  simp only [List.map_map]
  conv => rhs; rw [← List.map_id s.data.toList]
  refine List.map_congr_left (fun b _ => ?_)
  simp
theorem conv80s {w : World} {B : Nat} {v : Value} {s : ByteArray} (h : w.ownsRow B 5 1 v s.size (byteCells s)) : (convert 80 9 v).run Try.prog w = .ok (.string s) w := by
  have hl : (s.data.toList.map UInt8.toNat).length = s.size := by rw [List.length_map]; rfl
  have hb : bytesV (s.data.toList.map UInt8.toNat) = byteCells s := by
    unfold bytesV byteCells
    rw [List.map_map]
    rfl
  have := conv80 (l := s.data.toList.map UInt8.toNat) (by rw [hb]; exact h) (fun x hx => by
    obtain ⟨b, _, rfl⟩ := List.mem_map.1 hx
    exact UInt8.toNat_lt b)
  rw [bs_toNat] at this
  exact this
theorem RdN.fr {ps : List Int} {a : Option Addr} {r : Nat} {v : Value} {w w' : World} (h : RdN ps a w) (hne : 0 < ps.length → ∀ g o, a = some ⟨g, o, none⟩ → g ≠ r ∧ some g ≠ v.ownBlock) (f : Fr r v w w') : RdN ps a w' := fun hl => by
  obtain ⟨g, o, h1, h2, h3⟩ := h hl
  obtain ⟨h4, h5⟩ := hne hl g o h1
  have hb := f.block g h2 h4 h5
  exact ⟨g, o, h1, Nat.lt_of_lt_of_le h2 f.size, fun j x hj => (World.cell?_of_block (a := ⟨g, o + j, none⟩) hb).trans (h3 j x hj)⟩
set_option maxHeartbeats 2000000 in
theorem expand25_any (t tx : ByteArray) (ps : List Int) (a : Option Addr) (c : Nat) (w : World) (h : RdN ps a w) (hn : ps.length ≤ 100000) (ht : t.size ≤ 60) (hx : tx.size ≤ 60) : Calls Try.prog 25 #[.string t, .string tx, .slice a ps.length c] w (StrP (expF t tx ps) w) := by
  obtain ⟨W1, hW1⟩ : ∃ W1, W1 = w.alloc (.cells #[.slice none 0 0, .int .i64 (-1), .bool false] 82) := ⟨_, rfl⟩
  have hb := heap_alloc_new w (.cells #[.slice none 0 0, .int .i64 (-1), .bool false] 82)
  rw [← hW1] at hb
  have g1 : Grow w W1 := by rw [hW1]; exact (Grow.refl w).alloc _
  have WA : WAt 0 w.heap.size (-1) ⟨e0, false⟩ (.slice none 0 0) W1 := ⟨hb, World.ownsRow_nil _ _ _ _, Nat.zero_le _⟩
  have EX := expands_any 0 w.heap.size (-1) ⟨e0, false⟩ (.slice none 0 0) t tx ps a c W1 WA (fun w' f => (h.grow g1).fr (fun h0 g o e => by
    obtain ⟨g', o', e1, h2, _⟩ := h h0
    rw [e] at e1
    injection e1 with e1
    injection e1 with e1 _ _
    subst e1
    exact ⟨by omega, by simp [Value.ownBlock]⟩) f) hn (by decide) ht hx (by omega) (by omega)
  rw [laysA_free _ _ rfl] at EX
  have hexp : joinB (⟨e0, false⟩ : WS).b (pcs t tx ps (t.size + 1) 0) = expF t tx ps := rfl
  rw [hexp] at EX
  obtain ⟨n, hN⟩ : ∃ n, n = ps.length := ⟨_, rfl⟩
  obtain ⟨R, hR⟩ : ∃ R, R = expF t tx ps := ⟨_, rfl⟩
  rw [← hN, ← hR] at EX
  rw [← hN, ← hR]
  have EX := Lib.hid EX
  have HW1 := Lib.hid hW1
  have G1 := Lib.hid g1
  clear hexp hN hR hW1 g1 WA hb h hn
  go_enter Try.func25, Try.ntmps25
  go_wp2_with fail
  rw [← HW1.out]
  refine EX.out.mono ?_
  rintro e w3 ⟨rfl, v3, wa3, fr3, nb3⟩
  have CV := conv80s wa3.own
  have c0 := cell_blk wa3.blk 0
  simp at c0
  have hr3 := wa3.lt
  have hfin : Grow w w3 := ⟨fr3.os.trans (Below.os G1.out), fr3.tape.trans (Below.tape G1.out), fr3.output.trans (Below.output G1.out), Nat.le_trans G1.out.size fr3.size, fun k hk => (fr3.block k (Nat.lt_of_lt_of_le hk G1.out.size) (by omega) (by simp [Value.ownBlock])).trans (Below.block G1.out k hk)⟩
  have FIN := Lib.hid hfin
  clear wa3 fr3 nb3 hfin EX
  go_wp2
  go_ret
  exact ⟨rfl, FIN.out⟩
end Go.Proofs.Ytldcbkememonaaa
