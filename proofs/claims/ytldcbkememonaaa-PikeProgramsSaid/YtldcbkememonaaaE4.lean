/-
  What holds in pike's adds.
-/
import Derived.Test.YtldcbkememonaaaE2
namespace Go.Proofs.Ytldcbkememonaaa
open Go.RowKit
set_option linter.unusedVariables false
set_option linter.unusedSimpArgs false

theorem exists_least {p : Nat → Prop} (h : ∃ n, p n) : ∃ n, p n ∧ ∀ m, p m → n ≤ m := by
  obtain ⟨n, hn⟩ := h
  induction n using Nat.strongRecOn with
  | ind n ih =>
    by_cases hm : ∃ m, m < n ∧ p m
    · obtain ⟨m, h1, h2⟩ := hm
      exact ih m h1 h2
    · exact ⟨n, hn, fun m h2 => by
        rcases Nat.lt_or_ge m n with h3 | h3
        · exact absurd ⟨m, h3, h2⟩ hm
        · exact h3⟩
open Classical in
/-- the least that serves -/
noncomputable def least (p : Nat → Prop) : Nat := if h : ∃ n, p n then (exists_least h).choose else 0
theorem least_spec {p : Nat → Prop} (h : ∃ n, p n) : p (least p) := by
  unfold least
  rw [dif_pos h]
  exact (exists_least h).choose_spec.1
theorem least_le {p : Nat → Prop} {n : Nat} (h : p n) : least p ≤ n := by
  unfold least
  rw [dif_pos ⟨n, h⟩]
  exact (exists_least ⟨n, h⟩).choose_spec.2 n h

theorem addsF_len (L : List Ins) (tl place : Nat) (R : List Way × List Int) : ∀ (f : Nat) (todo ws : List Way) (S : List Int), addsF L tl place f todo ws S = some R → todo.length ≤ f
  | 0, todo, ws, S, h => by
    cases todo with
    | nil => simp
    | cons a l => simp [addsF] at h
  | f + 1, [], ws, S, h => by simp
  | f + 1, x :: rest, ws, S, h => by
    have k : ∀ (t' ws' : List Way) (S' : List Int), addsF L tl place f t' ws' S' = some R → rest.length ≤ t'.length → (x :: rest).length ≤ f + 1 := fun t' ws' S' h' hl => by
      have := addsF_len L tl place R f t' ws' S' h'
      simp only [List.length_cons]; omega
    unfold addsF at h
    split at h
    · exact k _ _ _ h (Nat.le_refl _)
    · split at h
      · cases h
      · split at h
        · exact k _ _ _ h (Nat.le_refl _)
        · split at h
          · exact k _ _ _ h (by simp only [List.length_cons]; omega)
          · split at h
            · exact k _ _ _ h (by simp only [List.length_cons]; omega)
            · split at h
              · exact k _ _ _ h (by simp only [List.length_cons]; omega)
              · split at h
                · refine k _ _ _ h ?_
                  split
                  · simp only [List.length_cons]; omega
                  · exact Nat.le_refl _
                · split at h
                  · refine k _ _ _ h ?_
                    split
                    · simp only [List.length_cons]; omega
                    · exact Nat.le_refl _
                  · exact k _ _ _ h (Nat.le_refl _)
/-- a list of ways in memory -/
structure ListAt (B : Nat) (w : World) (bl : Nat) (ws : List Way) (S : List Int) (lv : Value) (mb : Nat) : Prop where
  blk : w.heap[bl]? = some (.cells #[lv, .map (some mb)] 67 (0, 0))
  own : ∃ cs, w.ownsRow B 72 2 lv ws.length cs ∧ WayCs w ws cs
  seen : SeenAt w mb S
  lo : B ≤ bl
  lm : B ≤ mb
/-- only the list was written, and new memory -/
structure FrL (bl mb : Nat) (lv : Value) (w w' : World) : Prop where
  os : w'.os = w.os
  tape : w'.tape = w.tape
  output : w'.output = w.output
  size : w.heap.size ≤ w'.heap.size
  block : ∀ k, k < w.heap.size → k ≠ bl → k ≠ mb → some k ≠ lv.ownBlock → w'.heap[k]? = w.heap[k]?
  ints : IntsStay w w'
theorem FrL.refl (bl mb : Nat) (lv : Value) (w : World) : FrL bl mb lv w w := ⟨rfl, rfl, rfl, Nat.le_refl _, fun _ _ _ _ _ => rfl, IntsStay.refl w⟩
theorem FrL.grow {bl mb : Nat} {lv : Value} {w w1 w2 : World} (h : FrL bl mb lv w w1) (g : Grow w1 w2) : FrL bl mb lv w w2 :=
  ⟨(Below.os g).trans h.os, (Below.tape g).trans h.tape, (Below.output g).trans h.output, Nat.le_trans h.size g.size, fun k hk a b c => (Below.block g k (Nat.lt_of_lt_of_le hk h.size)).trans (h.block k hk a b c), h.ints.trans (IntsStay.grow g)⟩
/-- a program and a text that a walk has -/
structure ProgAt (w : World) (bw : Nat) (L : List Ins) (g o : Nat) (tx : ByteArray) (gr : Int) (a : Option Addr) (c : Nat) : Prop where
  blk : w.heap[bw]? = some (.cells #[.int .i64 gr, .slice a L.length c, .string tx] 61 (0, 0))
  rd : RdI L g o w
  ad : 0 < L.length → a = some ⟨g, o, none⟩
def wf64 (x : Int) : Prop := (Lit.int .i64 x).wf = true
/-- what holds ahead of each round of 'adds', so many rounds ahead of its end -/
structure AR (B : Nat) (L : List Ins) (tl place : Nat) (RES : List Way × List Int) (w0 : World) (bl mb : Nat) (lv0 : Value) (f : Nat) (tv : Value) (wr : World) : Prop where
  ex : ∃ (todo ws : List Way) (S : List Int) (lv : Value), addsF L tl place f todo ws S = some RES ∧ (∃ cs, wr.ownsRow w0.heap.size 72 2 tv todo.length cs ∧ WayCs wr todo.reverse cs) ∧
    ListAt B wr bl ws S lv mb ∧ (∀ g, tv.ownBlock = some g → lv.ownBlock ≠ some g) ∧ (∀ g, lv.ownBlock = some g → lv0.ownBlock = some g ∨ w0.heap.size ≤ g) ∧ (∀ y ∈ todo, wf64 y.at_ ∧ y.ps.length ≤ 100000) ∧ S.length + f ≤ 1000000 ∧ ws.length + f ≤ 1000000
  fr : FrL bl mb lv0 w0 wr
theorem own_cap {w : World} {B e s n cap : Nat} {a : Option Addr} {xs : List Value} (h : w.ownsRow B e s (.slice a n cap) n xs) : n ≤ cap := by
  obtain ⟨a', c', h1, h2⟩ := own_shape h
  injection h1 with _ _ h3
  rw [h3]; exact h2
theorem own_pop {w : World} {B n cap g : Nat} {xs ys : List Value} (h : w.ownsRow B 72 2 (.slice (some ⟨g, 0, none⟩) (n + 1) cap) (n + 1) (xs ++ ys)) (hl : xs.length = n * 2) : w.ownsRow B 72 2 (.slice (some ⟨g, 0, none⟩) n cap) n xs := by
  rcases h.2 with ⟨h1, _⟩ | ⟨g', cap', cur, h1, h2, h3, h4, h5, h6, h7⟩
  · cases h1
  · injection h1 with h1 _ hc
    injection h1 with h1
    injection h1 with h1 _ _
    subst h1 hc
    refine ⟨hl, .inr ⟨g, cap, cur, rfl, h2, h3, by omega, h5, h6, ?_⟩⟩
    have : cur.toList.take (n * 2) = (cur.toList.take ((n + 1) * 2)).take (n * 2) := by rw [List.take_take, Nat.min_eq_left (by omega)]
    rw [this, h7, List.take_left' hl]
theorem withF_len (ps : List Int) (i place : Int) : (withF ps i place).length = ps.length := by
  unfold withF; split <;> simp
/-- the state within a round -/
structure Mid (B : Nat) (w0 : World) (bl mb : Nat) (lv0 : Value) (todo ws : List Way) (S : List Int) (lv tv : Value) (W : World) : Prop where
  own : ∃ cs, W.ownsRow w0.heap.size 72 2 tv todo.length cs ∧ WayCs W todo.reverse cs
  la : ListAt B W bl ws S lv mb
  dis : ∀ g, tv.ownBlock = some g → lv.ownBlock ≠ some g
  new : ∀ g, lv.ownBlock = some g → lv0.ownBlock = some g ∨ w0.heap.size ≤ g
  fr : FrL bl mb lv0 w0 W
  old : bl < w0.heap.size ∧ mb < w0.heap.size
section
variable {B : Nat} {w0 : World} {bl mb : Nat} {lv0 : Value} {todo ws : List Way} {S : List Int} {lv tv : Value} {W W' : World}
theorem Mid.grow (h : Mid B w0 bl mb lv0 todo ws S lv tv W) (hg : Grow W W') : Mid B w0 bl mb lv0 todo ws S lv tv W' := by
  obtain ⟨cs, h1, h2⟩ := h.own
  obtain ⟨ds, h3, h4⟩ := h.la.own
  exact ⟨⟨cs, own_grow h1 hg, h2.stay (IntsStay.grow hg)⟩, ⟨(Below.block hg _ (lt_blk h.la.blk)).trans h.la.blk, ⟨ds, own_grow h3 hg, h4.stay (IntsStay.grow hg)⟩, h.la.seen.kept (Below.block hg _ h.la.seen.lt), h.la.lo, h.la.lm⟩, h.dis, h.new, h.fr.grow hg, h.old⟩
theorem Mid.ar {L : List Ins} {tl place : Nat} {RES : List Way × List Int} {f : Nat} (h : Mid B w0 bl mb lv0 todo ws S lv tv W) (ha : addsF L tl place f todo ws S = some RES) (hw : ∀ y ∈ todo, wf64 y.at_ ∧ y.ps.length ≤ 100000) (h1 : S.length + f ≤ 1000000) (h2 : ws.length + f ≤ 1000000) :
    AR B L tl place RES w0 bl mb lv0 f tv W := ⟨⟨todo, ws, S, lv, ha, h.own, h.la, h.dis, h.new, hw, h1, h2⟩, h.fr⟩
/-- rows of ways are no rows of numbers -/
theorem own72_not3 {w : World} {Bx n : Nat} {v : Value} {xs : List Value} (h : w.ownsRow Bx 72 2 v n xs) : ∀ q, v.ownBlock = some q → ∀ cur, w.heap[q]? ≠ some (.cells cur 3 (0, 0)) := fun q hq cur e => by
  rcases h.2 with ⟨h1, _⟩ | ⟨g, cap, cu, h1, _, h2, _⟩
  · rw [h1] at hq; cases hq
  · rw [h1] at hq
    have e' : g = q := by simpa [Value.ownBlock] using hq
    rw [e', e] at h2
    injection h2 with h2
    injection h2 with _ h2 _
    exact absurd h2 (by decide)
theorem own72_not67 {w : World} {Bx n : Nat} {v : Value} {xs : List Value} (h : w.ownsRow Bx 72 2 v n xs) : ∀ q, v.ownBlock = some q → ∀ cur, w.heap[q]? ≠ some (.cells cur 67 (0, 0)) := fun q hq cur e => by
  rcases h.2 with ⟨h1, _⟩ | ⟨g, cap, cu, h1, _, h2, _⟩
  · rw [h1] at hq; cases hq
  · rw [h1] at hq
    have e' : g = q := by simpa [Value.ownBlock] using hq
    rw [e', e] at h2
    injection h2 with h2
    injection h2 with _ h2 _
    exact absurd h2 (by decide)
theorem Mid.push {w9 w10 : World} {todo' : List Way} {Y : List Way} {news cs : List Value} {tv' : Value} (h : Mid B w0 bl mb lv0 todo ws S lv tv W) (hg : Grow W w9) (hc : w9.ownsRow w0.heap.size 72 2 tv todo.length cs) (hw : WayCs w9 todo.reverse cs)
    (hr : w9.grownBy w10 tv.ownBlock) (ho : w10.ownsRow w0.heap.size 72 2 tv' todo'.length (cs ++ news)) (hY : WayCs w9 Y news) (hT : todo'.reverse = todo.reverse ++ Y)
    (hat : ∀ g, tv'.ownBlock = some g → tv.ownBlock = some g ∨ W.heap.size ≤ g) : Mid B w0 bl mb lv0 todo' ws S lv tv' w10 := by
  have h9 := h.grow hg
  have hst : IntsStay w9 w10 := IntsStay.grown hr (own72_not3 hc)
  have hlow : ∀ q, tv.ownBlock = some q → w0.heap.size ≤ q := fun q hq => (hc.lt q hq).1
  obtain ⟨ds, h3, h4⟩ := h9.la.own
  have hb : ∀ q, q < w9.heap.size → (∀ t, tv.ownBlock = some t → t ≠ q) → w10.heap[q]? = w9.heap[q]? := fun q h1 h2 => hr.block q h1 (fun e => h2 q e.symm rfl)
  refine ⟨⟨cs ++ news, ho, by rw [hT]; exact (hw.append hY).stay hst⟩, ⟨?_, ⟨ds, h3.kept hr ?_, h4.stay hst⟩, ?_, h9.la.lo, h9.la.lm⟩, fun q hq e => ?_, h.new, ?_, h.old⟩
  · rw [hb bl (lt_blk h9.la.blk) (fun t ht e => by have := hlow t ht; have := h.old.1; omega)]; exact h9.la.blk
  · cases hl : lv.ownBlock with
    | none => exact .inl rfl
    | some q => exact .inr (fun e => h.dis q e.symm hl)
  · exact h9.la.seen.kept (hb mb h9.la.seen.lt (fun t ht e => by have := hlow t ht; have := h.old.2; omega))
  · rcases hat q hq with h5 | h5
    · exact h.dis q h5 e
    · obtain ⟨es, h6, _⟩ := h.la.own
      have := (h6.lt q e).2
      omega
  · refine ⟨hr.os.trans h9.fr.os, hr.tape.trans h9.fr.tape, hr.output.trans h9.fr.output, Nat.le_trans h9.fr.size hr.size, fun q h1 h2 h3 h4 => ?_, h9.fr.ints.trans hst⟩
    rw [hb q (Nat.lt_of_lt_of_le h1 h9.fr.size) (fun t ht e => by have := hlow t ht; omega)]
    exact h9.fr.block q h1 h2 h3 h4
/-- a way more in the list -/
theorem Mid.way {w9 w10 : World} {ds news : List Value} {lv' : Value} {x : Way} (h : Mid B w0 bl mb lv0 todo ws S lv tv W) (hg : Grow W w9) (hc : w9.ownsRow B 72 2 lv ws.length ds) (hw : WayCs w9 ws ds)
    (hr : w9.grownBy w10 lv.ownBlock) (ho : w10.ownsRow B 72 2 lv' (ws.length + 1) (ds ++ news)) (hY : WayCs w9 [x] news) (hlv : lv'.oneCell' = true)
    (hat : ∀ g, lv'.ownBlock = some g → lv.ownBlock = some g ∨ W.heap.size ≤ g) : Mid B w0 bl mb lv0 todo (ws ++ [x]) S lv' tv (w10.setCell ⟨bl, 0, none⟩ lv') := by
  have h9 := h.grow hg
  have hst : IntsStay w9 w10 := IntsStay.grown hr (own72_not3 hc)
  have hbl9 := h9.la.blk
  have hnb : ∀ q, lv.ownBlock = some q → q ≠ bl := fun q hq e => by
    rcases hc.2 with ⟨h1, _⟩ | ⟨g, cap, cu, h1, _, h2, _⟩
    · rw [h1] at hq; cases hq
    · rw [h1] at hq
      have e' : g = q := by simpa [Value.ownBlock] using hq
      rw [e', e, hbl9] at h2
      injection h2 with h2
      injection h2 with _ h2 _
      exact absurd h2 (by decide)
  have hnm : ∀ q, lv.ownBlock = some q → q ≠ mb := fun q hq e => by
    obtain ⟨es, ck, hm⟩ := h9.la.seen.blk
    rcases hc.2 with ⟨h1, _⟩ | ⟨g, cap, cu, h1, _, h2, _⟩
    · rw [h1] at hq; cases hq
    · rw [h1] at hq
      have e' : g = q := by simpa [Value.ownBlock] using hq
      rw [e', e, hm] at h2
      cases h2
  have hb : ∀ q, q < w9.heap.size → (∀ t, lv.ownBlock = some t → t ≠ q) → w10.heap[q]? = w9.heap[q]? := fun q h1 h2 => hr.block q h1 (fun e => h2 q e.symm rfl)
  have hbl10 := (hb bl (lt_blk hbl9) hnb).trans hbl9
  have hst2 : IntsStay w10 (w10.setCell ⟨bl, 0, none⟩ lv') := IntsStay.set (fun cur e => by
    rw [hbl10] at e
    injection e with e
    injection e with _ e _
    exact absurd e (by decide))
  have hbs : ∀ q, q ≠ bl → (w10.setCell ⟨bl, 0, none⟩ lv').heap[q]? = w10.heap[q]? := fun q hq => heap_setCell_other _ _ _ _ hq
  have keep : ∀ (Bx n : Nat) (u : Value) (xs : List Value), w10.ownsRow Bx 72 2 u n xs → (w10.setCell ⟨bl, 0, none⟩ lv').ownsRow Bx 72 2 u n xs := fun Bx n u xs hu => by
    refine hu.kept (row := some bl) ⟨rfl, rfl, rfl, by simp, fun k hk hkr => heap_setCell_other _ _ _ _ (fun e => hkr (by rw [e]))⟩ ?_
    rcases hu.2 with ⟨h1, _⟩ | ⟨g, cap, cu, h1, _, h2, _⟩
    · left; rw [h1]; rfl
    · right
      rw [h1]
      intro e
      have e' : g = bl := by simpa [Value.ownBlock] using e
      rw [e', hbl10] at h2
      injection h2 with h2
      injection h2 with _ h2 _
      exact absurd h2 (by decide)
  obtain ⟨cs, h1, h2⟩ := h9.own
  have hbm : bl ≠ mb := fun e => by
    obtain ⟨es, ck, hm⟩ := h9.la.seen.blk
    rw [← e, hbl9] at hm
    cases hm
  refine ⟨⟨cs, keep _ _ _ _ (h1.kept hr ?_), h2.stay (hst.trans hst2)⟩, ⟨?_, ⟨ds ++ news, ?_, (hw.append hY).stay (hst.trans hst2)⟩, ?_, h9.la.lo, h9.la.lm⟩, fun q hq e => ?_, fun q hq => ?_, ?_, h.old⟩
  · cases ht : tv.ownBlock with
    | none => exact .inl rfl
    | some q => exact .inr (fun e => h.dis q ht e.symm)
  · rw [Go.heap_setCell_same w10 bl 0 _ _ _ hbl10]; rfl
  · rw [List.length_append]; exact keep _ _ _ _ ho
  · exact h9.la.seen.kept ((hbs mb (fun e => hbm e.symm)).trans (hb mb h9.la.seen.lt hnm))
  · rcases hat q e with h5 | h5
    · exact h.dis q hq h5
    · obtain ⟨es, h6, _⟩ := h.own
      have := (h6.lt q hq).2
      omega
  · rcases hat q hq with h5 | h5
    · exact h.new q h5
    · exact .inr (Nat.le_trans h.fr.size h5)
  · refine ⟨hr.os.trans h9.fr.os, hr.tape.trans h9.fr.tape, hr.output.trans h9.fr.output, by simpa using Nat.le_trans h9.fr.size hr.size, fun q h1 h2 h3 h4 => ?_, (h9.fr.ints.trans hst).trans hst2⟩
    rw [hbs q h2, hb q (Nat.lt_of_lt_of_le h1 h9.fr.size) (fun t ht e => ?_)]
    · exact h9.fr.block q h1 h2 h3 h4
    · subst e
      rcases h.new t ht with h5 | h5
      · exact h4 h5.symm
      · omega
end
end Go.Proofs.Ytldcbkememonaaa
