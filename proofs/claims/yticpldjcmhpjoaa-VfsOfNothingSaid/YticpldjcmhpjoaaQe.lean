/-
  The plain state: files in the document's order, changes that are pending. / The walk of Create.
-/
import Derived.Test.YticpldjcmhpjoaaQd
namespace Go.Proofs.Yticpldjcmhpjoaa
open Go.RowKit
set_option linter.unusedVariables false
set_option linter.unusedSimpArgs false

structure Doc where
  room : Nat
  now : List File
  was : List File
  l : List Chg
/-- files behind a change, as the document says -/
def doesL (fs : List File) (c : Chg) : List File :=
  if c.kind = 0 then fs ++ [(c.name, c.data)] else if c.kind = 1 then fs.map fun p => if p.1 = c.name then (p.1, over p.2 c.at_ c.data) else p else fs.filter fun p => !decide (p.1 = c.name)
def Doc.fs (D : Doc) : Fs := ⟨D.room, look D.now, look D.was, D.l⟩
/-- a change that may be done, and is not great -/
structure OkC (fs : List File) (c : Chg) : Prop where
  name : isB c.name = true
  data : c.data.length ≤ 1073741824
  kind : (c.kind = 0 ∧ look fs c.name = none) ∨ (c.kind = 1 ∧ ∃ b, look fs c.name = some b ∧ c.at_ + c.data.length ≤ b.length) ∨ (c.kind = 2 ∧ ∃ b, look fs c.name = some b)
structure OkF (room : Nat) (fs : List File) : Prop where
  nodup : NodupF fs
  sum : sumL fs ≤ room
  name : ∀ p ∈ fs, isB p.1 = true
/-- changes that lead from files to files -/
inductive Runs (room : Nat) : List File → List Chg → List File → Prop
  | nil (fs : List File) : OkF room fs → Runs room fs [] fs
  | cons (fs : List File) (c : Chg) (l : List Chg) (now : List File) : OkF room fs → OkC fs c → Runs room (doesL fs c) l now → Runs room fs (c :: l) now
structure Good (D : Doc) : Prop where
  runs : Runs D.room D.was D.l D.now
  room : D.room ≤ 1073741824
theorem Runs.last {room : Nat} {was now : List File} {l : List Chg} (h : Runs room was l now) : OkF room now := by
  induction h with
  | nil fs h => exact h
  | cons fs c l now h1 h2 _ ih => exact ih
theorem Runs.first {room : Nat} {was now : List File} {l : List Chg} (h : Runs room was l now) : OkF room was := by
  cases h <;> assumption
theorem Runs.snoc {room : Nat} {was now : List File} {l : List Chg} (h : Runs room was l now) (c : Chg) (hc : OkC now c) (hf : OkF room (doesL now c)) : Runs room was (l ++ [c]) (doesL now c) := by
  induction h with
  | nil fs h => exact .cons fs c [] _ h hc (.nil _ hf)
  | cons fs c' l now h1 h2 _ ih => exact .cons fs c' _ _ h1 h2 (ih hc hf)
theorem OkC.valid {fs : List File} {c : Chg} (h : OkC fs c) : Valid (look fs) c := by
  rcases h.kind with ⟨h, _⟩ | ⟨h, b, h1, h2⟩ | ⟨h, _⟩
  · exact .inl h
  · exact .inr (.inl ⟨h, b, h1, h2⟩)
  · exact .inr (.inr h)
theorem OkF.small {room : Nat} {fs : List File} (h : OkF room fs) (hr : room ≤ 1073741824) : Small (look fs) := fun s b hb => by
  have h1 := sumL_le (look_mem hb)
  have h2 := h.sum
  simp only at h1
  omega
theorem look_snoc (fs : List File) (s t : ByteArray) (b : List UInt8) : look (fs ++ [(s, b)]) t = match look fs t with | some x => some x | none => if t = s then some b else none := by
  induction fs with
  | nil => simp only [List.nil_append, look]
  | cons p r ih =>
    simp only [List.cons_append, look, ih]
    by_cases e : t = p.1
    · simp [e]
    · simp [e]
theorem look_map (fs : List File) (s t : ByteArray) (k : List UInt8 → List UInt8) : look (fs.map fun p => if p.1 = s then (p.1, k p.2) else p) t = if t = s then (look fs t).map k else look fs t := by
  induction fs with
  | nil => simp [look]
  | cons p r ih =>
    simp only [List.map_cons, look, ih]
    by_cases e : p.1 = s
    · simp only [if_pos e]
      by_cases e2 : t = p.1
      · simp [e2, e]
      · simp [e2]
    · simp only [if_neg e]
      by_cases e2 : t = p.1
      · subst e2
        simp [e]
      · simp [e2]
theorem look_filter (fs : List File) (s t : ByteArray) : look (fs.filter fun p => !decide (p.1 = s)) t = if t = s then none else look fs t := by
  induction fs with
  | nil => simp [look]
  | cons p r ih =>
    by_cases e : p.1 = s
    · rw [List.filter_cons_of_neg (by simp [e]), ih]
      by_cases e2 : t = s
      · simp [e2]
      · rw [if_neg e2, if_neg e2]
        unfold look
        rw [if_neg (fun h => e2 (h.trans e))]
        cases r <;> rfl
    · rw [List.filter_cons_of_pos (by simp [e])]
      simp only [look, ih]
      by_cases e2 : t = p.1
      · subst e2
        simp [e]
      · simp [e2]
theorem look_does {fs : List File} {c : Chg} (h : OkC fs c) : look (doesL fs c) = doesG (look fs) c := by
  funext t
  unfold doesL doesG
  rcases h.kind with ⟨h0, h1⟩ | ⟨h0, b, h1, h2⟩ | ⟨h0, h1⟩
  · simp only [h0, if_true]
    rw [look_snoc]
    by_cases e : t = c.name
    · subst e; rw [h1]
    · rw [if_neg e, if_neg e]
      cases look fs t <;> rfl
  · simp only [h0, show ¬ (1 = 0) from by omega, if_true, if_false]
    rw [look_map fs c.name t (fun b => over b c.at_ c.data)]
    by_cases e : t = c.name
    · subst e; simp
    · simp [e]
  · simp only [h0, show ¬ (2 = 0) from by omega, show ¬ (2 = 1) from by omega, if_false]
    rw [look_filter]
theorem names_map (fs : List File) (s : ByteArray) (k : List UInt8 → List UInt8) : (fs.map fun p => if p.1 = s then (p.1, k p.2) else p).map (·.1) = fs.map (·.1) := by
  rw [List.map_map]
  apply List.map_congr_left
  intro p _
  simp only [Function.comp]
  split <;> rfl
theorem sumL_append (a b : List File) : sumL (a ++ b) = sumL a + sumL b := by
  induction a with
  | nil => simp [sumL]
  | cons p r ih => simp only [List.cons_append, sumL, ih]; omega
theorem sumL_map (fs : List File) (s : ByteArray) (k : List UInt8 → List UInt8) (hk : ∀ p ∈ fs, p.1 = s → (k p.2).length = p.2.length) : sumL (fs.map fun p => if p.1 = s then (p.1, k p.2) else p) = sumL fs := by
  induction fs with
  | nil => rfl
  | cons p r ih =>
    simp only [List.map_cons, sumL, ih fun q hq => hk q (List.mem_cons_of_mem _ hq)]
    by_cases e : p.1 = s
    · rw [if_pos e]; simp only [hk p List.mem_cons_self e]
    · rw [if_neg e]
theorem sumL_filter (fs : List File) (q : File → Bool) : sumL (fs.filter q) ≤ sumL fs := by
  induction fs with
  | nil => exact Nat.le_refl _
  | cons p r ih =>
    rw [List.filter_cons]
    split <;> simp only [sumL] <;> omega
theorem does_ok {room : Nat} {fs : List File} {c : Chg} (hf : OkF room fs) (h : OkC fs c) (hr : c.kind = 0 → sumL fs + c.data.length ≤ room) : OkF room (doesL fs c) := by
  rcases h.kind with ⟨h0, h1⟩ | ⟨h0, b, h1, h2⟩ | ⟨h0, h1⟩
  · unfold doesL
    rw [if_pos h0]
    refine ⟨?_, ?_, fun p hp => ?_⟩
    · unfold NodupF
      rw [List.map_append, List.nodup_append]
      refine ⟨hf.nodup, by simp, ?_⟩
      intro a ha b hb
      obtain ⟨p, hp, rfl⟩ := List.mem_map.1 ha
      simp at hb
      subst hb
      exact look_none h1 p hp
    · rw [sumL_append]; simp only [sumL]; have := hr h0; omega
    · rcases List.mem_append.1 hp with hp | hp
      · exact hf.name p hp
      · simp at hp; subst hp; exact h.name
  · unfold doesL
    rw [if_neg (by omega), if_pos h0]
    refine ⟨?_, ?_, fun p hp => ?_⟩
    · unfold NodupF
      rw [names_map fs c.name (fun b => over b c.at_ c.data)]
      exact hf.nodup
    · rw [sumL_map fs c.name (fun b => over b c.at_ c.data)]
      · exact hf.sum
      · intro p hp e
        have := mem_look hf.nodup hp
        rw [e, h1] at this
        injection this with this
        exact over_len _ _ _ (by rw [← this]; exact h2)
    · obtain ⟨q, hq, rfl⟩ := List.mem_map.1 hp
      have := hf.name q hq
      split <;> exact this
  · unfold doesL
    rw [if_neg (by omega), if_neg (by omega)]
    refine ⟨?_, Nat.le_trans (sumL_filter _ _) hf.sum, fun p hp => hf.name p (List.mem_filter.1 hp).1⟩
    exact hf.nodup.sublist (List.Sublist.map _ List.filter_sublist)
/-- the state behind a change -/
def Doc.did (D : Doc) (c : Chg) : Doc := ⟨D.room, doesL D.now c, D.was, D.l ++ [c]⟩
theorem Good.did {D : Doc} (h : Good D) (c : Chg) (hc : OkC D.now c) (hr : c.kind = 0 → sumL D.now + c.data.length ≤ D.room) : Good (D.did c) :=
  ⟨h.runs.snoc c hc (does_ok h.runs.last hc hr), h.room⟩
theorem fs_did {D : Doc} {c : Chg} (hc : OkC D.now c) : (D.did c).fs = D.fs.did c := by
  unfold Doc.did Doc.fs Fs.did
  simp only
  rw [look_does hc]
end Go.Proofs.Yticpldjcmhpjoaa

namespace Go.Proofs.Yticpldjcmhpjoaa
open Go.RowKit
set_option linter.unusedVariables false
set_option linter.unusedSimpArgs false

theorem totF_flat (most : Int) : ∀ (ls : List (List UInt8)) (n : Int), 0 ≤ n → n + ls.flatten.length ≤ most → totF most n ls = n + ls.flatten.length
  | [], n, _, _ => by simp [totF]
  | l :: r, n, h0, h => by
    simp only [List.flatten_cons, List.length_append, Int.natCast_add] at h ⊢
    unfold totF
    rw [if_neg (by omega), totF_flat most r (n + l.length) (by omega) (by omega)]
    omega
theorem totalp_any (pv : Value) (ls : List (List UInt8)) (w : World) (h : PartsIn w pv ls) (hn : ls.length ≤ 1000000) (hl : ls.flatten.length ≤ 1073741824) :
    Calls Try.prog 30 #[.int .i64 1073741824, pv] w (OnlyP (.int .i64 (ls.flatten.length : Int)) w) := by
  obtain ⟨a, c, rfl, h2⟩ := h
  have e := totF_flat 1073741824 ls 0 (Int.le_refl _) (by omega)
  rw [Int.zero_add] at e
  rw [← e]
  rcases Nat.eq_zero_or_pos ls.length with h0 | h0
  · obtain rfl := List.eq_nil_of_length_eq_zero h0
    exact total_any 1073741824 (by omega) 0 0 0 c a [] [] w rfl (by omega) (fun h => absurd h (by omega)) ⟨rfl, fun i v hv => by simp at hv, fun i v l hv => by simp at hv⟩
  · obtain ⟨_, b, o, vs, rfl, hP⟩ := h2 h0
    exact total_any 1073741824 (by omega) b o ls.length c _ vs ls w rfl hn (fun _ => rfl) hP
/-- what Create answers and leaves -/
def createD (D : Doc) (name : ByteArray) (data : List UInt8) : Int × Doc :=
  if isB name then (if (look D.now name).isSome then (6, D) else if D.room < sumL D.now + data.length then (4, D) else (0, D.did ⟨0, name, 0, data⟩)) else (1, D)
/-- what an operation on an FS leaves -/
def FsP (P : Nat → Prop) (fb K : Nat) (v : Value) (D : Doc) (w : World) (e : Ending) (w' : World) : Prop :=
  e = .returned v ∧ FsAt (More P w w') w' fb D.fs (K + 1) ∧ Turn P w w'
theorem FsAt.more {P : Nat → Prop} {w w' : World} {fb K : Nat} {S : Fs} (h : FsAt P w fb S K) (hg : Grow w w') : FsAt (More P w w') w' fb S (K + 1) := by
  obtain ⟨pb, mb, sb, n, m, cv, cs, h1, h2, h3⟩ := (h.turn (Turn.of_grow (P := fun _ => False) hg) (fun _ _ h => h)).mono (Q := More P w w') (fun k _ h => .inl h)
  exact ⟨pb, mb, sb, n, m, cv, cs, h1, by omega, by omega⟩
theorem FsAt.after {P : Nat → Prop} {w w7 w' : World} {fb K : Nat} {S : Fs} (hg : Grow w w7) (h : FsAt (More (More P w w7) w7 w') w' fb S K) (t : Turn (More P w w7) w7 w') : FsAt (More P w w') w' fb S K ∧ Turn P w w' := by
  have s1 := Grow.size hg
  have s2 := t.size
  refine ⟨h.mono (fun k hk hp => ?_), (Turn.of_grow (P := P) hg).trans t (fun k hk hp => ?_)⟩
  · unfold More at hp ⊢
    rcases hp with (hp | hp) | hp
    · exact .inl hp
    · exact .inr ⟨hp.1, hk⟩
    · exact .inr ⟨by omega, hk⟩
  · rcases hp with hp | hp
    · exact hp
    · omega
set_option maxRecDepth 20000 in
set_option maxHeartbeats 2000000 in
theorem create_any {P : Nat → Prop} (fb K : Nat) (D : Doc) (name : ByteArray) (pv : Value) (ls : List (List UInt8)) (w : World) (hS : FsAt P w fb D.fs K) (hG : Good D) (hK : K ≤ 1000000) (hp : PartsIn w pv ls) (hn : ls.length ≤ 1000000) (hl : ls.flatten.length ≤ 1073741824) :
    Calls Try.prog 10 #[.pointer (some ⟨fb, 0, none⟩), .string name, pv] w (FsP P fb K (.int .i64 (createD D name ls.flatten).1) (createD D name ls.flatten).2 w) := by
  have IS := Lib.hid (isName_any name)
  have hp' := hp
  obtain ⟨pa, pc, hpv, hpx⟩ := hp'
  clear hpx
  unfold createD
  cases hb : isB name with
  | false =>
    rw [hb] at IS
    have HS := Lib.hid hS
    subst hpv
    clear hS hG hp hb
    go_enter Try.func10, Try.ntmps10
    go_wp2_with fail
    refine (IS.out _).mono ?_
    rintro e w2 ⟨rfl, rfl⟩
    go_wp2
    go_ret
    exact ⟨rfl, HS.out.more (Grow.refl _), Turn.refl _ _⟩
  | true =>
    have hs : name.size ≤ maxLen := by
      unfold isB at hb
      simp at hb
      unfold maxLen
      omega
    rw [hb] at IS
    have HS := Lib.hid hS
    obtain ⟨pb, mb, sb, n, m, cv, cs, hM, hnK, hmK⟩ := hS
    have f1 : w.cell? ⟨fb, 1, none⟩ = some (.int .i64 (D.room : Int)) := by rw [cell_blk hM.hf]; rfl
    have f2 : w.cell? ⟨fb, 2, none⟩ = some (.map (some mb)) := by rw [cell_blk hM.hf]; rfl
    have hnow := hM.now
    obtain ⟨f, hmv, hfl⟩ := hnow
    have LK := mapV_look hmv name hs
    cases hlk : look D.now name with
    | some b =>
      obtain ⟨v, hv, _⟩ := (hfl name).2 b hlk
      rw [hv] at LK
      simp only [Option.getD_some, Option.isSome_some] at LK
      subst hpv
      clear hM hG hp hb hmv hfl hlk hs hv
      go_enter Try.func10, Try.ntmps10
      go_wp2_with fail
      refine (IS.out _).mono ?_
      rintro e w2 ⟨rfl, rfl⟩
      go_wp2
      go_ret
      exact ⟨rfl, HS.out.more (Grow.refl _), Turn.refl _ _⟩
    | none =>
      rw [(hfl name).1 hlk] at LK
      simp only [Option.getD_none, Option.isSome_none] at LK
      have hOk := hG.runs.last
      have hroom := hG.room
      have hsum := hOk.sum
      have KA := Lib.hid (show ∀ W, Grow w W → W.cell? ⟨fb, 1, none⟩ = some (.int .i64 (D.room : Int)) from fun W hW => (Below.cell hW (p := ⟨fb, 1, none⟩) (lt_of_cell f1)).trans f1)
      have TT := Lib.hid (show ∀ W, Grow w W → Calls Try.prog 30 #[.int .i64 1073741824, pv] W (fun e w' => e = .returned (.int .i64 (ls.flatten.length : Int)) ∧ Grow w w') from fun W hW => (totalp_any pv ls W (hp.grow hW) hn hl).mono (fun e w' h => ⟨h.1, hW.trans2 h.2⟩))
      have UU := Lib.hid (show ∀ W, Grow w W → Calls Try.prog 20 #[.pointer (some ⟨fb, 0, none⟩)] W (fun e w' => e = .returned (.int .i64 (sumL D.now : Int)) ∧ Grow w w') from fun W hW =>
        (used_any fb mb n D.now W ((Below.cell hW (p := ⟨fb, 2, none⟩) (lt_of_cell f2)).trans f2) (hM.now.turn (Turn.of_grow (P := fun _ => False) hW) (fun h => h)) hOk.nodup (by omega)).mono (fun e w' h => ⟨h.1, hW.trans2 h.2⟩))
      have JJ := Lib.hid (show ∀ W, Grow w W → Calls Try.prog 32 #[pv, .slice none 0 0] W fun e w' => ∃ v', e = .returned v' ∧ Hid (BytesIn (fun k => W.heap.size ≤ k) w' v' ls.flatten) ∧ Grow W w' from fun W hW => by
        refine (join_any pv ls W (hp.grow hW) hn (by omega)).mono ?_
        rintro e w' ⟨v', rfl, h1, h2⟩
        exact ⟨v', rfl, Lib.hid h1, h2⟩)
      obtain ⟨data, hdata⟩ : ∃ data, data = ls.flatten := ⟨_, rfl⟩
      rw [← hdata] at TT JJ hl ⊢
      have HOKC := Lib.hid (show OkC D.now ⟨0, name, 0, data⟩ from ⟨hb, hl, .inl ⟨rfl, hlk⟩⟩)
      have HG := Lib.hid hG
      have HSM := Lib.hid (hOk.small hG.room)
      obtain ⟨dl, hdl⟩ : ∃ dl, dl = data.length := ⟨_, rfl⟩
      obtain ⟨sm, hsm⟩ : ∃ sm, sm = sumL D.now := ⟨_, rfl⟩
      obtain ⟨rm, hrm⟩ : ∃ rm, rm = D.room := ⟨_, rfl⟩
      rw [← hdl] at TT
      rw [← hsm] at UU
      rw [← hrm] at f1 KA
      have HDL := Lib.hid hdl
      have HSUM := Lib.hid hsm
      have HRM := Lib.hid hrm
      rw [← hsm] at hsum
      rw [← hrm] at hsum hroom
      rw [← hdl] at hl
      have HSZ := Lib.hid hs
      rw [← hsm, ← hdl, ← hrm]
      clear hM hG hp hmv hfl hlk hs hOk hdata hdl hsm hrm hb
      have hwr : IntKind.i64.wrap ((rm : Int) - (sm : Int)) = (rm : Int) - (sm : Int) := IntWalk.i64_in _ (by omega)
      by_cases hc : rm < sm + dl
      · have hc' : (rm : Int) - (sm : Int) < (dl : Int) := by omega
        rw [if_pos hc]
        subst hpv
        go_enter Try.func10, Try.ntmps10
        go_wp2_with fail
        refine (IS.out _).mono ?_
        rintro e w2 ⟨rfl, rfl⟩
        go_wp2
        have GD := (Grow.refl w2).drew
        have KB := Lib.hid (show ∀ W, Grow w2 W → Grow w2 W ∧ W.cell? ⟨fb, 1, none⟩ = some (.int .i64 (rm : Int)) from fun W hW => ⟨hW, KA.out W hW⟩)
        go_region_held3 (fun W => Grow w2 W ∧ W.cell? ⟨fb, 1, none⟩ = some (.int .i64 (rm : Int))) (exact KB.out _ (by assumption))
          (first
            | (go_at_call 30; refine (TT.out _ (by assumption)).mono ?_; rintro e w5 ⟨rfl, g5⟩)
            | (go_at_call 20; refine (UU.out _ (by assumption)).mono ?_; rintro e w6 ⟨rfl, g6⟩))
        all_goals
          go_wp2
          go_ret
          exact ⟨rfl, HS.out.more (by assumption), Turn.of_grow (by assumption)⟩
      · have hc' : ¬ (rm : Int) - (sm : Int) < (dl : Int) := by omega
        rw [if_neg hc]
        subst hpv
        go_enter Try.func10, Try.ntmps10
        go_wp2_with fail
        refine (IS.out _).mono ?_
        rintro e w2 ⟨rfl, rfl⟩
        go_wp2
        have GD := (Grow.refl w2).drew
        have KB := Lib.hid (show ∀ W, Grow w2 W → Grow w2 W ∧ W.cell? ⟨fb, 1, none⟩ = some (.int .i64 (rm : Int)) from fun W hW => ⟨hW, KA.out W hW⟩)
        go_region_held3 (fun W => Grow w2 W ∧ W.cell? ⟨fb, 1, none⟩ = some (.int .i64 (rm : Int))) (exact KB.out _ (by assumption))
          (first
            | (go_at_call 30; refine (TT.out _ (by assumption)).mono ?_; rintro e w5 ⟨rfl, g5⟩)
            | (go_at_call 20; refine (UU.out _ (by assumption)).mono ?_; rintro e w6 ⟨rfl, g6⟩))
        all_goals
          go_wp2_with fail
          refine (JJ.out _ (by assumption)).mono ?_
          rintro e w7 ⟨v7, rfl, b7, g7⟩
          obtain ⟨a7, c7, hv7⟩ := b7.out.shape
          subst hv7
          have g67 : Grow w2 w7 := Grow.trans2 (b := w6) (by assumption) g7
          have hz6 : w2.heap.size ≤ w6.heap.size := Grow.size (a := w2) (b := w6) (by assumption)
          have hF7 : FsAt (More P w2 w7) w7 fb D.fs K := (HS.out.turn (Turn.of_grow (P := fun _ => False) g67) (fun _ _ h => h)).mono (fun k _ h => .inl h)
          have DA := Lib.hid (does_any (P := More P w2 w7) fb K D.fs ⟨0, name, 0, data⟩ _ w7 HOKC.out.valid hF7 hK HSZ.out (b7.out.mono (fun k hk h => .inr ⟨by omega, hk⟩)) HOKC.out.data HSM.out)
          have G67 := Lib.hid g67
          unfold Chg.val at DA
          clear g67 g7 hF7 hz6
          go_wp2_with fail
          refine DA.out.mono ?_
          rintro e w8 ⟨rfl, hF8, t8⟩
          rw [← fs_did HOKC.out] at hF8
          have FIN := Lib.hid (FsAt.after G67.out hF8 t8)
          clear hF8 t8
          go_wp2
          go_ret
          exact ⟨rfl, FIN.out.1, FIN.out.2⟩
end Go.Proofs.Yticpldjcmhpjoaa
