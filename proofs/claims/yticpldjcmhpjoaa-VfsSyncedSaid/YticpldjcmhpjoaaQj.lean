/-
  The document's FS in memory. / The document's find. / The document's rows. / Rows of files that grow; the document's does, plain.
-/
import Derived.Test.YticpldjcmhpjoaaQi
namespace Go.Proofs.Yticpldjcmhpjoaa
open Go.RowKit
set_option linter.unusedVariables false
set_option linter.unusedSimpArgs false

/-- Turn, and no block that begins with a string turned -/
structure TurnX (P : Nat → Prop) (w w' : World) : Prop extends Turn P w w' where
  strs : ∀ g s, w.cell? ⟨g, 0, none⟩ = some (.string s) → w'.heap[g]? = w.heap[g]?
theorem TurnX.of_grow {P : Nat → Prop} {w w' : World} (h : Grow w w') : TurnX P w w' := ⟨Turn.of_grow h, fun g s hx => Below.block h g (lt_of_cell hx)⟩
theorem TurnX.trans {P Q : Nat → Prop} {a b c : World} (h : TurnX P a b) (k : TurnX Q b c) (hq : ∀ n, n < a.heap.size → Q n → P n) : TurnX P a c :=
  ⟨h.toTurn.trans k.toTurn hq, fun g s hx => by
    have e := h.strs g s hx
    exact (k.strs g s ((cell_of_block (a := ⟨g, 0, none⟩) e).trans hx)).trans e⟩
theorem TurnX.same {Q : Nat → Prop} {a b c : World} (h : TurnX Q a b) (k : TurnX Q b c) : TurnX Q a c := h.trans k (fun _ _ h => h)
theorem TurnX.mono {P Q : Nat → Prop} {a b : World} (h : TurnX P a b) (hq : ∀ n, n < a.heap.size → P n → Q n) : TurnX Q a b := ⟨h.toTurn.mono hq, h.strs⟩
theorem TurnX.of_set {w : World} {a : Addr} {v u x : Value} (ha : w.cell? a = some u) (h0 : w.cell? ⟨a.block, 0, none⟩ = some x) (h8 : ∀ i, x ≠ .int .u8 i) (hs : ∀ s, x ≠ .string s) : TurnX (fun k => k = a.block) w (w.setCell a v) :=
  ⟨Turn.of_set ha (fun i e => h8 i (by rw [h0] at e; injection e)), fun g s hx => heap_setCell_other _ _ _ _ (fun e => hs s (by rw [e, h0] at hx; injection hx))⟩
theorem TurnX.of_grown {w w' : World} {q : Option Nat} (h : w.grownBy w' q) (hq : ∀ g, q = some g → ∃ x, w.cell? ⟨g, 0, none⟩ = some x ∧ (∀ i, x ≠ .int .u8 i) ∧ ∀ s, x ≠ .string s) : TurnX (fun k => q = some k) w w' :=
  ⟨Turn.of_grown h (fun g e i hi => by obtain ⟨x, h1, h2, _⟩ := hq g e; rw [h1] at hi; injection hi with hi; exact h2 i hi), fun g s hx => h.block g (lt_of_cell hx) (fun e => by obtain ⟨x, h1, _, h3⟩ := hq g e.symm; rw [h1] at hx; injection hx with hx; exact h3 s hx)⟩
/-- files' cells -/
inductive FileCs (P : Nat → Prop) (w : World) : List File → List Value → Prop
  | nil : FileCs P w [] []
  | cons (p : File) (l : List File) (bv : Value) (cs : List Value) : BytesIn P w bv p.2 → FileCs P w l cs → FileCs P w (p :: l) ([.string p.1, bv] ++ cs)
theorem FileCs.turn {P Q : Nat → Prop} {w w' : World} {l : List File} {cs : List Value} (h : FileCs P w l cs) (ht : Turn Q w w') : FileCs P w' l cs := by
  induction h with
  | nil => exact .nil
  | cons c l dv cs h1 _ ih => exact .cons c l dv cs (h1.turn ht) ih
theorem FileCs.mono {P Q : Nat → Prop} {w : World} {l : List File} {cs : List Value} (h : FileCs P w l cs) (hq : ∀ k, k < w.heap.size → P k → Q k) : FileCs Q w l cs := by
  induction h with
  | nil => exact .nil
  | cons c l dv cs h1 _ ih => exact .cons c l dv cs (h1.mono hq) ih
theorem FileCs.keep {P : Nat → Prop} {w w' : World} {l : List File} {cs : List Value} (h : FileCs P w l cs) (hs : Stand P w w') : FileCs P w' l cs := by
  induction h with
  | nil => exact .nil
  | cons c l dv cs h1 _ ih => exact .cons c l dv cs (h1.keep hs) ih
theorem FileCs.append {P : Nat → Prop} {w : World} {a b : List File} {x y : List Value} (h : FileCs P w a x) (k : FileCs P w b y) : FileCs P w (a ++ b) (x ++ y) := by
  induction h with
  | nil => exact k
  | cons c l dv cs h1 _ ih => rw [List.cons_append, List.append_assoc]; exact .cons c _ dv _ h1 ih
theorem FileCs.at {P : Nat → Prop} {w : World} {a : List File} {x : List Value} (h : FileCs P w a x) : ∀ k p, a[k]? = some p → ∃ bv, BytesIn P w bv p.2 ∧ x[k * 2]? = some (.string p.1) ∧ x[k * 2 + 1]? = some bv := by
  induction h with
  | nil => intro k y hk; simp at hk
  | cons d ds pv cs h1 _ ih =>
    intro k y hk
    cases k with
    | zero =>
      simp at hk
      subst hk
      exact ⟨pv, h1, rfl, rfl⟩
    | succ k =>
      obtain ⟨pv', a1, a2, a3⟩ := ih k y (by simpa using hk)
      refine ⟨pv', a1, ?_, ?_⟩
      · rw [show (k + 1) * 2 = k * 2 + 2 from by omega, List.getElem?_append_right (by simp)]; simpa using a2
      · rw [show (k + 1) * 2 + 1 = k * 2 + 1 + 2 from by omega, List.getElem?_append_right (by simp)]; simpa using a3
/-- v is a row of files, in P's blocks -/
def RowF (P : Nat → Prop) (w : World) (v : Value) (fs : List File) : Prop :=
  ∃ cs, w.ownsRow 0 93 2 v fs.length cs ∧ FileCs P w fs cs ∧ (∀ q, v.ownBlock = some q → P q) ∧ (fs = [] → v = .slice none 0 0)
theorem RowF.nil (P : Nat → Prop) (w : World) : RowF P w (.slice none 0 0) [] := ⟨[], ⟨rfl, .inl ⟨rfl, rfl⟩⟩, .nil, (fun q hq => (by cases hq)), fun _ => rfl⟩
theorem RowF.shape {P : Nat → Prop} {w : World} {v : Value} {fs : List File} (h : RowF P w v fs) : ∃ a c, v = .slice a fs.length c ∧ fs.length ≤ c := by
  obtain ⟨cs, h1, _⟩ := h
  rcases h1.2 with ⟨h1, h2⟩ | ⟨g, cap, cur, h1, _, _, h3, _⟩
  · exact ⟨none, 0, by rw [h1, h2], by omega⟩
  · exact ⟨_, cap, h1, h3⟩
theorem RowF.at {P : Nat → Prop} {w : World} {a : Option Addr} {n c : Nat} {fs : List File} (h : RowF P w (.slice a n c) fs) (k : Nat) (p : File) (hk : fs[k]? = some p) :
    ∃ g bv, a = some ⟨g, 0, none⟩ ∧ BytesIn P w bv p.2 ∧ w.cell? ⟨g, k * 2, none⟩ = some (.string p.1) ∧ w.cell? ⟨g, k * 2 + 1, none⟩ = some bv := by
  obtain ⟨cs, h1, h2, _⟩ := h
  obtain ⟨bv, b1, b2, b3⟩ := h2.at k p hk
  have h9 := h1
  rcases h1.2 with ⟨e, e2⟩ | ⟨g, cap, cur, e, _⟩
  · rw [List.eq_nil_of_length_eq_zero e2] at hk; simp at hk
  · have hv := e
    injection e with e1 _ _
    subst e1
    have k2 : ∀ i v, cs[i]? = some v → w.cell? ⟨g, i, none⟩ = some v := fun i v hv' => by
      have := World.ownsRow.cells (g := g) h9 rfl i v hv'
      rw [add_plain, Nat.zero_add] at this
      exact this
    exact ⟨g, bv, rfl, b1, k2 _ _ b2, k2 _ _ b3⟩
/-- what a row of files needs to stand -/
theorem RowF.turn {P Q : Nat → Prop} {w w' : World} {v : Value} {fs : List File} (h : RowF P w v fs) (ht : TurnX Q w w') : RowF P w' v fs := by
  have h0 := h
  obtain ⟨cs, h1, h2, h3⟩ := h
  cases fs with
  | nil =>
    have hv := h3.2 rfl
    subst hv
    exact RowF.nil P w'
  | cons p r =>
    refine ⟨cs, ?_, h2.turn ht.toTurn, h3⟩
    refine own_kept h1 (fun q hq => ?_)
    obtain ⟨a, c, hv, _⟩ := h0.shape
    subst hv
    obtain ⟨g, bv, e, _, e2, _⟩ := h0.at 0 p rfl
    subst e
    injection hq with hq
    simp only at hq
    subst hq
    rw [Nat.zero_mul] at e2
    exact ht.strs _ _ e2
theorem RowF.mono {P Q : Nat → Prop} {w : World} {v : Value} {fs : List File} (h : RowF P w v fs) (hq : ∀ k, k < w.heap.size → P k → Q k) : RowF Q w v fs := by
  obtain ⟨cs, h1, h2, h3, h4⟩ := h
  exact ⟨cs, h1, h2.mono hq, fun q e => by obtain ⟨cur, hc⟩ := own_lt h1 e; exact hq q (lt_blk hc) (h3 q e), h4⟩
theorem RowF.keep {P : Nat → Prop} {w w' : World} {v : Value} {fs : List File} (h : RowF P w v fs) (hs : Stand P w w') : RowF P w' v fs := by
  obtain ⟨cs, h1, h2, h3, h4⟩ := h
  exact ⟨cs, own_kept h1 (fun q e => by obtain ⟨cur, hc⟩ := own_lt h1 e; exact hs q (h3 q e) (lt_blk hc)), h2.keep hs, h3, h4⟩
/-- the document's FS in memory, told part by part -/
structure XsM (P : Nat → Prop) (w : World) (xb : Nat) (nv wv lv : Value) (cs : List Value) (D : Doc) : Prop where
  hx : w.heap[xb]? = some (.cells #[.int .i64 (D.room : Int), nv, wv, lv] 73 (0, 0))
  now : RowF P w nv D.now
  was : RowF P w wv D.was
  row : w.ownsRow 0 91 4 lv D.l.length cs
  chg : ChgCs 1 P w D.l cs
  nil : D.l = [] → lv = .slice none 0 0
  px : P xb
  pr : ∀ q, lv.ownBlock = some q → P q
theorem XsM.mono {P Q : Nat → Prop} {w : World} {xb : Nat} {nv wv lv : Value} {cs : List Value} {D : Doc} (h : XsM P w xb nv wv lv cs D) (hq : ∀ k, k < w.heap.size → P k → Q k) : XsM Q w xb nv wv lv cs D :=
  ⟨h.hx, h.now.mono hq, h.was.mono hq, h.row, h.chg.mono hq, h.nil, hq _ (lt_blk h.hx) h.px, fun q e => by obtain ⟨cur, hc⟩ := own_lt h.row e; exact hq _ (lt_blk hc) (h.pr q e)⟩
theorem XsM.keep {P : Nat → Prop} {w w' : World} {xb : Nat} {nv wv lv : Value} {cs : List Value} {D : Doc} (h : XsM P w xb nv wv lv cs D) (hs : Stand P w w') : XsM P w' xb nv wv lv cs D :=
  ⟨(hs xb h.px (lt_blk h.hx)).trans h.hx, h.now.keep hs, h.was.keep hs, own_kept h.row (fun q e => by obtain ⟨cur, hc⟩ := own_lt h.row e; exact hs q (h.pr q e) (lt_blk hc)), h.chg.keep hs, h.nil, h.px, h.pr⟩
theorem stand_of {P Q : Nat → Prop} {w w' : World} (t : Turn Q w w') (hq : ∀ k, P k → ¬ Q k) : Stand P w w' := fun k hp hk => t.block k hk (hq k hp)
theorem stand_grow {P : Nat → Prop} {w w' : World} (g : Grow w w') : Stand P w w' := fun k _ hk => Below.block g k hk
/-- the first cell of the row of changes is a number -/
theorem XsM.row0 {P : Nat → Prop} {w : World} {xb : Nat} {nv wv lv : Value} {cs : List Value} {D : Doc} (h : XsM P w xb nv wv lv cs D) (q : Nat) (hq : lv.ownBlock = some q) : ∃ k : Int, w.cell? ⟨q, 0, none⟩ = some (.int .i64 k) := by
  cases hl : D.l with
  | nil => rw [h.nil hl] at hq; cases hq
  | cons c r =>
    obtain ⟨dv, _, h2, _⟩ := h.chg.at 0 c (by rw [hl]; rfl)
    rcases h.row.2 with ⟨rfl, _⟩ | ⟨g, cap, cur, rfl, _⟩
    · cases hq
    · injection hq with hq
      subst hq
      have := World.ownsRow.cells (g := g) h.row rfl 0 _ h2
      rw [add_plain] at this
      simp only [Nat.zero_add] at this
      exact ⟨_, this⟩
def XsAt (P : Nat → Prop) (w : World) (xb : Nat) (D : Doc) : Prop := ∃ nv wv lv cs, XsM P w xb nv wv lv cs D
theorem XsAt.mono {P Q : Nat → Prop} {w : World} {xb : Nat} {D : Doc} (h : XsAt P w xb D) (hq : ∀ k, k < w.heap.size → P k → Q k) : XsAt Q w xb D := by
  obtain ⟨nv, wv, lv, cs, h⟩ := h
  exact ⟨nv, wv, lv, cs, h.mono hq⟩
theorem XsAt.keep {P : Nat → Prop} {w w' : World} {xb : Nat} {D : Doc} (h : XsAt P w xb D) (hs : Stand P w w') : XsAt P w' xb D := by
  obtain ⟨nv, wv, lv, cs, h⟩ := h
  exact ⟨nv, wv, lv, cs, h.keep hs⟩
theorem xnew_any (room : Nat) (h : room ≤ 1073741824) (w : World) : Calls Try.prog 18 #[.int .i64 (room : Int)] w fun e w' => e = .returned (.tuple #[.pointer (some ⟨w.heap.size, 0, none⟩), .int .i64 0]) ∧ XsAt (More (fun _ => False) w w') w' w.heap.size (emptyD room) ∧ Grow w w' := by
  have h1 : ¬ (room : Int) < 0 := by omega
  have h2 : ¬ (1073741824 : Int) < (room : Int) := by omega
  go_enter Try.func18, Try.ntmps18
  go_wp2
  refine bodyPost_ret (v := .tuple #[.pointer (some ⟨w.heap.size, 0, none⟩), .int .i64 0]) (by simp [results, Try.results18, go_sem]) rfl ?_
  refine ⟨rfl, ⟨.slice none 0 0, .slice none 0 0, .slice none 0 0, [], ⟨heap_alloc_new w _, RowF.nil _ _, RowF.nil _ _, ⟨rfl, .inl ⟨rfl, rfl⟩⟩, .nil, fun _ => rfl, .inr ⟨Nat.le_refl _, by simp⟩, (fun q hq => (by cases hq))⟩⟩, (Grow.refl w).alloc _⟩
theorem xnew_bad (room : Int) (hr : room < 0 ∨ 1073741824 < room) (w : World) : Calls Try.prog 18 #[.int .i64 room] w (OnlyP (.tuple #[.pointer none, .int .i64 1]) w) := by
  by_cases h1 : room < 0
  · go_enter Try.func18, Try.ntmps18
    go_wp2
    refine bodyPost_ret (v := .tuple #[.pointer none, .int .i64 1]) (by simp [results, Try.results18, go_sem]) rfl ?_
    exact ⟨rfl, Below.refl _ _⟩
  · have h2 : 1073741824 < room := by omega
    go_enter Try.func18, Try.ntmps18
    go_wp2
    refine bodyPost_ret (v := .tuple #[.pointer none, .int .i64 1]) (by simp [results, Try.results18, go_sem]) rfl ?_
    exact ⟨rfl, Below.refl _ _⟩
end Go.Proofs.Yticpldjcmhpjoaa

namespace Go.Proofs.Yticpldjcmhpjoaa
open Go.RowKit
set_option linter.unusedVariables false
set_option linter.unusedSimpArgs false

def idx (fs : List File) (s : ByteArray) : Int := match fs.findIdx? (fun p : File => decide (p.1 = s)) with | some k => (k : Int) | none => -1
theorem idx_some {fs : List File} {s : ByteArray} {k : Nat} {p : File} (hk : fs[k]? = some p) (hp : p.1 = s) (hb : ∀ (j : Nat), j < k → ∀ q : File, fs[j]? = some q → q.1 ≠ s) : idx fs s = k := by
  have hlt : k < fs.length := (List.getElem?_eq_some_iff.1 hk).1
  have : fs.findIdx? (fun p : File => decide (p.1 = s)) = some k := by
    rw [List.findIdx?_eq_some_iff_getElem]
    refine ⟨hlt, ?_, fun j hj => ?_⟩
    · rw [List.getElem?_eq_getElem hlt] at hk
      injection hk with hk
      simp [hk, hp]
    · have := hb j hj fs[j] (List.getElem?_eq_getElem (by omega))
      simpa using this
  unfold idx
  rw [this]
theorem idx_none {fs : List File} {s : ByteArray} (hb : ∀ (j : Nat) (q : File), fs[j]? = some q → q.1 ≠ s) : idx fs s = -1 := by
  have : fs.findIdx? (fun p : File => decide (p.1 = s)) = none := by
    rw [List.findIdx?_eq_none_iff]
    intro p hp
    obtain ⟨j, hj, rfl⟩ := List.getElem_of_mem hp
    simpa using hb j _ (List.getElem?_eq_getElem hj)
  unfold idx
  rw [this]
theorem tl_eq (a b : ByteArray) : (a.toList == b.toList) = decide (a = b) := by
  rw [Bool.eq_iff_iff]
  simp only [beq_iff_eq, decide_eq_true_eq]
  constructor
  · intro h
    rw [Lib.toList_data, Lib.toList_data] at h
    exact ByteArray.ext (Array.toList_inj.1 h)
  · intro h
    rw [h]
theorem findr_any {P : Nat → Prop} (v : Value) (fs : List File) (s : ByteArray) (w : World) (h : RowF P w v fs) (hl : fs.length ≤ 1000000) : Calls Try.prog 52 #[v, .string s] w (OnlyP (.int .i64 (idx fs s)) w) := by
  obtain ⟨a, c, rfl, hc⟩ := h.shape
  obtain ⟨R, hR⟩ : ∃ R, R = idx fs s := ⟨_, rfl⟩
  rw [← hR]
  obtain ⟨n, hn⟩ : ∃ n, n = fs.length := ⟨_, rfl⟩
  rw [← hn] at h hl hc ⊢
  have HR := Lib.hid hR
  have HN := Lib.hid hn
  have HF := Lib.hid h
  clear hR hn h
  go_enter Try.func52, Try.ntmps52
  go_wp2
  go_loopw [5] (fun i wr => ∃ j : Nat, j ≤ n ∧ i = .int .i64 (j : Int) ∧ Hid (∀ k, k < j → ∀ q, fs[k]? = some q → q.1 ≠ s) ∧ Hid (Grow w wr)) (fun i _ => n - (intOf i).toNat)
  case atStart => exact ⟨0, by omega, rfl, Lib.hid (fun k hk => absurd hk (by omega)), Lib.hid (Grow.refl w)⟩
  case round =>
    obtain ⟨j, hj, rfl, HB, HG⟩ := hrel
    by_cases hlt : j < n
    · have k1 : (j : Int) < (n : Int) := by omega
      obtain ⟨p, hp⟩ : ∃ p, fs[j]? = some p := ⟨_, List.getElem?_eq_getElem (by rw [← HN.out]; exact hlt)⟩
      obtain ⟨g, bv, ea, _, r0, _⟩ := (HF.out.keep (stand_grow HG.out)).at j p hp
      subst ea
      have HP := Lib.hid hp
      obtain ⟨pn, hpn⟩ : ∃ pn, pn = p.1 := ⟨_, rfl⟩
      rw [← hpn] at r0
      have HPN := Lib.hid hpn
      clear hp hpn
      have hte := tl_eq pn s
      by_cases he : pn = s
      · rw [show decide (pn = s) = true from by simpa using he] at hte
        have HE := Lib.hid he
        clear he
        go_wp2
        go_ret
        exact ⟨by rw [HR.out, idx_some HP.out (HPN.out.symm.trans HE.out) HB.out]; rfl, HG.out⟩
      · rw [show decide (pn = s) = false from by simpa using he] at hte
        have HE := Lib.hid he
        clear he
        go_wp2
        go_roundw
        case rel =>
          refine ⟨j + 1, by omega, by go_num, Lib.hid (fun k hk q hq => ?_), HG⟩
          by_cases hkj : k < j
          · exact HB.out k hkj q hq
          · obtain rfl : k = j := by omega
            rw [HP.out] at hq
            injection hq with hq
            subst hq
            exact fun e => HE.out (HPN.out.trans e)
        case measure => simp [intOf]; omega
    · have k1 : ¬ (j : Int) < (n : Int) := by omega
      obtain rfl : n = j := by omega
      go_wp2
      go_ret
      exact ⟨by rw [HR.out, idx_none (fun k q hq => HB.out k (by rw [HN.out]; exact (List.getElem?_eq_some_iff.1 hq).1) q hq)]; rfl, HG.out⟩
/-- the document's Used -/
theorem xused_any {P : Nat → Prop} (xb : Nat) (D : Doc) (w : World) (h : XsAt P w xb D) (hl : D.now.length ≤ 1000000) (hs : sumL D.now ≤ 1073741824) : Calls Try.prog 42 #[.pointer (some ⟨xb, 0, none⟩)] w (OnlyP (.int .i64 (sumL D.now : Int)) w) := by
  obtain ⟨nv, wv, lv, cs, hM⟩ := h
  obtain ⟨fs, hfs⟩ : ∃ fs, fs = D.now := ⟨_, rfl⟩
  have hF := hM.now
  rw [← hfs] at hF hl hs ⊢
  obtain ⟨a, c, hv, hc⟩ := hF.shape
  subst hv
  have q1 : w.cell? ⟨xb, 1, none⟩ = some (.slice a fs.length c) := by rw [cell_blk hM.hx]; rfl
  have hxl := lt_of_cell q1
  obtain ⟨n, hn⟩ : ∃ n, n = fs.length := ⟨_, rfl⟩
  rw [← hn] at q1 hF hl hc
  obtain ⟨T, hT⟩ : ∃ T, T = sumL fs := ⟨_, rfl⟩
  rw [← hT] at hs ⊢
  have HT := Lib.hid hT
  have HN := Lib.hid hn
  have HF := Lib.hid hF
  have Q1 := Lib.hid q1
  clear hT hn hF hM hfs q1
  go_enter Try.func42, Try.ntmps42
  go_wp2
  go_loopw [3, 4] (fun m i wr => ∃ (j t : Nat), j ≤ n ∧ i = .int .i64 (j : Int) ∧ m = .int .i64 (t : Int) ∧ Hid (t + sumL (fs.drop j) = T) ∧ Hid (Grow w wr)) (fun _ i _ => n - (intOf i).toNat)
  case atStart => exact ⟨0, 0, by omega, rfl, rfl, Lib.hid (by rw [HT.out]; simp), Lib.hid (Grow.refl w)⟩
  case round =>
    obtain ⟨j, t, hj, rfl, rfl, HJ, HG⟩ := hrel
    have r1 := (Below.cell HG.out (p := ⟨xb, 1, none⟩) hxl).trans Q1.out
    by_cases hlt : j < n
    · have k1 : (j : Int) < (n : Int) := by omega
      obtain ⟨p, hp⟩ : ∃ p, fs[j]? = some p := ⟨_, List.getElem?_eq_getElem (by rw [← HN.out]; exact hlt)⟩
      obtain ⟨g, bv, ea, hb, _, r0⟩ := (HF.out.keep (stand_grow HG.out)).at j p hp
      subst ea
      obtain ⟨ab, cb, hbv⟩ := hb.shape
      subst hbv
      have hd : fs.drop j = p :: fs.drop (j + 1) := by
        obtain ⟨h1, h2⟩ := List.getElem?_eq_some_iff.1 hp
        rw [← h2]
        exact List.drop_eq_getElem_cons h1
      have hJ := HJ.out
      rw [hd] at hJ
      simp only [sumL] at hJ
      obtain ⟨bl, hbl⟩ : ∃ bl, bl = p.2.length := ⟨_, rfl⟩
      rw [← hbl] at r0 hJ
      have HJ2 := Lib.hid (show t + bl + sumL (fs.drop (j + 1)) = T from by omega)
      have hb9 : t + bl ≤ 1073741824 := by omega
      clear hp hb hd hJ hbl
      go_wp2
      go_roundw
      case rel => exact ⟨j + 1, t + bl, by omega, by go_num, by go_num, HJ2, HG⟩
      case measure => simp [intOf]; omega
    · have k1 : ¬ (j : Int) < (n : Int) := by omega
      obtain rfl : n = j := by omega
      have hTe : T = t := by
        have := HJ.out
        rw [List.drop_eq_nil_of_le (by rw [HN.out]; exact Nat.le_refl _)] at this
        simp only [sumL] at this
        omega
      subst hTe
      go_wp2
      go_ret
      exact ⟨rfl, HG.out⟩
end Go.Proofs.Yticpldjcmhpjoaa

namespace Go.Proofs.Yticpldjcmhpjoaa
open Go.RowKit
set_option linter.unusedVariables false
set_option linter.unusedSimpArgs false

/-- an append of bytes, run -/
structure AppR (w : World) (x y v : Value) (w' : World) : Prop where
  out : ∀ ty, (Builtin.append_ #[22, 22] ty #[x, y]).run Try.prog w = .ok v w'
theorem src_holds {w : World} {x : Value} {l : List UInt8} (h : Lib.HoldsBytes w x l) : Src Try.prog 1 22 x l.length (u8s l) w := by
  obtain ⟨p, c, rfl, h3, h4⟩ := h
  cases p with
  | none =>
    have := h3 rfl
    subst this
    exact Src.ofNil _ Try.underlying22 c
  | some a =>
    refine Src.ofSlice _ Try.underlying22 a l.length c (u8s l) (by rw [u8s_len, Nat.mul_one]) (fun j u hu => ?_) (u8s_one l)
    have hj : j < l.length := by have := (List.getElem?_eq_some_iff.1 hu).1; rwa [u8s_len] at this
    rw [u8s_get, List.getElem?_eq_getElem hj] at hu
    injection hu with hu
    subst hu
    exact h4 a rfl j _ (List.getElem?_eq_getElem hj)
theorem app_holds {w : World} {B : Nat} (hB : B ≤ w.heap.size) {v x : Value} {l l2 : List UInt8} (h : OwnL B w v l) (hx : Lib.HoldsBytes w x l2) (hs : l.length + l2.length ≤ 140737488355328) :
    ∃ v' w', AppR w v x v' w' ∧ OwnL B w' v' (l ++ l2) ∧ w.grownBy w' v.ownBlock ∧ (∀ g, v'.ownBlock = some g → v.ownBlock = some g ∨ w.heap.size ≤ g) := by
  obtain ⟨i0, hi0, hz0, hz1, hz2⟩ := info_parts (show (Try.prog.info? 5).map (fun i => (i.zero, i.size, i.bytes)) = some (some (.int .u8 0), 1, 1) by kernel_rfl)
  have key := fun ty => run_append_srcs (P := Try.prog) w B 22 22 ty 5 i0 (.int .u8 0) 1 Try.underlying22 hi0 hz0 hz1 hz2 rfl v l.length (u8s l) h x l2.length (u8s l2) (src_holds hx) (by unfold maxLen; omega) (by omega) hB
  obtain ⟨v', w', hr, h2, h3, h4⟩ := key 0
  refine ⟨v', w', ⟨fun ty => hr⟩, ?_, h3, h4⟩
  unfold OwnL
  rw [List.length_append, u8s_append]
  exact h2
theorem app_fresh {w : World} {x : Value} {l : List UInt8} (hx : Lib.HoldsBytes w x l) (hs : l.length ≤ 140737488355328) :
    ∃ g c w', AppR (w.alloc (.cells #[] 5)) (.slice (some ⟨w.heap.size, 0, none⟩) 0 0) x (.slice (some ⟨g, 0, none⟩) l.length c) w' ∧ OwnL w.heap.size w' (.slice (some ⟨g, 0, none⟩) l.length c) l ∧ l.length ≤ c ∧ Grow w w' := by
  obtain ⟨i0, hi0, hz0, hz1, hz2⟩ := info_parts (show (Try.prog.info? 5).map (fun i => (i.zero, i.size, i.bytes)) = some (some (.int .u8 0), 1, 1) by kernel_rfl)
  have ga : Grow w (w.alloc (.cells #[] 5)) := (Grow.refl w).alloc _
  have key := fun ty => run_append_fresh (P := Try.prog) (w.alloc (.cells #[] 5)) w.heap.size 22 22 ty 5 i0 (.int .u8 0) 1 1 Try.underlying22 hi0 hz0 hz1 hz2 rfl (.slice (some ⟨w.heap.size, 0, none⟩) 0 0) (.inr ⟨_, rfl⟩) (own_nil w) x l.length (u8s l) (src_holds (holds_grow hx ga)) (by unfold maxLen; omega) (by omega) (by simp)
  obtain ⟨v', w', hr, ho, hg, h1, h2⟩ := key 0
  have hgw : Grow w w' := ga.trans hg
  have hv : ∃ g c, v' = .slice (some ⟨g, 0, none⟩) l.length c := by
    rcases Nat.eq_zero_or_pos l.length with h0 | h0
    · exact ⟨_, _, by rw [h2 h0, h0]⟩
    · obtain ⟨c, hc⟩ := h1 h0
      exact ⟨_, c, hc⟩
  obtain ⟨g, c, rfl⟩ := hv
  have ho' : OwnL w.heap.size w' (.slice (some ⟨g, 0, none⟩) l.length c) l := ho
  refine ⟨g, c, w', ⟨fun ty => hr⟩, ho', ?_, hgw⟩
  obtain ⟨aa, c', e0, hnc, _⟩ := ho'.shape
  injection e0 with _ _ e
  omega
set_option maxRecDepth 20000 in
theorem rows_any (pv : Value) (ls : List (List UInt8)) (w : World) (h : PartsIn w pv ls) (hn : ls.length ≤ 1000000) (hl : ls.flatten.length ≤ 1073741824) :
    Calls Try.prog 50 #[pv] w fun e w' => ∃ v, e = .returned v ∧ OwnL w.heap.size w' v ls.flatten ∧ Grow w w' := by
  obtain ⟨a, c, rfl, h2⟩ := h
  obtain ⟨n, hnn⟩ : ∃ n, n = ls.length := ⟨_, rfl⟩
  rw [← hnn] at h2 hn ⊢
  have H2 := Lib.hid (fun (wr : World) (hg : Grow w wr) (j : Nat) (hj : j < n) => (show ∃ b o x l, a = some ⟨b, o, none⟩ ∧ ls[j]? = some l ∧ wr.cell? ⟨b, o + j, none⟩ = some x ∧ Lib.HoldsBytes wr x l from by
    obtain ⟨_, b, o, vs, ha, hP⟩ := h2 (by omega)
    have hjl : j < ls.length := by omega
    have hv : j < vs.length := by rw [hP.1]; exact hjl
    have e1 := hP.2.1 j vs[j] (List.getElem?_eq_getElem hv)
    have e2 := hP.2.2 j vs[j] ls[j] (List.getElem?_eq_getElem hv) (List.getElem?_eq_getElem hjl)
    rw [add_plain] at e1
    exact ⟨b, o, vs[j], ls[j], ha, List.getElem?_eq_getElem hjl, (Below.cell hg (lt_of_cell e1)).trans e1, holds_grow e2 hg⟩))
  have HNN := Lib.hid hnn
  have HL := Lib.hid hl
  have H0 := Lib.hid (show OwnL w.heap.size (w.alloc (.cells #[] 5)) (.slice (some ⟨w.heap.size, 0, none⟩) 0 0) (ls.take 0).flatten from own_nil w)
  have HG0 := Lib.hid (show Grow w (w.alloc (.cells #[] 5)) from (Grow.refl w).alloc _)
  clear h2 hl hnn
  go_enter Try.func50, Try.ntmps50
  go_wp2
  go_loopw [3, 4] (fun v i wr => ∃ j : Nat, j ≤ n ∧ i = .int .i64 (j : Int) ∧ Hid (OwnL w.heap.size wr v (ls.take j).flatten) ∧ Hid (Grow w wr)) (fun _ i _ => n - (intOf i).toNat)
  case atStart => exact ⟨0, by omega, rfl, H0, HG0⟩
  case round =>
    obtain ⟨j, hj, rfl, HO, HG⟩ := hrel
    by_cases hlt : j < n
    · have k1 : (j : Int) < (n : Int) := by omega
      obtain ⟨b, o, x, l, ha, hlj, hc, hx⟩ := H2.out _ HG.out j hlt
      subst ha
      have hfl : (ls.take (j + 1)).flatten = (ls.take j).flatten ++ l := by rw [List.take_add_one, hlj]; simp
      have hle : (ls.take (j + 1)).flatten.length ≤ 1073741824 := by
        have := HL.out
        have e := congrArg List.length (List.take_append_drop (j + 1) ls)
        have e2 : ls.flatten = (ls.take (j + 1)).flatten ++ (ls.drop (j + 1)).flatten := by rw [← List.flatten_append, List.take_append_drop]
        rw [e2, List.length_append] at this
        omega
      obtain ⟨v', w', hr, ho, hg, _⟩ := app_holds (Grow.size HG.out) HO.out hx (by rw [hfl, List.length_append] at hle; omega)
      rw [← hfl] at ho
      have HO' := Lib.hid ho
      have HG' := Lib.hid (show Grow w w' from grownB HG.out hg (Grow.size HG.out) HO.out.own)
      clear hx hlj hfl hle ho hg
      go_wp2_with (at_builtin; refine wpList_append_run _ (by rfl) _ _ _ _ (by rfl) _ _ _ w' (by rfl) (by rfl) hr.out ?_)
      go_roundw
      case rel => exact ⟨j + 1, by omega, by go_num, HO', HG'⟩
      case measure => simp [intOf]; omega
    · have k1 : ¬ (j : Int) < (n : Int) := by omega
      obtain rfl : n = j := by omega
      have HF := Lib.hid (show OwnL w.heap.size wr _ ls.flatten from by have := HO.out; rw [HNN.out, List.take_length] at this; exact this)
      go_wp2
      go_ret
      exact ⟨_, rfl, HF.out, HG.out⟩
end Go.Proofs.Yticpldjcmhpjoaa

namespace Go.Proofs.Yticpldjcmhpjoaa
open Go.RowKit
set_option linter.unusedVariables false
set_option linter.unusedSimpArgs false

/-- an append to a row of files, run -/
structure AppF (w : World) (x y v : Value) (w' : World) : Prop where
  out : ∀ ty, (Builtin.append_ #[70, 70] ty #[x, y]).run Try.prog w = .ok v w'
theorem wpList_appF {w : World} {ops : Array Oper} {rest : List Oper} {o : Oper} {a : Act} {Q : Exit → Act → World → Prop} {x y v : Value} {w' : World} (hrun : AppF w x y v w') (hgd : o.guard = none) (d s : Operand)
    (ho : o.op = .call { callee := .builtin .append, args := #[d, s], argTypes := #[70, 70] }) (hx : a.eval d = x) (hy : a.eval s = y) (h : wpList Try.prog ops Q rest (a.put o.dst v) w') : wpList Try.prog ops Q (o :: rest) a w :=
  wpList_append_run w hgd d s 70 70 ho x y v w' hx hy hrun.out h
theorem wpList_appR {w : World} {ops : Array Oper} {rest : List Oper} {o : Oper} {a : Act} {Q : Exit → Act → World → Prop} {x y v : Value} {w' : World} (hrun : AppR w x y v w') (hgd : o.guard = none) (d s : Operand)
    (ho : o.op = .call { callee := .builtin .append, args := #[d, s], argTypes := #[22, 22] }) (hx : a.eval d = x) (hy : a.eval s = y) (h : wpList Try.prog ops Q rest (a.put o.dst v) w') : wpList Try.prog ops Q (o :: rest) a w :=
  wpList_append_run w hgd d s 22 22 ho x y v w' hx hy hrun.out h
/-- a row of files in a block from B on -/
def RowO (B : Nat) (P : Nat → Prop) (w : World) (v : Value) (fs : List File) : Prop :=
  ∃ cs, w.ownsRow B 93 2 v fs.length cs ∧ FileCs P w fs cs ∧ (fs = [] → v = .slice none 0 0)
theorem own_base {B : Nat} {w : World} {t : TypeId} {z n : Nat} {v : Value} {xs : List Value} (h : w.ownsRow B t z v n xs) : w.ownsRow 0 t z v n xs ∧ ∀ q, v.ownBlock = some q → B ≤ q := by
  refine ⟨⟨h.1, ?_⟩, fun q hq => ?_⟩
  · rcases h.2 with h2 | ⟨g, cap, cur, h3, h4, h5⟩
    · exact .inl h2
    · exact .inr ⟨g, cap, cur, h3, Nat.zero_le _, h5⟩
  · rcases h.2 with ⟨rfl, h0⟩ | ⟨g, cap, cur, rfl, hb, _⟩
    · cases hq
    · injection hq with hq
      subst hq
      exact hb
theorem RowO.rowF {B : Nat} {P : Nat → Prop} {w : World} {v : Value} {fs : List File} (h : RowO B P w v fs) (hq : ∀ k, k < w.heap.size → B ≤ k → P k) : RowF P w v fs := by
  obtain ⟨cs, h1, h2, h3⟩ := h
  obtain ⟨h4, h5⟩ := own_base h1
  exact ⟨cs, h4, h2, fun q e => by obtain ⟨cur, hc⟩ := own_lt h1 e; exact hq q (lt_blk hc) (h5 q e), h3⟩
theorem RowO.nil (B : Nat) (P : Nat → Prop) (w : World) : RowO B P w (.slice none 0 0) [] := ⟨[], ⟨rfl, .inl ⟨rfl, rfl⟩⟩, .nil, fun _ => rfl⟩
theorem RowO.grow {B : Nat} {P : Nat → Prop} {w w' : World} {v : Value} {fs : List File} (h : RowO B P w v fs) (hg : Grow w w') : RowO B P w' v fs := by
  obtain ⟨cs, h1, h2, h3⟩ := h
  exact ⟨cs, own_grow h1 hg, h2.turn (Turn.of_grow (P := P) hg), h3⟩
theorem RowO.own {B : Nat} {P : Nat → Prop} {w : World} {v : Value} {fs : List File} (h : RowO B P w v fs) : ∀ q, v.ownBlock = some q → B ≤ q := by
  obtain ⟨cs, h1, _⟩ := h
  exact (own_base h1).2
theorem RowO.turn {B : Nat} {P Q : Nat → Prop} {w w' : World} {v : Value} {fs : List File} (h : RowO B P w v fs) (ht : Turn Q w w') (hq : ∀ q, v.ownBlock = some q → ¬ Q q) : RowO B P w' v fs := by
  obtain ⟨cs, h1, h2, h3⟩ := h
  exact ⟨cs, own_kept h1 (fun q e => by obtain ⟨cur, hc⟩ := own_lt h1 e; exact ht.block q (lt_blk hc) (hq q e)), h2.turn ht, h3⟩
theorem RowO.lt {B : Nat} {P : Nat → Prop} {w : World} {v : Value} {fs : List File} (h : RowO B P w v fs) : ∀ q, v.ownBlock = some q → q < w.heap.size := by
  obtain ⟨cs, h1, _⟩ := h
  intro q e
  obtain ⟨cur, hc⟩ := own_lt h1 e
  exact lt_blk hc
/-- the row's first cell is a string -/
theorem RowO.row0 {B : Nat} {P : Nat → Prop} {w : World} {v : Value} {fs : List File} (h : RowO B P w v fs) (q : Nat) (hq : v.ownBlock = some q) (x : Int) : w.cell? ⟨q, 0, none⟩ ≠ some (.int .u8 x) := by
  obtain ⟨cs, h1, h2, h3⟩ := h
  intro hx
  cases fs with
  | nil => rw [h3 rfl] at hq; cases hq
  | cons p r =>
    obtain ⟨bv, _, e, _⟩ := h2.at 0 p rfl
    rcases h1.2 with ⟨rfl, _⟩ | ⟨g, cap, cur, rfl, _⟩
    · cases hq
    · injection hq with hq
      subst hq
      have := World.ownsRow.cells (g := g) h1 rfl 0 _ e
      rw [add_plain] at this
      simp only [Nat.zero_add] at this
      rw [this] at hx
      injection hx with hx
      cases hx
theorem RowO.push {B : Nat} {P : Nat → Prop} {w : World} {v bv : Value} {fs : List File} (h : RowO B P w v fs) (hB : B ≤ w.heap.size) (hl : fs.length ≤ 1000000) (xn : ByteArray) (xb : List UInt8) (hb : BytesIn P w bv xb) :
    ∃ v' w', AppF (w.alloc (.cells #[.string xn, bv] 93)) v (.slice (some ⟨w.heap.size, 0, none⟩) 1 1) v' w' ∧ RowO B P w' v' (fs ++ [(xn, xb)]) ∧ Below B w w' := by
  obtain ⟨i0, hi0, hz0, hz1, hz2⟩ := info_parts (show (Try.prog.info? 93).map (fun i => (i.zero, i.size, i.bytes)) = some (some (.agg #[.string ⟨#[]⟩, .slice none 0 0]), 2, 40) by kernel_rfl)
  have h0 := h
  obtain ⟨cs, h1, h2, h3⟩ := h
  have ga : Grow w (w.alloc (.cells #[.string xn, bv] 93)) := (Grow.refl w).alloc _
  have hblk := heap_alloc_new w (.cells #[.string xn, bv] 93)
  have key := fun ty => run_append_own (P := Try.prog) (w.alloc (.cells #[.string xn, bv] 93)) B 70 ty 93 i0 _ 2 40 Try.underlying70 hi0 hz0 hz1 hz2 rfl (by omega) v fs.length cs (own_grow h1 ga) ⟨w.heap.size, 0, none⟩ 1 1 [.string xn, bv] rfl
    (World.news_of_block (cs := #[.string xn, bv]) (t := 93) (fr := (0, 0)) hblk) (by intro u hu; simp at hu; rcases hu with rfl | rfl <;> first | rfl | exact hb.one) (by unfold maxLen; omega) (by omega) (by simp; omega)
  obtain ⟨v', w', hr, ho, hg, hnil⟩ := key 0
  have ht : Turn (fun k => v.ownBlock = some k) (w.alloc (.cells #[.string xn, bv] 93)) w' := Turn.of_grown hg (fun q hq x => (h0.grow ga).row0 q hq x)
  refine ⟨v', w', ⟨fun ty => hr⟩, ⟨cs ++ [.string xn, bv], by rw [List.length_append]; exact ho, ?_, fun e => by simp at e⟩, grownB (ga.mono hB) hg (by simp; omega) h0.own⟩
  have h2' := (h2.turn (Turn.of_grow (P := P) ga)).turn ht
  refine h2'.append ?_
  have := FileCs.cons (xn, xb) [] bv [] ((hb.turn (Turn.of_grow (P := P) ga)).turn ht) .nil
  simpa using this
def bodyL (fs : List File) (c : Chg) : List File :=
  if c.kind = 1 then fs.map fun p => if p.1 = c.name then (p.1, over p.2 c.at_ c.data) else p else if c.kind = 2 then fs.filter fun p => !decide (p.1 = c.name) else fs
theorem bodyL_nil (c : Chg) : bodyL [] c = [] := by
  unfold bodyL
  by_cases h1 : c.kind = 1
  · simp [h1]
  · simp [h1]
theorem bodyL_snoc (a : List File) (x : File) (c : Chg) : bodyL (a ++ [x]) c = bodyL a c ++ (if x.1 = c.name then (if c.kind = 1 then [(x.1, over x.2 c.at_ c.data)] else if c.kind = 2 then [] else [x]) else [x]) := by
  unfold bodyL
  by_cases h1 : c.kind = 1
  · simp only [h1, if_true, List.map_append, List.map_cons, List.map_nil]
    split <;> rfl
  · by_cases h2 : c.kind = 2
    · simp only [h2, show ¬ (2 = 1) from by omega, if_false, if_true, List.filter_append]
      by_cases e : x.1 = c.name <;> simp [e]
    · simp only [h1, h2, if_false]
      split <;> rfl
theorem bodyL_len (a : List File) (c : Chg) : (bodyL a c).length ≤ a.length := by
  unfold bodyL
  split
  · simp
  · split
    · exact List.length_filter_le _ _
    · exact Nat.le_refl _
theorem doesL_body (fs : List File) (c : Chg) (hk : c.kind = 0 ∨ c.kind = 1 ∨ c.kind = 2) : doesL fs c = if c.kind = 0 then bodyL fs c ++ [(c.name, c.data)] else bodyL fs c := by
  unfold doesL bodyL
  rcases hk with h | h | h <;> simp [h]
theorem idx_iff {fs : List File} (hn : NodupF fs) {s : ByteArray} {k : Nat} {x : File} (hk : fs[k]? = some x) : (k : Int) = idx fs s ↔ x.1 = s := by
  constructor
  · intro h
    unfold idx at h
    cases hf : fs.findIdx? (fun p : File => decide (p.1 = s)) with
    | none => rw [hf] at h; simp only at h; omega
    | some j =>
      rw [hf] at h
      simp only at h
      rw [List.findIdx?_eq_some_iff_getElem] at hf
      obtain ⟨hj, h1, _⟩ := hf
      have : j = k := by omega
      subst this
      rw [List.getElem?_eq_getElem hj] at hk
      injection hk with hk
      rw [← hk]
      simpa using h1
  · intro h
    refine (idx_some hk h (fun j hj q hq e => ?_)).symm
    have hkl := (List.getElem?_eq_some_iff.1 hk).1
    have hjl := (List.getElem?_eq_some_iff.1 hq).1
    unfold NodupF at hn
    have e1 : (fs.map (·.1))[j]? = (fs.map (·.1))[k]? := by rw [List.getElem?_map, List.getElem?_map, hq, hk]; simp [e, h]
    have := (List.getElem?_inj (by simpa using hjl) hn).1 e1
    omega
theorem idx_look {fs : List File} {s : ByteArray} (h : look fs s = none) : idx fs s = -1 := idx_none (fun j q hq => look_none h q (List.mem_of_getElem? hq))
end Go.Proofs.Yticpldjcmhpjoaa
