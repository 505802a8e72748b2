/-
  Both FS's among other memory: the joint state of the laws; the plain act. / The operations over the joint state. / The walks of Pending, List (vfs).
-/
import Derived.Test.YticpldjcmhpjoaaX12
import Derived.Test.YticpldjcmhpjoaaX13
import Derived.Test.YticpldjcmhpjoaaQh
import Derived.Sort.KeysCollected
namespace Go.Proofs.Yticpldjcmhpjoaa
open Go.RowKit
set_option linter.unusedVariables false
set_option linter.unusedSimpArgs false

/-- an act -/
structure Actn where
  kind : Int
  at_ : Int
  n : Int
  name : ByteArray
  b : List (List UInt8)
/-- what an act leaves -/
def stepD (D : Doc) (a : Actn) : Doc :=
  if a.kind = 1 then (createD D a.name a.b.flatten).2 else if a.kind = 2 then (writeD D a.name a.at_ a.b.flatten).2 else if a.kind = 3 then (removeD D a.name).2
  else if a.kind = 4 then ⟨D.room, D.now, D.now, []⟩ else if a.kind = 5 then crashD D a.at_ a.n else D
theorem Good.now_len {D : Doc} (h : Good D) : D.now.length ≤ D.was.length + D.l.length := by
  rw [h.runs.now_eq]
  exact play_len _ _
theorem crashL_len (was : List File) (l : List Chg) (n m : Int) : (crashL was l n m).length ≤ was.length + l.length := by
  have h1 : ∀ k, (play was (l.take k)).length ≤ was.length + (l.take k).length := fun k => play_len _ _
  have h2 : ∀ k, (l.take k).length ≤ l.length := fun k => by simp [List.length_take]; omega
  unfold crashL
  cases hk : l[keepN n l]? with
  | none => exact Nat.le_trans (h1 _) (by have := h2 (keepN n l); omega)
  | some c =>
    have hlt : keepN n l < l.length := (List.getElem?_eq_some_iff.1 hk).1
    have h3 := h1 (keepN n l)
    have h4 : (l.take (keepN n l)).length = keepN n l := by simp [List.length_take]; omega
    simp only
    split
    · exact Nat.le_trans (doesL_len _ _) (by omega)
    · omega
structure StepOk (D D' : Doc) : Prop where
  good : Good D'
  room : D'.room = D.room
  len : D'.was.length + D'.l.length ≤ D.was.length + D.l.length + 1
theorem StepOk.same {D : Doc} (h : Good D) : StepOk D D := ⟨h, rfl, Nat.le_succ _⟩
theorem StepOk.did {D : Doc} {c : Chg} (h : Good (D.did c)) : StepOk D (D.did c) := ⟨h, rfl, by simp only [Doc.did, List.length_append, List.length_cons, List.length_nil]; omega⟩
theorem create_cases (D : Doc) (name : ByteArray) (data : List UInt8) : (createD D name data).2 = D ∨ ∃ c, (createD D name data).2 = D.did c := by
  unfold createD
  split
  · split
    · exact .inl rfl
    · split
      · exact .inl rfl
      · exact .inr ⟨_, rfl⟩
  · exact .inl rfl
theorem write_cases (D : Doc) (name : ByteArray) (at_ : Int) (data : List UInt8) : (writeD D name at_ data).2 = D ∨ ∃ c, (writeD D name at_ data).2 = D.did c := by
  unfold writeD
  split
  · split
    · exact .inr ⟨_, rfl⟩
    · exact .inl rfl
  · exact .inl rfl
theorem remove_cases (D : Doc) (name : ByteArray) : (removeD D name).2 = D ∨ ∃ c, (removeD D name).2 = D.did c := by
  unfold removeD
  split
  · exact .inr ⟨_, rfl⟩
  · exact .inl rfl
theorem StepOk.of {D D' : Doc} (hG : Good D) (hG' : Good D') (h : D' = D ∨ ∃ c, D' = D.did c) : StepOk D D' := by
  rcases h with rfl | ⟨c, rfl⟩
  · exact .same hG
  · exact .did hG'
theorem Good.step {D : Doc} (h : Good D) (a : Actn) (hl : a.b.flatten.length ≤ 1073741824) : StepOk D (stepD D a) := by
  unfold stepD
  split
  · exact .of h (h.create _ _ hl) (create_cases _ _ _)
  · split
    · exact .of h (h.write _ _ _ hl) (write_cases _ _ _ _)
    · split
      · exact .of h (h.remove _) (remove_cases _ _)
      · split
        · exact ⟨h.sync, rfl, by have := h.now_len; simp only [List.length_nil]; omega⟩
        · split
          · exact ⟨h.crash _ _, rfl, by have := crashL_len D.was D.l a.at_ a.n; simp only [crashD, List.length_nil]; omega⟩
          · exact .same h
/-- both FS's: w0: the memory ahead; R's blocks are as in w1 -/
structure J (w0 w1 : World) (R P Q : Nat → Prop) (w : World) (fb xb K : Nat) (D E : Doc) : Prop where
  fs : FsAt P w fb D.fs K
  xs : XsAt Q w xb E
  lo : ∀ k, P k → w0.heap.size ≤ k
  lox : ∀ k, Q k → w0.heap.size ≤ k
  hi : ∀ k, P k → k < w.heap.size
  hix : ∀ k, Q k → k < w.heap.size
  dis : ∀ k, P k → ¬ Q k
  rp : ∀ k, R k → ¬ P k ∧ ¬ Q k
  rlt : ∀ k, R k → k < w1.heap.size
  rs : ∀ k, R k → w.heap[k]? = w1.heap[k]?
  rz : w1.heap.size ≤ w.heap.size
  gr : Grow w0 w
  gd : Good D
  ge : Good E
theorem J.step {w0 w1 w w' : World} {R P Q : Nat → Prop} {fb xb K K' : Nat} {D D' E : Doc} (h : J w0 w1 R P Q w fb xb K D E) (hf : FsAt (More P w w') w' fb D'.fs K') (t : Turn P w w') (hG : Good D') : J w0 w1 R (More P w w') Q w' fb xb K' D' E := by
  have hz := t.size
  have hw0 := h.gr.size
  refine ⟨hf, h.xs.keep (stand_of t (fun k hq hp => h.dis k hp hq)), fun k hk => ?_, h.lox, fun k hk => ?_, fun k hk => Nat.lt_of_lt_of_le (h.hix k hk) hz, fun k hk hq => ?_, fun k hk => ⟨fun hp => ?_, (h.rp k hk).2⟩, h.rlt, fun k hk => ?_, Nat.le_trans h.rz hz, Below.trans h.gr (t.below hw0 h.lo), hG, h.ge⟩
  · rcases hk with hk | hk
    · exact h.lo k hk
    · omega
  · rcases hk with hk | hk
    · have := h.hi k hk; omega
    · exact hk.2
  · rcases hk with hk | hk
    · exact h.dis k hk hq
    · have := h.hix k hq; omega
  · rcases hp with hp | hp
    · exact (h.rp k hk).1 hp
    · have := h.rlt k hk; have := h.rz; omega
  · exact (t.block k (by have := h.rlt k hk; have := h.rz; omega) (h.rp k hk).1).trans (h.rs k hk)
theorem J.stepx {w0 w1 w w' : World} {R P Q : Nat → Prop} {fb xb K : Nat} {D E E' : Doc} (h : J w0 w1 R P Q w fb xb K D E) (hf : XsAt (More Q w w') w' xb E') (t : TurnX Q w w') (hG : Good E') : J w0 w1 R P (More Q w w') w' fb xb K D E' := by
  have hz := t.size
  have hw0 := h.gr.size
  refine ⟨h.fs.turn t.toTurn h.dis, hf, h.lo, fun k hk => ?_, fun k hk => Nat.lt_of_lt_of_le (h.hi k hk) hz, fun k hk => ?_, fun k hk hq => ?_, fun k hk => ⟨(h.rp k hk).1, fun hp => ?_⟩, h.rlt, fun k hk => ?_, Nat.le_trans h.rz hz, Below.trans h.gr (t.toTurn.below hw0 h.lox), h.gd, hG⟩
  · rcases hk with hk | hk
    · exact h.lox k hk
    · omega
  · rcases hk with hk | hk
    · have := h.hix k hk; omega
    · exact hk.2
  · rcases hq with hq | hq
    · exact h.dis k hk hq
    · have := h.hi k hk; omega
  · rcases hp with hp | hp
    · exact (h.rp k hk).2 hp
    · have := h.rlt k hk; have := h.rz; omega
  · exact (t.block k (by have := h.rlt k hk; have := h.rz; omega) (h.rp k hk).2).trans (h.rs k hk)
theorem J.grow {w0 w1 w w' : World} {R P Q : Nat → Prop} {fb xb K : Nat} {D E : Doc} (h : J w0 w1 R P Q w fb xb K D E) (g : Grow w w') : J w0 w1 R P Q w' fb xb K D E := by
  have hz := g.size
  have hw0 := h.gr.size
  exact ⟨h.fs.keep (stand_grow g), h.xs.keep (stand_grow g), h.lo, h.lox, fun k hk => Nat.lt_of_lt_of_le (h.hi k hk) hz, fun k hk => Nat.lt_of_lt_of_le (h.hix k hk) hz, h.dis, h.rp, h.rlt,
    fun k hk => (Below.block g k (by have := h.rlt k hk; have := h.rz; omega)).trans (h.rs k hk), Nat.le_trans h.rz hz, Below.trans h.gr (Below.mono g hw0), h.gd, h.ge⟩
/-- a farther keep: R2's blocks are as in w2, when R's are as in w1 there -/
theorem J.keeps {w0 w1 w : World} {R P Q : Nat → Prop} {fb xb K : Nat} {D E : Doc} (h : J w0 w1 R P Q w fb xb K D E) (R2 : Nat → Prop) (h2 : ∀ k, R2 k → k < w.heap.size ∧ ¬ P k ∧ ¬ Q k) : J w0 w R2 P Q w fb xb K D E :=
  { h with rp := fun k hk => (h2 k hk).2, rlt := fun k hk => (h2 k hk).1, rs := fun _ _ => rfl, rz := Nat.le_refl _ }
theorem J.outer {w0 w1 w2 w : World} {R R2 P Q : Nat → Prop} {fb xb K : Nat} {D E : Doc} (h : J w0 w2 R2 P Q w fb xb K D E) (hr : ∀ k, R k → R2 k ∧ k < w1.heap.size ∧ w2.heap[k]? = w1.heap[k]?) (hz : w1.heap.size ≤ w2.heap.size) : J w0 w1 R P Q w fb xb K D E :=
  { h with rp := fun k hk => h.rp k (hr k hk).1, rlt := fun k hk => (hr k hk).2.1, rs := fun k hk => (h.rs k (hr k hk).1).trans (hr k hk).2.2, rz := Nat.le_trans hz h.rz }
/-- the joint state, with no footprints told: s: a bound for vfs's maps, t: for the document's rows -/
def JS (w0 w1 : World) (R : Nat → Prop) (w : World) (fb xb s t : Nat) (D E : Doc) : Prop :=
  ∃ P Q K, J w0 w1 R P Q w fb xb K D E ∧ K ≤ s ∧ E.was.length + E.l.length ≤ t
theorem JS.grow {w0 w1 w w' : World} {R : Nat → Prop} {fb xb s t : Nat} {D E : Doc} (h : JS w0 w1 R w fb xb s t D E) (g : Grow w w') : JS w0 w1 R w' fb xb s t D E := by
  obtain ⟨P, Q, K, h, k⟩ := h
  exact ⟨P, Q, K, h.grow g, k⟩
theorem JS.mono {w0 w1 w : World} {R : Nat → Prop} {fb xb s t s' t' : Nat} {D E : Doc} (h : JS w0 w1 R w fb xb s t D E) (hs : s ≤ s') (ht : t ≤ t') : JS w0 w1 R w fb xb s' t' D E := by
  obtain ⟨P, Q, K, h, k1, k2⟩ := h
  exact ⟨P, Q, K, h, Nat.le_trans k1 hs, Nat.le_trans k2 ht⟩
theorem JS.gr {w0 w1 w : World} {R : Nat → Prop} {fb xb s t : Nat} {D E : Doc} (h : JS w0 w1 R w fb xb s t D E) : Grow w0 w := by
  obtain ⟨P, Q, K, h, _⟩ := h
  exact h.gr
/-- memory made behind a state is kept -/
theorem JS.box {w0 w1 w : World} {R : Nat → Prop} {fb xb s t : Nat} {D E : Doc} (h : JS w0 w1 R w fb xb s t D E) (o : Obj) : JS w0 (w.alloc o) (fun k => R k ∨ k = w.heap.size) (w.alloc o) fb xb s t D E := by
  obtain ⟨P, Q, K, h, k⟩ := h
  have hg := (Grow.refl w).alloc o
  have hz := hg.size
  refine ⟨P, Q, K, (h.grow hg).keeps _ (fun k hk => ?_), k⟩
  rcases hk with hk | rfl
  · exact ⟨by have := h.rlt k hk; have := h.rz; omega, h.rp k hk⟩
  · exact ⟨by simp, fun hp => by have := h.hi _ hp; omega, fun hp => by have := h.hix _ hp; omega⟩
theorem JS.unbox {w0 w1 w w' : World} {R : Nat → Prop} {fb xb s t s' t' : Nat} {D E D' E' : Doc} {o : Obj} (h0 : JS w0 w1 R w fb xb s t D E) (h : JS w0 (w.alloc o) (fun k => R k ∨ k = w.heap.size) w' fb xb s' t' D' E') : JS w0 w1 R w' fb xb s' t' D' E' := by
  obtain ⟨P, Q, K, h, k⟩ := h
  obtain ⟨P0, Q0, K0, h0, _⟩ := h0
  have hg := (Grow.refl w).alloc o
  have hz := hg.size
  exact ⟨P, Q, K, h.outer (fun k hk => ⟨.inl hk, h0.rlt k hk, (Below.block hg k (by have := h0.rlt k hk; have := h0.rz; omega)).trans (h0.rs k hk)⟩) (Nat.le_trans h0.rz hz), k⟩
/-- the box's cells -/
theorem JS.boxed {w0 w w' : World} {R : Nat → Prop} {fb xb s t : Nat} {D E : Doc} {o : Obj} (h : JS w0 (w.alloc o) (fun k => R k ∨ k = w.heap.size) w' fb xb s t D E) : w'.heap[w.heap.size]? = some o := by
  obtain ⟨P, Q, K, h, k⟩ := h
  exact (h.rs _ (.inr rfl)).trans (heap_alloc_new w o)
/-- what an operation leaves of the joint state -/
def JP (w0 w1 : World) (R : Nat → Prop) (fb xb s t : Nat) (v : Value) (D E : Doc) (e : Ending) (w' : World) : Prop := e = .returned v ∧ JS w0 w1 R w' fb xb s t D E
theorem JS.vfs {w0 w1 w : World} {R : Nat → Prop} {fb xb s t f : Nat} {D E D' : Doc} {v : Value} {args : Array Value} (h : JS w0 w1 R w fb xb s t D E) (hs : s ≤ 900000) (hG : Good D')
    (hc : ∀ P K, FsAt P w fb D.fs K → Good D → K ≤ 1000000 → Calls Try.prog f args w fun e w' => e = .returned v ∧ FsAt (More P w w') w' fb D'.fs (K + 2) ∧ Turn P w w') : Calls Try.prog f args w (JP w0 w1 R fb xb (s + 2) t v D' E) := by
  obtain ⟨P, Q, K, h, k1, k2⟩ := h
  refine (hc P K h.fs h.gd (by omega)).mono ?_
  rintro e w' ⟨rfl, h1, h2⟩
  exact ⟨rfl, _, _, _, h.step h1 h2 hG, by omega, k2⟩
theorem JS.xs {w0 w1 w : World} {R : Nat → Prop} {fb xb s t f : Nat} {D E E' : Doc} {v : Value} {args : Array Value} (h : JS w0 w1 R w fb xb s t D E) (ht : t ≤ 90000) (hS : StepOk E E')
    (hc : ∀ P, XsAt P w xb E → Good E → E.was.length + E.l.length ≤ 90000 → Calls Try.prog f args w fun e w' => e = .returned v ∧ XsAt (More P w w') w' xb E' ∧ TurnX P w w') : Calls Try.prog f args w (JP w0 w1 R fb xb s (t + 1) v D E') := by
  obtain ⟨P, Q, K, h, k1, k2⟩ := h
  refine (hc Q h.xs h.ge (by omega)).mono ?_
  rintro e w' ⟨rfl, h1, h2⟩
  exact ⟨rfl, _, _, _, h.stepx h1 h2 hS.good, k1, by have := hS.len; omega⟩
/-- an answer alone -/
theorem JS.reads {w0 w1 w : World} {R : Nat → Prop} {fb xb s t f : Nat} {D E : Doc} {v : Value} {args : Array Value} (h : JS w0 w1 R w fb xb s t D E) (hc : Calls Try.prog f args w (OnlyP v w)) : Calls Try.prog f args w fun e w' => e = .returned v ∧ JS w0 w1 R w' fb xb s t D E ∧ Grow w w' := by
  refine hc.mono ?_
  rintro e w' ⟨rfl, h1⟩
  exact ⟨rfl, h.grow h1, h1⟩
end Go.Proofs.Yticpldjcmhpjoaa

namespace Go.Proofs.Yticpldjcmhpjoaa
open Go.RowKit
set_option linter.unusedVariables false
set_option linter.unusedSimpArgs false

variable {w0 w1 w : World} {R : Nat → Prop} {fb xb s t : Nat} {D E : Doc}
theorem JS.good (h : JS w0 w1 R w fb xb s t D E) : Good D ∧ Good E := by
  obtain ⟨P, Q, K, h, _⟩ := h
  exact ⟨h.gd, h.ge⟩
theorem JS.lens (h : JS w0 w1 R w fb xb s t D E) : E.l.length ≤ t ∧ E.now.length ≤ t := by
  obtain ⟨P, Q, K, h, _, k⟩ := h
  have := h.ge.now_len
  omega
theorem js_create (h : JS w0 w1 R w fb xb s t D E) (hs : s ≤ 900000) (name : ByteArray) (pv : Value) (ls : List (List UInt8)) (hp : PartsIn w0 pv ls) (hn : ls.length ≤ 1000000) (hl : ls.flatten.length ≤ 1073741824) :
    Calls Try.prog 10 #[.pointer (some ⟨fb, 0, none⟩), .string name, pv] w (JP w0 w1 R fb xb (s + 2) t (.int .i64 (createD D name ls.flatten).1) (createD D name ls.flatten).2 E) :=
  h.vfs hs (h.good.1.create _ _ hl) fun P K hf hg hk => (create_any fb K D name pv ls w hf hg hk (hp.grow h.gr) hn hl).mono fun e w' ⟨h1, h2, h3⟩ => ⟨h1, h2.monoK (Nat.le_succ _), h3⟩
theorem js_xcreate (h : JS w0 w1 R w fb xb s t D E) (ht : t ≤ 90000) (name : ByteArray) (pv : Value) (ls : List (List UInt8)) (hp : PartsIn w0 pv ls) (hn : ls.length ≤ 1000000) (hl : ls.flatten.length ≤ 1073741824) :
    Calls Try.prog 35 #[.pointer (some ⟨xb, 0, none⟩), .string name, pv] w (JP w0 w1 R fb xb s (t + 1) (.int .i64 (createD E name ls.flatten).1) D (createD E name ls.flatten).2) :=
  h.xs ht (.of h.good.2 (h.good.2.create _ _ hl) (create_cases _ _ _)) fun P hx hg hz => xcreate_any xb E name pv ls w hx hg (hp.grow h.gr) hn hl (by have := h.lens; omega) (by have := h.lens; omega)
theorem js_write (h : JS w0 w1 R w fb xb s t D E) (hs : s ≤ 900000) (name : ByteArray) (at_ : Int) (pv : Value) (ls : List (List UInt8)) (hp : PartsIn w0 pv ls) (hn : ls.length ≤ 1000000) (hl : ls.flatten.length ≤ 1073741824) :
    Calls Try.prog 11 #[.pointer (some ⟨fb, 0, none⟩), .string name, .int .i64 at_, pv] w (JP w0 w1 R fb xb (s + 2) t (.int .i64 (writeD D name at_ ls.flatten).1) (writeD D name at_ ls.flatten).2 E) :=
  h.vfs hs (h.good.1.write _ _ _ hl) fun P K hf hg hk => (write_any fb K D name at_ pv ls w hf hg hk (hp.grow h.gr) hn hl).mono fun e w' ⟨h1, h2, h3⟩ => ⟨h1, h2.monoK (Nat.le_succ _), h3⟩
theorem js_xwrite (h : JS w0 w1 R w fb xb s t D E) (ht : t ≤ 90000) (name : ByteArray) (at_ : Int) (pv : Value) (ls : List (List UInt8)) (hp : PartsIn w0 pv ls) (hn : ls.length ≤ 1000000) (hl : ls.flatten.length ≤ 1073741824) :
    Calls Try.prog 36 #[.pointer (some ⟨xb, 0, none⟩), .string name, .int .i64 at_, pv] w (JP w0 w1 R fb xb s (t + 1) (.int .i64 (writeD E name at_ ls.flatten).1) D (writeD E name at_ ls.flatten).2) :=
  h.xs ht (.of h.good.2 (h.good.2.write _ _ _ hl) (write_cases _ _ _ _)) fun P hx hg hz => xwrite_any xb E name at_ pv ls w hx hg (hp.grow h.gr) hn hl (by have := h.lens; omega) (by have := h.lens; omega)
theorem js_remove (h : JS w0 w1 R w fb xb s t D E) (hs : s ≤ 900000) (name : ByteArray) :
    Calls Try.prog 26 #[.pointer (some ⟨fb, 0, none⟩), .string name] w (JP w0 w1 R fb xb (s + 2) t (.int .i64 (removeD D name).1) (removeD D name).2 E) :=
  h.vfs hs (h.good.1.remove _) fun P K hf hg hk => (remove_any fb K D name w hf hg hk).mono fun e w' ⟨h1, h2, h3⟩ => ⟨h1, h2.monoK (Nat.le_succ _), h3⟩
theorem js_xremove (h : JS w0 w1 R w fb xb s t D E) (ht : t ≤ 90000) (name : ByteArray) :
    Calls Try.prog 37 #[.pointer (some ⟨xb, 0, none⟩), .string name] w (JP w0 w1 R fb xb s (t + 1) (.int .i64 (removeD E name).1) D (removeD E name).2) :=
  h.xs ht (.of h.good.2 (h.good.2.remove _) (remove_cases _ _)) fun P hx hg hz => xremove_any xb E name w hx hg (by have := h.lens; omega) (by have := h.lens; omega)
theorem js_sync (h : JS w0 w1 R w fb xb s t D E) (hs : s ≤ 900000) :
    Calls Try.prog 22 #[.pointer (some ⟨fb, 0, none⟩)] w (JP w0 w1 R fb xb (s + 2) t (.tuple #[]) ⟨D.room, D.now, D.now, []⟩ E) :=
  h.vfs hs h.good.1.sync fun P K hf hg hk => (sync_any fb K D.fs w hf).mono fun e w' ⟨h1, h2, h3⟩ => ⟨h1, h2.monoK (Nat.le_succ _), h3⟩
theorem js_xsync (h : JS w0 w1 R w fb xb s t D E) (ht : t ≤ 90000) :
    Calls Try.prog 23 #[.pointer (some ⟨xb, 0, none⟩)] w (JP w0 w1 R fb xb s (t + 1) (.tuple #[]) D ⟨E.room, E.now, E.now, []⟩) :=
  h.xs ht ⟨h.good.2.sync, rfl, by have := h.good.2.now_len; simp only [List.length_nil]; omega⟩ fun P hx hg hz => xsync_any xb E w hx
theorem js_crash (h : JS w0 w1 R w fb xb s t D E) (hs : s ≤ 900000) (n m : Int) (b1 : -9223372036854775808 ≤ n ∧ n ≤ 9223372036854775807) (b2 : -9223372036854775808 ≤ m ∧ m ≤ 9223372036854775807) :
    Calls Try.prog 24 #[.pointer (some ⟨fb, 0, none⟩), .int .i64 n, .int .i64 m] w (JP w0 w1 R fb xb (s + 2) t (.tuple #[]) (crashD D n m) E) :=
  h.vfs hs (h.good.1.crash _ _) fun P K hf hg hk => crash_any fb K D n m w hf hg hk b1 b2
theorem js_xcrash (h : JS w0 w1 R w fb xb s t D E) (ht : t ≤ 90000) (n m : Int) (b1 : -9223372036854775808 ≤ n ∧ n ≤ 9223372036854775807) (b2 : -9223372036854775808 ≤ m ∧ m ≤ 9223372036854775807) :
    Calls Try.prog 38 #[.pointer (some ⟨xb, 0, none⟩), .int .i64 n, .int .i64 m] w (JP w0 w1 R fb xb s (t + 1) (.tuple #[]) D (crashD E n m)) :=
  h.xs ht ⟨h.good.2.crash _ _, rfl, by have := crashL_len E.was E.l n m; simp only [crashD, List.length_nil]; omega⟩ fun P hx hg hz => xcrash_any xb E n m w hx hg hz b1 b2
theorem js_size (h : JS w0 w1 R w fb xb s t D E) (name : ByteArray) :
    Calls Try.prog 25 #[.pointer (some ⟨fb, 0, none⟩), .string name] w fun e w' => e = .returned (.tuple #[.int .i64 ((findD D name).1.length : Int), .int .i64 (findD D name).2]) ∧ JS w0 w1 R w' fb xb s t D E ∧ Grow w w' := by
  have h9 := h
  obtain ⟨P, Q, K, h, k1, k2⟩ := h
  exact h9.reads (size2_any fb K D name w h.fs)
theorem js_xsize (h : JS w0 w1 R w fb xb s t D E) (ht : t ≤ 90000) (name : ByteArray) :
    Calls Try.prog 40 #[.pointer (some ⟨xb, 0, none⟩), .string name] w fun e w' => e = .returned (.tuple #[.int .i64 ((findD E name).1.length : Int), .int .i64 (findD E name).2]) ∧ JS w0 w1 R w' fb xb s t D E ∧ Grow w w' := by
  have h9 := h
  have hl := h.lens
  obtain ⟨P, Q, K, h, k1, k2⟩ := h
  exact h9.reads (xsize_any xb E name w h.xs h.ge (by omega))
theorem js_read (h : JS w0 w1 R w fb xb s t D E) (name : ByteArray) (n m : Int) (b1 : -9223372036854775808 ≤ n ∧ n ≤ 9223372036854775807) (b2 : -9223372036854775808 ≤ m ∧ m ≤ 9223372036854775807) :
    Calls Try.prog 14 #[.pointer (some ⟨fb, 0, none⟩), .string name, .int .i64 n, .int .i64 m] w fun e w' => (∃ u, e = .returned (.tuple #[u, .int .i64 (readD D name n m).2]) ∧ OwnL w.heap.size w' u (readD D name n m).1) ∧ JS w0 w1 R w' fb xb s t D E ∧ Grow w w' := by
  have h9 := h
  obtain ⟨P, Q, K, h, k1, k2⟩ := h
  exact (read_any fb K D name n m w h.fs h.gd b1 b2).mono fun e w' ⟨u, h1, h2, h3⟩ => ⟨⟨u, h1, h2⟩, h9.grow h3, h3⟩
theorem js_xread (h : JS w0 w1 R w fb xb s t D E) (ht : t ≤ 90000) (name : ByteArray) (n m : Int) (b1 : -9223372036854775808 ≤ n ∧ n ≤ 9223372036854775807) (b2 : -9223372036854775808 ≤ m ∧ m ≤ 9223372036854775807) :
    Calls Try.prog 39 #[.pointer (some ⟨xb, 0, none⟩), .string name, .int .i64 n, .int .i64 m] w fun e w' => (∃ u, e = .returned (.tuple #[u, .int .i64 (readD E name n m).2]) ∧ OwnL w.heap.size w' u (readD E name n m).1) ∧ JS w0 w1 R w' fb xb s t D E ∧ Grow w w' := by
  have h9 := h
  have hl := h.lens
  obtain ⟨P, Q, K, h, k1, k2⟩ := h
  exact (xread_any xb E name n m w h.xs h.ge (by omega) b1 b2).mono fun e w' ⟨u, h1, h2, h3⟩ => ⟨⟨u, h1, h2⟩, h9.grow h3, h3⟩
theorem js_used (h : JS w0 w1 R w fb xb s t D E) : Calls Try.prog 20 #[.pointer (some ⟨fb, 0, none⟩)] w fun e w' => e = .returned (.int .i64 (sumL D.now : Int)) ∧ JS w0 w1 R w' fb xb s t D E ∧ Grow w w' := by
  have h9 := h
  obtain ⟨P, Q, K, h, k1, k2⟩ := h
  obtain ⟨pb, mb, sb, n, m, cv, cs, hM, hnK, hmK⟩ := h.fs
  have hOk := h.gd.runs.last
  have hr := h.gd.room
  have := hOk.sum
  exact h9.reads (used_any fb mb n D.now w (by rw [cell_blk hM.hf]; rfl) hM.now hOk.nodup (by omega))
theorem js_xused (h : JS w0 w1 R w fb xb s t D E) (ht : t ≤ 90000) : Calls Try.prog 42 #[.pointer (some ⟨xb, 0, none⟩)] w fun e w' => e = .returned (.int .i64 (sumL E.now : Int)) ∧ JS w0 w1 R w' fb xb s t D E ∧ Grow w w' := by
  have h9 := h
  have hl := h.lens
  obtain ⟨P, Q, K, h, k1, k2⟩ := h
  have hOk := h.ge.runs.last
  have hr := h.ge.room
  have := hOk.sum
  exact h9.reads (xused_any xb E w h.xs (by omega) (by omega))
theorem js_xpending (h : JS w0 w1 R w fb xb s t D E) : Calls Try.prog 43 #[.pointer (some ⟨xb, 0, none⟩)] w fun e w' => e = .returned (.int .i64 (E.l.length : Int)) ∧ JS w0 w1 R w' fb xb s t D E ∧ Grow w w' := by
  have h9 := h
  obtain ⟨P, Q, K, h, k1, k2⟩ := h
  exact h9.reads (xpending_any xb E w h.xs)
end Go.Proofs.Yticpldjcmhpjoaa

namespace Go.Proofs.Yticpldjcmhpjoaa
open Go.RowKit
set_option linter.unusedVariables false
set_option linter.unusedSimpArgs false

theorem pend48_any (pb : Nat) (a : Option Addr) (N c : Nat) (w : World) (h : w.cell? ⟨pb, 0, none⟩ = some (.slice a N c)) :
    Calls Try.prog 48 #[.pointer (some ⟨pb, 0, none⟩)] w (OnlyP (.int .i64 (N : Int)) w) := by
  go_enter Try.func48, Try.ntmps48
  go_wp2
  go_ret
  exact ⟨rfl, Below.refl _ _⟩
theorem pending_any {P : Nat → Prop} (fb K : Nat) (D : Doc) (w : World) (hS : FsAt P w fb D.fs K) :
    Calls Try.prog 28 #[.pointer (some ⟨fb, 0, none⟩)] w (OnlyP (.int .i64 (D.l.length : Int)) w) := by
  obtain ⟨pb, mb, sb, n, m, cv, cs, hM, hnK, hmK⟩ := hS
  have hrow := hM.row
  obtain ⟨N, hN⟩ : ∃ N, N = D.l.length := ⟨_, rfl⟩
  rw [show D.fs.l.length = N from hN.symm] at hrow
  obtain ⟨ac, cc, hcv⟩ : ∃ ac cc, cv = .slice ac N cc := by
    rcases hrow.2 with ⟨h1, h2⟩ | ⟨g, cap, cur, h1, _⟩
    · exact ⟨none, 0, by rw [h1, h2]⟩
    · exact ⟨_, cap, h1⟩
  have f0 : w.cell? ⟨fb, 0, none⟩ = some (.pointer (some ⟨pb, 0, none⟩)) := by rw [cell_blk hM.hf]; rfl
  have p0 : w.cell? ⟨pb, 0, none⟩ = some (.slice ac N cc) := by rw [cell_blk hM.hp, ← hcv]; rfl
  rw [← hN]
  have PE := Lib.hid (pend48_any pb ac N cc w p0)
  clear hM hrow hN hcv p0
  go_enter Try.func28, Try.ntmps28
  go_wp2_with fail
  refine PE.out.mono ?_
  rintro _ w2 ⟨rfl, g2⟩
  have G2 := Lib.hid g2
  clear g2
  go_wp2
  go_ret
  exact ⟨rfl, G2.out⟩
/-- names, sorted -/
def sortN (fs : List File) : List (List UInt8) := (fs.map fun p => p.1.data.toList).mergeSort leB
theorem bytes_inj {s t : ByteArray} (h : s.data.toList = t.data.toList) : s = t := ByteArray.ext (Array.toList_inj.1 h)
theorem keys_perm {w : World} {mb n : Nat} {D : DataW Value} {fs : List File} (hown : w.ownsMap Try.prog 9 rawE mb n D) (hnd : NodupF fs) (hh : ∀ s, Maps.has D (keyL s) = (look fs s).isSome) :
    (fs.map fun p => p.1.data.toList).Perm (strKeys D) := by
  refine Collected.perm (left := fun _ => false) ⟨?_, fun x => ?_⟩ hown keyed9 Try.underlying9 (fun _ => rfl)
  · have e : (fs.map fun p => p.1.data.toList) = (fs.map (·.1)).map fun s => s.data.toList := by rw [List.map_map]; rfl
    rw [e]
    unfold NodupF at hnd
    refine List.pairwise_map.2 (hnd.imp (fun hne e => hne (bytes_inj e)))
  · have h1 := hh ⟨⟨x⟩⟩
    unfold keyL at h1
    simp only at h1
    rw [h1]
    simp only [and_true]
    constructor
    · intro hx
      obtain ⟨p, hp, rfl⟩ := List.mem_map.1 hx
      have := mem_look hnd hp
      rw [show (⟨⟨p.1.data.toList⟩⟩ : ByteArray) = p.1 from rfl, this]
      rfl
    · intro hx
      cases hl : look fs ⟨⟨x⟩⟩ with
      | none => rw [hl] at hx; cases hx
      | some b => exact List.mem_map.2 ⟨_, look_mem hl, rfl⟩
theorem strKeys_size {D : DataW Value} (h : Maps.Tidy D) : (strKeys D).length = Maps.size D := by
  obtain ⟨es, rfl, _⟩ := h
  simp [strKeys, Maps.size]
def ListP (B : Nat) (w : World) (ss : List (List UInt8)) (e : Ending) (w' : World) : Prop := ∃ v, e = .returned v ∧ w'.ownsRow B 9 1 v ss.length (ss.map encStr) ∧ Grow w w'
theorem list_any {P : Nat → Prop} (fb K : Nat) (D : Doc) (w : World) (hS : FsAt P w fb D.fs K) (hnd : NodupF D.now) (hl : D.now.length ≤ 1000000) :
    Calls Try.prog 27 #[.pointer (some ⟨fb, 0, none⟩)] w (ListP w.heap.size w (sortN D.now)) := by
  obtain ⟨pb, mb, sb, n, m, cv, cs, hM, hnK, hmK⟩ := hS
  have f2 : w.cell? ⟨fb, 2, none⟩ = some (.map (some mb)) := by rw [cell_blk hM.hf]; rfl
  obtain ⟨f, ⟨DD, hown, htd, hD⟩, hg⟩ := hM.now
  have hp := keys_perm hown hnd (fun s => by
    rw [(hD s).2]
    show (f s).isSome = (look D.now s).isSome
    cases hlk : look D.now s with
    | none => rw [(hg s).1 hlk]; rfl
    | some b => obtain ⟨v, h1, _⟩ := (hg s).2 b hlk; rw [h1]; rfl)
  have hsz : Maps.size DD = D.now.length := by rw [← strKeys_size htd, ← hp.length_eq, List.length_map]
  have KE := Lib.hid (callsIn_wide.1 (Try.maps_Keys_47 (some mb) w))
  have SO := Lib.hid (callsIn_wide.1 (Try.slices_Sorted_keys_46_47 mb n DD rawE w hown (by unfold maxLen; omega) (by omega)))
  have HP := Lib.hid hp
  clear hM hown htd hD hg hp hsz hl hnd
  go_enter Try.func27, Try.ntmps27
  go_wp2_with fail
  refine KE.out.mono ?_
  rintro _ w2 ⟨rfl, rfl⟩
  go_wp2_with fail
  refine SO.out.mono ?_
  rintro _ w3 ⟨v, ss, rfl, hpm, ho, _, g3⟩
  have e9 : ss.mergeSort (fun x y => decide (x ≤ y)) = sortN D.now := mergeSort_of_perm (hpm.trans HP.out.symm)
  have hlen : ss.length = (sortN D.now).length := by rw [← e9, List.length_mergeSort]
  have FIN := Lib.hid (show w3.ownsRow w.heap.size 9 1 v (sortN D.now).length ((sortN D.now).map encStr) ∧ Grow w w3 from by
    rw [e9, hlen] at ho
    have ga : Grow w (w.alloc (.cells #[.map (some mb)] 56)) := (Grow.refl w).alloc _
    refine ⟨⟨ho.1, ?_⟩, ga.trans2 g3⟩
    rcases ho.2 with h2 | ⟨g, cap, cur, h3, h4, h5⟩
    · exact .inl h2
    · exact .inr ⟨g, cap, cur, h3, by have := Grow.size ga; omega, h5⟩)
  clear hpm ho g3 e9 hlen
  go_wp2
  go_ret
  exact ⟨_, rfl, FIN.out.1, FIN.out.2⟩
end Go.Proofs.Yticpldjcmhpjoaa
