/-
  Rows of numbers and of signatures in memory; slices.Clone of numbers.
-/
import Derived.Test.YtfldpaceebemhaaL9
import Derived.Test.YtfldpaceebemhaaApp
import Derived.Deep.AppendLies
import Derived.Lib.SmallJoins
namespace Go.Proofs.Ytfldpaceebemhaa
open Go.RowKit

/-- numbers in memory -/
def IntsIn (xs : List Int) (v : Value) (w : World) : Prop := w.ownsRow 0 3 1 v xs.length (xs.map (Value.int .i64))
theorem IntsIn.grow {xs : List Int} {v : Value} {w w' : World} (h : IntsIn xs v w) (hb : Grow w w') : IntsIn xs v w' := own_grow h hb
/-- the block of a row of signatures -/
def IsSigBlk (w : World) (row : Option Nat) : Prop := ∀ r, row = some r → ∃ cs fr, w.heap[r]? = some (.cells cs 34 fr)
theorem IntsIn.grown {xs : List Int} {v : Value} {w w' : World} {row : Option Nat} (h : IntsIn xs v w) (hb : w.grownBy w' row) (hr : IsSigBlk w row) : IntsIn xs v w' := by
  refine World.ownsRow.kept h hb ?_
  rcases h.2 with ⟨h1, _⟩ | ⟨g, cap, cur, h1, _, h2, _⟩
  · left; rw [h1]; rfl
  · right
    rw [h1]
    intro e
    obtain ⟨cs, fr, h3⟩ := hr g e.symm
    rw [h2] at h3
    injection h3 with h3
    injection h3 with _ h4
    exact absurd h4 (by decide)
theorem own_sigblk {w : World} {B n : Nat} {v : Value} {xs : List Value} (h : w.ownsRow B 34 4 v n xs) : IsSigBlk w v.ownBlock := by
  rcases h.2 with ⟨h1, _⟩ | ⟨g, cap, cur, h1, _, h2, _⟩
  · intro r hr; rw [h1] at hr; cases hr
  · intro r hr
    rw [h1] at hr
    have : g = r := by simpa [Value.ownBlock] using hr
    subst this
    exact ⟨_, _, h2⟩
theorem ownsRow_base {w : World} {B C e size n : Nat} {v : Value} {xs : List Value} (h : w.ownsRow B e size v n xs) (hc : C ≤ B) : w.ownsRow C e size v n xs := by
  refine ⟨h.1, ?_⟩
  rcases h.2 with h1 | ⟨g, cap, cur, h1, h2, h3⟩
  · exact .inl h1
  · exact .inr ⟨g, cap, cur, h1, by omega, h3⟩

theorem clone_any (xs : List Int) (v : Value) (w : World) (h : IntsIn xs v w) (hn : xs.length ≤ 100) :
    Calls Try.prog 51 #[v] w fun e w' => ∃ v', e = .returned v' ∧ IntsIn xs v' w' ∧ Grow w w' := by
  rcases h.2 with ⟨h1, h2⟩ | ⟨g, cap, cur, h1, _, h2, h3, _⟩
  · subst h1
    refine (Try.slices_Clone_int_nil 0 0 w).mono ?_
    rintro e w' ⟨rfl, rfl⟩
    exact ⟨_, rfl, h, Grow.refl _⟩
  · subst h1
    refine (Try.slices_Clone_int g 0 xs.length cap xs w (Nat.le_refl _) (by omega) ?_).mono ?_
    · intro j hj
      have := World.ownsRow.cellAt h j (by omega)
      rw [Nat.zero_add, this]
      simp [hj]
    · rintro e w' ⟨v', rfl, ho, _, hb⟩
      refine ⟨v', rfl, ?_, hb⟩
      rw [List.take_length] at ho
      exact ownsRow_base ho (Nat.zero_le _)

/-- a signature -/
structure SigD where
  name : ByteArray
  need : List Int
  may : List Int
  rest : Int
/-- signatures' cells -/
inductive SigCs (w : World) : List SigD → List Value → Prop
  | nil : SigCs w [] []
  | cons (d : SigD) (ds : List SigD) (nv mv : Value) (cs : List Value) : IntsIn d.need nv w → IntsIn d.may mv w → SigCs w ds cs → SigCs w (d :: ds) ([.string d.name, nv, mv, .int .i64 d.rest] ++ cs)
theorem SigCs.append {w : World} {a b : List SigD} {x y : List Value} (h : SigCs w a x) (k : SigCs w b y) : SigCs w (a ++ b) (x ++ y) := by
  induction h with
  | nil => exact k
  | cons d ds nv mv cs h1 h2 _ ih => rw [List.cons_append, List.append_assoc]; exact .cons d _ nv mv _ h1 h2 ih
theorem SigCs.grow {w w' : World} {a : List SigD} {x : List Value} (h : SigCs w a x) (hb : Grow w w') : SigCs w' a x := by
  induction h with
  | nil => exact .nil
  | cons d ds nv mv cs h1 h2 _ ih => exact .cons d ds nv mv cs (h1.grow hb) (h2.grow hb) ih
theorem SigCs.grown {w w' : World} {row : Option Nat} {a : List SigD} {x : List Value} (h : SigCs w a x) (hb : w.grownBy w' row) (hr : IsSigBlk w row) : SigCs w' a x := by
  induction h with
  | nil => exact .nil
  | cons d ds nv mv cs h1 h2 _ ih => exact .cons d ds nv mv cs (h1.grown hb hr) (h2.grown hb hr) ih
theorem SigCs.len {w : World} {a : List SigD} {x : List Value} (h : SigCs w a x) : x.length = a.length * 4 := by
  induction h with
  | nil => rfl
  | cons d ds nv mv cs h1 h2 _ ih => simp [ih]; omega
theorem SigCs.at {w : World} {a : List SigD} {x : List Value} (h : SigCs w a x) : ∀ k d, a[k]? = some d → ∃ nv mv, IntsIn d.need nv w ∧ IntsIn d.may mv w ∧
    x[k * 4]? = some (.string d.name) ∧ x[k * 4 + 1]? = some nv ∧ x[k * 4 + 2]? = some mv ∧ x[k * 4 + 3]? = some (.int .i64 d.rest) := by
  induction h with
  | nil => intro k d hk; simp at hk
  | cons d ds nv mv cs h1 h2 _ ih =>
    intro k e hk
    cases k with
    | zero =>
      simp at hk
      subst hk
      exact ⟨nv, mv, h1, h2, by simp, by simp, by simp, by simp⟩
    | succ k =>
      obtain ⟨nv', mv', a1, a2, a3, a4, a5, a6⟩ := ih k e (by simpa using hk)
      refine ⟨nv', mv', a1, a2, ?_, ?_, ?_, ?_⟩
      · rw [show (k + 1) * 4 = k * 4 + 4 from by omega, List.getElem?_append_right (by simp)]; simpa using a3
      · rw [show (k + 1) * 4 + 1 = k * 4 + 1 + 4 from by omega, List.getElem?_append_right (by simp)]; simpa using a4
      · rw [show (k + 1) * 4 + 2 = k * 4 + 2 + 4 from by omega, List.getElem?_append_right (by simp)]; simpa using a5
      · rw [show (k + 1) * 4 + 3 = k * 4 + 3 + 4 from by omega, List.getElem?_append_right (by simp)]; simpa using a6
theorem IntsIn.one {xs : List Int} {v : Value} {w : World} (h : IntsIn xs v w) : v.oneCell' = true := by
  rcases h.2 with ⟨h1, _⟩ | ⟨g, cap, cur, h1, _⟩ <;> rw [h1] <;> rfl
theorem SigCs.one {w : World} {a : List SigD} {x : List Value} (h : SigCs w a x) : ∀ u ∈ x, u.oneCell' = true := by
  induction h with
  | nil => intro u hu; simp at hu
  | cons d ds nv mv cs h1 h2 _ ih =>
    intro u hu
    simp only [List.cons_append, List.nil_append, List.mem_cons] at hu
    rcases hu with rfl | rfl | rfl | rfl | hu
    · rfl
    · exact h1.one
    · exact h2.one
    · rfl
    · exact ih u hu
/-- signatures in memory -/
def SigsIn (B : Nat) (ds : List SigD) (v : Value) (w : World) : Prop := ∃ cs, w.ownsRow B 34 4 v ds.length cs ∧ SigCs w ds cs
theorem SigsIn.grow {B : Nat} {ds : List SigD} {v : Value} {w w' : World} (h : SigsIn B ds v w) (hb : Grow w w') : SigsIn B ds v w' := by
  obtain ⟨cs, h1, h2⟩ := h
  exact ⟨cs, own_grow h1 hb, h2.grow hb⟩
theorem SigsIn.nil (B : Nat) (w : World) : SigsIn B [] (.slice none 0 0) w := ⟨[], World.ownsRow_nil w B 34 4, .nil⟩
theorem Try.info34 : (Try.prog.info? 34).map (fun i => (i.zero, i.size, i.bytes)) = some (some (.agg #[.string ⟨#[]⟩, .slice none 0 0, .slice none 0 0, .int .i64 0]), 4, 72) := by kernel_rfl
end Go.Proofs.Ytfldpaceebemhaa
