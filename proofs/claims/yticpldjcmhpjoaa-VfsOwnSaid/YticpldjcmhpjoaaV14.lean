/-
  Files as a list; how many bytes they have.
-/
import Derived.Test.YticpldjcmhpjoaaV13
import Derived.Maps.RangeWalk
namespace Go.Proofs.Yticpldjcmhpjoaa
open Go.RowKit
set_option linter.unusedVariables false
set_option linter.unusedSimpArgs false

abbrev File := ByteArray × List UInt8
def look : List File → Look
  | [], _ => none
  | p :: r, s => if s = p.1 then some p.2 else look r s
def sumL : List File → Nat
  | [] => 0
  | p :: r => p.2.length + sumL r
/-- bytes of the files whose keys are still to come -/
def rem (left : Lit → Bool) : List File → Nat
  | [] => 0
  | p :: r => (if left (keyL p.1) then p.2.length else 0) + rem left r
def NodupF (fs : List File) : Prop := (fs.map (·.1)).Nodup
theorem look_mem {fs : List File} {s : ByteArray} {b : List UInt8} (h : look fs s = some b) : (s, b) ∈ fs := by
  induction fs with
  | nil => cases h
  | cons p r ih =>
    unfold look at h
    by_cases e : s = p.1
    · rw [if_pos e] at h
      injection h with h
      subst e
      subst h
      exact List.mem_cons_self
    · rw [if_neg e] at h
      exact List.mem_cons_of_mem _ (ih h)
theorem look_none {fs : List File} {s : ByteArray} (h : look fs s = none) : ∀ p ∈ fs, p.1 ≠ s := by
  induction fs with
  | nil => intro p hp; cases hp
  | cons q r ih =>
    unfold look at h
    by_cases e : s = q.1
    · rw [if_pos e] at h; cases h
    · rw [if_neg e] at h
      intro p hp
      rcases List.mem_cons.1 hp with rfl | hp
      · exact fun hh => e hh.symm
      · exact ih h p hp
theorem mem_look {fs : List File} (hn : NodupF fs) {p : File} (h : p ∈ fs) : look fs p.1 = some p.2 := by
  induction fs with
  | nil => cases h
  | cons q r ih =>
    unfold NodupF at hn
    simp only [List.map_cons, List.nodup_cons] at hn
    unfold look
    rcases List.mem_cons.1 h with rfl | h
    · rw [if_pos rfl]
    · rw [if_neg (fun e => hn.1 (by rw [← e]; exact List.mem_map_of_mem h))]
      exact ih hn.2 h
theorem sumL_le {fs : List File} {p : File} (h : p ∈ fs) : p.2.length ≤ sumL fs := by
  induction fs with
  | nil => cases h
  | cons q r ih =>
    unfold sumL
    rcases List.mem_cons.1 h with rfl | h
    · omega
    · have := ih h; omega
theorem rem_none (left : Lit → Bool) (fs : List File) (h : ∀ kl, left kl = false) : rem left fs = 0 := by
  induction fs with
  | nil => rfl
  | cons q r ih => unfold rem; rw [h, ih]; rfl
theorem rem_all (left : Lit → Bool) (fs : List File) (h : ∀ p ∈ fs, left (keyL p.1) = true) : rem left fs = sumL fs := by
  induction fs with
  | nil => rfl
  | cons q r ih => unfold rem sumL; rw [h q List.mem_cons_self, ih fun p hp => h p (List.mem_cons_of_mem _ hp)]; rfl
theorem rem_le (left : Lit → Bool) (fs : List File) : rem left fs ≤ sumL fs := by
  induction fs with
  | nil => exact Nat.le_refl _
  | cons q r ih => unfold rem sumL; split <;> omega
theorem same_self (s : ByteArray) : (keyL s).sameKey (keyL s) = true := by simp [keyL, Lit.sameKey]
theorem rem_same (left : Lit → Bool) (x : ByteArray) (fs : List File) (h : ∀ p ∈ fs, p.1 ≠ x) : rem (fun z => left z && !z.sameKey (keyL x)) fs = rem left fs := by
  induction fs with
  | nil => rfl
  | cons q r ih =>
    unfold rem
    rw [ih fun p hp => h p (List.mem_cons_of_mem _ hp), Maps.sameKey_ne (fun e => h q List.mem_cons_self (keyL_inj e))]
    simp
theorem rem_step (left : Lit → Bool) (fs : List File) (hn : NodupF fs) (p : File) (hp : p ∈ fs) (hl : left (keyL p.1) = true) : rem left fs = p.2.length + rem (fun z => left z && !z.sameKey (keyL p.1)) fs := by
  induction fs with
  | nil => cases hp
  | cons q r ih =>
    unfold NodupF at hn
    simp only [List.map_cons, List.nodup_cons] at hn
    unfold rem
    rcases List.mem_cons.1 hp with rfl | hp
    · rw [rem_same left p.1 r (fun y hy e => hn.1 (by rw [← e]; exact List.mem_map_of_mem hy)), hl, same_self]
      simp
    · rw [ih hn.2 hp, Maps.sameKey_ne (fun e => hn.1 (by rw [keyL_inj e]; exact List.mem_map_of_mem hp))]
      simp
      omega
end Go.Proofs.Yticpldjcmhpjoaa
