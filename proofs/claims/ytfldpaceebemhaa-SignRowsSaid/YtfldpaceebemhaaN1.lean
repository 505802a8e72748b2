/-
  All names, sorted; the walk of sign.Names.
-/
import Derived.Test.YtfldpaceebemhaaK4
namespace Go.Proofs.Ytfldpaceebemhaa
open Go.RowKit

/-- all names, sorted -/
def namesS : List ByteArray := [⟨#[97, 98, 115, 111, 108, 117, 116, 101]⟩, ⟨#[97, 103, 103, 114, 101, 103, 97, 116, 101]⟩, ⟨#[97, 108, 105, 97, 115]⟩, ⟨#[97, 108, 105, 97, 115, 66, 121, 78, 111, 100, 101]⟩, ⟨#[97, 108, 105, 97, 115, 83, 117, 98]⟩, ⟨#[97, 115, 80, 101, 114, 99, 101, 110, 116]⟩, ⟨#[97, 118, 101, 114, 97, 103, 101, 65, 98, 111, 118, 101]⟩, ⟨#[97, 118, 101, 114, 97, 103, 101, 66, 101, 108, 111, 119]⟩, ⟨#[97, 118, 101, 114, 97, 103, 101, 83, 101, 114, 105, 101, 115]⟩, ⟨#[99, 104, 97, 110, 103, 101, 100]⟩, ⟨#[99, 111, 110, 115, 111, 108, 105, 100, 97, 116, 101, 66, 121]⟩, ⟨#[99, 111, 110, 115, 116, 97, 110, 116, 76, 105, 110, 101]⟩, ⟨#[99, 111, 117, 110, 116, 83, 101, 114, 105, 101, 115]⟩, ⟨#[99, 117, 114, 114, 101, 110, 116, 65, 98, 111, 118, 101]⟩, ⟨#[99, 117, 114, 114, 101, 110, 116, 66, 101, 108, 111, 119]⟩, ⟨#[100, 101, 108, 97, 121]⟩, ⟨#[100, 101, 114, 105, 118, 97, 116, 105, 118, 101]⟩, ⟨#[100, 105, 102, 102, 83, 101, 114, 105, 101, 115]⟩, ⟨#[100, 105, 118, 105, 100, 101, 83, 101, 114, 105, 101, 115]⟩, ⟨#[101, 120, 99, 108, 117, 100, 101]⟩, ⟨#[103, 114, 101, 112]⟩, ⟨#[103, 114, 111, 117, 112]⟩, ⟨#[103, 114, 111, 117, 112, 66, 121, 78, 111, 100, 101]⟩, ⟨#[103, 114, 111, 117, 112, 66, 121, 78, 111, 100, 101, 115]⟩, ⟨#[104, 105, 103, 104, 101, 115, 116, 65, 118, 101, 114, 97, 103, 101]⟩, ⟨#[104, 105, 103, 104, 101, 115, 116, 67, 117, 114, 114, 101, 110, 116]⟩, ⟨#[104, 105, 103, 104, 101, 115, 116, 77, 97, 120]⟩, ⟨#[104, 105, 116, 99, 111, 117, 110, 116]⟩, ⟨#[105, 110, 116, 101, 103, 114, 97, 108]⟩, ⟨#[105, 110, 116, 101, 114, 112, 111, 108, 97, 116, 101]⟩, ⟨#[105, 110, 118, 101, 114, 116]⟩, ⟨#[105, 115, 78, 111, 110, 78, 117, 108, 108]⟩, ⟨#[107, 101, 101, 112, 76, 97, 115, 116, 86, 97, 108, 117, 101]⟩, ⟨#[108, 105, 109, 105, 116]⟩, ⟨#[108, 111, 119, 101, 115, 116, 65, 118, 101, 114, 97, 103, 101]⟩, ⟨#[108, 111, 119, 101, 115, 116, 67, 117, 114, 114, 101, 110, 116]⟩, ⟨#[109, 97, 120, 83, 101, 114, 105, 101, 115]⟩, ⟨#[109, 97, 120, 105, 109, 117, 109, 65, 98, 111, 118, 101]⟩, ⟨#[109, 97, 120, 105, 109, 117, 109, 66, 101, 108, 111, 119]⟩, ⟨#[109, 101, 100, 105, 97, 110, 83, 101, 114, 105, 101, 115]⟩, ⟨#[109, 105, 110, 77, 97, 120]⟩, ⟨#[109, 105, 110, 83, 101, 114, 105, 101, 115]⟩, ⟨#[109, 105, 110, 105, 109, 117, 109, 65, 98, 111, 118, 101]⟩, ⟨#[109, 105, 110, 105, 109, 117, 109, 66, 101, 108, 111, 119]⟩, ⟨#[109, 111, 115, 116, 68, 101, 118, 105, 97, 110, 116]⟩, ⟨#[109, 111, 118, 105, 110, 103, 65, 118, 101, 114, 97, 103, 101]⟩, ⟨#[109, 111, 118, 105, 110, 103, 77, 97, 120]⟩, ⟨#[109, 111, 118, 105, 110, 103, 77, 101, 100, 105, 97, 110]⟩, ⟨#[109, 111, 118, 105, 110, 103, 77, 105, 110]⟩, ⟨#[109, 111, 118, 105, 110, 103, 83, 117, 109]⟩, ⟨#[109, 117, 108, 116, 105, 112, 108, 121, 83, 101, 114, 105, 101, 115]⟩, ⟨#[110, 101, 103, 97, 116, 101]⟩, ⟨#[110, 111, 110, 78, 101, 103, 97, 116, 105, 118, 101, 68, 101, 114, 105, 118, 97, 116, 105, 118, 101]⟩, ⟨#[111, 102, 102, 115, 101, 116]⟩, ⟨#[111, 102, 102, 115, 101, 116, 84, 111, 90, 101, 114, 111]⟩, ⟨#[112, 101, 114, 83, 101, 99, 111, 110, 100]⟩, ⟨#[112, 101, 114, 99, 101, 110, 116, 105, 108, 101, 79, 102, 83, 101, 114, 105, 101, 115]⟩, ⟨#[112, 111, 119]⟩, ⟨#[114, 97, 110, 103, 101, 79, 102, 83, 101, 114, 105, 101, 115]⟩, ⟨#[114, 101, 109, 111, 118, 101, 65, 98, 111, 118, 101, 86, 97, 108, 117, 101]⟩, ⟨#[114, 101, 109, 111, 118, 101, 66, 101, 108, 111, 119, 86, 97, 108, 117, 101]⟩, ⟨#[114, 101, 109, 111, 118, 101, 69, 109, 112, 116, 121, 83, 101, 114, 105, 101, 115]⟩, ⟨#[114, 111, 117, 110, 100]⟩, ⟨#[115, 99, 97, 108, 101]⟩, ⟨#[115, 99, 97, 108, 101, 84, 111, 83, 101, 99, 111, 110, 100, 115]⟩, ⟨#[115, 105, 103, 110]⟩, ⟨#[115, 111, 114, 116, 66, 121, 77, 97, 120, 105, 109, 97]⟩, ⟨#[115, 111, 114, 116, 66, 121, 77, 105, 110, 105, 109, 97]⟩, ⟨#[115, 111, 114, 116, 66, 121, 78, 97, 109, 101]⟩, ⟨#[115, 111, 114, 116, 66, 121, 84, 111, 116, 97, 108]⟩, ⟨#[115, 113, 117, 97, 114, 101, 82, 111, 111, 116]⟩, ⟨#[115, 116, 100, 100, 101, 118, 83, 101, 114, 105, 101, 115]⟩, ⟨#[115, 116, 100, 101, 118]⟩, ⟨#[115, 117, 98, 115, 116, 114]⟩, ⟨#[115, 117, 109, 83, 101, 114, 105, 101, 115]⟩, ⟨#[115, 117, 109, 109, 97, 114, 105, 122, 101]⟩, ⟨#[116, 105, 109, 101, 83, 104, 105, 102, 116]⟩, ⟨#[116, 114, 97, 110, 115, 102, 111, 114, 109, 78, 117, 108, 108]⟩]
def namesT : List ByteArray := tab.map (·.name)
theorem namesS_len : namesS.length = 78 := rfl
theorem tab_len : tab.length = 78 := by decide +kernel
def codes (l : List ByteArray) : List (List UInt8) := l.map (·.data.toList)
def leL (x y : List UInt8) : Bool := decide (x ≤ y)
def rm (x : ByteArray) : List ByteArray → Option (List ByteArray)
  | [] => none
  | a :: l => if a.data.toList == x.data.toList then some l else (rm x l).map (a :: ·)
theorem rm_perm (x : ByteArray) : ∀ (l r : List ByteArray), rm x l = some r → List.Perm l (x :: r)
  | [], _, h => by simp [rm] at h
  | a :: l, r, h => by
    unfold rm at h
    split at h
    · rename_i he
      injection h with h
      subst h
      have : a = x := by
        rw [beq_iff_eq] at he
        have : a.data = x.data := Array.ext' he
        cases a; cases x; simp_all
      subst this
      exact List.Perm.refl _
    · obtain ⟨q, hq, rfl⟩ := Option.map_eq_some_iff.mp h
      exact ((rm_perm x l q hq).cons a).trans (List.Perm.swap x a q)
def rms : List ByteArray → List ByteArray → Bool
  | [], l => l.isEmpty
  | x :: xs, l => match rm x l with
    | some r => rms xs r
    | none => false
theorem rms_perm : ∀ (xs l : List ByteArray), rms xs l = true → List.Perm l xs
  | [], l, h => by simp [rms] at h; subst h; exact List.Perm.refl _
  | x :: xs, l, h => by
    unfold rms at h
    split at h
    · rename_i r hr
      exact (rm_perm x l r hr).trans ((rms_perm xs r h).cons x)
    · cases h
theorem names_perm : List.Perm namesT namesS := rms_perm _ _ (by decide +kernel)
def chain : List (List UInt8) → Bool
  | a :: b :: l => leL a b && chain (b :: l)
  | _ => true
theorem chain_pair : ∀ (l : List (List UInt8)), chain l = true → l.Pairwise (fun x y => leL x y = true)
  | [], _ => List.Pairwise.nil
  | [a], _ => by simp
  | a :: b' :: l, h => by
    simp only [chain, Bool.and_eq_true] at h
    have ih := chain_pair (b' :: l) h.2
    refine List.Pairwise.cons ?_ ih
    intro x hx
    rcases List.mem_cons.mp hx with rfl | hx
    · exact h.1
    · have h1 := (List.pairwise_cons.mp ih).1 x hx
      have h2 := h.1
      unfold leL at *
      simp only [decide_eq_true_eq] at *
      exact List.le_trans h2 h1
theorem names_sorted : (codes namesT).mergeSort (fun x y => decide (x ≤ y)) = codes namesS := by
  have hp : List.Perm ((codes namesT).mergeSort (fun x y => decide (x ≤ y))) (codes namesS) := (List.mergeSort_perm _ _).trans (names_perm.map _)
  have h1 : ((codes namesT).mergeSort (fun x y => decide (x ≤ y))).Pairwise (fun x y => leL x y = true) := List.pairwise_mergeSort (le := leL) (fun a b c h1 h2 => by
      unfold leL at *; simp only [decide_eq_true_eq] at *; exact List.le_trans h1 h2) (fun a b => by
      unfold leL; simp only [Bool.or_eq_true, decide_eq_true_eq]; exact List.le_total a b) _
  have h2 : (codes namesS).Pairwise (fun x y => leL x y = true) := chain_pair _ (by decide +kernel)
  exact List.Perm.eq_of_pairwise (le := fun x y => leL x y = true) (fun x y _ _ h1 h2 => by
    unfold leL at h1 h2; simp only [decide_eq_true_eq] at h1 h2; exact List.le_antisymm h1 h2) h1 h2 hp
end Go.Proofs.Ytfldpaceebemhaa
