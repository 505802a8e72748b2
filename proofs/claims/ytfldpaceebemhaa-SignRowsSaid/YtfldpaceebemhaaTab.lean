/-
  The table of all functions: their names in rows, what each row takes.
-/
import Derived.Test.YtfldpaceebemhaaR4
namespace Go.Proofs.Ytfldpaceebemhaa
open Go.RowKit

def nms0 : List ByteArray := [⟨#[97, 98, 115, 111, 108, 117, 116, 101]⟩, ⟨#[105, 110, 118, 101, 114, 116]⟩, ⟨#[110, 101, 103, 97, 116, 101]⟩, ⟨#[115, 105, 103, 110]⟩, ⟨#[115, 113, 117, 97, 114, 101, 82, 111, 111, 116]⟩, ⟨#[105, 115, 78, 111, 110, 78, 117, 108, 108]⟩, ⟨#[111, 102, 102, 115, 101, 116, 84, 111, 90, 101, 114, 111]⟩, ⟨#[109, 105, 110, 77, 97, 120]⟩, ⟨#[100, 101, 114, 105, 118, 97, 116, 105, 118, 101]⟩, ⟨#[105, 110, 116, 101, 103, 114, 97, 108]⟩, ⟨#[99, 104, 97, 110, 103, 101, 100]⟩, ⟨#[115, 111, 114, 116, 66, 121, 78, 97, 109, 101]⟩, ⟨#[115, 111, 114, 116, 66, 121, 77, 97, 120, 105, 109, 97]⟩, ⟨#[115, 111, 114, 116, 66, 121, 77, 105, 110, 105, 109, 97]⟩, ⟨#[115, 111, 114, 116, 66, 121, 84, 111, 116, 97, 108]⟩, ⟨#[114, 101, 109, 111, 118, 101, 69, 109, 112, 116, 121, 83, 101, 114, 105, 101, 115]⟩]
def tab0 : List SigD := nms0.map fun n => ⟨n, [1], [], 0⟩
theorem tab0_len : tab0.length = 16 := rfl
def nms1 : List ByteArray := [⟨#[115, 99, 97, 108, 101]⟩, ⟨#[111, 102, 102, 115, 101, 116]⟩, ⟨#[114, 101, 109, 111, 118, 101, 65, 98, 111, 118, 101, 86, 97, 108, 117, 101]⟩, ⟨#[114, 101, 109, 111, 118, 101, 66, 101, 108, 111, 119, 86, 97, 108, 117, 101]⟩, ⟨#[97, 118, 101, 114, 97, 103, 101, 65, 98, 111, 118, 101]⟩, ⟨#[97, 118, 101, 114, 97, 103, 101, 66, 101, 108, 111, 119]⟩, ⟨#[99, 117, 114, 114, 101, 110, 116, 65, 98, 111, 118, 101]⟩, ⟨#[99, 117, 114, 114, 101, 110, 116, 66, 101, 108, 111, 119]⟩, ⟨#[109, 97, 120, 105, 109, 117, 109, 65, 98, 111, 118, 101]⟩, ⟨#[109, 97, 120, 105, 109, 117, 109, 66, 101, 108, 111, 119]⟩, ⟨#[109, 105, 110, 105, 109, 117, 109, 65, 98, 111, 118, 101]⟩, ⟨#[109, 105, 110, 105, 109, 117, 109, 66, 101, 108, 111, 119]⟩, ⟨#[112, 101, 114, 99, 101, 110, 116, 105, 108, 101, 79, 102, 83, 101, 114, 105, 101, 115]⟩]
def tab1 : List SigD := nms1.map fun n => ⟨n, [1, 2], [], 0⟩
theorem tab1_len : tab1.length = 13 := rfl
def nms2 : List ByteArray := [⟨#[112, 111, 119]⟩, ⟨#[114, 111, 117, 110, 100]⟩, ⟨#[115, 99, 97, 108, 101, 84, 111, 83, 101, 99, 111, 110, 100, 115]⟩, ⟨#[100, 101, 108, 97, 121]⟩, ⟨#[109, 111, 118, 105, 110, 103, 65, 118, 101, 114, 97, 103, 101]⟩, ⟨#[109, 111, 118, 105, 110, 103, 77, 105, 110]⟩, ⟨#[109, 111, 118, 105, 110, 103, 77, 97, 120]⟩, ⟨#[109, 111, 118, 105, 110, 103, 83, 117, 109]⟩, ⟨#[109, 111, 118, 105, 110, 103, 77, 101, 100, 105, 97, 110]⟩, ⟨#[115, 116, 100, 101, 118]⟩, ⟨#[108, 105, 109, 105, 116]⟩, ⟨#[104, 105, 103, 104, 101, 115, 116, 77, 97, 120]⟩, ⟨#[104, 105, 103, 104, 101, 115, 116, 65, 118, 101, 114, 97, 103, 101]⟩, ⟨#[104, 105, 103, 104, 101, 115, 116, 67, 117, 114, 114, 101, 110, 116]⟩, ⟨#[108, 111, 119, 101, 115, 116, 65, 118, 101, 114, 97, 103, 101]⟩, ⟨#[108, 111, 119, 101, 115, 116, 67, 117, 114, 114, 101, 110, 116]⟩, ⟨#[109, 111, 115, 116, 68, 101, 118, 105, 97, 110, 116]⟩]
def tab2 : List SigD := nms2.map fun n => ⟨n, [1, 3], [], 0⟩
theorem tab2_len : tab2.length = 17 := rfl
def nms3 : List ByteArray := [⟨#[110, 111, 110, 78, 101, 103, 97, 116, 105, 118, 101, 68, 101, 114, 105, 118, 97, 116, 105, 118, 101]⟩, ⟨#[112, 101, 114, 83, 101, 99, 111, 110, 100]⟩, ⟨#[116, 114, 97, 110, 115, 102, 111, 114, 109, 78, 117, 108, 108]⟩]
def tab3 : List SigD := nms3.map fun n => ⟨n, [1], [2], 0⟩
theorem tab3_len : tab3.length = 3 := rfl
def nms4 : List ByteArray := [⟨#[107, 101, 101, 112, 76, 97, 115, 116, 86, 97, 108, 117, 101]⟩, ⟨#[105, 110, 116, 101, 114, 112, 111, 108, 97, 116, 101]⟩]
def tab4 : List SigD := nms4.map fun n => ⟨n, [1], [3], 0⟩
theorem tab4_len : tab4.length = 2 := rfl
def nms5 : List ByteArray := [⟨#[115, 117, 109, 109, 97, 114, 105, 122, 101]⟩]
def tab5 : List SigD := nms5.map fun n => ⟨n, [1, 6], [7], 0⟩
theorem tab5_len : tab5.length = 1 := rfl
def nms6 : List ByteArray := [⟨#[104, 105, 116, 99, 111, 117, 110, 116]⟩, ⟨#[116, 105, 109, 101, 83, 104, 105, 102, 116]⟩]
def tab6 : List SigD := nms6.map fun n => ⟨n, [1, 6], [], 0⟩
theorem tab6_len : tab6.length = 2 := rfl
def nms7 : List ByteArray := [⟨#[115, 117, 109, 83, 101, 114, 105, 101, 115]⟩, ⟨#[97, 118, 101, 114, 97, 103, 101, 83, 101, 114, 105, 101, 115]⟩, ⟨#[109, 105, 110, 83, 101, 114, 105, 101, 115]⟩, ⟨#[109, 97, 120, 83, 101, 114, 105, 101, 115]⟩, ⟨#[109, 101, 100, 105, 97, 110, 83, 101, 114, 105, 101, 115]⟩, ⟨#[114, 97, 110, 103, 101, 79, 102, 83, 101, 114, 105, 101, 115]⟩, ⟨#[109, 117, 108, 116, 105, 112, 108, 121, 83, 101, 114, 105, 101, 115]⟩, ⟨#[115, 116, 100, 100, 101, 118, 83, 101, 114, 105, 101, 115]⟩, ⟨#[99, 111, 117, 110, 116, 83, 101, 114, 105, 101, 115]⟩, ⟨#[100, 105, 102, 102, 83, 101, 114, 105, 101, 115]⟩, ⟨#[103, 114, 111, 117, 112]⟩]
def tab7 : List SigD := nms7.map fun n => ⟨n, [1], [], 1⟩
theorem tab7_len : tab7.length = 11 := rfl
def nms8 : List ByteArray := [⟨#[100, 105, 118, 105, 100, 101, 83, 101, 114, 105, 101, 115]⟩]
def tab8 : List SigD := nms8.map fun n => ⟨n, [1, 1], [], 0⟩
theorem tab8_len : tab8.length = 1 := rfl
def nms9 : List ByteArray := [⟨#[97, 115, 80, 101, 114, 99, 101, 110, 116]⟩]
def tab9 : List SigD := nms9.map fun n => ⟨n, [1], [1], 0⟩
theorem tab9_len : tab9.length = 1 := rfl
def nms10 : List ByteArray := [⟨#[97, 108, 105, 97, 115]⟩, ⟨#[103, 114, 101, 112]⟩, ⟨#[101, 120, 99, 108, 117, 100, 101]⟩]
def tab10 : List SigD := nms10.map fun n => ⟨n, [1, 4], [], 0⟩
theorem tab10_len : tab10.length = 3 := rfl
def nms11 : List ByteArray := [⟨#[99, 111, 110, 115, 111, 108, 105, 100, 97, 116, 101, 66, 121]⟩, ⟨#[97, 103, 103, 114, 101, 103, 97, 116, 101]⟩]
def tab11 : List SigD := nms11.map fun n => ⟨n, [1, 7], [], 0⟩
theorem tab11_len : tab11.length = 2 := rfl
def nms12 : List ByteArray := [⟨#[97, 108, 105, 97, 115, 83, 117, 98]⟩]
def tab12 : List SigD := nms12.map fun n => ⟨n, [1, 4, 4], [], 0⟩
theorem tab12_len : tab12.length = 1 := rfl
def nms13 : List ByteArray := [⟨#[97, 108, 105, 97, 115, 66, 121, 78, 111, 100, 101]⟩]
def tab13 : List SigD := nms13.map fun n => ⟨n, [1, 3], [], 3⟩
theorem tab13_len : tab13.length = 1 := rfl
def nms14 : List ByteArray := [⟨#[115, 117, 98, 115, 116, 114]⟩]
def tab14 : List SigD := nms14.map fun n => ⟨n, [1, 3], [3], 0⟩
theorem tab14_len : tab14.length = 1 := rfl
def nms15 : List ByteArray := [⟨#[103, 114, 111, 117, 112, 66, 121, 78, 111, 100, 101]⟩]
def tab15 : List SigD := nms15.map fun n => ⟨n, [1, 3, 7], [], 0⟩
theorem tab15_len : tab15.length = 1 := rfl
def nms16 : List ByteArray := [⟨#[103, 114, 111, 117, 112, 66, 121, 78, 111, 100, 101, 115]⟩]
def tab16 : List SigD := nms16.map fun n => ⟨n, [1, 7, 3], [], 3⟩
theorem tab16_len : tab16.length = 1 := rfl
def nms17 : List ByteArray := [⟨#[99, 111, 110, 115, 116, 97, 110, 116, 76, 105, 110, 101]⟩]
def tab17 : List SigD := nms17.map fun n => ⟨n, [2], [], 0⟩
theorem tab17_len : tab17.length = 1 := rfl
/-- the rows -/
def tabs : List (List SigD) := [tab0, tab1, tab2, tab3, tab4, tab5, tab6, tab7, tab8, tab9, tab10, tab11, tab12, tab13, tab14, tab15, tab16, tab17]
theorem tabs_len : tabs.length = 18 := rfl
/-- all functions -/
def tab : List SigD := tabs.flatten
/-- rows of signatures, one value each -/
inductive RowsIn (w : World) : List (List SigD) → List Value → Prop
  | nil : RowsIn w [] []
  | snoc (rs : List (List SigD)) (vs : List Value) (ds : List SigD) (v : Value) (B : Nat) : RowsIn w rs vs → SigsIn B ds v w → 0 < ds.length → RowsIn w (rs ++ [ds]) (vs ++ [v])
theorem RowsIn.grow {w w' : World} {rs : List (List SigD)} {vs : List Value} (h : RowsIn w rs vs) (hb : Grow w w') : RowsIn w' rs vs := by
  induction h with
  | nil => exact .nil
  | snoc rs vs ds v B h1 h2 h3 ih => exact .snoc rs vs ds v B ih (h2.grow hb) h3
theorem RowsIn.len {w : World} {rs : List (List SigD)} {vs : List Value} (h : RowsIn w rs vs) : vs.length = rs.length := by
  induction h with
  | nil => rfl
  | snoc rs vs ds v B h1 h2 h3 ih => simp [ih]
theorem RowsIn.at {w : World} {rs : List (List SigD)} {vs : List Value} (h : RowsIn w rs vs) : ∀ (k : Nat) (ds : List SigD), rs[k]? = some ds → ∃ v B, vs[k]? = some v ∧ SigsIn B ds v w ∧ 0 < ds.length := by
  induction h with
  | nil => intro k ds hk; simp at hk
  | snoc rs vs ds v B h1 h2 h3 ih =>
    intro k es hk
    have hl := h1.len
    rcases Nat.lt_or_ge k rs.length with hlt | hge
    · rw [List.getElem?_append_left hlt] at hk
      obtain ⟨v', B', e1, e2, e3⟩ := ih k es hk
      exact ⟨v', B', by rw [List.getElem?_append_left (by omega)]; exact e1, e2, e3⟩
    · rw [List.getElem?_append_right hge] at hk
      obtain ⟨rfl, rfl⟩ : k = rs.length ∧ ds = es := by
        rcases Nat.eq_or_lt_of_le hge with h | h
        · refine ⟨h.symm, ?_⟩
          rw [← h, Nat.sub_self] at hk
          simpa using hk
        · rw [List.getElem?_eq_none (by simp; omega)] at hk; cases hk
      exact ⟨v, B, by rw [List.getElem?_append_right (by omega), hl, Nat.sub_self]; rfl, h2, h3⟩
theorem rowsin_blk {w : World} {rs : List (List SigD)} {vs : List Value} (h : RowsIn w rs vs) (t : TypeId) : ∀ (k : Nat) (ds : List SigD), rs[k]? = some ds → ∃ v B, (w.alloc (.cells vs.toArray t)).cell? ⟨w.heap.size, k, none⟩ = some v ∧ SigsIn B ds v (w.alloc (.cells vs.toArray t)) ∧ 0 < ds.length := by
  intro k ds hk
  obtain ⟨v, B, h1, h2, h3⟩ := h.at k ds hk
  refine ⟨v, B, ?_, h2.grow ((Grow.refl _).alloc _), h3⟩
  have hb := heap_alloc_new w (.cells vs.toArray t)
  simp only [World.cell?, hb]
  simpa using h1
theorem SigsIn.base {B C : Nat} {ds : List SigD} {v : Value} {w : World} (h : SigsIn B ds v w) (hc : C ≤ B) : SigsIn C ds v w := by
  obtain ⟨cs, h1, h2⟩ := h
  exact ⟨cs, ownsRow_base h1 hc, h2⟩
theorem ints_lit (w : World) (g : Nat) (hg : g = w.heap.size) (xs : List Int) (n : Nat) (hn : n = xs.length) (hl : xs.length ≤ 100) : IntsIn xs (.slice (some ⟨g, 0, none⟩) n n) (w.alloc (.cells (xs.map (Value.int .i64)).toArray 3)) := by
  subst hg
  subst hn
  have := World.ownsRow_lit (base := 0) (e := 3) (size := 1) w (xs.map (Value.int .i64)).toArray xs.length (Nat.zero_le _) (by unfold maxLen; omega) (by simp)
  simpa [IntsIn] using this
theorem ints_nil (w : World) : IntsIn [] (.slice none 0 0) w := World.ownsRow_nil w 0 3 1
theorem tabs_total : ∀ k, (tabs.take k).flatten.length ≤ 1000 := fun k => by
  have h : (tabs.take k).flatten.length ≤ tabs.flatten.length := by
    have : tabs.flatten = (tabs.take k).flatten ++ (tabs.drop k).flatten := by rw [← List.flatten_append, List.take_append_drop]
    rw [this, List.length_append]; omega
  have h2 : tabs.flatten.length = 78 := by decide +kernel
  omega
end Go.Proofs.Ytfldpaceebemhaa
