/-
  The walk of SlotWrites.
-/
import Derived.Test.YtjgfhkgjaodjhaaRWri
import Derived.Laws.CopyOwn
import Derived.Lib.SlBytesRow
namespace Go.Proofs.Ytjgfhkgjaodjhaa
open Go.RowKit

/-- WHAT THE WALK IS TOLD OF A SLICE OF INTEGERS THAT CAME IN. -/
def IsRow (k : IntKind) (w : World) (a : Option Addr) (len cap : Nat) (zs : List Int) : Prop :=
  (a = none ∧ len = 0 ∧ cap = 0 ∧ zs = []) ∨
  ∃ x, a = some x ∧ len ≤ cap ∧ cap ≤ maxLen ∧ zs.length = cap ∧ (∀ i, i < zs.length → w.cell? (x.add i) = some (.int k (zs.getD i 0))) ∧ ∀ n ∈ zs, (Lit.int k n).wf = true

theorem wlaw_no (a n : Int) (aw : Option Addr) (len cap : Nat) (hl : ¬ len = 12) (w : World) :
    Calls Try.prog 5 #[.agg #[.int .i64 a, .int .i64 n], .slice aw len cap] w fun e w' => e = .returned (.bool true) ∧ Below w.heap.size w w' := by
  have hl' : ((len : Int) == 12) = false := by simp; omega
  go_enter Try.func5, Try.ntmps5
  go_wp2_with (first
    | (go_at_call 11; refine (known_any _).mono ?_; rintro e w1 ⟨rfl, hb⟩))
  go_ret
  exact ⟨rfl, ((Below.refl _ _).alloc (Nat.le_refl _) _).trans (hb.mono (by simp))⟩

def phi5a (B : Nat) (a n : Int) : Nat → Value → World → Prop
  | 0 => fun v _ => v = .agg #[.int .i64 a, .int .i64 n]
  | 1 => Rd3 B zero4 ((enc a n).drop 4) ((enc a n).take 4)
  | 2 => fun v _ => v = .agg #[.int .i64 a, .int .i64 n]
  | _ => Rd3 B zero4 ((enc a n).drop 4) ((enc a n).take 4)
theorem Rd3.le {B B' : Nat} {xs ys zs : List Value} {v : Value} {w : World} (h : Rd3 B xs ys zs v w) (hB : B' ≤ B) : Rd3 B' xs ys zs v w := by
  obtain ⟨g, v0, v1, v2, h1, h2, h3, h4, h5, h6, ⟨g0, o0, n0, c0, a1, a2, a3, a4, a5, a6⟩, ⟨g1, o1, n1, c1, b1, b2, b3, b4, b5, b6⟩, ⟨g2, o2, n2, c2, d1, d2, d3, d4, d5, d6⟩⟩ := h
  exact ⟨g, v0, v1, v2, h1, h2, by omega, h4, h5, h6, ⟨g0, o0, n0, c0, a1, a2, a3, a4, by omega, a6⟩, ⟨g1, o1, n1, c1, b1, b2, b3, b4, by omega, b6⟩, ⟨g2, o2, n2, c2, d1, d2, d3, d4, by omega, d6⟩⟩
theorem phi5a_grow (B : Nat) (a n : Int) (i : Nat) (v : Value) (w w' : World) (hg : Grow w w') (h : phi5a B a n i v w) : phi5a B a n i v w' := by
  match i with
  | 0 => exact h
  | 1 => exact Rd3.grow h hg
  | 2 => exact h
  | _ + 3 => exact Rd3.grow h hg

/-- the string of such bytes -/
def strOf (xs : List Value) : ByteArray := ⟨(xs.map fun v => match v with | .int _ n => UInt8.ofNat n.toNat | _ => 0).toArray⟩
def AllU8 (xs : List Value) : Prop := ∀ u ∈ xs, ∃ n : Int, u = .int .u8 n ∧ 0 ≤ n ∧ n < 256
theorem strOf_size (xs : List Value) : (strOf xs).size = xs.length := by simp [strOf, ByteArray.size]
theorem AllU8.one {xs : List Value} (h : AllU8 xs) : ∀ u ∈ xs, u.oneCell' = true := fun u hu => by obtain ⟨n, rfl, _⟩ := h u hu; rfl
theorem allU8_enc (a n : Int) : AllU8 (enc a n) := by
  have key : ∀ m N k, AllU8 (beTake m N k) := by
    intro m N k
    induction k with
    | zero => intro u hu; simp [beTake] at hu
    | succ k ih =>
      intro u hu
      simp only [beTake, List.mem_append, List.mem_singleton] at hu
      rcases hu with hu | rfl
      · exact ih u hu
      · exact ⟨_, rfl, by unfold byteOf; omega, by unfold byteOf; omega⟩
  intro u hu
  rcases List.mem_append.1 hu with h | h
  · exact key _ _ _ u h
  · exact key _ _ _ u h
theorem allU8_zero4 : AllU8 zero4 := by intro u hu; simp [zero4] at hu; subst hu; exact ⟨0, rfl, by omega, by omega⟩

theorem bytes_at {w : World} {g o : Nat} {xs : List Value} (hu : AllU8 xs) (hc : ∀ j u, xs[j]? = some u → w.cell? ⟨g, o + j, none⟩ = some u) : Lib.Bytes w g o (strOf xs) := by
  intro i hi
  have hi' : i < xs.length := by rw [strOf_size] at hi; exact hi
  obtain ⟨n, hn, h0, h1⟩ := hu xs[i] (List.getElem_mem hi')
  rw [hc i xs[i] (List.getElem?_eq_getElem hi'), hn]
  congr 2
  have : (strOf xs)[i] = UInt8.ofNat n.toNat := by
    show (strOf xs).data[i] = _
    simp [strOf, hn]
  rw [this]
  simp only [UInt8.toNat_ofNat']
  omega

theorem conv_cells {w : World} {g o n c : Nat} {xs : List Value} (hn : xs.length = n) (hu : AllU8 xs) (hc : ∀ j u, xs[j]? = some u → w.cell? ⟨g, o + j, none⟩ = some u) :
    (convert 30 9 (.slice (some ⟨g, o, none⟩) n c)).run Try.prog w = .ok (.string (strOf xs)) w := by
  have := Lib.run_convert_whole (P := Try.prog) w 30 5 9 Try.underlying30 Try.underlying5 Try.underlying9 g o (strOf xs) (bytes_at hu hc) c
  rwa [strOf_size, hn] at this

theorem step_copy_own {P : Program} {ops : Array Oper} {o : Oper} {a : Act} {w : World} {K : Act → World → Prop} {Q : Exit → Act → World → Prop} {E : Prop} (hgd : o.guard = none) (d s : Operand) (dT sT : TypeId)
    (ho : o.op = .call { callee := .builtin .copy, args := #[d, s], argTypes := #[dT, sT] }) (elem : TypeId) (hu : P.underlying dT = some (.slice elem)) (hsz : (P.info? elem).map (·.size) = some 1)
    (g off dLen dCap : Nat) (ad : Addr) (sLen sCap : Nat) (hd : a.eval d = .slice (some ⟨g, off, none⟩) dLen dCap) (hs : a.eval s = .slice (some ad) sLen sCap)
    (cur : List Value) (t : TypeId) (hg : w.heap[g]? = some (.cells cur.toArray t (0, 0))) (cs : List Value) (hn : cs.length = Nat.min sLen dLen)
    (hsrc : ∀ j v, cs[j]? = some v → w.cell? (ad.add j) = some v) (hfit : off + cs.length ≤ cur.length) (h1 : ∀ v ∈ cs, v.oneCell' = true)
    (h : ∀ w', Hid (w'.heap[g]? = some (.cells (splice cur off cs).toArray t (0, 0))) → w.grownBy w' (some g) → K (a.put o.dst (goInt cs.length)) w') :
    if Region.wanted o (yielded ops a.tmps) = true then Oper.wp P o a w K Q else E := by
  have hw : Region.wanted o (yielded ops a.tmps) = true := by simp [Region.wanted, hgd]
  rw [if_pos hw]
  have hrun := run_copy_row (P := P) w dT sT o.type elem g off dLen dCap ad sLen sCap cur.toArray t cs hu hsz hg hn hsrc (by simpa using hfit) h1
  unfold Oper.wp
  simp [execOp, ho, resolve, invoke, builtin, hd, hs, hrun, Result.andThen]
  exact h _ (show _ = _ by simpa [splice] using setRow_heap w g _ _ t _ hg) ⟨rfl, rfl, rfl, by simp [World.setRow], fun k hk hne => setRow_other w g k _ (fun e => hne (by rw [e]))⟩

def cur1 (l : List Value) : List Value := splice l 0 zero4
def cur2 (a n : Int) (l : List Value) : List Value := splice (cur1 l) 4 ((enc a n).drop 4)
def cur3 (a n : Int) (l : List Value) : List Value := splice (cur2 a n l) 0 ((enc a n).take 4)
def curK (a n : Int) (l : List Value) : Nat → List Value
  | 0 => l
  | 1 => cur1 l
  | 2 => cur2 a n l
  | _ => cur3 a n l
theorem curK_length (a n : Int) (l : List Value) (hl : 12 ≤ l.length) (k : Nat) : (curK a n l k).length = l.length := by
  have e := enc_length a n
  have h1 : (cur1 l).length = l.length := length_splice _ _ _ (by simp [zero4]; omega)
  have h2 : (cur2 a n l).length = l.length := by rw [← h1]; exact length_splice _ _ _ (by simp [e]; omega)
  have h3 : (cur3 a n l).length = l.length := by rw [← h2]; exact length_splice _ _ _ (by simp [e]; omega)
  match k with
  | 0 => rfl
  | 1 => exact h1
  | 2 => exact h2
  | _ + 3 => exact h3
theorem cur3_take (a n : Int) (l : List Value) (hl : 12 ≤ l.length) : (cur3 a n l).take 12 = enc a n := by
  have e := enc_length a n
  have d8 : ((enc a n).drop 4).length = 8 := by simp [e]
  have t4 : ((enc a n).take 4).length = 4 := by simp [e]
  have c1 : (cur1 l).length = l.length := length_splice _ _ _ (by simp [zero4]; omega)
  have h2 : cur2 a n l = (cur1 l).take 4 ++ ((enc a n).drop 4 ++ (cur1 l).drop 12) := by simp [cur2, splice, d8]
  have h3 : cur3 a n l = (enc a n).take 4 ++ ((enc a n).drop 4 ++ (cur1 l).drop 12) := by
    have hh : (cur2 a n l).drop 4 = (enc a n).drop 4 ++ (cur1 l).drop 12 := by
      rw [h2, List.drop_append]
      simp [c1]
      rw [show 4 - min 4 l.length = 0 from by omega]
      simp
    simp [cur3, splice, t4, hh]
  rw [h3, ← List.append_assoc, List.take_append_drop, List.take_append_of_le_length (by omega), List.take_of_length_le (by omega)]
end Go.Proofs.Ytjgfhkgjaodjhaa
