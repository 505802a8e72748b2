/-
  The walk of slices.Repeat at a row of one number.
-/
import Derived.Test.YtldcbkememonaaaF4
import Derived.Test.YtldcbkememonaaaPj
import Derived.Deep.OwnRows
import Derived.Laws.CopyOwn

namespace Go.Proofs.Ytldcbkememonaaa
open Go.RowKit
set_option linter.unusedVariables false
set_option linter.unusedSimpArgs false

/-- a copy, at a step of a region that draws its order: first what the operation is, then what it does -/
def CopyAt (P : Program) (o : Oper) (a : Act) (w : World) (K : Act → World → Prop) (Q : Exit → Act → World → Prop) (d s : Operand) (dT sT : TypeId) : Prop := o.op = .call { callee := .builtin .copy, args := #[d, s], argTypes := #[dT, sT] } → Oper.wp P o a w K Q
theorem step_copy_a {P : Program} {ops : Array Oper} {o : Oper} {a : Act} {w : World} {K : Act → World → Prop} {Q : Exit → Act → World → Prop} {E : Prop} (hgd : o.guard = none) (d s : Operand) (dT sT : TypeId)
    (ho : o.op = .call { callee := .builtin .copy, args := #[d, s], argTypes := #[dT, sT] }) (h : CopyAt P o a w K Q d s dT sT) : if Region.wanted o (yielded ops a.tmps) = true then Oper.wp P o a w K Q else E := by
  have hw : Region.wanted o (yielded ops a.tmps) = true := by simp [Region.wanted, hgd]
  rw [if_pos hw]
  exact h ho
theorem step_copy_b {P : Program} {o : Oper} {a : Act} {w : World} {K : Act → World → Prop} {Q : Exit → Act → World → Prop} {d s : Operand} {dT sT : TypeId} (elem : TypeId) (hu : P.underlying dT = some (.slice elem)) (hsz : (P.info? elem).map (·.size) = some 1)
    (g off dLen dCap : Nat) (ad : Addr) (sLen sCap : Nat) (hd : a.eval d = .slice (some ⟨g, off, none⟩) dLen dCap) (hs : a.eval s = .slice (some ad) sLen sCap)
    (cur : List Value) (t : TypeId) (hg : w.heap[g]? = some (.cells cur.toArray t (0, 0))) (cs : List Value) (hn : cs.length = Nat.min sLen dLen)
    (hsrc : ∀ j v, cs[j]? = some v → w.cell? (ad.add j) = some v) (hfit : off + cs.length ≤ cur.length) (h1 : ∀ v ∈ cs, v.oneCell' = true)
    (h : ∀ w', Hid (w'.heap[g]? = some (.cells (splice cur off cs).toArray t (0, 0))) → w.grownBy w' (some g) → K (a.put o.dst (goInt cs.length)) w') : CopyAt P o a w K Q d s dT sT := by
  intro ho
  have hrun := run_copy_row (P := P) w dT sT o.type elem g off dLen dCap ad sLen sCap cur.toArray t cs hu hsz hg hn hsrc (by simpa using hfit) h1
  unfold Oper.wp
  simp [execOp, ho, resolve, invoke, builtin, hd, hs, hrun, Result.andThen]
  exact h _ (show _ = _ by simpa [splice] using setRow_heap w g _ _ t _ hg) ⟨rfl, rfl, rfl, by simp [World.setRow], fun k hk hne => setRow_other w g k _ (fun e => hne (by rw [e]))⟩
/-- j times x, then zeros -/
def rowX (x : Int) (k j : Nat) : List Value := List.replicate j (.int .i64 x) ++ List.replicate (k - j) (.int .i64 0)
theorem rowX_len (x : Int) (k j : Nat) (h : j ≤ k) : (rowX x k j).length = k := by simp [rowX]; omega
theorem rowX_at (x : Int) (k j i : Nat) (h : i < j) : (rowX x k j)[i]? = some (.int .i64 x) := by
  unfold rowX
  rw [List.getElem?_append_left (by simpa using h), List.getElem?_replicate, if_pos h]
theorem rowX_splice (x : Int) (k j d : Nat) (h : j + d ≤ k) : splice (rowX x k j) j (List.replicate d (.int .i64 x)) = rowX x k (j + d) := by
  unfold splice rowX
  rw [List.take_left' (by simp), List.length_replicate, List.drop_append, List.drop_of_length_le (by simp), List.nil_append, List.length_replicate, show j + d - j = d by omega, List.drop_replicate, ← List.append_assoc, List.replicate_append_replicate, show k - j - d = k - (j + d) by omega]
theorem rowX_full (x : Int) (k : Nat) : rowX x k k = (List.replicate k x).map (Value.int .i64) := by simp [rowX]
theorem mul_any (k : Nat) (hk : k ≤ 100000) (w : World) : Calls Try.prog 39 #[.int .u64 1, .int .u64 k] w fun e w' => e = .returned (.tuple #[.int .u64 0, .int .u64 k]) ∧ w' = w := by
  refine (Try.bits_Mul 1 k (by omega) (by omega) w).mono ?_
  rintro e w' ⟨rfl, rfl⟩
  refine ⟨?_, rfl⟩
  rw [show (1 * k / 18446744073709551616 : Nat) = 0 by omega, show (1 * k % 18446744073709551616 : Nat) = k by omega]
  rfl
theorem Try.info3x : (Try.prog.info? 3).map (fun i => (i.zero, i.size, i.bytes)) = some (some (.int .i64 0), 1, 8) := by kernel_rfl
theorem made3 (x : Int) (n : Nat) : madeCells #[.int .i64 0] n = (rowX x n 0).toArray := by
  apply Array.toList_inj.1
  rw [toList_madeCells_one]
  simp [rowX]
set_option maxRecDepth 100000 in
set_option maxHeartbeats 2000000 in
theorem rep_any (x : Int) (k g0 : Nat) (hk : 1 ≤ k) (hk2 : k ≤ 100000) (w : World) (h : w.cell? ⟨g0, 0, none⟩ = some (.int .i64 x)) :
    Calls Try.prog 29 #[.slice (some ⟨g0, 0, none⟩) 1 1, .int .i64 k] w fun e w' => ∃ v, e = .returned v ∧ IntsIn (List.replicate k x) v w' ∧ Grow w w' := by
  have k0 : (0 : Int) ≤ (k : Int) := by omega
  have k1 : ¬ (k : Int) < 0 := by omega
  have hmk := run_make_row' (P := Try.prog) 27 3 (.int .i64 0) 8 Try.underlying27 Try.info3x rfl .i64 .i64 k (by omega) (by omega)
  have MU := Lib.hid (mul_any k hk2 w)
  have M3 := Lib.hid (made3 x k)
  have hk64 : IntKind.u64.wrap (k : Int) = (k : Int) := by rw [IntKind.wrap_u64]; omega
  have hks : IntKind.i64.wrap (k : Int) = (k : Int) := IntWalk.i64_in _ (by omega)
  have hk3 : ¬ (9223372036854775807 : Int) < (k : Int) := by omega
  go_enter Try.func29, Try.ntmps29
  go_wp2_with fail
  refine MU.out.mono ?_
  rintro e w1 ⟨rfl, rfl⟩
  have C0 := Lib.hid (show ∀ ob, (w1.alloc ob).cell? ⟨g0, 0, none⟩ = some (.int .i64 x) from fun ob => (World.cell?_alloc_lt _ _ _ (World.block_lt_of_cell? w1 _ h)).trans h)
  have SZ : (Try.prog.info? 3).map (·.size) = some 1 := by kernel_rfl
  have HCS := Lib.hid (show ∀ (j : Nat) (v : Value), [Value.int .i64 x][j]? = some v → (w1.alloc (.cells (madeCells #[.int .i64 0] k) 3)).cell? ((⟨g0, 0, none⟩ : Addr).add j) = some v from fun j v hj => by
    match j with
    | 0 => simp at hj; subst hj; exact C0.out _
    | j + 1 => simp at hj)
  have HB0 := Lib.hid (show (w1.alloc (.cells (madeCells #[.int .i64 0] k) 3)).heap[w1.heap.size]? = some (.cells (rowX x k 0).toArray 3 (0, 0)) from by rw [← M3.out]; exact heap_alloc_new w1 _)
  have mn : [Value.int .i64 x].length = Nat.min 1 k := by show 1 = min 1 k; omega
  have MN := Lib.hid mn
  have FT := Lib.hid (show 0 + [Value.int .i64 x].length ≤ (rowX x k 0).length from by rw [rowX_len _ _ _ (by omega)]; simpa using hk)
  clear mn M3
  go_wp2_with (refine wpList_copy_splice (by rfl) _ _ _ _ (by rfl) 3 Try.underlying27 SZ _ _ k k 1 1 (by rfl) (by rfl) w1.heap.size 0 (rowX x k 0) 3 HB0.out [.int .i64 x] MN.out (fun _ => ⟨rfl, _, rfl, HCS.out⟩) FT.out (by intro v hv; simp at hv; subst hv; rfl) w1.heap.size w1 ((Grow.refl w1).alloc _) (Nat.le_refl _) ?_; intro w2 hg2 hb2)
  have HG := Lib.hid (show w2.heap[w1.heap.size]? = some (.cells (rowX x k 1).toArray 3 (0, 0)) from by
    have := hg2.out
    rw [show [Value.int .i64 x] = List.replicate 1 (.int .i64 x) from rfl, rowX_splice x k 0 1 (by omega)] at this
    exact this)
  have HB2 := Lib.hid hb2
  clear hg2 hb2 HCS MN FT HB0 C0 MU hmk h
  go_loopw [8] (fun t wr => ∃ j : Nat, 1 ≤ j ∧ j ≤ k ∧ t = .int .i64 j ∧ Hid (wr.heap[w1.heap.size]? = some (.cells (rowX x k j).toArray 3 (0, 0))) ∧ Hid (Grow w1 wr)) (fun t _ => k - (intOf t).toNat)
  case atStart => exact ⟨1, by omega, by omega, rfl, HG, HB2⟩
  case round =>
    clear HG HB2
    obtain ⟨j, hj1, hj, rfl, HG, HB⟩ := hrel
    have j0 : (0 : Int) ≤ (j : Int) := by omega
    by_cases hlt : j < k
    · have j1 : (j : Int) < (k : Int) := by omega
      have j2 : (j : Int) ≤ (k : Int) := by omega
      obtain ⟨d, hd⟩ : ∃ d, d = min j (k - j) := ⟨_, rfl⟩
      have HD := Lib.hid hd
      have hd1 : 1 ≤ d := by omega
      have hdj : j + d ≤ k := by omega
      have HMN := Lib.hid (show (List.replicate d (Value.int .i64 x)).length = Nat.min j (k - j) from by rw [List.length_replicate]; exact hd)
      have HFT := Lib.hid (show j + (List.replicate d (Value.int .i64 x)).length ≤ (rowX x k j).length from by rw [rowX_len _ _ _ hj, List.length_replicate]; exact hdj)
      have HSR := Lib.hid (show ∀ (i : Nat) (v : Value), (List.replicate d (Value.int .i64 x))[i]? = some v → wr.drew.cell? ((⟨w1.heap.size, 0, none⟩ : Addr).add i) = some v from fun i v hi => by
        rw [List.getElem?_replicate] at hi
        split at hi
        · injection hi with hi
          subst hi
          have ea : ((⟨w1.heap.size, 0, none⟩ : Addr).add i) = ⟨w1.heap.size, i, none⟩ := by
            unfold Addr.add
            split
            · rename_i h0; rw [h0]
            · simp
          rw [ea]
          show wr.cell? ⟨w1.heap.size, i, none⟩ = _
          rw [cell_blk HG.out i, List.getElem?_toArray, rowX_at x k j i (by omega)]
        · cases hi)
      have HON := Lib.hid (show ∀ v ∈ List.replicate d (Value.int .i64 x), v.oneCell' = true from fun v hv => by rw [List.eq_of_mem_replicate hv]; rfl)
      have hkj : ¬ k = j := by omega
      have hjd : IntKind.i64.wrap ((j : Int) + (d : Int)) = (j : Int) + (d : Int) := IntWalk.i64_in _ (by omega)
      have HGq := Lib.hid (show wr.drew.heap[w1.heap.size]? = some (.cells (rowX x k j).toArray 3 (0, 0)) from HG.out)
      clear hd
      go_wp2
      go_region_law
        (refine step_copy_a (by rfl) _ _ 27 27 (by rfl) ?_; refine step_copy_b 3 Try.underlying27 SZ w1.heap.size j (k - j) (k - j) ⟨w1.heap.size, 0, none⟩ j k (by go_simp) (by go_simp) (rowX x k j) 3 HGq.out (List.replicate d (.int .i64 x)) HMN.out HSR.out HFT.out HON.out ?_; intro w4 hg4 hb4)
      all_goals
        have HG4 := Lib.hid (show w4.heap[w1.heap.size]? = some (.cells (rowX x k (j + d)).toArray 3 (0, 0)) from by rw [← rowX_splice x k j d hdj]; exact hg4.out)
        have HB4 := Lib.hid (show Grow w1 w4 from Below.grown HB.out.drew hb4 (by simpa using HB.out.size) (fun q hq => by injection hq with hq; omega))
        clear hg4 hb4
        go_simp
        go_wp2
        go_roundw
        case rel => exact ⟨j + d, by omega, by omega, by go_num, HG4, HB4⟩
        case measure => simp [intOf]; omega
    · have j1 : ¬ (j : Int) < (k : Int) := by omega
      obtain rfl : j = k := by omega
      go_wp2
      go_ret
      refine ⟨_, rfl, ?_, HB.out⟩
      unfold IntsIn
      rw [List.length_replicate, ← rowX_full]
      refine ⟨by rw [rowX_len _ _ _ (Nat.le_refl _)]; omega, .inr ⟨w1.heap.size, j, (rowX x j j).toArray, rfl, Nat.zero_le _, HG.out, Nat.le_refl _, by unfold maxLen; omega, by rw [List.size_toArray, rowX_len _ _ _ (Nat.le_refl _)]; omega, ?_⟩⟩
      show (rowX x j j).take (j * 1) = _
      rw [List.take_of_length_le (by rw [rowX_len _ _ _ (Nat.le_refl _)]; omega)]
end Go.Proofs.Ytldcbkememonaaa
