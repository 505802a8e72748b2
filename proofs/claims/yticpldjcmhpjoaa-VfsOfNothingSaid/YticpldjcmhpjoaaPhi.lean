/-
  A region that draws its order, walked in no order at all: each operation is shown to leave, in every world in which what it waits for has come up, a value with a property that growing memory does not disturb. What holds behind the region are all these properties together.
-/
import Derived.WalkKit
import Derived.Below
import Derived.Orders

namespace Go.Proofs.Yticpldjcmhpjoaa
open Go.RowKit
set_option linter.unusedVariables false
set_option linter.unusedSimpArgs false

/-- Memory has only grown. -/
def Grow (w w' : World) : Prop := Below w.heap.size w w'
theorem Grow.refl (w : World) : Grow w w := Below.refl _ _
theorem Grow.trans {a b c : World} (h : Grow a b) (k : Grow b c) : Grow a c := Below.trans h (Below.mono k h.size)
theorem Grow.size {a b : World} (h : Grow a b) : a.heap.size ≤ b.heap.size := Below.size h
theorem Grow.drew {a b : World} (h : Grow a b) : Grow a b.drew := Below.drew h
theorem Grow.alloc {a b : World} (h : Grow a b) (o : Obj) : Grow a (b.alloc o) := Below.alloc h (Below.size h) o

def noQ : Exit → Act → World → Prop := fun _ _ _ => False

/-- Region slots filled by what x says. -/
def fillFrom (x : Nat → Value) : Nat → List Oper → Act → Act
  | _, [], a => a
  | k, o :: l, a => fillFrom x (k + 1) l (a.put o.dst (x k))

def waits (o : Oper) (j : Nat) : Bool := o.after.any fun e => e.on == j && Region.binds .any e

/-- What the law asks of a region's text. -/
def phiB (n : Nat) (l : List Oper) : Bool :=
  (l.zipIdx.all fun p =>
    (match p.1.op with | .select _ _ => false | _ => true) &&
    (p.1.after.all fun e => !Region.binds .any e || decide (e.on < p.2)) &&
    (match p.1.dst with | some d => decide (d < n) | none => true) &&
    (l.zipIdx.all fun q =>
      match q.1.dst with
      | none => true
      | some d => (q.2 == p.2 || p.1.dst != some d) && (!(p.1.looksAt l.toArray).contains d || waits p.1 q.2)))

section
variable {n : Nat} {l : List Oper}
theorem phiB_at (h : phiB n l = true) {i : Nat} {o : Oper} (hi : l[i]? = some o) :
    (∀ cs b, o.op ≠ .select cs b) ∧ (∀ e ∈ o.after, Region.binds .any e = true → e.on < i) ∧ (∀ d, o.dst = some d → d < n) ∧
      (∀ (j : Nat) (q : Oper) (d : Tmp), l[j]? = some q → q.dst = some d → (j = i ∨ o.dst ≠ some d) ∧ (d ∈ o.looksAt l.toArray → waits o j = true)) := by
  unfold phiB at h
  rw [List.all_eq_true] at h
  have hm : (o, i) ∈ l.zipIdx := List.mem_zipIdx_iff_getElem?.2 hi
  have h1 := h _ hm
  simp only [Bool.and_eq_true] at h1
  obtain ⟨⟨⟨ha, hb⟩, hc⟩, hd⟩ := h1
  refine ⟨fun cs b hs => (by rw [hs] at ha; cases ha), fun e he hbd => ?_, fun d hdd => (by rw [hdd] at hc; simpa using hc), fun j q d hj hq => ?_⟩
  · rw [Array.all_eq_true'] at hb
    have := hb e he
    rw [hbd] at this
    simpa using this
  · rw [List.all_eq_true] at hd
    have h2 := hd (q, j) (List.mem_zipIdx_iff_getElem?.2 hj)
    rw [hq] at h2
    simp only [Bool.and_eq_true, Bool.or_eq_true, beq_iff_eq, bne_iff_ne, Bool.not_eq_true', List.contains_eq_mem, decide_eq_false_iff_not] at h2
    exact ⟨h2.1, fun hx => h2.2.resolve_left (fun hn => hn hx)⟩

theorem fill_defers (x : Nat → Value) : ∀ (l : List Oper) (k : Nat) (a : Act), (fillFrom x k l a).defers = a.defers
  | [], _, _ => rfl
  | o :: l, k, a => by
    rw [fillFrom, fill_defers x l]
    cases o.dst <;> rfl
theorem fill_size (x : Nat → Value) : ∀ (l : List Oper) (k : Nat) (a : Act), (fillFrom x k l a).tmps.size = a.tmps.size
  | [], _, _ => rfl
  | o :: l, k, a => by
    rw [fillFrom, fill_size x l]
    cases o.dst <;> simp [Act.put]
theorem fill_out (x : Nat → Value) (t : Tmp) : ∀ (l : List Oper) (k : Nat) (a : Act), (∀ (i : Nat) (o : Oper), l[i]? = some o → o.dst ≠ some t) → (fillFrom x k l a).tmps[t]? = a.tmps[t]?
  | [], _, _, _ => rfl
  | o :: l, k, a, h => by
    rw [fillFrom, fill_out x t l (k + 1) _ (fun i q hq => h (i + 1) q (by simpa using hq))]
    have h0 := h 0 o rfl
    cases hd : o.dst with
    | none => rfl
    | some d =>
      have hne : d ≠ t := fun e => h0 (by rw [hd, e])
      simp [Act.put, Array.getElem?_setIfInBounds_ne hne]
theorem fill_in (x : Nat → Value) (t : Tmp) : ∀ (l : List Oper) (k : Nat) (a : Act), t < a.tmps.size → ∀ (i : Nat) (o : Oper), l[i]? = some o → o.dst = some t →
    (∀ (j : Nat) (q : Oper), l[j]? = some q → q.dst = some t → j = i) → (fillFrom x k l a).tmps[t]? = some (x (k + i))
  | [], _, _, _, i, o, hi, _, _ => by simp at hi
  | o' :: l, k, a, ht, 0, o, hi, hd, hu => by
    simp only [List.getElem?_cons_zero, Option.some.injEq] at hi
    subst hi
    rw [fillFrom, fill_out x t l (k + 1) _ (fun j q hq hq' => by have := hu (j + 1) q (by simpa using hq) hq'; omega)]
    simp [hd, Act.put, ht]
  | o' :: l, k, a, ht, i + 1, o, hi, hd, hu => by
    have hs : (a.put o'.dst (x k)).tmps.size = a.tmps.size := by cases o'.dst <;> simp [Act.put]
    rw [fillFrom, fill_in x t l (k + 1) _ (by rw [hs]; exact ht) i o (by simpa using hi) hd (fun j q hq hq' => by have := hu (j + 1) q (by simpa using hq) hq'; omega)]
    rw [show k + 1 + i = k + (i + 1) from by omega]
end

section
variable {P : Program} {l : List Oper} {Φ : Nat → Value → World → Prop} {a0 : Act} {w0 : World}

/-- The step's premise: one operation, in the frame in which all of the region's slots hold what x says, in a world in which what it waits for has its property. -/
def PhiStep (P : Program) (l : List Oper) (Φ : Nat → Value → World → Prop) (a0 : Act) (x : Nat → Value) (w : World) (i : Nat) (o : Oper) : Prop :=
  if Region.wanted o (yielded l.toArray (fillFrom x 0 l a0).tmps) then
    ∀ K : Act → World → Prop, (∀ v w', Grow w w' → Φ i v w' → K ((fillFrom x 0 l a0).put o.dst v) w') → o.wp P (fillFrom x 0 l a0) w K noQ
  else Φ i undef w

def Inv (l : List Oper) (Φ : Nat → Value → World → Prop) (a0 : Act) (w0 : World) (listed : Array Bool) (a : Act) (w : World) (x : Nat → Value) : Prop :=
  Grow w0 w ∧ a.defers = a0.defers ∧ a.tmps.size = a0.tmps.size ∧ (∀ (i : Nat) (o : Oper), l[i]? = some o → listed.getD i true = true → Φ i (x i) w) ∧
    (∀ t, (∀ (i : Nat) (o : Oper), l[i]? = some o → o.dst ≠ some t) → a.tmps[t]? = a0.tmps[t]?) ∧
    (∀ (i : Nat) (o : Oper) (d : Tmp), l[i]? = some o → o.dst = some d → listed.getD i true = true → a.tmps[d]? = some (x i))

theorem noReady {listed : Array Bool} (hB : phiB a0.tmps.size l = true) (hs : listed.size = l.length) (h : Region.ready .any l.toArray listed = []) : ∀ i, i < l.length → listed.getD i false = true := by
  intro i
  induction i using Nat.strongRecOn with
  | _ i ih =>
    intro hi
    cases hl : listed.getD i false with
    | true => rfl
    | false =>
      exfalso
      have ho : l[i]? = some l[i] := List.getElem?_eq_getElem hi
      obtain ⟨_, hlt, _, _⟩ := phiB_at hB ho
      have hm : i ∈ Region.ready .any l.toArray listed := by
        refine List.mem_filter.2 ⟨by simpa using hi, ?_⟩
        simp only [List.getElem?_toArray, ho, Option.map_some, Option.getD_some, Bool.and_eq_true, Bool.not_eq_true']
        refine ⟨by simpa [hs, hi] using hl, ?_⟩
        rw [Array.all_eq_true']
        intro e he
        cases hb : Region.binds .any e with
        | false => rfl
        | true =>
          have h1 := hlt e he hb
          rw [ih e.on h1 (by omega)]
          rfl
      rw [h] at hm
      cases hm

theorem readyAt {listed : Array Bool} {i : Nat} (hs : listed.size = l.length) (h : i ∈ Region.ready .any l.toArray listed) :
    ∃ o, l[i]? = some o ∧ i < l.length ∧ listed.getD i true = false ∧ ∀ e ∈ o.after, Region.binds .any e = true → listed.getD e.on false = true := by
  obtain ⟨hr, hp⟩ := List.mem_filter.1 h
  have hi : i < l.length := by simpa using hr
  have ho : l[i]? = some l[i] := List.getElem?_eq_getElem hi
  simp only [List.getElem?_toArray, ho, Option.map_some, Option.getD_some, Bool.and_eq_true, Bool.not_eq_true'] at hp
  refine ⟨_, ho, hi, hp.1, fun e he hb => ?_⟩
  have := Array.all_eq_true'.1 hp.2 e he
  rw [hb] at this
  simpa using this

theorem agree (hB : phiB a0.tmps.size l = true) {listed : Array Bool} {a : Act} {w : World} {x : Nat → Value} (hI : Inv l Φ a0 w0 listed a w x) {i : Nat} {o : Oper} (ho : l[i]? = some o)
    (hw : ∀ e ∈ o.after, Region.binds .any e = true → listed.getD e.on false = true) {t : Tmp} (ht : t ∈ o.looksAt l.toArray) : a.tmps[t]? = (fillFrom x 0 l a0).tmps[t]? := by
  obtain ⟨_, _, _, _, hout, hin⟩ := hI
  obtain ⟨_, _, _, hd⟩ := phiB_at hB ho
  by_cases hx : ∃ (j : Nat) (q : Oper), l[j]? = some q ∧ q.dst = some t
  · obtain ⟨j, q, hj, hq⟩ := hx
    have hwt := (hd j q t hj hq).2 ht
    unfold waits at hwt
    obtain ⟨e, he, hh⟩ := Array.any_eq_true'.1 hwt
    simp only [Bool.and_eq_true, beq_iff_eq] at hh
    have hl := hw e he hh.2
    rw [hh.1] at hl
    have hl' : listed.getD j true = true := by
      simp only [Array.getD_eq_getD_getElem?] at hl ⊢
      cases hc : listed[j]? with
      | none => rfl
      | some b => rw [hc] at hl; simpa using hl
    have hlt := (phiB_at hB hj).2.2.1 t hq
    rw [hin j q t hj hq hl', fill_in x t l 0 a0 hlt j q hj hq (fun k q' hk hq' => ((phiB_at hB hj).2.2.2 k q' t hk hq').1.resolve_right (fun hn => hn hq))]
    simp
  · have hno : ∀ (k : Nat) (q : Oper), l[k]? = some q → q.dst ≠ some t := fun k q hk hq => hx ⟨k, q, hk, hq⟩
    rw [hout t hno, fill_out x t l 0 a0 hno]

theorem phi_wpAny {Q : Exit → Act → World → Prop} (hB : phiB a0.tmps.size l = true)
    (hstab : ∀ i v w w', Grow w w' → Φ i v w → Φ i v w')
    (hstep : ∀ (x : Nat → Value) (w : World), Grow w0 w → ∀ (i : Nat) (o : Oper), l[i]? = some o → (∀ e ∈ o.after, Region.binds .any e = true → Φ e.on (x e.on) w) → PhiStep P l Φ a0 x w i o)
    (hfin : ∀ (x : Nat → Value) (w : World), Grow w0 w → (∀ i, i < l.length → Φ i (x i) w) → Q .normal (fillFrom x 0 l a0) w) :
    ∀ (fuel : Nat) (listed : Array Bool) (a : Act) (w : World) (x : Nat → Value), listed.size = l.length → listed.toList.count false = fuel → Inv l Φ a0 w0 listed a w x → wpAny P .any l.toArray Q fuel listed a w := by
  have fin : ∀ (listed : Array Bool) (a : Act) (w : World) (x : Nat → Value), listed.size = l.length → Inv l Φ a0 w0 listed a w x → Region.ready .any l.toArray listed = [] → Q .normal a w := by
    intro listed a w x hs hI hr
    have hall := noReady hB hs hr
    obtain ⟨hG, hdf, hsz, hΦ, hout, hin⟩ := hI
    have hall' : ∀ i, i < l.length → listed.getD i true = true := fun i hi => by
      have := hall i hi
      simpa [hs, hi] using this
    have ha : a = fillFrom x 0 l a0 := by
      have ht : a.tmps = (fillFrom x 0 l a0).tmps := by
        apply Array.ext_getElem?
        intro t
        by_cases hx : ∃ (j : Nat) (q : Oper), l[j]? = some q ∧ q.dst = some t
        · obtain ⟨j, q, hj, hq⟩ := hx
          have hjl : j < l.length := (List.getElem?_eq_some_iff.1 hj).1
          have hlt := (phiB_at hB hj).2.2.1 t hq
          rw [hin j q t hj hq (hall' j hjl), fill_in x t l 0 a0 hlt j q hj hq (fun k q' hk hq' => ((phiB_at hB hj).2.2.2 k q' t hk hq').1.resolve_right (fun hn => hn hq))]
          simp
        · have hno : ∀ (k : Nat) (q : Oper), l[k]? = some q → q.dst ≠ some t := fun k q hk hq => hx ⟨k, q, hk, hq⟩
          rw [hout t hno, fill_out x t l 0 a0 hno]
      cases a with
      | mk tm df =>
        have e1 := fill_defers x l 0 a0
        cases hf : fillFrom x 0 l a0 with
        | mk tm' df' =>
          rw [hf] at ht e1
          simp only at ht e1 hdf
          rw [ht, hdf, e1]
    rw [ha]
    exact hfin x w hG fun i hi => hΦ i _ (List.getElem?_eq_getElem hi) (hall' i hi)
  intro fuel
  induction fuel with
  | zero =>
    intro listed a w x hs hc hI
    have hr : Region.ready .any l.toArray listed = [] := by
      rw [List.eq_nil_iff_forall_not_mem]
      intro i hi
      obtain ⟨o, ho, hil, hun, _⟩ := readyAt hs hi
      have hmem : false ∈ listed.toList := by
        have hg : listed[i]? = some false := by
          have hlt : i < listed.size := by omega
          rw [Array.getElem?_eq_getElem hlt]
          simpa [hlt] using hun
        exact Array.mem_toList_iff.2 (Array.mem_of_getElem? hg)
      have := List.count_pos_iff.2 hmem
      omega
    exact ⟨hr, fin listed a w x hs hI hr⟩
  | succ fuel ih =>
    intro listed a w x hs hc hI
    refine ⟨fin listed a w x hs hI, fun i hi => ?_⟩
    obtain ⟨o, ho, hil, hun, hwt⟩ := readyAt hs hi
    have hlt : i < listed.size := by omega
    have hgi : listed[i] = false := by simpa [hlt] using hun
    have hs' : (listed.setIfInBounds i true).size = l.length := by simp [hs]
    have hc' : (listed.setIfInBounds i true).toList.count false = fuel := by
      rw [Array.toList_setIfInBounds, List.count_set (by simpa using hlt)]
      rw [hc]
      simp [hgi]
    obtain ⟨hsel, _, hdl, hdst⟩ := phiB_at hB ho
    have hagree := fun {t : Tmp} (ht : t ∈ o.looksAt l.toArray) => agree hB hI ho hwt ht
    have hexec : execOp a.eval o = execOp (fillFrom x 0 l a0).eval o := by
      refine execOp_congr o hsel fun y hy => ?_
      cases y with
      | tmp t =>
        have ht : t ∈ o.looksAt l.toArray := List.mem_append_left _ (List.mem_filterMap.2 ⟨.tmp t, by simpa using hy, rfl⟩)
        simp only [Act.eval, Array.getD_eq_getD_getElem?, hagree ht]
      | _ => rfl
    have hwant : Region.wanted o (yielded l.toArray a.tmps) = Region.wanted o (yielded l.toArray (fillFrom x 0 l a0).tmps) := by
      unfold Region.wanted
      cases hg : o.guard with
      | none => rfl
      | some gw =>
        obtain ⟨g, want⟩ := gw
        have hy : yielded l.toArray a.tmps g = yielded l.toArray (fillFrom x 0 l a0).tmps g := by
          unfold yielded
          cases ht : (l.toArray[g]?).bind (·.dst) with
          | none => rfl
          | some t =>
            have : t ∈ o.looksAt l.toArray := List.mem_append_right _ (by rw [hg]; simp only [ht]; simp)
            simp only [Option.bind_some, hagree this]
        simp only [hy]
    obtain ⟨hG, hdf, hsz, hΦ, hout, hin⟩ := hI
    have hst := hstep x w hG i o ho (fun e he hb => by
      have hl := hwt e he hb
      have hlt' : e.on < listed.size := by
        rcases Nat.lt_or_ge e.on listed.size with h | h
        · exact h
        · simp [Array.getElem?_eq_none h] at hl
      have hoe : l[e.on]? = some (l[e.on]'(by omega)) := List.getElem?_eq_getElem (by omega)
      exact hΦ e.on _ hoe (by simpa [hlt'] using hl))
    have go : ∀ (u : Value) (v : Value) (w' : World), Grow w w' → Φ i v w' → (∀ d, o.dst = some d → u = v) → Inv l Φ a0 w0 (listed.setIfInBounds i true) (a.put o.dst u) w' (fun k => if k = i then v else x k) := by
      intro u v w' hgw hv huv
      refine ⟨hG.trans hgw, ?_, ?_, ?_, ?_, ?_⟩
      · cases o.dst <;> exact hdf
      · cases o.dst <;> simp [Act.put, hsz]
      · intro j q hj hl
        by_cases hji : j = i
        · subst hji; simpa using hv
        · simp only [hji, if_false]
          refine hstab j _ w w' hgw (hΦ j q hj ?_)
          simpa [Array.getElem?_setIfInBounds_ne (Ne.symm hji)] using hl
      · intro t ht
        have h0 := ht i o ho
        cases hd : o.dst with
        | none => exact hout t ht
        | some d =>
          have hne : d ≠ t := fun e => h0 (by rw [hd, e])
          simp only [Act.put, Array.getElem?_setIfInBounds_ne hne]
          exact hout t ht
      · intro j q d hj hq hl
        by_cases hji : j = i
        · subst hji
          obtain rfl : q = o := by rw [ho] at hj; injection hj with hj; exact hj.symm
          have hds := hdl d hq
          have : d < a.tmps.size := by rw [hsz]; exact hds
          simp [hq, Act.put, this, huv d hq]
        · simp only [hji, if_false]
          have hold := hin j q d hj hq (by simpa [Array.getElem?_setIfInBounds_ne (Ne.symm hji)] using hl)
          have hne := (hdst j q d hj hq).1.resolve_left hji
          cases hd : o.dst with
          | none => exact hold
          | some d' =>
            have hdd : d' ≠ d := fun e => hne (by rw [hd, e])
            simp only [Act.put, Array.getElem?_setIfInBounds_ne hdd]
            exact hold
    unfold wpOp
    simp only [List.getElem?_toArray, ho]
    rw [hwant]
    unfold PhiStep at hst
    split
    · rename_i hw1
      rw [if_pos hw1] at hst
      refine .inl ?_
      have hK := hst (fun a' w' => ∃ v, a'.defers = a0.defers ∧ (∀ d, o.dst = some d → a'.tmps[d]? = some v) ∧ Grow w w' ∧ Φ i v w') (fun v w' hg hv => ⟨v, by
          rw [← fill_defers x l 0 a0]; cases o.dst <;> rfl, fun d hd => by
          have hds := hdl d hd
          have : d < (fillFrom x 0 l a0).tmps.size := by rw [fill_size]; exact hds
          simp [hd, Act.put, this], hg, hv⟩)
      have next : ∀ (u : Value) (w' : World), (∃ v, ((fillFrom x 0 l a0).put o.dst u).defers = a0.defers ∧ (∀ d, o.dst = some d → ((fillFrom x 0 l a0).put o.dst u).tmps[d]? = some v) ∧ Grow w w' ∧ Φ i v w') →
          wpAny P .any l.toArray Q fuel (listed.setIfInBounds i true) (a.put o.dst u) w' := by
        rintro u w' ⟨v, _, h2, h3, h4⟩
        refine ih _ _ _ _ hs' hc' (go u v w' h3 h4 fun d hd => ?_)
        have h5 := h2 d hd
        have : d < (fillFrom x 0 l a0).tmps.size := by rw [fill_size]; exact hdl d hd
        simpa [hd, Act.put, this] using h5
      unfold Oper.wp at hK ⊢
      rw [hexec]
      generalize (execOp (fillFrom x 0 l a0).eval o).run P w = r at *
      cases r with
      | ok nx w' =>
        cases nx <;> simp only [Oper.upon] at hK ⊢
        case value u => exact next u w' hK
        case skip => exact next undef w' hK
        case defer d =>
          obtain ⟨v, h1, _⟩ := hK
          exfalso
          have : (d :: (fillFrom x 0 l a0).defers) = a0.defers := by rw [← h1]; cases o.dst <;> rfl
          rw [fill_defers] at this
          exact absurd this (List.cons_ne_self _ _)
        case enter f args =>
          refine hK.mono fun e w'' he => ?_
          cases e with
          | returned u => exact next u w'' he
          | panicked c => exact he.elim
          | outgrown => obtain ⟨_, _, hf⟩ := he; exact hf.elim
        case row row args => exact hK.mono fun u w'' he => next u w'' he
      | halt h w' =>
        cases h <;> simp only [Oper.upon] at hK ⊢ <;> exact hK.elim
    · rename_i hw1
      rw [if_neg hw1] at hst
      exact ih _ _ _ _ hs' hc' (go undef undef w (Grow.refl w) hst fun _ _ => rfl)

/-- What an operation waits for has its property. -/
def Pre (Φ : Nat → Value → World → Prop) (x : Nat → Value) (w : World) : List Edge → Prop
  | [] => True
  | e :: r => (Region.binds .any e = true → Φ e.on (x e.on) w) ∧ Pre Φ x w r
theorem pre_of {x : Nat → Value} {w : World} : ∀ (es : List Edge), (∀ e ∈ es, Region.binds .any e = true → Φ e.on (x e.on) w) → Pre Φ x w es
  | [], _ => trivial
  | e :: r, h => ⟨h e (List.mem_cons_self ..), pre_of r fun e' he => h e' (List.mem_cons_of_mem _ he)⟩

theorem phiStep_of {x : Nat → Value} {w : World} {i : Nat} {o : Oper} (hg : o.guard = none)
    (h : ∀ K : Act → World → Prop, (∀ v w', Grow w w' → Φ i v w' → K ((fillFrom x 0 l a0).put o.dst v) w') → o.wp P (fillFrom x 0 l a0) w K noQ) : PhiStep P l Φ a0 x w i o := by
  unfold PhiStep
  rw [if_pos (by simp [Region.wanted, hg])]
  exact h

/-- All operations' steps, one behind the other. -/
def PhiAll (P : Program) (l : List Oper) (Φ : Nat → Value → World → Prop) (a0 : Act) (x : Nat → Value) (w : World) : Nat → List Oper → Prop
  | _, [] => True
  | i, o :: r => (Pre Φ x w o.after.toList → PhiStep P l Φ a0 x w i o) ∧ PhiAll P l Φ a0 x w (i + 1) r
theorem phiAll_at {x : Nat → Value} {w : World} : ∀ (r : List Oper) (k : Nat), PhiAll P l Φ a0 x w k r → ∀ (i : Nat) (o : Oper), r[i]? = some o → (∀ e ∈ o.after, Region.binds .any e = true → Φ e.on (x e.on) w) → PhiStep P l Φ a0 x w (k + i) o
  | [], _, _, i, o, hi, _ => by simp at hi
  | o' :: r, k, h, 0, o, hi, hp => by
    simp only [List.getElem?_cons_zero, Option.some.injEq] at hi
    subst hi
    exact h.1 (pre_of _ fun e he => hp e (Array.mem_toList_iff.1 he))
  | o' :: r, k, h, i + 1, o, hi, hp => by
    have := phiAll_at r (k + 1) h.2 i o (by simpa using hi) hp
    rwa [show k + 1 + i = k + (i + 1) from by omega] at this

/-- All that is known behind the region. -/
def PostAll (Φ : Nat → Value → World → Prop) (x : Nat → Value) (w : World) : Nat → Nat → Prop
  | _, 0 => True
  | i, n + 1 => Φ i (x i) w ∧ PostAll Φ x w (i + 1) n
theorem postAll_of {x : Nat → Value} {w : World} : ∀ (n i : Nat), (∀ j, j < n → Φ (i + j) (x (i + j)) w) → PostAll Φ x w i n
  | 0, _, _ => trivial
  | n + 1, i, h => ⟨by simpa using h 0 (by omega), postAll_of n (i + 1) fun j hj => by have := h (j + 1) (by omega); rwa [show i + (j + 1) = i + 1 + j from by omega] at this⟩

/-- **THE LAW.** -/
theorem wp_region_phi {id : Nat} {Q : Exit → Act → World → Prop} (Φ : Nat → Value → World → Prop) (hm : P.follows .mixedOrders = true) (hB : phiB a0.tmps.size l = true)
    (hstab : ∀ i v w w', Grow w w' → Φ i v w → Φ i v w')
    (hstep : ∀ (x : Nat → Value) (w : World), Grow w0 w → ∀ (i : Nat) (o : Oper), l[i]? = some o → (∀ e ∈ o.after, Region.binds .any e = true → Φ e.on (x e.on) w) → PhiStep P l Φ a0 x w i o)
    (hfin : ∀ (x : Nat → Value) (w : World), Grow w0 w → (∀ i, i < l.length → Φ i (x i) w) → Q .normal (fillFrom x 0 l a0) w) : (Code.region id l.toArray true).wp P Q a0 w0 := by
  refine wp_region_any hm ?_
  refine phi_wpAny (Φ := Φ) (a0 := a0) (w0 := w0) hB hstab hstep hfin _ _ _ _ (fun _ => undef) (by simp) (by simp) ?_
  refine ⟨(Grow.refl w0).drew, rfl, rfl, fun i o hi hl => ?_, fun _ _ => rfl, fun i o d hi _ hl => ?_⟩ <;>
  · have hil : i < l.length := (List.getElem?_eq_some_iff.1 hi).1
    simp [hil] at hl

/-- **THE LAW, FOR USE.** -/
theorem wp_region_phi' {id : Nat} {Q : Exit → Act → World → Prop} (Φ : Nat → Value → World → Prop) (hm : P.follows .mixedOrders = true) (hB : phiB a0.tmps.size l = true)
    (hstab : ∀ i v w w', Grow w w' → Φ i v w → Φ i v w')
    (hstep : ∀ (x : Nat → Value) (w : World), Grow w0 w → PhiAll P l Φ a0 x w 0 l)
    (hfin : ∀ (x : Nat → Value) (w : World), Grow w0 w → PostAll Φ x w 0 l.length → Q .normal (fillFrom x 0 l a0) w) : (Code.region id l.toArray true).wp P Q a0 w0 :=
  wp_region_phi Φ hm hB hstab (fun x w hG i o hi hp => by have := phiAll_at l 0 (hstep x w hG) i o hi hp; rwa [Nat.zero_add] at this)
    fun x w hG h => hfin x w hG (postAll_of _ _ fun j hj => by rw [Nat.zero_add]; exact h j hj)
end
end Go.Proofs.Yticpldjcmhpjoaa
