/-
  append, told whether memory only grew or the row lies where it lay; the drawn region of the document's List; insertion, plain.
-/
import Derived.Test.YticpldjcmhpjoaaAppS
import Derived.Test.YticpldjcmhpjoaaPhiR
import Derived.Test.YticpldjcmhpjoaaQn
import Derived.Sort.Walk0

namespace Go.Proofs.Yticpldjcmhpjoaa
open Go.RowKit
set_option linter.unusedVariables false
set_option linter.unusedSimpArgs false

section
variable {P : Program} (w : World)
theorem run_append_srcs2 (B : Nat) (t tx ty e : TypeId) (i : TypeInfo) (z : Value) (bytes : Nat) (ht : P.underlying t = some (.slice e)) (hi : P.info? e = some i) (hz : i.zero = some z)
    (hsize : i.size = 1) (hby : i.bytes = bytes) (hzs : z.cells.size = 1)
    (v : Value) (n : Nat) (xs : List Value) (hown : w.ownsRow B e 1 v n xs) (x : Value) (m : Nat) (news : List Value) (hs : Src P 1 tx x m news w)
    (h63 : n + m ≤ maxLen) (hbytes : (n + m) * bytes ≤ 140737488355328) (hB : B ≤ w.heap.size) :
    ∃ v' w', (Builtin.append_ #[t, tx] ty #[v, x]).run P w = .ok v' w' ∧ w'.ownsRow B e 1 v' (n + m) (xs ++ news) ∧
      (Grow w w' ∨ ∃ g cap, v = .slice (some ⟨g, 0, none⟩) n cap ∧ v' = .slice (some ⟨g, 0, none⟩) (n + m) cap ∧ w.grownBy w' (some g)) := by
  subst hby
  have hsm : n + m ≤ 9223372036854775807 := by simp only [maxLen] at h63; omega
  have hnl := hs.newsLen
  simp only [Nat.mul_one] at hnl
  have hxl : xs.length = n := by have := hown.1; simpa using this
  have hge : ∀ cap, n + m ≤ grownCap w (n + m) cap e := fun cap => grownCap_ge w (n + m) cap e
  have hcm : ∀ cap, grownCap w (n + m) cap e ≤ maxLen := fun cap => grownCap_le_maxLen w (n + m) cap e h63
  have own' : ∀ cap, (w.drew.alloc (.cells ((xs ++ news).toArray ++ Builtin.zeroCells z.cells (grownCap w (n + m) cap e - (n + m))) e)).ownsRow B e 1 (.slice (some ⟨w.heap.size, 0, none⟩) (n + m) (grownCap w (n + m) cap e)) (n + m) (xs ++ news) := fun cap => by
    refine ⟨by simp [hxl, hnl], .inr ⟨w.heap.size, _, _, rfl, hB, heap_alloc_new w.drew _, hge cap, hcm cap, ?_, ?_⟩⟩
    · have := hge cap
      simp only [Array.size_append, List.size_toArray, size_zeroCells, hzs, List.length_append, hxl, hnl]
      omega
    · simp only [Array.toList_append]
      rw [show (n + m) * 1 = (xs ++ news).length from by simp [hxl, hnl]]
      exact List.take_left
  rcases hown.2 with ⟨rfl, hx0⟩ | ⟨g, cap, cur, rfl, hbg, hg, hnc, hcap, hcs, htake⟩
  · obtain rfl : n = 0 := by omega
    have hx : xs = [] := List.eq_nil_of_length_eq_zero hxl
    subst hx
    obtain ⟨v', w', h1, h2, h3, _⟩ := run_append_fresh w B t tx ty e i z 1 i.bytes ht hi hz hsize rfl hzs (.slice none 0 0) (.inl rfl) hown x m news hs (by omega) (by simpa using hbytes) hB
    refine ⟨v', w', h1, ?_, .inl h3⟩
    simpa using h2
  · by_cases hroom : n + m ≤ cap
    · have hcell : ∀ j, j < cur.size → (w.cell? ⟨g, j, none⟩).isSome = true := fun j hj => by rw [cell_blk hg j]; simp [hj]
      have hr := run_append_room_src (P := P) w t tx ty e i ht hi g 0 n cap x m news (by rw [hsize]; exact hs) hroom (fun j hj => by
          rw [hsize]; exact hcell _ (by omega)) (fun j hj => froz_blk hg _)
      rw [hsize] at hr
      simp only [Nat.zero_add, Nat.mul_one] at hr
      obtain ⟨cur', hg', hcs'⟩ := setCells_blk g news n w cur e hg
      refine ⟨_, _, hr, ⟨by simp [hxl, hnl], .inr ⟨g, cap, cur', rfl, hbg, hg', hroom, hcap, by omega, ?_⟩⟩, .inr ⟨g, cap, rfl, rfl, setCells_frame g news n w⟩⟩
      apply List.ext_getElem?
      intro j
      rw [List.getElem?_take]
      by_cases hj : j < (n + m) * 1
      · rw [if_pos hj]
        have hcj : (w.setCells g n news).cell? ⟨g, j, none⟩ = cur'[j]? := cell_blk hg' j
        rw [Array.getElem?_toList, ← hcj]
        by_cases hjn : j < n
        · rw [World.cell?_setCells_out g news n w ⟨g, j, none⟩ (fun _ _ => .inl hjn), cell_blk hg j, List.getElem?_append_left (by omega), ← htake, List.getElem?_take, if_pos (by omega), Array.getElem?_toList]
        · have := World.cell?_setCells_in g news n w (fun k hk => hcell _ (by omega)) (j - n) (by omega)
          rw [show n + (j - n) = j from by omega] at this
          rw [this, List.getElem?_append_right (by omega), hxl, List.getElem?_eq_getElem (by omega)]
      · rw [if_neg hj, List.getElem?_eq_none (by simp [hxl, hnl]; omega)]
    · have hold : (Builtin.firstCells i.size n (.slice (some ⟨g, 0, none⟩) n cap)).run P w.drew = .ok xs.toArray w.drew := by
        rw [hsize]
        refine run_firstCells_some w.drew 1 n ⟨g, 0, none⟩ n cap xs (by simp [hxl]) (fun j u hu => ?_)
        exact hown.cells (g := g) rfl j u hu
      have hr := run_append_grow_src (P := P) w t tx ty e i z ht hi hz (some ⟨g, 0, none⟩) n cap xs hold x m news (by rw [hsize]; exact hs) (by omega) (by omega) (growslice_fits (by omega) hbytes)
      exact ⟨_, _, hr, own' cap, .inl ((Grow.refl w).drew.alloc _)⟩
theorem wp_append_srcs2 {o : Oper} {a : Act} {K : Act → World → Prop} {Q : Exit → Act → World → Prop} (s y : Operand) (t tx : TypeId)
    (ho : o.op = .call { callee := .builtin .append, args := #[s, y], argTypes := #[t, tx] })
    (B : Nat) (e : TypeId) (i : TypeInfo) (z : Value) (bytes : Nat) (ht : P.underlying t = some (.slice e)) (hi : P.info? e = some i) (hz : i.zero = some z)
    (hsize : i.size = 1) (hby : i.bytes = bytes) (hzs : z.cells.size = 1)
    (v : Value) (hsv : a.eval s = v) (n : Nat) (xs : List Value) (hown : w.ownsRow B e 1 v n xs) (x : Value) (hx : a.eval y = x) (m : Nat) (news : List Value) (hs : Src P 1 tx x m news w)
    (h63 : n + m ≤ maxLen) (hbytes : (n + m) * bytes ≤ 140737488355328) (hB : B ≤ w.heap.size)
    (h : ∀ v' w', w'.ownsRow B e 1 v' (n + m) (xs ++ news) → (Grow w w' ∨ ∃ g cap, v = .slice (some ⟨g, 0, none⟩) n cap ∧ v' = .slice (some ⟨g, 0, none⟩) (n + m) cap ∧ w.grownBy w' (some g)) → K (a.put o.dst v') w') : o.wp P a w K Q := by
  obtain ⟨v', w', hrun, h2, h3⟩ := run_append_srcs2 (P := P) w B t tx o.type e i z bytes ht hi hz hsize hby hzs v n xs hown x m news hs h63 hbytes hB
  unfold Oper.wp execOp
  simp only [ho, resolve, invoke, builtin, Sem.run_bind, Sem.run_pure, Result.andThen_ok, List.map_toArray, List.map_cons, List.map_nil, hsv, hx, hrun]
  exact h v' w' h2 h3
theorem wpList_append_srcs2 {ops : Array Oper} {rest : List Oper} {o : Oper} {a : Act} {Q : Exit → Act → World → Prop} (hgd : o.guard = none) (s y : Operand) (t tx : TypeId)
    (ho : o.op = .call { callee := .builtin .append, args := #[s, y], argTypes := #[t, tx] })
    (B : Nat) (e : TypeId) (i : TypeInfo) (z : Value) (bytes : Nat) (ht : P.underlying t = some (.slice e)) (hi : P.info? e = some i) (hz : i.zero = some z)
    (hsize : i.size = 1) (hby : i.bytes = bytes) (hzs : z.cells.size = 1)
    (v : Value) (hsv : a.eval s = v) (n : Nat) (xs : List Value) (hown : w.ownsRow B e 1 v n xs) (x : Value) (hx : a.eval y = x) (m : Nat) (news : List Value) (hs : Src P 1 tx x m news w)
    (h63 : n + m ≤ maxLen) (hbytes : (n + m) * bytes ≤ 140737488355328) (hB : B ≤ w.heap.size)
    (h : ∀ v' w', w'.ownsRow B e 1 v' (n + m) (xs ++ news) → (Grow w w' ∨ ∃ g cap, v = .slice (some ⟨g, 0, none⟩) n cap ∧ v' = .slice (some ⟨g, 0, none⟩) (n + m) cap ∧ w.grownBy w' (some g)) → wpList P ops Q rest (a.put o.dst v') w') : wpList P ops Q (o :: rest) a w :=
  wpList_plain hgd fun _ hK => wp_append_srcs2 w s y t tx ho B e i z bytes ht hi hz hsize hby hzs v hsv n xs hown x hx m news hs h63 hbytes hB fun v' w' h2 h3 => hK _ _ (h v' w' h2 h3)
end
theorem own_at {w : World} {B e n cap g : Nat} {xs : List Value} : w.ownsRow B e 1 (.slice (some ⟨g, 0, none⟩) n cap) n xs ↔
    (xs.length = n ∧ B ≤ g ∧ ∃ cur, w.heap[g]? = some (.cells cur e (0, 0)) ∧ n ≤ cap ∧ cap ≤ maxLen ∧ cur.size = cap ∧ cur.toList.take n = xs) := by
  constructor
  · rintro ⟨h0, h⟩
    rcases h with ⟨h1, _⟩ | ⟨g', cap', cur, h1, h2, h3, h4, h5, h6, h7⟩
    · cases h1
    · injection h1 with h1 _ hc
      injection h1 with h1
      injection h1 with h1 _ _
      subst h1 hc
      exact ⟨by simpa using h0, h2, cur, h3, h4, h5, by simpa using h6, by simpa using h7⟩
  · rintro ⟨h0, h2, cur, h3, h4, h5, h6, h7⟩
    exact ⟨by simpa using h0, .inr ⟨g, cap, cur, rfl, h2, h3, h4, h5, by simpa using h6, by simpa using h7⟩⟩
theorem own_form {w : World} {B e n : Nat} {v : Value} {xs : List Value} (h : w.ownsRow B e 1 v n xs) : v = .slice none 0 0 ∧ n = 0 ∨ ∃ g cap, v = .slice (some ⟨g, 0, none⟩) n cap := by
  rcases h.2 with ⟨h1, h2⟩ | ⟨g, cap, cur, h1, _⟩
  · exact .inl ⟨h1, h2⟩
  · exact .inr ⟨g, cap, h1⟩


/-- what each operation of the region yields -/
def Ph (B1 : Nat) (l SL nv : Value) (j i gr xb : Nat) (x : ByteArray) (Lj : List Value) (k : Nat) (v : Value) (w : World) : Prop := match k with
  | 0 => (∃ g, v = .slice (some ⟨g, 0, none⟩) 0 0) ∧ w.ownsRow B1 9 1 v 0 []
  | 1 => v = l
  | 2 => v = .int .i64 j
  | 3 => v = SL
  | 4 => w.ownsRow B1 9 1 v j Lj
  | 5 => v = .pointer (some ⟨xb, 0, none⟩)
  | 6 => v = .pointer (some ⟨xb, 0, none⟩)
  | 7 => v = .pointer (some ⟨xb, 1, none⟩)
  | 8 => v = nv
  | 9 => v = .int .i64 i
  | 10 => v = .pointer (some ⟨gr, i * 2, none⟩)
  | 11 => v = .pointer (some ⟨gr, i * 2, none⟩)
  | 12 => v = .string x
  | 13 => ∃ g, v = .slice (some ⟨g, 0, none⟩) 1 1 ∧ g < w.heap.size ∧ w.cell? ⟨g, 0, none⟩ = some (.string x)
  | 14 => w.ownsRow B1 9 1 v (j + 1) (Lj ++ [.string x])
  | 15 => w.ownsRow B1 9 1 v (j + 1) (Lj ++ [.string x])
  | _ => True
variable {B1 : Nat} {l SL nv : Value} {j i gr xb : Nat} {x : ByteArray} {Lj : List Value}
theorem Ph.grow {k : Nat} {v : Value} {w w' : World} (hb : Grow w w') (h : Ph B1 l SL nv j i gr xb x Lj k v w) : Ph B1 l SL nv j i gr xb x Lj k v w' := by
  unfold Ph at *
  split at h <;> try exact h
  · exact ⟨h.1, own_grow h.2 hb⟩
  · exact own_grow h hb
  · obtain ⟨g, h1, h2, h3⟩ := h
    exact ⟨g, h1, Nat.lt_of_lt_of_le h2 (Grow.size hb), (Below.cell hb (p := ⟨g, 0, none⟩) h2).trans h3⟩
  · exact own_grow h hb
  · exact own_grow h hb
/-- the new row was written where it lies -/
theorem Ph.room {k : Nat} {v : Value} {w w' : World} {g cap : Nat} (hg : w.grownBy w' (some g)) (h1 : w.ownsRow B1 9 1 (.slice (some ⟨g, 0, none⟩) j cap) j Lj) (h2 : w'.ownsRow B1 9 1 (.slice (some ⟨g, 0, none⟩) (j + 1) cap) (j + 1) (Lj ++ [.string x]))
    (h : Ph B1 l SL nv j i gr xb x Lj k v w) : Ph B1 l SL nv j i gr xb x Lj k v w' := by
  obtain ⟨a0, a1, cur, a2, a3, a4, a5, a6⟩ := own_at.1 h1
  obtain ⟨b0, b1, cur', b2, b3, b4, b5, b6⟩ := own_at.1 h2
  have keep : ∀ (n : Nat) (u : Value) (xs : List Value), w.ownsRow B1 9 1 u n xs → u.ownBlock ≠ some g → w'.ownsRow B1 9 1 u n xs := fun n u xs hu hne => hu.kept hg (.inr hne)
  have capEq : ∀ (n cap2 : Nat) (xs : List Value), w.ownsRow B1 9 1 (.slice (some ⟨g, 0, none⟩) n cap2) n xs → cap2 = cap := fun n cap2 xs hu => by
    obtain ⟨_, _, cur2, c2, _, _, c5, _⟩ := own_at.1 hu
    rw [a2] at c2
    injection c2 with c2
    injection c2 with c2 _ _
    rw [← c2] at c5
    omega
  unfold Ph at *
  split at h <;> try exact h
  · obtain ⟨⟨g', rfl⟩, h⟩ := h
    refine ⟨⟨g', rfl⟩, keep _ _ _ h (fun e => ?_)⟩
    have e' : g' = g := by simpa [Value.ownBlock] using e
    subst e'
    have := capEq _ _ _ h
    omega
  · by_cases e : v.ownBlock = some g
    · rcases own_form h with ⟨rfl, _⟩ | ⟨g', cap2, rfl⟩
      · cases e
      · have e' : g' = g := by simpa [Value.ownBlock] using e
        subst e'
        have := capEq _ _ _ h
        subst this
        refine own_at.2 ⟨a0, a1, cur', b2, a3, a4, b5, ?_⟩
        have : cur'.toList.take j = (cur'.toList.take (j + 1)).take j := by rw [List.take_take, Nat.min_eq_left (by omega)]
        rw [this, b6, List.take_left' a0]
    · exact keep _ _ _ h e
  · obtain ⟨g', rfl, hlt, hc⟩ := h
    refine ⟨g', rfl, Nat.lt_of_lt_of_le hlt hg.size, ?_⟩
    by_cases e : g' = g
    · subst e
      rw [cell_blk a2] at hc
      rw [cell_blk b2]
      have hb : cur'[0]? = (Lj ++ [Value.string x])[0]? := by
        rw [← b6, List.getElem?_take, if_pos (by omega), Array.getElem?_toList]
      rw [hb]
      rcases Nat.eq_zero_or_pos j with h0 | h0
      · have : Lj = [] := by
          have := a0; rw [h0] at this; simpa using this
        rw [this]; rfl
      · rw [List.getElem?_append_left (by omega), ← a6, List.getElem?_take, if_pos h0, Array.getElem?_toList]
        exact hc
    · exact hg.cell hc (by simp [e])
  · by_cases e : v.ownBlock = some g
    · rcases own_form h with ⟨rfl, _⟩ | ⟨g', cap2, rfl⟩
      · cases e
      · have e' : g' = g := by simpa [Value.ownBlock] using e
        subst e'
        have := capEq _ _ _ h
        subst this
        exact h2
    · exact keep _ _ _ h e
  · by_cases e : v.ownBlock = some g
    · rcases own_form h with ⟨rfl, _⟩ | ⟨g', cap2, rfl⟩
      · cases e
      · have e' : g' = g := by simpa [Value.ownBlock] using e
        subst e'
        have := capEq _ _ _ h
        subst this
        exact h2
    · exact keep _ _ _ h e
/-- what the region's steps keep -/
def Rn (B1 : Nat) (l SL nv : Value) (j i gr xb : Nat) (x : ByteArray) (Lj : List Value) (w w' : World) : Prop := Below B1 w w' ∧ ∀ k v, Ph B1 l SL nv j i gr xb x Lj k v w → Ph B1 l SL nv j i gr xb x Lj k v w'
theorem Rn.refl (w : World) : Rn B1 l SL nv j i gr xb x Lj w w := ⟨Below.refl _ _, fun _ _ h => h⟩
theorem Rn.trans (a b c : World) (h : Rn B1 l SL nv j i gr xb x Lj a b) (k : Rn B1 l SL nv j i gr xb x Lj b c) : Rn B1 l SL nv j i gr xb x Lj a c := ⟨h.1.trans k.1, fun n v hv => k.2 n v (h.2 n v hv)⟩
theorem Rn.grow {w w' : World} (hb : Grow w w') (hB : B1 ≤ w.heap.size) : Rn B1 l SL nv j i gr xb x Lj w w' := ⟨Below.mono hb hB, fun _ _ h => h.grow hb⟩

/-- one name goes in before the first that is not less -/
def ltB (y x : ByteArray) : Bool := Op.bytesLess y.toList x.toList
def insAt (L : List ByteArray) (x : ByteArray) : Nat := (L.takeWhile fun y => ltB y x).length
def insN (L : List ByteArray) (x : ByteArray) : List ByteArray := L.take (insAt L x) ++ [x] ++ L.drop (insAt L x)
theorem insAt_eq (L : List ByteArray) (x : ByteArray) (j : Nat) (h : ∀ i y, i < j → L[i]? = some y → ltB y x = true) (he : ∀ y, L[j]? = some y → ltB y x = false) (hj : j ≤ L.length) : insAt L x = j := by
  unfold insAt
  induction L generalizing j with
  | nil => simp at hj; simp [hj]
  | cons a L ih =>
    cases j with
    | zero =>
      have := he a rfl
      simp [List.takeWhile_cons, this]
    | succ j =>
      have h0 := h 0 a (by omega) rfl
      rw [List.takeWhile_cons, h0]
      simp only [if_true, List.length_cons]
      rw [ih j (fun i y hi hy => h (i + 1) y (by omega) (by simpa using hy)) (fun y hy => he y (by simpa using hy)) (by simpa using hj)]
theorem insAt_le (L : List ByteArray) (x : ByteArray) : insAt L x ≤ L.length := by
  unfold insAt
  exact (List.takeWhile_sublist _).length_le
theorem insN_len (L : List ByteArray) (x : ByteArray) : (insN L x).length = L.length + 1 := by
  unfold insN
  have h := insAt_le L x
  simp [List.length_take, List.length_drop]
  omega
def insAll (fs : List File) : List ByteArray := (fs.map (·.1)).foldl insN []
theorem foldl_len : ∀ (xs L : List ByteArray), (xs.foldl insN L).length = L.length + xs.length
  | [], L => rfl
  | x :: xs, L => by
    rw [List.foldl_cons, foldl_len xs, insN_len, List.length_cons]
    omega
theorem insAll_len (fs : List File) : (insAll fs).length = fs.length := by
  unfold insAll
  rw [foldl_len]
  simp
theorem insAll_next (fs : List File) (k : Nat) (p : File) (h : fs[k]? = some p) : insAll (fs.take (k + 1)) = insN (insAll (fs.take k)) p.1 := by
  unfold insAll
  rw [List.take_add_one, h]
  simp
theorem ltB_eq (y x : ByteArray) : ltB y x = decide (y.data.toList < x.data.toList) := by
  unfold ltB
  rw [bytesLess_eq, Lib.toList_data, Lib.toList_data]
theorem insN_perm (L : List ByteArray) (x : ByteArray) : (insN L x).Perm (x :: L) := by
  unfold insN
  have h := List.take_append_drop (insAt L x) L
  rw [List.append_assoc]
  refine List.perm_middle.trans ?_
  show (x :: (List.take (insAt L x) L ++ List.drop (insAt L x) L)).Perm (x :: L)
  rw [h]
theorem foldl_perm : ∀ (xs L : List ByteArray), (xs.foldl insN L).Perm (xs ++ L)
  | [], L => List.Perm.refl _
  | x :: xs, L => by
    rw [List.foldl_cons]
    refine (foldl_perm xs _).trans ?_
    refine ((insN_perm L x).append_left xs).trans ?_
    exact List.perm_middle
abbrev leS (a b : ByteArray) : Prop := a.data.toList ≤ b.data.toList
theorem insN_sorted (L : List ByteArray) (x : ByteArray) (h : L.Pairwise leS) : (insN L x).Pairwise leS := by
  unfold insN insAt
  induction L with
  | nil => simp
  | cons a L ih =>
    rw [List.pairwise_cons] at h
    rw [List.takeWhile_cons]
    cases hb : ltB a x with
    | true =>
      rw [ltB_eq, decide_eq_true_eq] at hb
      simp only [if_true, List.length_cons, List.take_succ_cons, List.drop_succ_cons, List.cons_append]
      rw [List.pairwise_cons]
      refine ⟨fun b hb' => ?_, ih h.2⟩
      have hm : b ∈ x :: L := (insN_perm L x).mem_iff.1 hb'
      rcases List.mem_cons.1 hm with rfl | hm
      · exact List.le_of_lt hb
      · exact h.1 b hm
    | false =>
      rw [ltB_eq, decide_eq_false_iff_not] at hb
      simp only [List.length_nil, List.take_zero, List.drop_zero, List.nil_append, List.cons_append, Bool.false_eq_true, if_false]
      have hxa : leS x a := List.not_lt.1 hb
      rw [List.pairwise_cons]
      refine ⟨fun b hb' => ?_, List.pairwise_cons.2 h⟩
      rcases List.mem_cons.1 hb' with rfl | hm
      · exact hxa
      · exact List.le_trans hxa (h.1 b hm)
theorem foldl_sorted : ∀ (xs L : List ByteArray), L.Pairwise leS → (xs.foldl insN L).Pairwise leS
  | [], L, h => h
  | x :: xs, L, h => by
    rw [List.foldl_cons]
    exact foldl_sorted xs _ (insN_sorted L x h)
/-- both lists are one -/
theorem insAll_sort (fs : List File) : (insAll fs).map (fun s => s.data.toList) = sortN fs := by
  unfold sortN
  have hp : ((insAll fs).map (fun s => s.data.toList)).Perm (fs.map fun p => p.1.data.toList) := by
    unfold insAll
    have := (foldl_perm (fs.map (·.1)) []).map (fun s : ByteArray => s.data.toList)
    rw [List.append_nil, List.map_map] at this
    exact this
  have hs : ((insAll fs).map (fun s => s.data.toList)).Pairwise (fun a b => leB a b = true) := by
    refine List.pairwise_map.2 ((foldl_sorted (fs.map (·.1)) [] List.Pairwise.nil).imp (fun {a b} h => ?_))
    simpa [leB] using h
  have tr : ∀ a b c : List UInt8, leB a b = true → leB b c = true → leB a c = true := fun a b c h1 h2 => by simp only [leB, decide_eq_true_eq] at *; exact List.le_trans h1 h2
  have to : ∀ a b : List UInt8, (leB a b || leB b a) = true := fun a b => by simp only [leB, Bool.or_eq_true, decide_eq_true_eq]; exact List.le_total a b
  refine List.Perm.eq_of_pairwise (le := fun a b => leB a b = true) (fun a b _ _ h1 h2 => ?_) hs (List.pairwise_mergeSort tr to _) (hp.trans (List.mergeSort_perm _ _).symm)
  simp only [leB, decide_eq_true_eq] at h1 h2
  exact List.le_antisymm h1 h2
theorem insAll_enc (fs : List File) : (insAll fs).map Value.string = (sortN fs).map encStr := by
  rw [← insAll_sort, List.map_map]
  apply List.map_congr_left
  intro s _
  simp [encStr]
end Go.Proofs.Yticpldjcmhpjoaa
