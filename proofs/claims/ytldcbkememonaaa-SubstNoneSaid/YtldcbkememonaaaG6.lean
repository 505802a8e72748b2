/-
  The walk of graticuleref12's walk.
-/
import Derived.Test.YtldcbkememonaaaG5
import Derived.Test.YtldcbkememonaaaG4
import Derived.Deep.Cut

namespace Go.Proofs.Ytldcbkememonaaa
open Go.RowKit
set_option linter.unusedVariables false
set_option linter.unusedSimpArgs false

theorem Try.info4x : (Try.prog.info? 4).map (fun i => (i.zero, i.size, i.bytes)) = some (some (.bool false), 1, 1) := by kernel_rfl
theorem AW.mk' {L : List Ins} {tx : ByteArray} {RES : Option (List Int)} {N B bs : Nat} {W1 : World} {m f : Nat} {tv : Value} {wr : World} {todo : List (Way × Nat)} {S : List (Int × Nat)} (h1 : walkF L tx f todo S = some RES) (h2 : MW tx N B bs W1 todo S tv wr) (h3 : WOk L tx S)
    (h4 : ∀ p ∈ todo, wf64 p.1.at_ ∧ p.1.ps.length = m ∧ p.2 ≤ tx.size) (h5 : todo.length + 2 * (L.length * (tx.size + 1) - S.length) ≤ 2 * (L.length * (tx.size + 1)) + 1) : AW L tx RES N B bs W1 m f tv wr := ⟨⟨todo, S, h1, h2, h3, h4, h5⟩⟩
theorem ints_src {w : World} {xs : List Int} {g n c : Nat} (h : IntsIn xs (.slice (some ⟨g, 0, none⟩) n c) w) (hn : n = xs.length) : ∀ (j : Nat) (v : Value), (xs.map (Value.int .i64))[j]? = some v → w.cell? ((⟨g, 0, none⟩ : Addr).add j) = some v := fun j v hj => by
  subst hn
  have ea : ((⟨g, 0, none⟩ : Addr).add j) = ⟨g, j, none⟩ := by
    unfold Addr.add
    split
    · rename_i h0; rw [h0]
    · simp
  have hl : j < xs.length := by
    rcases Nat.lt_or_ge j xs.length with h1 | h1
    · exact h1
    · rw [List.getElem?_eq_none (by simpa using h1)] at hj; cases hj
  rw [ea, World.ownsRow.cellAt h j (by omega)]
  exact hj
theorem ints_one (xs : List Int) : ∀ u ∈ xs.map (Value.int .i64), u.oneCell' = true := fun u hu => by
  obtain ⟨x, _, rfl⟩ := List.mem_map.1 hu
  rfl
theorem rep_snoc (j : Nat) (x : Int) : (List.replicate (j + 1) x).map (Value.int .i64) = (List.replicate j x).map (Value.int .i64) ++ [.int .i64 x] := by
  rw [List.replicate_succ', List.map_append]; rfl
set_option maxRecDepth 100000 in
set_option maxHeartbeats 80000000 in
theorem walk33_any (L : List Ins) (tx : ByteArray) (G q0 : Nat) (R : Option (List Int)) (hR : walkF L tx (fuelW L tx) [(⟨List.replicate (2 * G + 2) (-1), 0⟩, q0)] [] = some R) (w : World) (a : Option Addr) (c g o : Nat) (hrd : RdI L g o w) (had : 0 < L.length → a = some ⟨g, o, none⟩) (LO : LOk L) (htx : tx.size ≤ 10000) (hG : G ≤ 1024) (hq0 : q0 ≤ tx.size) :
    Calls Try.prog 33 #[.agg #[.int .i64 G, .slice a L.length c], .string tx, .int .i64 q0] w (FindP R w) := by
  obtain ⟨i3, hi3, hy0, hy1, hy2⟩ := info_parts Try.info3x
  obtain ⟨i0, hi0, hz0, hz1, hz2⟩ := info_parts (show (Try.prog.info? 93).map (fun i => (i.zero, i.size, i.bytes)) = some (some (.agg #[.int .i64 0, .int .i64 0, .slice none 0 0]), 3, 40) by kernel_rfl)
  obtain ⟨m, hm⟩ : ∃ m, m = 2 * G + 2 := ⟨_, rfl⟩
  rw [← hm] at hR
  obtain ⟨N, hN⟩ : ∃ N, N = L.length * (tx.size + 1) := ⟨_, rfl⟩
  obtain ⟨nL, hnL⟩ : ∃ nL, nL = L.length := ⟨_, rfl⟩
  have hN2 : (nL : Int) * ((tx.size : Int) + 1) = (N : Int) := by rw [hN, hnL]; push_cast; rfl
  have hNb : N ≤ 100000 * 10001 := by rw [hN]; exact Nat.mul_le_mul LO.len (by omega)
  have hnLb : nL ≤ 100000 := by rw [hnL]; exact LO.len
  have hmI : (m : Int) = 2 * (G : Int) + 2 := by omega
  have hm6 : m ≤ 100000 := by omega
  have hm2 : 2 ≤ m := by omega
  rw [← hnL]
  have HM := Lib.hid hm
  have HMI := Lib.hid hmI
  have HN := Lib.hid hN
  have HN2 := Lib.hid hN2
  have HNL := Lib.hid hnL
  have HRD := Lib.hid hrd
  have HAD := Lib.hid had
  have HLO := Lib.hid LO
  have HR := Lib.hid hR
  clear hm hN hN2 hnL hrd had LO hR hmI
  obtain ⟨W1, hW1⟩ : ∃ W1, W1 = w.alloc (.cells #[.int .i64 G, .slice a nL c] 33) := ⟨_, rfl⟩
  have G1 := Lib.hid (show Grow w W1 from by rw [hW1]; exact (Grow.refl w).alloc _)
  have PB := Lib.hid (show W1.heap[w.heap.size]? = some (.cells #[.int .i64 G, .slice a nL c] 33 (0, 0)) from by rw [hW1]; exact heap_alloc_new w _)
  have z1 : w.heap.size < W1.heap.size := lt_blk PB.out
  have HW1 := Lib.hid hW1
  clear hW1
  have N0 := Lib.hid (World.ownsRow_nil W1 W1.heap.size 3 1)
  go_enter Try.func33, Try.ntmps33
  go_wp2
  rw [← HW1.out]
  go_loopw [8, 9] (fun t8 t9 wr => ∃ (j : Nat), j ≤ m ∧ t9 = .int .i64 j ∧ Hid (wr.ownsRow W1.heap.size 3 1 t8 j ((List.replicate j (-1)).map (Value.int .i64))) ∧ Hid (Grow W1 wr)) (fun _ t9 _ => m - (intOf t9).toNat)
  case atStart => exact ⟨0, by omega, rfl, Lib.hid (by simpa using N0.out), Lib.hid (Grow.refl W1)⟩
  case round =>
    obtain ⟨j, hj, rfl, HO, HG⟩ := hrel
    have k0 : (0 : Int) ≤ (j : Int) := by omega
    have pb := (Below.block HG.out _ z1).trans PB.out
    have p0 := cell_blk pb 0
    have p1 := cell_blk pb 1
    simp at p0 p1
    have zr : w.heap.size < wr.heap.size := lt_blk pb
    have HPB := Lib.hid pb
    clear pb
    have gk0 : (0 : Int) ≤ (G : Int) := by omega
    have gk1 : (G : Int) ≤ 1024 := by omega
    by_cases hlt : j < m
    · have k1 : (j : Int) < 2 * (G : Int) + 2 := by have := HMI.out; omega
      have mx : j + 1 ≤ maxLen := by unfold maxLen; omega
      have hs1 : W1.heap.size ≤ wr.heap.size := Grow.size HG.out
      go_wp2_with (at_builtin; refine wpList_append_lies _ (by rfl) _ _ _ (by rfl) W1.heap.size 3 i3 _ 1 8 Try.underlying27 hi3 hy0 hy1 hy2 rfl (by omega) _ j ((List.replicate j (-1)).map (Value.int .i64)) (by rfl) (own_grow HO.out ((Grow.refl _).alloc _)) ⟨wr.heap.size, 0, none⟩ 1 1 [.int .i64 (-1)] (by rfl) (by rfl) (World.news_of_block (cs := #[.int .i64 (-1)]) (t := 3) (fr := (0, 0)) (heap_alloc_new wr _)) (by intro u hu; simp at hu; subst hu; rfl) (by omega) mx (by omega) (by simp; omega) (wr.heap.size + 1) (by simp) ?_; intro gg8 cp8 w8 hown8 hgrow8 hat8 hlt8; have H8 := Lib.hid (And.intro hown8 hgrow8); clear hown8 hgrow8 hat8)
      have O8 := Lib.hid (show w8.ownsRow W1.heap.size 3 1 (.slice (some ⟨gg8, 0, none⟩) (j + 1) cp8) (j + 1) ((List.replicate (j + 1) (-1)).map (Value.int .i64)) from by rw [rep_snoc]; exact H8.out.1)
      have G8 := Lib.hid (show Grow W1 w8 from Below.grown (HG.out.alloc _) H8.out.2 (by simp; omega) (fun q hq => (HO.out.lt q hq).1))
      clear H8
      go_roundw
      case rel => exact ⟨j + 1, by omega, by go_num, O8, G8⟩
      case measure => simp [intOf]; omega
    · have k1 : ¬ (j : Int) < 2 * (G : Int) + 2 := by have := HMI.out; omega
      obtain rfl : m = j := by omega
      obtain ⟨gn, cn, hnv, hgn0, hgn1⟩ := HO.out.form (by omega)
      subst hnv
      have NWI := Lib.hid (show IntsIn (List.replicate m (-1)) (.slice (some ⟨gn, 0, none⟩) m cn) wr from by unfold IntsIn; rw [List.length_replicate]; exact Joins.ownsRow_le HO.out (Nat.zero_le _))
      have hmk := run_make_row' (P := Try.prog) 91 4 (.bool false) 1 Try.underlying91 Try.info4x rfl .i64 .i64 N (by omega) (by omega)
      have hN2 := HN2.out
      clear N0
      go_wp2
      obtain ⟨W4, hW4⟩ : ∃ W4, W4 = wr.alloc (.cells (madeCells #[.bool false] N) 4) := ⟨_, rfl⟩
      obtain ⟨W5, hW5⟩ : ∃ W5, W5 = W4.alloc (.cells #[.int .i64 0, .int .i64 q0, .slice (some ⟨gn, 0, none⟩) m cn] 93) := ⟨_, rfl⟩
      have z4 : W4.heap.size = wr.heap.size + 1 := by rw [hW4]; simp
      have g4 : Grow wr W4 := by rw [hW4]; exact (Grow.refl wr).alloc _
      have g5 : Grow W4 W5 := by rw [hW5]; exact (Grow.refl W4).alloc _
      obtain ⟨bs, hbs⟩ : ∃ bs, bs = wr.heap.size := ⟨_, rfl⟩
      have START : Hid (AW L tx R N (bs + 1) bs W1 m (fuelW L tx) (.slice (some ⟨bs + 1, 0, none⟩) 1 1) W5) := Lib.hid (by
        refine AW.mk' HR.out ⟨⟨[.int .i64 0, .int .i64 q0, .slice (some ⟨gn, 0, none⟩) m cn], ?_, ?_⟩, ?_, (HG.out.trans2 g4).trans2 g5, ⟨by rw [hbs]; exact Grow.size HG.out, by omega⟩⟩ ⟨List.nodup_nil, by simp⟩ (fun p hp => ?_) (by simp; omega)
        · have := World.ownsRow_lit (base := bs + 1) (e := 93) (size := 3) W4 #[.int .i64 0, .int .i64 q0, .slice (some ⟨gn, 0, none⟩) m cn] 1 (by rw [z4, hbs]; exact Nat.le_refl _) (by unfold maxLen; omega) (by simp)
          rw [z4, ← hbs, ← hW5] at this
          simpa using this
        · exact W3.cons ⟨List.replicate m (-1), 0⟩ q0 [] _ [] (NWI.out.grow (g4.trans2 g5)) .nil
        · rw [marks_new, Below.block g5 _ (by rw [z4, hbs]; omega), hW4, hbs]
          exact heap_alloc_new wr _
        · simp at hp
          subst hp
          exact ⟨(show (Lit.int .i64 0).wf = true from rfl), by simp, hq0⟩)
      rw [← hW4, ← hW5, ← hbs]
      have HG5 := Lib.hid ((HG.out.trans2 g4).trans2 g5)
      clear hW4 hW5 g4 g5 hmk hN2 p0 p1 z4 hbs
      clear HO NWI
      go_loopw [11] (fun tv wr => ∃ f, AW L tx R N (bs + 1) bs W1 m f tv wr) (fun tv wr => least (fun f => AW L tx R N (bs + 1) bs W1 m f tv wr))
      case atStart => exact ⟨_, START.out⟩
      case round =>
        have hRR := least_spec hrel
        obtain ⟨f, hf⟩ : ∃ f, f = least (fun n => AW L tx R N (bs + 1) bs W1 m n u11 wr) := ⟨_, rfl⟩
        rw [← hf] at hRR
        have HFL := Lib.hid hf
        obtain ⟨⟨todo, S, hwalk, hmw, hok, hwy, hbd⟩⟩ := hRR
        obtain ⟨ct, hown, hct⟩ := hmw.own
        cases todo with
        | nil =>
          obtain ⟨at0, ct0, hu11, _⟩ := own_shape hown
          simp only [List.length_nil] at hu11
          have hRES : R = none := by
            cases f with
            | zero => simp [walkF] at hwalk; exact hwalk.symm
            | succ f => simp [walkF] at hwalk; exact hwalk.symm
          subst hRES
          subst hu11
          have GW := Lib.hid (G1.out.trans2 hmw.gr)
          clear hrel hwalk hmw hok hwy hbd hown hct hf HFL START
          go_wp2
          go_ret2
          exact ⟨_, rfl, rfl, GW.out⟩
        | cons xq rest =>
          obtain ⟨x, q⟩ := xq
          obtain ⟨gt, cpt, hu8, hgt0, hgt⟩ := hown.form (by simp)
          obtain ⟨n, hn⟩ : ∃ n, n = rest.length := ⟨_, rfl⟩
          have hlen : ((x, q) :: rest).length = n + 1 := by simp [hn]
          rw [hlen] at hu8 hown
          subst hu8
          rw [List.reverse_cons] at hct
          obtain ⟨ct1, pvx, rfl, hct1, hpx⟩ := hct.pop
          have hxm := (hwy (x, q) (by simp)).2.1
          have hqb := (hwy (x, q) (by simp)).2.2
          have hwA := (hwy (x, q) (by simp)).1
          simp only at hxm hqb hwA
          have hpx' : wr.ownsRow 0 3 1 pvx m (x.ps.map (Value.int .i64)) := by rw [← hxm]; exact hpx
          obtain ⟨gx, cpx, rfl, _, _⟩ := hpx'.form (by omega)
          clear hpx'
          have hl1 : ct1.length = n * 3 := by rw [hct1.len, List.length_reverse, hn]
          have e0 : wr.cell? ⟨gt, n * 3, none⟩ = some (.int .i64 x.at_) := by
            rw [World.ownsRow.cellAt hown (n * 3) (by omega), List.getElem?_append_right (by omega), hl1, Nat.sub_self]
            rfl
          have e1 : wr.cell? ⟨gt, n * 3 + 1, none⟩ = some (.int .i64 q) := by
            rw [World.ownsRow.cellAt hown (n * 3 + 1) (by omega), List.getElem?_append_right (by omega), hl1, show n * 3 + 1 - n * 3 = 1 from by omega]
            rfl
          have e2 : wr.cell? ⟨gt, n * 3 + 2, none⟩ = some (.slice (some ⟨gx, 0, none⟩) m cpx) := by
            rw [World.ownsRow.cellAt hown (n * 3 + 2) (by omega), List.getElem?_append_right (by omega), hl1, show n * 3 + 2 - n * 3 = 2 from by omega]
            rfl
          obtain ⟨A, hA⟩ : ∃ A, A = x.at_ := ⟨_, rfl⟩
          rw [← hA] at e0 hwA
          have hbN := hbd
          rw [hlen, ← HN.out] at hbN
          have hn6 : n ≤ 3000000000 := by omega
          have hcp : (n : Int) ≤ (cpt : Int) := by have := own_cap hown; omega
          have hcp2 : n ≤ cpt := by omega
          have n0' : (0 : Int) ≤ (n : Int) := by omega
          obtain ⟨W2, hW2⟩ : ∃ W2, W2 = wr.alloc (.cells #[.int .i64 A, .int .i64 q, .slice (some ⟨gx, 0, none⟩) m cpx] 93) := ⟨_, rfl⟩
          have hbb := heap_alloc_new wr (.cells #[.int .i64 A, .int .i64 q, .slice (some ⟨gx, 0, none⟩) m cpx] 93)
          have g2 := (Grow.refl wr).alloc (.cells #[.int .i64 A, .int .i64 q, .slice (some ⟨gx, 0, none⟩) m cpx] 93)
          have z2 : (wr.alloc (.cells #[.int .i64 A, .int .i64 q, .slice (some ⟨gx, 0, none⟩) m cpx] 93)).heap.size = wr.heap.size + 1 := by simp
          rw [← hW2] at hbb g2 z2
          have MW2 : MW tx N (bs + 1) bs W1 rest S (.slice (some ⟨gt, 0, none⟩) n cpt) W2 := MW.grow ⟨⟨ct1, by rw [← hn]; exact own_pop3 hown hl1, hct1⟩, hmw.seen, hmw.gr, hmw.lo⟩ g2
          have hpb := (Below.block (hmw.gr.trans2 g2) _ z1).trans PB.out
          have p0 := cell_blk hpb 0
          have p1 := cell_blk hpb 1
          have x0c := cell_blk hbb 0
          have x1c := cell_blk hbb 1
          have x2c := cell_blk hbb 2
          simp at p0 p1 x0c x1c x2c
          have hbx2 : wr.heap.size < W2.heap.size := lt_blk hbb
          have hbs2 : bs < W2.heap.size := lt_blk MW2.seen
          have hb02 : w.heap.size < W2.heap.size := lt_blk hpb
          have HMW := Lib.hid MW2
          have HBB := Lib.hid hbb
          have HPB2 := Lib.hid hpb
          have HG2 := Lib.hid g2
          have HWK := Lib.hid hwalk
          have HOK := Lib.hid hok
          have HWY := Lib.hid (show ∀ p ∈ rest, wf64 p.1.at_ ∧ p.1.ps.length = m ∧ p.2 ≤ tx.size from fun p hp => hwy p (by simp [hp]))
          have HBD := Lib.hid hbd
          have HREL := Lib.hid hrel
          have HA := Lib.hid hA
          have HNN := Lib.hid hn
          have HXM := Lib.hid hxm
          have HWA := Lib.hid hwA
          have HPX := Lib.hid hpx
          have HLEN := Lib.hid hlen
          have HBN := Lib.hid hbN
          clear hwalk hmw hok hwy hbd hrel hf START hown hct hct1 hpx hxm hwA hl1 hn hlen hA MW2 hbb hpb g2 HG5 hbN
          have q0' : (0 : Int) ≤ (q : Int) := by omega
          have SKIP : Hid (A < 0 ∨ (nL : Int) ≤ A ∨ S.contains (A, q) = true → ∃ f', f' < f ∧ AW L tx R N (bs + 1) bs W1 m f' (.slice (some ⟨gt, 0, none⟩) n cpt) W2) := Lib.hid (fun hsk => by
            have h1 := HWK.out
            cases f with
            | zero => simp [walkF] at h1
            | succ f =>
              unfold walkF at h1
              rw [if_pos (by rw [← HA.out, ← HNL.out]; exact hsk)] at h1
              exact ⟨f, by omega, AW.mk' h1 HMW.out HOK.out HWY.out (by have := HBD.out; rw [HLEN.out] at this; rw [← HNN.out]; omega)⟩)
          go_upto_region 11 with fail
          rw [← hW2]
          clear hW2 e0 e1 e2
          by_cases hA0 : A < 0
          · obtain ⟨f', hlt', har⟩ := SKIP.out (.inl hA0)
            have HLT' := Lib.hid hlt'
            have HAR := Lib.hid har
            clear hlt' har SKIP
            go_wp2
            go_roundw
            case rel => exact ⟨f', HAR.out⟩
            case measure => rw [← HFL.out]; exact Nat.lt_of_le_of_lt (least_le HAR.out) HLT'.out
          · by_cases hA1 : (nL : Int) ≤ A
            · obtain ⟨f', hlt', har⟩ := SKIP.out (.inr (.inl hA1))
              have HLT' := Lib.hid hlt'
              have HAR := Lib.hid har
              clear hlt' har SKIP
              go_wp2
              go_roundw
              case rel => exact ⟨f', HAR.out⟩
              case measure => rw [← HFL.out]; exact Nat.lt_of_le_of_lt (least_le HAR.out) HLT'.out
            · obtain ⟨k, rfl⟩ : ∃ k : Nat, A = k := ⟨A.toNat, by omega⟩
              have k0 : (0 : Int) ≤ (k : Int) := by omega
              have kn : k < nL := by omega
              obtain ⟨M, hM⟩ : ∃ M, M = k * (tx.size + 1) := ⟨_, rfl⟩
              have hMI : (k : Int) * ((tx.size : Int) + 1) = (M : Int) := by rw [hM]; push_cast; rfl
              have hMN : M + (tx.size + 1) ≤ N := by
                rw [hM, HN.out, ← HNL.out, ← Nat.succ_mul]
                exact Nat.mul_le_mul_right _ kn
              have hidx : ((M + q : Nat) : Int) = idx tx ((k : Int), q) := by unfold idx; simp only; push_cast; rw [hMI]
              have HIDX := Lib.hid hidx
              have hjN : M + q < N := by omega
              have sc : W2.cell? ⟨bs, M + q, none⟩ = some (.bool (S.contains ((k : Int), q))) := by
                rw [cell_blk HMW.out.seen, marks_at _ _ _ _ hjN, mark_iff HOK.out k q _ hqb HIDX.out]
              have hjI : (M : Int) + (q : Int) < (N : Int) := by omega
              have hM0 : (0 : Int) ≤ (M : Int) := by omega
              have hMb : (M : Int) ≤ 2000000000 := by omega
              have hqI : (q : Int) ≤ 10000 := by omega
              have HMI2 := Lib.hid hMI
              have HKN := Lib.hid kn
              clear hM hidx
              cases hc : S.contains ((k : Int), q) with
              | true =>
                obtain ⟨f', hlt', har⟩ := SKIP.out (.inr (.inr hc))
                have HLT' := Lib.hid hlt'
                have HAR := Lib.hid har
                rw [hc] at sc
                clear hlt' har SKIP hc
                go_wp2
                go_roundw
                case rel => exact ⟨f', HAR.out⟩
                case measure => rw [← HFL.out]; exact Nat.lt_of_le_of_lt (least_le HAR.out) HLT'.out
              | false =>
                rw [hc] at sc
                have HC := Lib.hid hc
                clear SKIP hc
                have sfz : W2.frozen? ⟨bs, M + q, none⟩ = false := froz_blk HMW.out.seen _
                go_upto_region 13 with fail
                obtain ⟨W3, hW3⟩ : ∃ W3, W3 = W2.setCell ⟨bs, M + q, none⟩ (.bool true) := ⟨_, rfl⟩
                have MW3 : MW tx N (bs + 1) bs W1 rest (((k : Int), q) :: S) (.slice (some ⟨gt, 0, none⟩) n cpt) W3 := by rw [hW3]; exact HMW.out.mark HIDX.out
                have st3 : IntsStay W2 W3 := by
                  rw [hW3]
                  exact IntsStay.set (fun cur e => by
                    rw [HMW.out.seen] at e
                    injection e with e
                    injection e with _ e _
                    exact absurd e (by decide))
                have z3 : W3.heap.size = W2.heap.size := by rw [hW3]; simp
                have hnb : wr.heap.size ≠ bs := by have := HMW.out.lo; have := lt_blk HMW.out.seen; omega
                have hb93 : W3.heap[wr.heap.size]? = some (.cells #[.int .i64 (k : Int), .int .i64 q, (.slice (some ⟨gx, 0, none⟩) m cpx)] 93 (0, 0)) := by rw [hW3]; exact (heap_setCell_other _ _ _ _ hnb).trans HBB.out
                have hb33 := (Below.block MW3.gr _ z1).trans PB.out
                have x0c := cell_blk hb93 0
                have y1 := cell_blk hb33 1
                simp at x0c y1
                have hkL : k < L.length := by rw [← HNL.out]; exact kn
                obtain ⟨I, hI⟩ : ∃ I, L[k]? = some I := ⟨_, List.getElem?_eq_getElem hkL⟩
                have ha := HAD.out (by omega)
                subst ha
                obtain ⟨qq, q1, q2, q3, q4⟩ := HRD.out.grow (G1.out.trans2 MW3.gr) k I hI
                obtain ⟨op, ix, iy, ips⟩ := I
                simp only at q1 q2 q3 q4
                have HI := Lib.hid hI
                have HM3 := Lib.hid MW3
                have HST3 := Lib.hid st3
                have HB93 := Lib.hid hb93
                have hkI : (k : Int) < (nL : Int) := by omega
                rw [← hW3]
                clear hW3 hI MW3 st3 hb93 hb33 sc sfz x1c x2c p0 p1 hA1 hMN hjN hjI hMb
                clear hMI
                go_upto_region 14 with fail
                obtain ⟨W9, hW9⟩ : ∃ W9, W9 = W3.alloc (.cells #[.int .i64 op, .int .i64 ix, .int .i64 iy, .string ips] 76) := ⟨_, rfl⟩
                have g9 : Grow W3 W9 := by rw [hW9]; exact (Grow.refl W3).alloc _
                have hb76 : W9.heap[wr.heap.size + 1]? = some (.cells #[.int .i64 op, .int .i64 ix, .int .i64 iy, .string ips] 76 (0, 0)) := by rw [hW9, ← z2, ← z3]; exact heap_alloc_new W3 _
                have hb93 : W9.heap[wr.heap.size]? = some (.cells #[.int .i64 (k : Int), .int .i64 q, (.slice (some ⟨gx, 0, none⟩) m cpx)] 93 (0, 0)) := (Below.block g9 _ (lt_blk HB93.out)).trans HB93.out
                have MD := Lib.hid (HM3.out.grow g9)
                have HPX9 := Lib.hid (show IntsIn x.ps (.slice (some ⟨gx, 0, none⟩) m cpx) W9 from ((IntsStay.grow HG2.out).trans (HST3.out.trans (IntsStay.grow g9))) _ _ HPX.out)
                rw [← hW9]
                clear hW9 q1 q2 q3 q4 y1 x0c
                have u0 := cell_blk hb76 0
                have u1 := cell_blk hb76 1
                have u2 := cell_blk hb76 2
                have u3 := cell_blk hb76 3
                have r0 := cell_blk hb93 0
                have r1 := cell_blk hb93 1
                have r2 := cell_blk hb93 2
                simp at u0 u1 u2 u3 r0 r1 r2
                have hstep : ∃ f', f = f' + 1 ∧ (if op = 7 then some (some x.ps) else if op = 1 then walkF L tx f' (if q < tx.size ∧ hasF ips (by_ tx q) = true then (⟨x.ps, x.at_ + 1⟩, q + 1) :: rest else rest) ((x.at_, q) :: S)
                    else walkF L tx f' ((pushT ⟨op, ix, iy, ips⟩ x tx.size q).map (fun y => (y, q)) ++ rest) ((x.at_, q) :: S)) = some R := by
                  have h1 := HWK.out
                  cases f with
                  | zero => simp [walkF] at h1
                  | succ f =>
                    unfold walkF at h1
                    have hL1 : L[x.at_.toNat]? = some ⟨op, ix, iy, ips⟩ := by rw [← HA.out]; exact HI.out
                    rw [if_neg (by
                      rw [← HA.out, ← HNL.out, HC.out]
                      rintro (h2 | h2 | h2)
                      · omega
                      · omega
                      · cases h2), hL1] at h1
                    exact ⟨f, rfl, h1⟩
                obtain ⟨f', hf', hstep⟩ := hstep
                rw [← HA.out] at hstep
                have HST := Lib.hid hstep
                have HF' := Lib.hid hf'
                have HWI := Lib.hid (HLO.out.wf _ (List.mem_of_getElem? HI.out))
                have HIP := Lib.hid (HLO.out.ps _ (List.mem_of_getElem? HI.out))
                have HOK2 : Hid (WOk L tx (((k : Int), q) :: S)) := Lib.hid ⟨List.nodup_cons.2 ⟨(fun e => by have := HC.out; rw [List.contains_iff_mem.2 e] at this; cases this), HOK.out.nd⟩, fun p hp => by
                  rcases List.mem_cons.1 hp with rfl | hp
                  · exact ⟨by simp only; omega, by simp only; omega, hqb⟩
                  · exact HOK.out.rg p hp⟩
                have HB2 : Hid (rest.length + 2 + 2 * (L.length * (tx.size + 1) - (((k : Int), q) :: S).length) ≤ 2 * (L.length * (tx.size + 1)) + 1) := Lib.hid (by
                  have h1 := HOK2.out.len
                  have h2 := HBD.out
                  simp only [List.length_cons] at h1 h2 ⊢
                  omega)
                have HLT := Lib.hid (show f' < f from by have := HF'.out; omega)
                have HXLE := Lib.hid (show x.ps.length ≤ 100000 from by rw [HXM.out]; exact hm6)
                have mx : n + 1 ≤ maxLen := by unfold maxLen; omega
                have mx2 : n + 2 ≤ maxLen := by unfold maxLen; omega
                have hbx9 : wr.heap.size < W9.heap.size := lt_blk hb93
                have hb69 : wr.heap.size + 1 < W9.heap.size := lt_blk hb76
                have z9 : bs + 1 ≤ W9.heap.size := by have := MD.out.lo; have := lt_blk MD.out.seen; omega
                have HB76 := Lib.hid hb76
                have HB939 := Lib.hid hb93
                have HZ2 := Lib.hid z2
                have HZ3 := Lib.hid z3
                clear hb76 hb93 g9 hstep hf' z2 z3
                cases o7 : (op == 7) with
                | true =>
                    have HOP := Lib.hid (show op = 7 from by simpa using o7)

                    have hres := HST.out
                    rw [if_pos HOP.out] at hres
                    injection hres with hres
                    subst hres
                    have GW := Lib.hid (G1.out.trans2 MD.out.gr)
                    go_wp2
                    go_ret2
                    exact ⟨_, rfl, HPX9.out, GW.out⟩
                | false =>
                  cases o1 : (op == 1) with
                  | true =>
                    as_aux_lemma =>
                      have HOP := Lib.hid (show op = 1 from by simpa using o1)

                      by_cases hpt : q < tx.size
                      · have hpt1 : (q : Int) < (tx.size : Int) := by omega
                        obtain ⟨cb, hcb⟩ : ∃ cb, cb = by_ tx q := ⟨_, rfl⟩
                        have ecb : tx[q].toNat = cb := by rw [hcb, by_at tx q hpt]
                        have hc6 : cb < 256 := by rw [hcb]; exact by_lt _ _
                        have HCB := Lib.hid hcb
                        have HPT := Lib.hid hpt
                        clear hcb
                        cases hh : hasF ips cb with
                        | false =>
                          have HS := Lib.hid (show ∀ k : Nat, Calls Try.prog 42 #[.string ips, .int .u8 cb] (W9.drewN k) fun e w' => e = .returned (.bool false) ∧ ∃ m, w' = W9.drewN m from fun k => by
                            refine (has42_any ips cb hc6 HIP.out _).mono ?_
                            rintro e w' ⟨rfl, rfl⟩
                            exact ⟨by rw [hh], k, rfl⟩)
                          have HH := Lib.hid hh
                          clear hh
                          go_wp2
                          go_quiet (exact HS.out _)
                          obtain ⟨W10, hW10⟩ : ∃ W10, W10 = W9.drewN nq := ⟨_, rfl⟩
                          have g10 : Grow W9 W10 := by rw [hW10]; exact below_drewN (Grow.refl W9) nq
                          have hb93 := (Below.block g10 _ hbx9).trans HB939.out
                          have r0 := cell_blk hb93 0
                          have r1 := cell_blk hb93 1
                          have r2 := cell_blk hb93 2
                          simp at r0 r1 r2
                          have MD10 := Lib.hid (MD.out.grow g10)
                          have HPX10 := Lib.hid (HPX9.out.grow g10)
                          have z10 : bs + 1 ≤ W10.heap.size := Nat.le_trans z9 g10.size
                          have hbx10 : wr.heap.size < W10.heap.size := Nat.lt_of_lt_of_le hbx9 g10.size
                          rw [← hW10]
                          clear hW10 g10 hb93

                          go_wp2
                          have AR2 := Lib.hid (AW.mk' (f := f') (by
                            have h := HST.out
                            rw [if_neg (by have := HOP.out; omega), if_pos HOP.out, if_neg (by rw [← HCB.out, HH.out]; simp)] at h
                            exact h) MD10.out HOK2.out HWY.out (by have := HB2.out; omega))
                          go_roundw
                          case rel => exact ⟨f', AR2.out⟩
                          case measure => rw [← HFL.out]; exact Nat.lt_of_le_of_lt (least_le AR2.out) HLT.out
                        | true =>
                          have HS := Lib.hid (show ∀ k : Nat, Calls Try.prog 42 #[.string ips, .int .u8 cb] (W9.drewN k) fun e w' => e = .returned (.bool true) ∧ ∃ m, w' = W9.drewN m from fun k => by
                            refine (has42_any ips cb hc6 HIP.out _).mono ?_
                            rintro e w' ⟨rfl, rfl⟩
                            exact ⟨by rw [hh], k, rfl⟩)
                          have HH := Lib.hid hh
                          clear hh
                          go_wp2
                          go_quiet (exact HS.out _)
                          obtain ⟨W10, hW10⟩ : ∃ W10, W10 = W9.drewN nq := ⟨_, rfl⟩
                          have g10 : Grow W9 W10 := by rw [hW10]; exact below_drewN (Grow.refl W9) nq
                          have hb93 := (Below.block g10 _ hbx9).trans HB939.out
                          have r0 := cell_blk hb93 0
                          have r1 := cell_blk hb93 1
                          have r2 := cell_blk hb93 2
                          simp at r0 r1 r2
                          have MD10 := Lib.hid (MD.out.grow g10)
                          have HPX10 := Lib.hid (HPX9.out.grow g10)
                          have z10 : bs + 1 ≤ W10.heap.size := Nat.le_trans z9 g10.size
                          have hbx10 : wr.heap.size < W10.heap.size := Nat.lt_of_lt_of_le hbx9 g10.size
                          rw [← hW10]
                          clear hW10 g10 hb93

                          obtain ⟨cs9, hto, htw⟩ := MD10.out.own
                          rw [← HNN.out] at hto
                          have TO := Lib.hid hto
                          have TW := Lib.hid htw
                          clear hto htw
                          go_wp2_with (at_builtin; refine wpList_append_lies _ (by rfl) _ _ _ (by rfl) (bs + 1) 93 i0 _ 3 40 Try.underlying94 hi0 hz0 hz1 hz2 rfl (by omega) _ n cs9 (by rfl) (own_grow TO.out ((Grow.refl _).alloc _)) ⟨W10.heap.size, 0, none⟩ 1 1 [.int .i64 ((k : Int) + 1), .int .i64 ((q : Int) + 1), .slice (some ⟨gx, 0, none⟩) m cpx] (by rfl) (by rfl) (World.news_of_block (cs := #[.int .i64 ((k : Int) + 1), .int .i64 ((q : Int) + 1), .slice (some ⟨gx, 0, none⟩) m cpx]) (t := 93) (fr := (0, 0)) (heap_alloc_new W10 _)) (by intro u hu; simp at hu; rcases hu with rfl | rfl | rfl <;> rfl) (by omega) mx (by omega) (by simp; omega) (W10.heap.size + 1) (by simp) ?_; intro gg8 cp8 wz hown8 hgrow8 hat8 hlt8; have H8 := Lib.hid (And.intro hown8 hgrow8); clear hown8 hgrow8 hat8)
                          obtain ⟨hown8, hgrow8⟩ := H8.out
                          have M2 : MW tx N (bs + 1) bs W1 (((⟨x.ps, (k : Int) + 1⟩ : Way), q + 1) :: rest) (((k : Int), q) :: S) (.slice (some ⟨gg8, 0, none⟩) (n + 1) cp8) wz := MD10.out.push (w9 := W10.alloc (.cells #[.int .i64 ((k : Int) + 1), .int .i64 ((q : Int) + 1), .slice (some ⟨gx, 0, none⟩) m cpx] 93)) (Y := [((⟨x.ps, (k : Int) + 1⟩ : Way), q + 1)]) ((Grow.refl _).alloc _) (by rw [← HNN.out]; exact own_grow TO.out ((Grow.refl _).alloc _)) (TW.out.stay (IntsStay.grow ((Grow.refl _).alloc _))) hgrow8 (by simp only [List.length_cons, ← HNN.out]; exact hown8) (Go.Proofs.Ytldcbkememonaaa.W3.cons (⟨x.ps, (k : Int) + 1⟩ : Way) (q + 1) _ _ _ ((HPX10.out).grow ((Grow.refl _).alloc _)) .nil) (by simp)
                          have AR2 := Lib.hid (AW.mk' (f := f') (by
                            have h := HST.out
                            rw [if_neg (by have := HOP.out; omega), if_pos HOP.out, if_pos ⟨HPT.out, by rw [← HCB.out]; exact HH.out⟩] at h
                            exact h) M2 HOK2.out (fun y hy => by
                            simp only [List.mem_cons] at hy
                            rcases hy with rfl | hy
                            · exact ⟨(HLO.out.wf1 hkL), HXM.out, by simp only; omega⟩
                            · exact HWY.out y hy) (by have := HB2.out; simp only [List.length_cons] at this ⊢; omega))
                          clear H8 hown8 hgrow8 M2
                          go_roundw
                          case rel => exact ⟨f', AR2.out⟩
                          case measure => rw [← HFL.out]; exact Nat.lt_of_le_of_lt (least_le AR2.out) HLT.out
                      · have hpt1 : ¬ (q : Int) < (tx.size : Int) := by omega
                        go_wp2
                        go_quiet (fail)
                        obtain ⟨W10, hW10⟩ : ∃ W10, W10 = W9.drewN nq := ⟨_, rfl⟩
                        have g10 : Grow W9 W10 := by rw [hW10]; exact below_drewN (Grow.refl W9) nq
                        have hb93 := (Below.block g10 _ hbx9).trans HB939.out
                        have r0 := cell_blk hb93 0
                        have r1 := cell_blk hb93 1
                        have r2 := cell_blk hb93 2
                        simp at r0 r1 r2
                        have MD10 := Lib.hid (MD.out.grow g10)
                        have HPX10 := Lib.hid (HPX9.out.grow g10)
                        have z10 : bs + 1 ≤ W10.heap.size := Nat.le_trans z9 g10.size
                        have hbx10 : wr.heap.size < W10.heap.size := Nat.lt_of_lt_of_le hbx9 g10.size
                        rw [← hW10]
                        clear hW10 g10 hb93

                        go_wp2
                        have AR2 := Lib.hid (AW.mk' (f := f') (by
                          have h := HST.out
                          rw [if_neg (by have := HOP.out; omega), if_pos HOP.out, if_neg (fun e => by have := e.1; omega)] at h
                          exact h) MD10.out HOK2.out HWY.out (by have := HB2.out; omega))
                        go_roundw
                        case rel => exact ⟨f', AR2.out⟩
                        case measure => rw [← HFL.out]; exact Nat.lt_of_le_of_lt (least_le AR2.out) HLT.out
                  | false =>
                    cases o2 : (op == 2) with
                    | true =>
                        have HOP := Lib.hid (show op = 2 from by simpa using o2)

                        obtain ⟨cs9, hto, htw⟩ := MD.out.own
                        rw [← HNN.out] at hto
                        have TO := Lib.hid hto
                        have TW := Lib.hid htw
                        clear hto htw
                        go_wp2_with (at_builtin; refine wpList_append_lies _ (by rfl) _ _ _ (by rfl) (bs + 1) 93 i0 _ 3 40 Try.underlying94 hi0 hz0 hz1 hz2 rfl (by omega) _ n cs9 (by rfl) (own_grow TO.out ((Grow.refl _).alloc _)) ⟨W9.heap.size, 0, none⟩ 2 2 [.int .i64 (iy), .int .i64 ((q : Int)), .slice (some ⟨gx, 0, none⟩) m cpx, .int .i64 (ix), .int .i64 ((q : Int)), .slice (some ⟨gx, 0, none⟩) m cpx] (by rfl) (by rfl) (World.news_of_block (cs := #[.int .i64 (iy), .int .i64 ((q : Int)), .slice (some ⟨gx, 0, none⟩) m cpx, .int .i64 (ix), .int .i64 ((q : Int)), .slice (some ⟨gx, 0, none⟩) m cpx]) (t := 93) (fr := (0, 0)) (heap_alloc_new W9 _)) (by intro u hu; simp at hu; rcases hu with rfl | rfl | rfl | rfl | rfl | rfl <;> rfl) (by omega) mx2 (by omega) (by simp; omega) (W9.heap.size + 1) (by simp) ?_; intro gg8 cp8 wz hown8 hgrow8 hat8 hlt8; have H8 := Lib.hid (And.intro hown8 hgrow8); clear hown8 hgrow8 hat8)
                        obtain ⟨hown8, hgrow8⟩ := H8.out
                        have M2 : MW tx N (bs + 1) bs W1 (((⟨x.ps, ix⟩ : Way), q) :: ((⟨x.ps, iy⟩ : Way), q) :: rest) (((k : Int), q) :: S) (.slice (some ⟨gg8, 0, none⟩) (n + 2) cp8) wz := MD.out.push (w9 := W9.alloc (.cells #[.int .i64 (iy), .int .i64 ((q : Int)), .slice (some ⟨gx, 0, none⟩) m cpx, .int .i64 (ix), .int .i64 ((q : Int)), .slice (some ⟨gx, 0, none⟩) m cpx] 93)) (Y := [((⟨x.ps, iy⟩ : Way), q), ((⟨x.ps, ix⟩ : Way), q)]) ((Grow.refl _).alloc _) (by rw [← HNN.out]; exact own_grow TO.out ((Grow.refl _).alloc _)) (TW.out.stay (IntsStay.grow ((Grow.refl _).alloc _))) hgrow8 (by simp only [List.length_cons, ← HNN.out]; exact hown8) (Go.Proofs.Ytldcbkememonaaa.W3.cons (⟨x.ps, iy⟩ : Way) (q) _ _ _ ((HPX9.out).grow ((Grow.refl _).alloc _)) (Go.Proofs.Ytldcbkememonaaa.W3.cons (⟨x.ps, ix⟩ : Way) (q) _ _ _ ((HPX9.out).grow ((Grow.refl _).alloc _)) .nil)) (by simp)
                        have AR2 := Lib.hid (AW.mk' (f := f') (by
                          have h := HST.out
                          have hp : pushT ⟨op, ix, iy, ips⟩ x tx.size q = [⟨x.ps, ix⟩, ⟨x.ps, iy⟩] := by
                            unfold pushT
                            rw [if_neg (by have := HOP.out; simp only; omega), if_pos (by exact HOP.out)]
                            try rfl
                          rw [if_neg (by have := HOP.out; omega), if_neg (by have := HOP.out; omega), hp] at h
                          exact h) M2 HOK2.out (fun y hy => by
                          simp only [List.mem_cons] at hy
                          rcases hy with rfl | rfl | hy
                          · exact ⟨HWI.out.1, HXM.out, by simp only; omega⟩
                          · exact ⟨HWI.out.2, HXM.out, by simp only; omega⟩
                          · exact HWY.out y hy) (by have := HB2.out; simp only [List.length_cons] at this ⊢; omega))
                        clear H8 hown8 hgrow8 M2
                        go_roundw
                        case rel => exact ⟨f', AR2.out⟩
                        case measure => rw [← HFL.out]; exact Nat.lt_of_le_of_lt (least_le AR2.out) HLT.out
                    | false =>
                      cases o3 : (op == 3) with
                      | true =>
                          have HOP := Lib.hid (show op = 3 from by simpa using o3)

                          obtain ⟨cs9, hto, htw⟩ := MD.out.own
                          rw [← HNN.out] at hto
                          have TO := Lib.hid hto
                          have TW := Lib.hid htw
                          clear hto htw
                          go_wp2_with (at_builtin; refine wpList_append_lies _ (by rfl) _ _ _ (by rfl) (bs + 1) 93 i0 _ 3 40 Try.underlying94 hi0 hz0 hz1 hz2 rfl (by omega) _ n cs9 (by rfl) (own_grow TO.out ((Grow.refl _).alloc _)) ⟨W9.heap.size, 0, none⟩ 1 1 [.int .i64 (ix), .int .i64 ((q : Int)), .slice (some ⟨gx, 0, none⟩) m cpx] (by rfl) (by rfl) (World.news_of_block (cs := #[.int .i64 (ix), .int .i64 ((q : Int)), .slice (some ⟨gx, 0, none⟩) m cpx]) (t := 93) (fr := (0, 0)) (heap_alloc_new W9 _)) (by intro u hu; simp at hu; rcases hu with rfl | rfl | rfl <;> rfl) (by omega) mx (by omega) (by simp; omega) (W9.heap.size + 1) (by simp) ?_; intro gg8 cp8 wz hown8 hgrow8 hat8 hlt8; have H8 := Lib.hid (And.intro hown8 hgrow8); clear hown8 hgrow8 hat8)
                          obtain ⟨hown8, hgrow8⟩ := H8.out
                          have M2 : MW tx N (bs + 1) bs W1 (((⟨x.ps, ix⟩ : Way), q) :: rest) (((k : Int), q) :: S) (.slice (some ⟨gg8, 0, none⟩) (n + 1) cp8) wz := MD.out.push (w9 := W9.alloc (.cells #[.int .i64 (ix), .int .i64 ((q : Int)), .slice (some ⟨gx, 0, none⟩) m cpx] 93)) (Y := [((⟨x.ps, ix⟩ : Way), q)]) ((Grow.refl _).alloc _) (by rw [← HNN.out]; exact own_grow TO.out ((Grow.refl _).alloc _)) (TW.out.stay (IntsStay.grow ((Grow.refl _).alloc _))) hgrow8 (by simp only [List.length_cons, ← HNN.out]; exact hown8) (Go.Proofs.Ytldcbkememonaaa.W3.cons (⟨x.ps, ix⟩ : Way) (q) _ _ _ ((HPX9.out).grow ((Grow.refl _).alloc _)) .nil) (by simp)
                          have AR2 := Lib.hid (AW.mk' (f := f') (by
                            have h := HST.out
                            have hp : pushT ⟨op, ix, iy, ips⟩ x tx.size q = [⟨x.ps, ix⟩] := by
                              unfold pushT
                              rw [if_neg (by have := HOP.out; simp only; omega), if_neg (by have := HOP.out; simp only; omega), if_pos (by exact HOP.out)]
                              try rfl
                            rw [if_neg (by have := HOP.out; omega), if_neg (by have := HOP.out; omega), hp] at h
                            exact h) M2 HOK2.out (fun y hy => by
                            simp only [List.mem_cons] at hy
                            rcases hy with rfl | hy
                            · exact ⟨HWI.out.1, HXM.out, by simp only; omega⟩
                            · exact HWY.out y hy) (by have := HB2.out; simp only [List.length_cons] at this ⊢; omega))
                          clear H8 hown8 hgrow8 M2
                          go_roundw
                          case rel => exact ⟨f', AR2.out⟩
                          case measure => rw [← HFL.out]; exact Nat.lt_of_le_of_lt (least_le AR2.out) HLT.out
                      | false =>
                        cases o4 : (op == 4) with
                        | true =>
                            have HOP := Lib.hid (show op = 4 from by simpa using o4)

                            have SRC := Lib.hid (show Src Try.prog 1 27 (.slice (some ⟨gx, 0, none⟩) m cpx) m (x.ps.map (Value.int .i64)) (W9.alloc (.cells #[] 3)) from Src.ofSlice _ Try.underlying27 ⟨gx, 0, none⟩ m cpx _ (by rw [List.length_map, HXM.out]; omega) (ints_src (HPX9.out.grow ((Grow.refl _).alloc _)) HXM.out.symm) (ints_one _))
                            have OWN0 := Lib.hid (ownsRow_empty0 W9 W9.heap.size 3 1 (Nat.le_refl _))
                            have hB : W9.heap.size ≤ (W9.alloc (.cells #[] 3)).heap.size := by simp
                            go_upto_region 26 with (at_builtin; refine wpList_append_fresh _ (by rfl) _ _ 27 27 (by rfl) W9.heap.size 3 i3 _ 1 8 Try.underlying27 hi3 hy0 hy1 hy2 rfl _ (by rfl) (.inr ⟨W9.heap.size, rfl⟩) OWN0.out _ (by rfl) m (x.ps.map (Value.int .i64)) SRC.out (by unfold maxLen; omega) (by omega) hB ?_; intro v5 w5 hown5 hgr5 hf5 hz5; have H5 := Lib.hid (And.intro hown5 hgr5); clear hown5 hgr5 hf5 hz5)
                            obtain ⟨hown5, hgr5⟩ := H5.out
                            obtain ⟨g5, c5, hv5, hg5, hg5'⟩ := hown5.form (by omega)
                            subst hv5
                            have K5 := Lib.hid (((Grow.refl W9).alloc (.cells #[] 3)).trans hgr5)
                            have O5 := Lib.hid hown5
                            have hb93 := (Below.block K5.out _ hbx9).trans HB939.out
                            have hb76 := (Below.block K5.out _ hb69).trans HB76.out
                            have r0 := cell_blk hb93 0
                            have r1 := cell_blk hb93 1
                            have u1 := cell_blk hb76 1
                            simp at r0 r1 u1
                            have hbx5 : wr.heap.size < w5.heap.size := lt_blk hb93
                            have hb65 : wr.heap.size + 1 < w5.heap.size := lt_blk hb76
                            have z5 : bs + 1 ≤ w5.heap.size := Nat.le_trans z9 K5.out.size
                            clear hown5 hgr5 H5 hb93 hb76 SRC OWN0 hB u0 u2 u3 r2 hb69 hbx9

                            by_cases h1 : ix < 0
                            · as_aux_lemma =>
                                have HPX5 := Lib.hid (show IntsIn (withF x.ps ix q) (.slice (some ⟨g5, 0, none⟩) m c5) w5 from by
                                  have e : withF x.ps ix q = x.ps := by unfold withF; rw [if_neg (by rw [HXM.out]; omega)]
                                  rw [e]
                                  unfold IntsIn
                                  rw [HXM.out]
                                  exact Joins.ownsRow_le O5.out (Nat.zero_le _))
                                have MD5 := Lib.hid (MD.out.grow K5.out)
                                clear O5

                                obtain ⟨cs9, hto, htw⟩ := MD5.out.own
                                rw [← HNN.out] at hto
                                have TO := Lib.hid hto
                                have TW := Lib.hid htw
                                clear hto htw
                                go_wp2_with (at_builtin; refine wpList_append_lies _ (by rfl) _ _ _ (by rfl) (bs + 1) 93 i0 _ 3 40 Try.underlying94 hi0 hz0 hz1 hz2 rfl (by omega) _ n cs9 (by rfl) (own_grow TO.out ((Grow.refl _).alloc _)) ⟨w5.heap.size, 0, none⟩ 1 1 [.int .i64 ((k : Int) + 1), .int .i64 ((q : Int)), .slice (some ⟨g5, 0, none⟩) m c5] (by rfl) (by rfl) (World.news_of_block (cs := #[.int .i64 ((k : Int) + 1), .int .i64 ((q : Int)), .slice (some ⟨g5, 0, none⟩) m c5]) (t := 93) (fr := (0, 0)) (heap_alloc_new w5 _)) (by intro u hu; simp at hu; rcases hu with rfl | rfl | rfl <;> rfl) (by omega) mx (by omega) (by simp; omega) (w5.heap.size + 1) (by simp) ?_; intro gg8 cp8 wz hown8 hgrow8 hat8 hlt8; have H8 := Lib.hid (And.intro hown8 hgrow8); clear hown8 hgrow8 hat8)
                                obtain ⟨hown8, hgrow8⟩ := H8.out
                                have M2 : MW tx N (bs + 1) bs W1 (((⟨withF x.ps ix q, (k : Int) + 1⟩ : Way), q) :: rest) (((k : Int), q) :: S) (.slice (some ⟨gg8, 0, none⟩) (n + 1) cp8) wz := MD5.out.push (w9 := w5.alloc (.cells #[.int .i64 ((k : Int) + 1), .int .i64 ((q : Int)), .slice (some ⟨g5, 0, none⟩) m c5] 93)) (Y := [((⟨withF x.ps ix q, (k : Int) + 1⟩ : Way), q)]) ((Grow.refl _).alloc _) (by rw [← HNN.out]; exact own_grow TO.out ((Grow.refl _).alloc _)) (TW.out.stay (IntsStay.grow ((Grow.refl _).alloc _))) hgrow8 (by simp only [List.length_cons, ← HNN.out]; exact hown8) (Go.Proofs.Ytldcbkememonaaa.W3.cons (⟨withF x.ps ix q, (k : Int) + 1⟩ : Way) (q) _ _ _ ((HPX5.out).grow ((Grow.refl _).alloc _)) .nil) (by simp)
                                have AR2 := Lib.hid (AW.mk' (f := f') (by
                                  have h := HST.out
                                  have hp : pushT ⟨op, ix, iy, ips⟩ x tx.size q = [⟨withF x.ps ix q, x.at_ + 1⟩] := by
                                    unfold pushT
                                    rw [if_neg (by have := HOP.out; simp only; omega), if_neg (by have := HOP.out; simp only; omega), if_neg (by have := HOP.out; simp only; omega), if_pos (by exact HOP.out)]
                                    try rfl
                                  rw [if_neg (by have := HOP.out; omega), if_neg (by have := HOP.out; omega), hp] at h
                                  rw [← HA.out] at h
                                  exact h) M2 HOK2.out (fun y hy => by
                                  simp only [List.mem_cons] at hy
                                  rcases hy with rfl | hy
                                  · exact ⟨(HLO.out.wf1 hkL), (by simp only [withF_len]; exact HXM.out), by simp only; omega⟩
                                  · exact HWY.out y hy) (by have := HB2.out; simp only [List.length_cons] at this ⊢; omega))
                                clear H8 hown8 hgrow8 M2
                                go_roundw
                                case rel => exact ⟨f', AR2.out⟩
                                case measure => rw [← HFL.out]; exact Nat.lt_of_le_of_lt (least_le AR2.out) HLT.out
                            · by_cases h2 : (m : Int) ≤ ix
                              · as_aux_lemma =>
                                  have HPX5 := Lib.hid (show IntsIn (withF x.ps ix q) (.slice (some ⟨g5, 0, none⟩) m c5) w5 from by
                                    have e : withF x.ps ix q = x.ps := by unfold withF; rw [if_neg (by rw [HXM.out]; omega)]
                                    rw [e]
                                    unfold IntsIn
                                    rw [HXM.out]
                                    exact Joins.ownsRow_le O5.out (Nat.zero_le _))
                                  have MD5 := Lib.hid (MD.out.grow K5.out)
                                  clear O5

                                  obtain ⟨cs9, hto, htw⟩ := MD5.out.own
                                  rw [← HNN.out] at hto
                                  have TO := Lib.hid hto
                                  have TW := Lib.hid htw
                                  clear hto htw
                                  go_wp2_with (at_builtin; refine wpList_append_lies _ (by rfl) _ _ _ (by rfl) (bs + 1) 93 i0 _ 3 40 Try.underlying94 hi0 hz0 hz1 hz2 rfl (by omega) _ n cs9 (by rfl) (own_grow TO.out ((Grow.refl _).alloc _)) ⟨w5.heap.size, 0, none⟩ 1 1 [.int .i64 ((k : Int) + 1), .int .i64 ((q : Int)), .slice (some ⟨g5, 0, none⟩) m c5] (by rfl) (by rfl) (World.news_of_block (cs := #[.int .i64 ((k : Int) + 1), .int .i64 ((q : Int)), .slice (some ⟨g5, 0, none⟩) m c5]) (t := 93) (fr := (0, 0)) (heap_alloc_new w5 _)) (by intro u hu; simp at hu; rcases hu with rfl | rfl | rfl <;> rfl) (by omega) mx (by omega) (by simp; omega) (w5.heap.size + 1) (by simp) ?_; intro gg8 cp8 wz hown8 hgrow8 hat8 hlt8; have H8 := Lib.hid (And.intro hown8 hgrow8); clear hown8 hgrow8 hat8)
                                  obtain ⟨hown8, hgrow8⟩ := H8.out
                                  have M2 : MW tx N (bs + 1) bs W1 (((⟨withF x.ps ix q, (k : Int) + 1⟩ : Way), q) :: rest) (((k : Int), q) :: S) (.slice (some ⟨gg8, 0, none⟩) (n + 1) cp8) wz := MD5.out.push (w9 := w5.alloc (.cells #[.int .i64 ((k : Int) + 1), .int .i64 ((q : Int)), .slice (some ⟨g5, 0, none⟩) m c5] 93)) (Y := [((⟨withF x.ps ix q, (k : Int) + 1⟩ : Way), q)]) ((Grow.refl _).alloc _) (by rw [← HNN.out]; exact own_grow TO.out ((Grow.refl _).alloc _)) (TW.out.stay (IntsStay.grow ((Grow.refl _).alloc _))) hgrow8 (by simp only [List.length_cons, ← HNN.out]; exact hown8) (Go.Proofs.Ytldcbkememonaaa.W3.cons (⟨withF x.ps ix q, (k : Int) + 1⟩ : Way) (q) _ _ _ ((HPX5.out).grow ((Grow.refl _).alloc _)) .nil) (by simp)
                                  have AR2 := Lib.hid (AW.mk' (f := f') (by
                                    have h := HST.out
                                    have hp : pushT ⟨op, ix, iy, ips⟩ x tx.size q = [⟨withF x.ps ix q, x.at_ + 1⟩] := by
                                      unfold pushT
                                      rw [if_neg (by have := HOP.out; simp only; omega), if_neg (by have := HOP.out; simp only; omega), if_neg (by have := HOP.out; simp only; omega), if_pos (by exact HOP.out)]
                                      try rfl
                                    rw [if_neg (by have := HOP.out; omega), if_neg (by have := HOP.out; omega), hp] at h
                                    rw [← HA.out] at h
                                    exact h) M2 HOK2.out (fun y hy => by
                                    simp only [List.mem_cons] at hy
                                    rcases hy with rfl | hy
                                    · exact ⟨(HLO.out.wf1 hkL), (by simp only [withF_len]; exact HXM.out), by simp only; omega⟩
                                    · exact HWY.out y hy) (by have := HB2.out; simp only [List.length_cons] at this ⊢; omega))
                                  clear H8 hown8 hgrow8 M2
                                  go_roundw
                                  case rel => exact ⟨f', AR2.out⟩
                                  case measure => rw [← HFL.out]; exact Nat.lt_of_le_of_lt (least_le AR2.out) HLT.out
                              · obtain ⟨jj, hjj⟩ : ∃ jj : Nat, ix = jj := ⟨ix.toNat, by omega⟩
                                subst hjj
                                have hjm : jj < m := by omega
                                have hj0 : (0 : Int) ≤ (jj : Int) := by omega
                                have hjm1 : (jj : Int) < (m : Int) := by omega
                                have hck : ∃ u, w5.cell? ⟨g5, jj, none⟩ = some u := by
                                  rw [World.ownsRow.cellAt O5.out jj (by omega)]
                                  exact ⟨_, List.getElem?_eq_getElem (by rw [List.length_map, HXM.out]; exact hjm)⟩
                                obtain ⟨uu, hu⟩ := hck
                                have fk : w5.frozen? ⟨g5, jj, none⟩ = false := by
                                  rcases O5.out.2 with ⟨h1, _⟩ | ⟨g', cap', cur, h1, _, h3, _⟩
                                  · cases h1
                                  · injection h1 with h1 _ _
                                    injection h1 with h1
                                    injection h1 with h1 _ _
                                    subst h1
                                    exact froz_blk h3 _
                                have OW := Lib.hid (own_setI (j := jj) O5.out HXM.out hjm (q : Int))
                                go_upto_region 28 with fail
                                obtain ⟨w6, hw6⟩ : ∃ w6, w6 = w5.setCell ⟨g5, jj, none⟩ (.int .i64 (q : Int)) := ⟨_, rfl⟩
                                have g6 : Grow W9 w6 := by rw [hw6]; exact K5.out.setCell hg5 _
                                have z56 : w6.heap.size = w5.heap.size := by rw [hw6]; simp
                                have r0' := (Below.cell g6 (p := ⟨wr.heap.size, 0, none⟩) (lt_blk HB939.out)).trans (cell_blk HB939.out 0)
                                have r1' := (Below.cell g6 (p := ⟨wr.heap.size, 1, none⟩) (lt_blk HB939.out)).trans (cell_blk HB939.out 1)
                                simp at r0' r1'
                                have HPX5 := Lib.hid (show IntsIn (withF x.ps jj q) (.slice (some ⟨g5, 0, none⟩) m c5) w6 from by
                                  have e : withF x.ps jj q = x.ps.set jj q := by unfold withF; rw [if_pos (by rw [HXM.out]; omega)]; rfl
                                  rw [e]
                                  unfold IntsIn
                                  rw [List.length_set, HXM.out, hw6]
                                  exact Joins.ownsRow_le OW.out (Nat.zero_le _))
                                have MD5 := Lib.hid (MD.out.grow g6)
                                have z6 : bs + 1 ≤ w6.heap.size := by omega
                                have hbx6 : wr.heap.size < w6.heap.size := by omega
                                rw [← hw6]
                                clear hw6 g6 z56 O5 OW hu fk
                                obtain ⟨cs9, hto, htw⟩ := MD5.out.own
                                rw [← HNN.out] at hto
                                have TO := Lib.hid hto
                                have TW := Lib.hid htw
                                clear hto htw
                                go_wp2_with (at_builtin; refine wpList_append_lies _ (by rfl) _ _ _ (by rfl) (bs + 1) 93 i0 _ 3 40 Try.underlying94 hi0 hz0 hz1 hz2 rfl (by omega) _ n cs9 (by rfl) (own_grow TO.out ((Grow.refl _).alloc _)) ⟨w6.heap.size, 0, none⟩ 1 1 [.int .i64 ((k : Int) + 1), .int .i64 ((q : Int)), .slice (some ⟨g5, 0, none⟩) m c5] (by rfl) (by rfl) (World.news_of_block (cs := #[.int .i64 ((k : Int) + 1), .int .i64 ((q : Int)), .slice (some ⟨g5, 0, none⟩) m c5]) (t := 93) (fr := (0, 0)) (heap_alloc_new w6 _)) (by intro u hu; simp at hu; rcases hu with rfl | rfl | rfl <;> rfl) (by omega) mx (by omega) (by simp; omega) (w6.heap.size + 1) (by simp) ?_; intro gg8 cp8 wz hown8 hgrow8 hat8 hlt8; have H8 := Lib.hid (And.intro hown8 hgrow8); clear hown8 hgrow8 hat8)
                                obtain ⟨hown8, hgrow8⟩ := H8.out
                                have M2 : MW tx N (bs + 1) bs W1 (((⟨withF x.ps (jj : Int) q, (k : Int) + 1⟩ : Way), q) :: rest) (((k : Int), q) :: S) (.slice (some ⟨gg8, 0, none⟩) (n + 1) cp8) wz := MD5.out.push (w9 := w6.alloc (.cells #[.int .i64 ((k : Int) + 1), .int .i64 ((q : Int)), .slice (some ⟨g5, 0, none⟩) m c5] 93)) (Y := [((⟨withF x.ps (jj : Int) q, (k : Int) + 1⟩ : Way), q)]) ((Grow.refl _).alloc _) (by rw [← HNN.out]; exact own_grow TO.out ((Grow.refl _).alloc _)) (TW.out.stay (IntsStay.grow ((Grow.refl _).alloc _))) hgrow8 (by simp only [List.length_cons, ← HNN.out]; exact hown8) (Go.Proofs.Ytldcbkememonaaa.W3.cons (⟨withF x.ps (jj : Int) q, (k : Int) + 1⟩ : Way) (q) _ _ _ ((HPX5.out).grow ((Grow.refl _).alloc _)) .nil) (by simp)
                                have AR2 := Lib.hid (AW.mk' (f := f') (by
                                  have h := HST.out
                                  have hp : pushT ⟨op, (jj : Int), iy, ips⟩ x tx.size q = [⟨withF x.ps (jj : Int) q, x.at_ + 1⟩] := by
                                    unfold pushT
                                    rw [if_neg (by have := HOP.out; simp only; omega), if_neg (by have := HOP.out; simp only; omega), if_neg (by have := HOP.out; simp only; omega), if_pos (by exact HOP.out)]
                                    try rfl
                                  rw [if_neg (by have := HOP.out; omega), if_neg (by have := HOP.out; omega), hp] at h
                                  rw [← HA.out] at h
                                  exact h) M2 HOK2.out (fun y hy => by
                                  simp only [List.mem_cons] at hy
                                  rcases hy with rfl | hy
                                  · exact ⟨(HLO.out.wf1 hkL), (by simp only [withF_len]; exact HXM.out), by simp only; omega⟩
                                  · exact HWY.out y hy) (by have := HB2.out; simp only [List.length_cons] at this ⊢; omega))
                                clear H8 hown8 hgrow8 M2
                                go_roundw
                                case rel => exact ⟨f', AR2.out⟩
                                case measure => rw [← HFL.out]; exact Nat.lt_of_le_of_lt (least_le AR2.out) HLT.out
                        | false =>
                          cases o5 : (op == 5) with
                          | true =>
                            as_aux_lemma =>
                              have HOP := Lib.hid (show op = 5 from by simpa using o5)
                              cases p0 : ((q : Int) == 0) with
                              | true =>
                                obtain ⟨cs9, hto, htw⟩ := MD.out.own
                                rw [← HNN.out] at hto
                                have TO := Lib.hid hto
                                have TW := Lib.hid htw
                                clear hto htw
                                go_wp2_with (at_builtin; refine wpList_append_lies _ (by rfl) _ _ _ (by rfl) (bs + 1) 93 i0 _ 3 40 Try.underlying94 hi0 hz0 hz1 hz2 rfl (by omega) _ n cs9 (by rfl) (own_grow TO.out ((Grow.refl _).alloc _)) ⟨W9.heap.size, 0, none⟩ 1 1 [.int .i64 ((k : Int) + 1), .int .i64 ((q : Int)), .slice (some ⟨gx, 0, none⟩) m cpx] (by rfl) (by rfl) (World.news_of_block (cs := #[.int .i64 ((k : Int) + 1), .int .i64 ((q : Int)), .slice (some ⟨gx, 0, none⟩) m cpx]) (t := 93) (fr := (0, 0)) (heap_alloc_new W9 _)) (by intro u hu; simp at hu; rcases hu with rfl | rfl | rfl <;> rfl) (by omega) mx (by omega) (by simp; omega) (W9.heap.size + 1) (by simp) ?_; intro gg8 cp8 wz hown8 hgrow8 hat8 hlt8; have H8 := Lib.hid (And.intro hown8 hgrow8); clear hown8 hgrow8 hat8)
                                obtain ⟨hown8, hgrow8⟩ := H8.out
                                have M2 : MW tx N (bs + 1) bs W1 (((⟨x.ps, (k : Int) + 1⟩ : Way), q) :: rest) (((k : Int), q) :: S) (.slice (some ⟨gg8, 0, none⟩) (n + 1) cp8) wz := MD.out.push (w9 := W9.alloc (.cells #[.int .i64 ((k : Int) + 1), .int .i64 ((q : Int)), .slice (some ⟨gx, 0, none⟩) m cpx] 93)) (Y := [((⟨x.ps, (k : Int) + 1⟩ : Way), q)]) ((Grow.refl _).alloc _) (by rw [← HNN.out]; exact own_grow TO.out ((Grow.refl _).alloc _)) (TW.out.stay (IntsStay.grow ((Grow.refl _).alloc _))) hgrow8 (by simp only [List.length_cons, ← HNN.out]; exact hown8) (Go.Proofs.Ytldcbkememonaaa.W3.cons (⟨x.ps, (k : Int) + 1⟩ : Way) (q) _ _ _ ((HPX9.out).grow ((Grow.refl _).alloc _)) .nil) (by simp)
                                have AR2 := Lib.hid (AW.mk' (f := f') (by
                                  have h := HST.out
                                  have hp : pushT ⟨op, ix, iy, ips⟩ x tx.size q = [⟨x.ps, x.at_ + 1⟩] := by
                                    unfold pushT
                                    rw [if_neg (by have := HOP.out; simp only; omega), if_neg (by have := HOP.out; simp only; omega), if_neg (by have := HOP.out; simp only; omega), if_neg (by have := HOP.out; simp only; omega), if_pos (by exact HOP.out)]
                                    rw [if_pos (by simp at p0; omega)]
                                    try rfl
                                  rw [if_neg (by have := HOP.out; omega), if_neg (by have := HOP.out; omega), hp] at h
                                  rw [← HA.out] at h
                                  exact h) M2 HOK2.out (fun y hy => by
                                  simp only [List.mem_cons] at hy
                                  rcases hy with rfl | hy
                                  · exact ⟨(HLO.out.wf1 hkL), HXM.out, by simp only; omega⟩
                                  · exact HWY.out y hy) (by have := HB2.out; simp only [List.length_cons] at this ⊢; omega))
                                clear H8 hown8 hgrow8 M2
                                go_roundw
                                case rel => exact ⟨f', AR2.out⟩
                                case measure => rw [← HFL.out]; exact Nat.lt_of_le_of_lt (least_le AR2.out) HLT.out
                              | false =>
                                go_wp2
                                have AR2 := Lib.hid (AW.mk' (f := f') (by
                                  have h := HST.out
                                  have hp : pushT ⟨op, ix, iy, ips⟩ x tx.size q = [] := by
                                    unfold pushT
                                    rw [if_neg (by have := HOP.out; simp only; omega), if_neg (by have := HOP.out; simp only; omega), if_neg (by have := HOP.out; simp only; omega), if_neg (by have := HOP.out; simp only; omega), if_pos (by exact HOP.out)]
                                    rw [if_neg (by simp at p0; omega)]
                                    try rfl
                                  rw [if_neg (by have := HOP.out; omega), if_neg (by have := HOP.out; omega), hp] at h
                                  exact h) MD.out HOK2.out HWY.out (by have := HB2.out; omega))
                                go_roundw
                                case rel => exact ⟨f', AR2.out⟩
                                case measure => rw [← HFL.out]; exact Nat.lt_of_le_of_lt (least_le AR2.out) HLT.out
                          | false =>
                            cases o6 : (op == 6) with
                            | true =>
                              as_aux_lemma =>
                                have HOP := Lib.hid (show op = 6 from by simpa using o6)
                                cases p0 : ((q : Int) == (tx.size : Int)) with
                                | true =>
                                  obtain ⟨cs9, hto, htw⟩ := MD.out.own
                                  rw [← HNN.out] at hto
                                  have TO := Lib.hid hto
                                  have TW := Lib.hid htw
                                  clear hto htw
                                  go_wp2_with (at_builtin; refine wpList_append_lies _ (by rfl) _ _ _ (by rfl) (bs + 1) 93 i0 _ 3 40 Try.underlying94 hi0 hz0 hz1 hz2 rfl (by omega) _ n cs9 (by rfl) (own_grow TO.out ((Grow.refl _).alloc _)) ⟨W9.heap.size, 0, none⟩ 1 1 [.int .i64 ((k : Int) + 1), .int .i64 ((q : Int)), .slice (some ⟨gx, 0, none⟩) m cpx] (by rfl) (by rfl) (World.news_of_block (cs := #[.int .i64 ((k : Int) + 1), .int .i64 ((q : Int)), .slice (some ⟨gx, 0, none⟩) m cpx]) (t := 93) (fr := (0, 0)) (heap_alloc_new W9 _)) (by intro u hu; simp at hu; rcases hu with rfl | rfl | rfl <;> rfl) (by omega) mx (by omega) (by simp; omega) (W9.heap.size + 1) (by simp) ?_; intro gg8 cp8 wz hown8 hgrow8 hat8 hlt8; have H8 := Lib.hid (And.intro hown8 hgrow8); clear hown8 hgrow8 hat8)
                                  obtain ⟨hown8, hgrow8⟩ := H8.out
                                  have M2 : MW tx N (bs + 1) bs W1 (((⟨x.ps, (k : Int) + 1⟩ : Way), q) :: rest) (((k : Int), q) :: S) (.slice (some ⟨gg8, 0, none⟩) (n + 1) cp8) wz := MD.out.push (w9 := W9.alloc (.cells #[.int .i64 ((k : Int) + 1), .int .i64 ((q : Int)), .slice (some ⟨gx, 0, none⟩) m cpx] 93)) (Y := [((⟨x.ps, (k : Int) + 1⟩ : Way), q)]) ((Grow.refl _).alloc _) (by rw [← HNN.out]; exact own_grow TO.out ((Grow.refl _).alloc _)) (TW.out.stay (IntsStay.grow ((Grow.refl _).alloc _))) hgrow8 (by simp only [List.length_cons, ← HNN.out]; exact hown8) (Go.Proofs.Ytldcbkememonaaa.W3.cons (⟨x.ps, (k : Int) + 1⟩ : Way) (q) _ _ _ ((HPX9.out).grow ((Grow.refl _).alloc _)) .nil) (by simp)
                                  have AR2 := Lib.hid (AW.mk' (f := f') (by
                                    have h := HST.out
                                    have hp : pushT ⟨op, ix, iy, ips⟩ x tx.size q = [⟨x.ps, x.at_ + 1⟩] := by
                                      unfold pushT
                                      rw [if_neg (by have := HOP.out; simp only; omega), if_neg (by have := HOP.out; simp only; omega), if_neg (by have := HOP.out; simp only; omega), if_neg (by have := HOP.out; simp only; omega), if_neg (by have := HOP.out; simp only; omega), if_pos (by exact HOP.out)]
                                      rw [if_pos (by simp at p0; omega)]
                                      try rfl
                                    rw [if_neg (by have := HOP.out; omega), if_neg (by have := HOP.out; omega), hp] at h
                                    rw [← HA.out] at h
                                    exact h) M2 HOK2.out (fun y hy => by
                                    simp only [List.mem_cons] at hy
                                    rcases hy with rfl | hy
                                    · exact ⟨(HLO.out.wf1 hkL), HXM.out, by simp only; omega⟩
                                    · exact HWY.out y hy) (by have := HB2.out; simp only [List.length_cons] at this ⊢; omega))
                                  clear H8 hown8 hgrow8 M2
                                  go_roundw
                                  case rel => exact ⟨f', AR2.out⟩
                                  case measure => rw [← HFL.out]; exact Nat.lt_of_le_of_lt (least_le AR2.out) HLT.out
                                | false =>
                                  go_wp2
                                  have AR2 := Lib.hid (AW.mk' (f := f') (by
                                    have h := HST.out
                                    have hp : pushT ⟨op, ix, iy, ips⟩ x tx.size q = [] := by
                                      unfold pushT
                                      rw [if_neg (by have := HOP.out; simp only; omega), if_neg (by have := HOP.out; simp only; omega), if_neg (by have := HOP.out; simp only; omega), if_neg (by have := HOP.out; simp only; omega), if_neg (by have := HOP.out; simp only; omega), if_pos (by exact HOP.out)]
                                      rw [if_neg (by simp at p0; omega)]
                                      try rfl
                                    rw [if_neg (by have := HOP.out; omega), if_neg (by have := HOP.out; omega), hp] at h
                                    exact h) MD.out HOK2.out HWY.out (by have := HB2.out; omega))
                                  go_roundw
                                  case rel => exact ⟨f', AR2.out⟩
                                  case measure => rw [← HFL.out]; exact Nat.lt_of_le_of_lt (least_le AR2.out) HLT.out
                            | false =>
                              have HOP := Lib.hid (show op ≠ 1 ∧ op ≠ 7 ∧ op ≠ 2 ∧ op ≠ 3 ∧ op ≠ 4 ∧ op ≠ 5 ∧ op ≠ 6 from by simp at o1 o7 o2 o3 o4 o5 o6; exact ⟨o1, o7, o2, o3, o4, o5, o6⟩)
                              go_wp2
                              have AR2 := Lib.hid (AW.mk' (f := f') (by
                                have h := HST.out
                                have hp : pushT ⟨op, ix, iy, ips⟩ x tx.size q = [] := by
                                  unfold pushT
                                  rw [if_neg (by have := HOP.out; simp only; omega), if_neg (by have := HOP.out; simp only; omega), if_neg (by have := HOP.out; simp only; omega), if_neg (by have := HOP.out; simp only; omega), if_neg (by have := HOP.out; simp only; omega), if_neg (by have := HOP.out; simp only; omega)]
                                  try rfl
                                rw [if_neg (by have := HOP.out; omega), if_neg (by have := HOP.out; omega), hp] at h
                                exact h) MD.out HOK2.out HWY.out (by have := HB2.out; omega))
                              go_roundw
                              case rel => exact ⟨f', AR2.out⟩
                              case measure => rw [← HFL.out]; exact Nat.lt_of_le_of_lt (least_le AR2.out) HLT.out
end Go.Proofs.Ytldcbkememonaaa
