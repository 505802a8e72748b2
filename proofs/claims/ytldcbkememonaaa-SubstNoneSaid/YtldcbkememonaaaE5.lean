/-
  The walk of pike's adds.
-/
import Derived.Test.YtldcbkememonaaaPf

namespace Go.Proofs.Ytldcbkememonaaa
open Go.RowKit
set_option linter.unusedVariables false
set_option linter.unusedSimpArgs false

set_option maxRecDepth 100000 in
set_option maxHeartbeats 8000000 in
theorem adds_any (B F : Nat) (L : List Ins) (tl place : Nat) (x0 : Way) (ws : List Way) (S : List Int) (RES : List Way × List Int) (hF : addsF L tl place F [x0] ws S = some RES) (w : World) (bw bl mb g o : Nat) (lv pv : Value) (tx : ByteArray) (gr : Int) (a : Option Addr) (c : Nat)
    (hp : ProgAt w bw L g o tx gr a c) (htl : tl = tx.size) (hl : ListAt B w bl ws S lv mb) (hpv : IntsIn x0.ps pv w) (hx0 : wf64 x0.at_) (hwf : ∀ i ∈ L, wf64 i.x ∧ wf64 i.y) (hLn : L.length ≤ 100000) (hS : S.length + F ≤ 1000000) (hws : ws.length + F ≤ 1000000)
    (hlow : bw < w.heap.size ∧ bw ≠ bl ∧ bw ≠ mb ∧ some bw ≠ lv.ownBlock) (hg : 0 < L.length → g ≠ bl ∧ g ≠ mb ∧ some g ≠ lv.ownBlock) (hpl : place ≤ 100000) (htx : tx.size ≤ 100000) (hps : x0.ps.length ≤ 100000) :
    Calls Try.prog 30 #[.pointer (some ⟨bw, 0, none⟩), .pointer (some ⟨bl, 0, none⟩), .agg #[pv, .int .i64 x0.at_], .int .i64 place] w fun e w' =>
      e = .returned (.tuple #[]) ∧ ∃ lv', ListAt B w' bl RES.1 RES.2 lv' mb ∧ FrL bl mb lv w w' ∧ (∀ g, lv'.ownBlock = some g → lv.ownBlock = some g ∨ w.heap.size ≤ g) := by
  obtain ⟨i0, hi0, hz0, hz1, hz2⟩ := info_parts (show (Try.prog.info? 72).map (fun i => (i.zero, i.size, i.bytes)) = some (some (.agg #[.slice none 0 0, .int .i64 0]), 2, 32) by kernel_rfl)
  obtain ⟨apv, cpv, rfl⟩ := hpv.shape
  have HP := Lib.hid hp
  have HL := Lib.hid hl
  have HPV := Lib.hid hpv
  have HWF := Lib.hid hwf
  have HG := Lib.hid hg
  have HF := Lib.hid hF
  obtain ⟨n0, hn0⟩ : ∃ n0, n0 = x0.ps.length := ⟨_, rfl⟩
  rw [← hn0]
  have HN0 := Lib.hid hn0
  have HTL := Lib.hid htl
  clear hp hl hpv hwf hg hF hn0 htl
  go_enter Try.func30, Try.ntmps30
  go_wp2
  obtain ⟨W1, hW1⟩ : ∃ W1, W1 = (w.alloc (.cells #[.slice apv n0 cpv, .int .i64 x0.at_] 72)).alloc (.cells #[.slice apv n0 cpv, .int .i64 x0.at_] 72) := ⟨_, rfl⟩
  have g1 : Grow w W1 := by rw [hW1]; exact ((Grow.refl w).alloc _).alloc _
  have zW : W1.heap.size = w.heap.size + 2 := by rw [hW1]; simp
  have OT := Lib.hid (show W1.ownsRow w.heap.size 72 2 (.slice (some ⟨w.heap.size + 1, 0, none⟩) 1 1) 1 [.slice apv n0 cpv, .int .i64 x0.at_] from by
    rw [hW1]
    have := World.ownsRow_lit (base := w.heap.size) (e := 72) (size := 2) (w.alloc (.cells #[.slice apv n0 cpv, .int .i64 x0.at_] 72)) #[.slice apv n0 cpv, .int .i64 x0.at_] 1 (by simp) (by unfold maxLen; omega) (by simp)
    simpa using this)
  have START : Hid (AR B L tl place RES w bl mb lv F (.slice (some ⟨w.heap.size + 1, 0, none⟩) 1 1) W1) := Lib.hid (by
    obtain ⟨cs, hown, hcs⟩ := HL.out.own
    refine ⟨⟨[x0], ws, S, lv, HF.out, ⟨_, OT.out, ?_⟩, ⟨(Below.block g1 _ (lt_blk HL.out.blk)).trans HL.out.blk, ⟨cs, own_grow hown g1, hcs.stay (IntsStay.grow g1)⟩, HL.out.seen.kept (Below.block g1 _ HL.out.seen.lt), HL.out.lo, HL.out.lm⟩, fun q hq e => ?_, fun q hq => .inl hq, fun y hy => ?_, hS, hws⟩, ⟨Below.os g1, Below.tape g1, Below.output g1, g1.size, fun k hk _ _ _ => Below.block g1 k hk, IntsStay.grow g1⟩⟩
    · have hv := HPV.out
      rw [← HN0.out] at hv
      simpa using WayCs.cons x0 [] _ [] (hv.grow g1) .nil
    · have := (hown.lt q e).2
      have hq' : w.heap.size + 1 = q := by simpa [Value.ownBlock] using hq
      omega
    · simp at hy; subst hy; exact ⟨hx0, hps⟩)
  rw [← hW1]
  clear hW1 OT
  go_loopw [8] (fun tv wr => ∃ f, AR B L tl place RES w bl mb lv f tv wr) (fun tv wr => least (fun f => AR B L tl place RES w bl mb lv f tv wr))
  case atStart => exact ⟨F, START.out⟩
  case round =>
    have hR := least_spec hrel
    obtain ⟨f, hf⟩ : ∃ f, f = least (fun n => AR B L tl place RES w bl mb lv n u8 wr) := ⟨_, rfl⟩
    rw [← hf] at hR
    have HFL := Lib.hid hf
    obtain ⟨⟨todo, ws1, S1, lv1, hadd, ⟨ct, hown, hct⟩, hla, hdis, hnew, hwfy, hSl, hwl⟩, hfr⟩ := hR
    cases todo with
    | nil =>
      obtain ⟨at0, ct0, hu8, _⟩ := own_shape hown
      simp only [List.length_nil] at hu8
      have hRES : RES = (ws1, S1) := by
        cases f with
        | zero => simp [addsF] at hadd; exact hadd.symm
        | succ f => simp [addsF] at hadd; exact hadd.symm
      have FIN : Hid (∃ lv', ListAt B wr bl RES.1 RES.2 lv' mb ∧ FrL bl mb lv w wr ∧ (∀ g, lv'.ownBlock = some g → lv.ownBlock = some g ∨ w.heap.size ≤ g)) := Lib.hid ⟨lv1, by rw [hRES]; exact hla, hfr, hnew⟩
      subst hu8
      clear hrel hadd hown hct hla hdis hnew hwfy hSl hwl hfr hRES hf HFL
      go_wp2
      go_end0
      exact ⟨rfl, FIN.out⟩
    | cons x rest =>
      obtain ⟨gt, cpt, hu8, hgt0, hgt⟩ := hown.form (by simp)
      obtain ⟨n, hn⟩ : ∃ n, n = rest.length := ⟨_, rfl⟩
      have hlen : (x :: rest).length = n + 1 := by simp [hn]
      rw [hlen] at hu8 hown
      subst hu8
      rw [List.reverse_cons] at hct
      obtain ⟨ct1, pvx, rfl, hct1, hpx⟩ := hct.pop
      obtain ⟨apx, cpx, rfl⟩ := hpx.shape
      obtain ⟨nx, hnx⟩ : ∃ nx, nx = x.ps.length := ⟨_, rfl⟩
      have hl1 : ct1.length = n * 2 := by rw [hct1.len, List.length_reverse, hn]
      have e0 : wr.cell? ⟨gt, n * 2, none⟩ = some (.slice apx nx cpx) := by
        rw [World.ownsRow.cellAt hown (n * 2) (by omega), List.getElem?_append_right (by omega), hl1, hnx, Nat.sub_self]
        rfl
      have e1 : wr.cell? ⟨gt, n * 2 + 1, none⟩ = some (.int .i64 x.at_) := by
        rw [World.ownsRow.cellAt hown (n * 2 + 1) (by omega), List.getElem?_append_right (by omega), hl1, show n * 2 + 1 - n * 2 = 1 from by omega]
        rfl
      obtain ⟨A, hA⟩ : ∃ A, A = x.at_ := ⟨_, rfl⟩
      rw [← hA] at e1
      have hwA : wf64 A := by rw [hA]; exact (hwfy x (by simp)).1
      obtain ⟨W2, hW2⟩ : ∃ W2, W2 = wr.alloc (.cells #[.slice apx nx cpx, .int .i64 A] 72) := ⟨_, rfl⟩
      have hbb := heap_alloc_new wr (.cells #[.slice apx nx cpx, .int .i64 A] 72)
      have g2 := (Grow.refl wr).alloc (.cells #[.slice apx nx cpx, .int .i64 A] 72)
      have z2 : (wr.alloc (.cells #[.slice apx nx cpx, .int .i64 A] 72)).heap.size = wr.heap.size + 1 := by simp
      rw [← hW2] at hbb g2 z2
      have hpw : wr.heap[bw]? = some (.cells #[.int .i64 gr, .slice a L.length c, .string tx] 61 (0, 0)) := (hfr.block bw hlow.1 hlow.2.1 hlow.2.2.1 hlow.2.2.2).trans HP.out.blk
      have hpw2 := (Below.block g2 _ (lt_blk hpw)).trans hpw
      have hbl2 := (Below.block g2 _ (lt_blk hla.blk)).trans hla.blk
      obtain ⟨nL, hnL⟩ : ∃ nL, nL = L.length := ⟨_, rfl⟩
      rw [← hnL] at hpw2
      have p1 := cell_blk hpw2 1
      have p2 := cell_blk hpw2 2
      have l0 := cell_blk hbl2 0
      have l1 := cell_blk hbl2 1
      have x0c := cell_blk hbb 0
      have x1c := cell_blk hbb 1
      simp at p1 p2 l0 l1 x0c x1c
      have hsn : SeenAt W2 mb S1 := hla.seen.kept (Below.block g2 _ hla.seen.lt)
      have LK := Lib.hid (fun (k : Nat) => seen_look (w := W2.drewN k) (hsn.kept rfl) A hwA)
      have hfn := addsF_len _ _ _ _ _ _ _ _ hadd
      rw [hlen] at hfn
      have hn6 : n ≤ 1000000 := by omega
      have n0' : (0 : Int) ≤ (n : Int) := by omega
      have hq2 := own_cap hown
      have hcp : (n : Int) ≤ (cpt : Int) := by omega
      have hcp2 : n ≤ cpt := by omega
      clear hq2
      have HBB := Lib.hid hbb
      have HPW := Lib.hid hpw2
      have HBL := Lib.hid hbl2
      have G2 := Lib.hid g2
      have HOWN := Lib.hid hown
      have HADD := Lib.hid hadd
      have HCT := Lib.hid hct1
      have HPX := Lib.hid hpx
      have HLA := Lib.hid hla
      have HDIS := Lib.hid hdis
      have HNEW := Lib.hid hnew
      have HWY := Lib.hid hwfy
      have HFR := Lib.hid hfr
      have HSN := Lib.hid hsn
      have HREL := Lib.hid hrel
      have HA := Lib.hid hA
      have HNL := Lib.hid hnL
      have HN := Lib.hid hn
      have HNX := Lib.hid hnx
      have HL1 := Lib.hid hl1
      have HWA := Lib.hid hwA
      clear hbb hpw hpw2 hbl2 g2 hown hadd hct hct1 hpx hla hdis hnew hwfy hfr hsn hrel hA hnL hn hnx hl1 hlen hwA hf
      have SKIP : Hid (A < 0 ∨ (nL : Int) ≤ A ∨ S1.contains A = true → ∀ k, ∃ f', f' < f ∧ AR B L tl place RES w bl mb lv f' (.slice (some ⟨gt, 0, none⟩) n cpt) (W2.drewN k)) := Lib.hid (fun hsk k => by
        have h1 := HADD.out
        cases f with
        | zero => simp [addsF] at h1
        | succ f =>
          unfold addsF at h1
          rw [if_pos (by rw [← HA.out, ← HNL.out]; exact hsk)] at h1
          have gk := below_drewN G2.out k
          obtain ⟨cs, hc1, hc2⟩ := HLA.out.own
          refine ⟨f, by omega, ⟨rest, ws1, S1, lv1, h1, ⟨ct1, ?_, HCT.out.stay (IntsStay.grow gk)⟩, ⟨(Below.block gk _ (lt_blk HLA.out.blk)).trans HLA.out.blk, ⟨cs, own_grow hc1 gk, hc2.stay (IntsStay.grow gk)⟩, HLA.out.seen.kept (Below.block gk _ HLA.out.seen.lt), HLA.out.lo, HLA.out.lm⟩, HDIS.out, HNEW.out, fun y hy => HWY.out y (by simp [hy]), by omega, by omega⟩, HFR.out.grow gk⟩
          rw [← HN.out]
          exact own_pop (own_grow HOWN.out gk) HL1.out)
      go_wp2
      rw [← hW2]
      clear hW2
      by_cases hA0 : A < 0
      · have hd : decide (A < 0) = true := by simpa using hA0
        go_quiet (fail)
        obtain ⟨f', hlt', har⟩ := SKIP.out (.inl hA0) nq
        have HLT' := Lib.hid hlt'
        have HAR := Lib.hid har
        clear hlt' har
        go_wp2
        go_roundw
        case rel => exact ⟨f', HAR.out⟩
        case measure => rw [← HFL.out]; exact Nat.lt_of_le_of_lt (least_le HAR.out) HLT'.out
      · have hd : decide (A < 0) = false := by simpa using hA0
        by_cases hA1 : (nL : Int) ≤ A
        · have hd1 : decide ((nL : Int) ≤ A) = true := by simpa using hA1
          go_quiet (fail)
          obtain ⟨f', hlt', har⟩ := SKIP.out (.inr (.inl hA1)) nq
          have HLT' := Lib.hid hlt'
          have HAR := Lib.hid har
          clear hlt' har
          go_wp2
          go_roundw
          case rel => exact ⟨f', HAR.out⟩
          case measure => rw [← HFL.out]; exact Nat.lt_of_le_of_lt (least_le HAR.out) HLT'.out
        · have hd1 : decide ((nL : Int) ≤ A) = false := by simpa using hA1
          cases hc : S1.contains A with
          | true =>
            have LK1 : ∀ k : Nat, (Instr.lookup 64 (.map (some mb)) (.int .i64 A) false).run Try.prog (W2.drewN k) = .ok (.bool true) (W2.drewN k) := fun k => by have := LK.out k; rw [hc] at this; exact this
            go_quiet (fail)
            obtain ⟨f', hlt', har⟩ := SKIP.out (.inr (.inr hc)) nq
            have HLT' := Lib.hid hlt'
            have HAR := Lib.hid har
            clear hlt' har
            go_wp2
            go_roundw
            case rel => exact ⟨f', HAR.out⟩
            case measure => rw [← HFL.out]; exact Nat.lt_of_le_of_lt (least_le HAR.out) HLT'.out
          | false =>
            have LK1 : ∀ k : Nat, (Instr.lookup 64 (.map (some mb)) (.int .i64 A) false).run Try.prog (W2.drewN k) = .ok (.bool false) (W2.drewN k) := fun k => by have := LK.out k; rw [hc] at this; exact this
            have HC := Lib.hid hc
            have HA0 := Lib.hid hA0
            have HA1 := Lib.hid hA1
            have hmS : S1.length < maxLen := by unfold maxLen; omega
            go_quiet (fail)
            obtain ⟨W3, hW3⟩ : ∃ W3, W3 = W2.drewN nq := ⟨_, rfl⟩
            have HSN3 := Lib.hid (show SeenAt W3.drew mb S1 from HSN.out.kept (by rw [hW3]; rfl))
            have hh : W3.heap = W2.heap := by rw [hW3]; rfl
            have HH := Lib.hid hh
            have l0' : W3.cell? ⟨bl, 0, none⟩ = some lv1 := by simp [World.cell?, hh] at l0 ⊢; exact l0
            have l1' : W3.cell? ⟨bl, 1, none⟩ = some (.map (some mb)) := by simp [World.cell?, hh] at l1 ⊢; exact l1
            have x1' : W3.cell? ⟨wr.heap.size, 1, none⟩ = some (.int .i64 A) := by simp [World.cell?, hh] at x1c ⊢; exact x1c
            have G3 := Lib.hid (show Grow wr W3 from by rw [hW3]; exact below_drewN G2.out nq)
            rw [← hW3]
            clear hW3 hh hc hA0 hA1
            go_wp2
            obtain ⟨w8, hrun, hs8, hg8⟩ := seen_put HSN3.out A HWA.out hmS
            have HS8 := Lib.hid hs8
            have HG8 := Lib.hid hg8
            have hblmb : bl ≠ mb := fun e => by
              obtain ⟨es, ck, h1⟩ := HLA.out.seen.blk
              rw [← e, HLA.out.blk] at h1
              cases h1
            have hmlt := HLA.out.seen.lt
            have hbxmb : wr.heap.size ≠ mb := by omega
            have m1 : w8.cell? ⟨bl, 1, none⟩ = some (.map (some mb)) := hg8.cell (a := ⟨bl, 1, none⟩) l1' (fun e => hblmb (by injection e))
            have m2 : w8.cell? ⟨wr.heap.size, 1, none⟩ = some (.int .i64 A) := hg8.cell (a := ⟨wr.heap.size, 1, none⟩) x1' (fun e => hbxmb (by injection e))
            have KZ := Lib.hid (And.intro m1 m2)
            have HBLMB := Lib.hid hblmb
            clear hs8 hg8
            go_region_held3 (fun w' => w'.cell? ⟨bl, 1, none⟩ = some (.map (some mb)) ∧ w'.cell? ⟨wr.heap.size, 1, none⟩ = some (.int .i64 A)) (first | go_keep | exact KZ.out) (fail)
            have hgw : ∀ q, q < w.heap.size → q ≠ bl → q ≠ mb → some q ≠ lv.ownBlock → w8.heap[q]? = w.heap[q]? := fun q h1 h2 h3 h4 => by
              have h5 := HFR.out.size
              have h6 := G3.out.size
              rw [HG8.out.block q (by simp; omega) (fun e => h3 (by injection e)), show W3.drew.heap[q]? = W3.heap[q]? from rfl, Below.block G3.out q (by omega)]
              exact HFR.out.block q h1 h2 h3 h4
            have hpb := (hgw bw hlow.1 hlow.2.1 hlow.2.2.1 hlow.2.2.2).trans HP.out.blk
            rw [← HNL.out] at hpb
            have p1 := cell_blk hpb 1
            have p2 := cell_blk hpb 2
            simp at p1 p2
            obtain ⟨k, rfl⟩ : ∃ k : Nat, A = k := ⟨A.toNat, by have := HA0.out; omega⟩
            have hkL : k < L.length := by have := HA1.out; rw [← HNL.out]; omega
            have hk0 : (0 : Int) ≤ (k : Int) := by omega
            have hk1 : (k : Int) < (nL : Int) := by have := HA1.out; omega
            obtain ⟨I, hI⟩ : ∃ I, L[k]? = some I := ⟨_, List.getElem?_eq_getElem hkL⟩
            have hg3 := HG.out (by omega)
            have ha := HP.out.ad (by omega)
            subst ha
            obtain ⟨q0, q1, q2, q3, q4⟩ := HP.out.rd k I hI
            have hgb := hgw g q0 hg3.1 hg3.2.1 hg3.2.2
            replace q1 := (World.cell?_of_block (a := ⟨g, _, none⟩) hgb).trans q1
            replace q2 := (World.cell?_of_block (a := ⟨g, _, none⟩) hgb).trans q2
            replace q3 := (World.cell?_of_block (a := ⟨g, _, none⟩) hgb).trans q3
            replace q4 := (World.cell?_of_block (a := ⟨g, _, none⟩) hgb).trans q4
            obtain ⟨op, ix, iy, ips⟩ := I
            simp only at q1 q2 q3 q4
            have HI := Lib.hid hI
            have hg8s : g < w8.heap.size := by have := HG8.out.size; have := HFR.out.size; have := G3.out.size; simp at *; omega
            clear hI hg3 hgb hpb
            have hbw8 : bw < w8.heap.size := lt_blk ((hgw bw hlow.1 hlow.2.1 hlow.2.2.1 hlow.2.2.2).trans HP.out.blk)
            have hbx8 : wr.heap.size < w8.heap.size := World.block_lt_of_cell? w8 _ m2
            have v1 := World.new_ne w8 _ p1
            have v2 := World.new_ne w8 _ m2
            have v3 := World.new_ne w8 _ q1
            have v4 := World.new_ne w8 _ q2
            have v5 := World.new_ne w8 _ q3
            have v6 := World.new_ne w8 _ q4
            have HGW := Lib.hid hgw
            clear hgw
            go_wp2
            go_region_held3 (fun w' => w'.cell? ⟨bw, 1, none⟩ = some (.slice (some ⟨g, o, none⟩) nL c) ∧ w'.cell? ⟨wr.heap.size, 1, none⟩ = some (.int .i64 k) ∧ w'.cell? ⟨g, o + k * 4, none⟩ = some (.int .i64 op) ∧ w'.cell? ⟨g, o + k * 4 + 1, none⟩ = some (.int .i64 ix) ∧ w'.cell? ⟨g, o + k * 4 + 2, none⟩ = some (.int .i64 iy) ∧ w'.cell? ⟨g, o + k * 4 + 3, none⟩ = some (.string ips)) (go_keep) (fail)
            have MD8 : Mid B w bl mb lv rest ws1 ((k : Int) :: S1) lv1 (.slice (some ⟨gt, 0, none⟩) n cpt) w8 := by
              have hst : IntsStay W3.drew w8 := IntsStay.grown HG8.out (fun q hq cur e => by
                injection hq with hq
                obtain ⟨es, ck, hm⟩ := HSN3.out.blk
                rw [hq, e] at hm
                cases hm)
              have hst1 : IntsStay wr w8 := (IntsStay.grow (G3.out.drew)).trans hst
              have hb8 : ∀ q, q < wr.heap.size → q ≠ mb → w8.heap[q]? = wr.heap[q]? := fun q h1 h2 => by
                rw [HG8.out.block q (by have := G3.out.size; simp; omega) (fun e => h2 (by injection e)), show W3.drew.heap[q]? = W3.heap[q]? from rfl]
                exact Below.block G3.out q h1
              obtain ⟨cs, hc1, hc2⟩ := HLA.out.own
              have okp : ∀ (Bx m : Nat) (u : Value) (xs : List Value), wr.ownsRow Bx 72 2 u m xs → w8.ownsRow Bx 72 2 u m xs := fun Bx m u xs hu => by
                refine (own_grow hu (G3.out.drew)).kept HG8.out ?_
                rcases hu.2 with ⟨h1, _⟩ | ⟨g', cap, cu, h1, _, h2, _⟩
                · left; rw [h1]; rfl
                · right
                  rw [h1]
                  intro e
                  have e' : g' = mb := by simpa [Value.ownBlock] using e
                  obtain ⟨es, ck, hm⟩ := HLA.out.seen.blk
                  rw [e', hm] at h2
                  cases h2
              refine ⟨⟨ct1, ?_, HCT.out.stay hst1⟩, ⟨?_, ⟨cs, okp _ _ _ _ hc1, hc2.stay hst1⟩, HS8.out, HLA.out.lo, HLA.out.lm⟩, HDIS.out, HNEW.out, ?_, ⟨lt_blk HL.out.blk, HL.out.seen.lt⟩⟩
              · rw [← HN.out]
                exact okp _ _ _ _ (own_pop HOWN.out HL1.out)
              · rw [hb8 bl (lt_blk HLA.out.blk) HBLMB.out]; exact HLA.out.blk
              · refine ⟨HG8.out.os.trans ((Below.os G3.out).trans HFR.out.os), HG8.out.tape.trans ((Below.tape G3.out).trans HFR.out.tape), HG8.out.output.trans ((Below.output G3.out).trans HFR.out.output), by have h1 := HFR.out.size; have h2 := G3.out.size; have h3 := HG8.out.size; simp at h3; omega, fun q h1 h2 h3 h4 => HGW.out q h1 h2 h3 h4, HFR.out.ints.trans hst1⟩
            obtain ⟨W9, hW9⟩ : ∃ W9, W9 = (w8.alloc (.cells #[.int .i64 op, .int .i64 ix, .int .i64 iy, .string ips] 26)).drew := ⟨_, rfl⟩
            have g9 : Grow w8 W9 := by rw [hW9]; exact ((Grow.refl w8).alloc _).drew
            have MD := Lib.hid (MD8.grow g9)
            have hb26 : W9.heap[w8.heap.size]? = some (.cells #[.int .i64 op, .int .i64 ix, .int .i64 iy, .string ips] 26 (0, 0)) := by rw [hW9]; exact heap_alloc_new w8 _
            have hb72 : W9.heap[wr.heap.size]? = some (.cells #[.slice apx nx cpx, .int .i64 k] 72 (0, 0)) := by
              rw [Below.block g9 _ hbx8, HG8.out.block wr.heap.size (by have := lt_blk HBB.out; rw [← HH.out] at this; simpa using this) (fun e => hbxmb (by injection e)), show W3.drew.heap[wr.heap.size]? = W3.heap[wr.heap.size]? from rfl, HH.out]
              exact HBB.out
            have u0 := cell_blk hb26 0
            have u1 := cell_blk hb26 1
            have u2 := cell_blk hb26 2
            have r0 := cell_blk hb72 0
            have r1 := cell_blk hb72 1
            simp at u0 u1 u2 r0 r1
            have HPX9 := Lib.hid (show IntsIn x.ps (.slice apx nx cpx) W9 from by
              rw [HNX.out]
              exact ((IntsStay.grow (G3.out.drew)).trans ((IntsStay.grown HG8.out (fun q hq cur e => by
                injection hq with hq
                obtain ⟨es, ck, hm⟩ := HSN3.out.blk
                rw [hq, e] at hm
                cases hm)).trans (IntsStay.grow g9))) _ _ HPX.out)
            have G9 := Lib.hid g9
            have P9 := Lib.hid ((Below.cell g9 (p := ⟨bw, 2, none⟩) hbw8).trans p2)
            rw [← hW9]
            clear hW9 MD8 g9 hb26 hb72 v1 v2 v3 v4 v5 v6 m1 m2 q1 q2 q3 q4 p1 p2 l0' l1' x1' hrun x0c x1c l0 l1
            have hstep : ∃ f', f = f' + 1 ∧ (if op = 1 ∨ op = 7 then addsF L tl place f' rest (ws1 ++ [x]) (x.at_ :: S1)
                else if op = 2 then addsF L tl place f' (⟨x.ps, ix⟩ :: ⟨x.ps, iy⟩ :: rest) ws1 (x.at_ :: S1)
                else if op = 3 then addsF L tl place f' (⟨x.ps, ix⟩ :: rest) ws1 (x.at_ :: S1)
                else if op = 4 then addsF L tl place f' (⟨withF x.ps ix place, x.at_ + 1⟩ :: rest) ws1 (x.at_ :: S1)
                else if op = 5 then addsF L tl place f' (if place = 0 then ⟨x.ps, x.at_ + 1⟩ :: rest else rest) ws1 (x.at_ :: S1)
                else if op = 6 then addsF L tl place f' (if place = tl then ⟨x.ps, x.at_ + 1⟩ :: rest else rest) ws1 (x.at_ :: S1)
                else addsF L tl place f' rest ws1 (x.at_ :: S1)) = some RES := by
              have h1 := HADD.out
              cases f with
              | zero => simp [addsF] at h1
              | succ f =>
                unfold addsF at h1
                have hL1 : L[x.at_.toNat]? = some ⟨op, ix, iy, ips⟩ := by rw [← HA.out]; exact HI.out
                rw [if_neg (by
                  rw [← HA.out, ← HNL.out, HC.out]
                  rintro (h2 | h2 | h2)
                  · omega
                  · omega
                  · cases h2), hL1] at h1
                exact ⟨f, rfl, h1⟩
            obtain ⟨f', hf', hstep⟩ := hstep
            rw [← HA.out] at hstep
            have hwI := HWF.out _ (List.mem_of_getElem? HI.out)
            simp only at hwI
            have hwr : ∀ y ∈ rest, wf64 y.at_ ∧ y.ps.length ≤ 100000 := fun y hy => HWY.out y (by simp [hy])
            have NXL := Lib.hid (HWY.out x (by simp)).2
            have hwk : wf64 ((k : Int) + 1) := by unfold wf64; simp [Lit.wf, IntKind.min, IntKind.max, IntKind.signed, IntKind.bits]; omega
            obtain ⟨cs9, hto, htw⟩ := MD.out.own
            rw [← HN.out] at hto
            have TO := Lib.hid hto
            have TW := Lib.hid htw
            have HST := Lib.hid hstep
            have HF' := Lib.hid hf'
            have HWI := Lib.hid hwI
            have HWR := Lib.hid hwr
            have HWK := Lib.hid hwk
            have z9 : w.heap.size ≤ W9.heap.size := MD.out.fr.size
            have mx : n + 1 ≤ maxLen := by unfold maxLen; omega
            have mx2 : n + 2 ≤ maxLen := by unfold maxLen; omega
            clear hto htw hstep hf' hwI hwr hwk
            cases o1 : (op == 1) with
            | true =>
              have HOP := Lib.hid (show op = 1 from by simpa using o1)
              have hLA := MD.out.la
              obtain ⟨ds, hlo, hlw⟩ := hLA.own
              obtain ⟨n1, hn1⟩ : ∃ n1, n1 = ws1.length := ⟨_, rfl⟩
              rw [← hn1] at hlo
              obtain ⟨a1, c1, hlv1, _⟩ := own_shape hlo
              have LO := Lib.hid hlo
              have LW := Lib.hid hlw
              have HN1 := Lib.hid hn1
              have hblk := hLA.blk
              rw [hlv1] at hblk
              have b0 := cell_blk hblk 0
              have fb := froz_blk hblk 0
              simp at b0
              have hbls : bl < W9.heap.size := lt_blk hblk
              have hB9 : B ≤ W9.heap.size := by have := hLA.lo; omega
              have mxl : n1 + 1 ≤ maxLen := by unfold maxLen; omega
              have hn1b : n1 ≤ 1000000 := by omega
              have c5A := Lib.hid (show ∀ ob, (W9.drew.alloc ob).cell? ⟨bl, 0, none⟩ = some (.slice a1 n1 c1) from fun ob => (World.cell?_alloc_lt _ _ _ (by simpa using hbls)).trans (by simpa using b0))
              have NE6 := Lib.hid (show lv1.ownBlock ≠ some bl from fun e => own72_not67 hlo bl e _ hblk)
              have FZ8 := Lib.hid (show ∀ (ob : Obj) (w8 : World), (W9.drew.alloc ob).grownBy w8 lv1.ownBlock → w8.frozen? ⟨bl, 0, none⟩ = false from fun ob w8 hg => by
                rw [World.frozen?_of_block (a := ⟨bl, 0, none⟩) (hg.block bl (by simp; omega) (fun e => NE6.out e.symm)), World.frozen?_of_block (a := ⟨bl, 0, none⟩) (Below.heap_alloc _ _ _ (by simpa using hbls))]
                simpa using fb)
              have HLV := Lib.hid hlv1
              clear hLA hlo hlw hn1 hblk
              subst hlv1
              go_wp2
              go_region_law
                (refine step_append_lies _ (by rfl) _ _ _ (by rfl) B 72 i0 _ 2 32 Try.underlying65 hi0 hz0 hz1 hz2 rfl (by omega) (.slice a1 n1 c1) n1 ds (by rfl) ((own_grow LO.out (Grow.refl W9).drew).alloc _) ⟨W9.heap.size, 0, none⟩ 1 1 [.slice apx nx cpx, .int .i64 (k : Int)] (by rfl) (by rfl) (World.news_of_block (cs := #[.slice apx nx cpx, .int .i64 (k : Int)]) (t := 72) (fr := (0, 0)) (heap_alloc_new W9.drew _)) (by intro u hu; simp at hu; rcases hu with rfl | rfl <;> rfl) (by omega) mxl (by omega) (by simp; omega) (W9.heap.size + 1) (by simp) ?_; intro gg8 cp8 wz hown8 hgrow8 hat8 hlt8; have c8 := hgrow8.cell (a := ⟨bl, 0, none⟩) (c5A.out _) (fun e => NE6.out e.symm); have f8 := FZ8.out _ _ hgrow8)
              all_goals
                have M2 := MD.out.way (w9 := W9.drew.alloc (.cells #[.slice apx nx cpx, .int .i64 (k : Int)] 72)) (x := x) (lv' := .slice (some ⟨gg8, 0, none⟩) (n1 + 1) cp8) (ds := ds) ((Grow.refl W9).drew.alloc _) (by rw [← HN1.out]; exact (own_grow LO.out (Grow.refl W9).drew).alloc _) (LW.out.stay (IntsStay.grow ((Grow.refl W9).drew.alloc _))) hgrow8 (by rw [← HN1.out]; exact hown8) (by have := WayCs.cons x [] _ [] (HPX9.out.grow ((Grow.refl W9).drew.alloc (.cells #[.slice apx nx cpx, .int .i64 (k : Int)] 72))) .nil; rw [← HA.out] at this; simpa using this) rfl (fun q hq => by
                  have e : gg8 = q := by simpa [Value.ownBlock] using hq
                  subst e
                  rcases hat8 with h | h
                  · exact .inl h
                  · exact .inr (by omega))
                have AR2 := Lib.hid (Mid.ar (f := f') M2 (by
                  have h := HST.out
                  rw [if_pos (by have := HOP.out; omega)] at h
                  exact h) HWR.out (by simp only [List.length_cons]; have := HF'.out; omega) (by rw [List.length_append, List.length_singleton]; have := HF'.out; omega))
                have HLT := Lib.hid (show f' < f from by have := HF'.out; omega)
                clear hown8 hgrow8 hat8 c8 f8 M2
                go_wp2
                go_roundw
                case rel => exact ⟨f', AR2.out⟩
                case measure => rw [← HFL.out]; exact Nat.lt_of_le_of_lt (least_le AR2.out) HLT.out
            | false =>
              cases o7 : (op == 7) with
              | true =>
                have HOP := Lib.hid (show op = 7 from by simpa using o7)
                have hLA := MD.out.la
                obtain ⟨ds, hlo, hlw⟩ := hLA.own
                obtain ⟨n1, hn1⟩ : ∃ n1, n1 = ws1.length := ⟨_, rfl⟩
                rw [← hn1] at hlo
                obtain ⟨a1, c1, hlv1, _⟩ := own_shape hlo
                have LO := Lib.hid hlo
                have LW := Lib.hid hlw
                have HN1 := Lib.hid hn1
                have hblk := hLA.blk
                rw [hlv1] at hblk
                have b0 := cell_blk hblk 0
                have fb := froz_blk hblk 0
                simp at b0
                have hbls : bl < W9.heap.size := lt_blk hblk
                have hB9 : B ≤ W9.heap.size := by have := hLA.lo; omega
                have mxl : n1 + 1 ≤ maxLen := by unfold maxLen; omega
                have hn1b : n1 ≤ 1000000 := by omega
                have c5A := Lib.hid (show ∀ ob, (W9.drew.alloc ob).cell? ⟨bl, 0, none⟩ = some (.slice a1 n1 c1) from fun ob => (World.cell?_alloc_lt _ _ _ (by simpa using hbls)).trans (by simpa using b0))
                have NE6 := Lib.hid (show lv1.ownBlock ≠ some bl from fun e => own72_not67 hlo bl e _ hblk)
                have FZ8 := Lib.hid (show ∀ (ob : Obj) (w8 : World), (W9.drew.alloc ob).grownBy w8 lv1.ownBlock → w8.frozen? ⟨bl, 0, none⟩ = false from fun ob w8 hg => by
                  rw [World.frozen?_of_block (a := ⟨bl, 0, none⟩) (hg.block bl (by simp; omega) (fun e => NE6.out e.symm)), World.frozen?_of_block (a := ⟨bl, 0, none⟩) (Below.heap_alloc _ _ _ (by simpa using hbls))]
                  simpa using fb)
                have HLV := Lib.hid hlv1
                clear hLA hlo hlw hn1 hblk
                subst hlv1
                go_wp2
                go_region_law
                  (refine step_append_lies _ (by rfl) _ _ _ (by rfl) B 72 i0 _ 2 32 Try.underlying65 hi0 hz0 hz1 hz2 rfl (by omega) (.slice a1 n1 c1) n1 ds (by rfl) ((own_grow LO.out (Grow.refl W9).drew).alloc _) ⟨W9.heap.size, 0, none⟩ 1 1 [.slice apx nx cpx, .int .i64 (k : Int)] (by rfl) (by rfl) (World.news_of_block (cs := #[.slice apx nx cpx, .int .i64 (k : Int)]) (t := 72) (fr := (0, 0)) (heap_alloc_new W9.drew _)) (by intro u hu; simp at hu; rcases hu with rfl | rfl <;> rfl) (by omega) mxl (by omega) (by simp; omega) (W9.heap.size + 1) (by simp) ?_; intro gg8 cp8 wz hown8 hgrow8 hat8 hlt8; have c8 := hgrow8.cell (a := ⟨bl, 0, none⟩) (c5A.out _) (fun e => NE6.out e.symm); have f8 := FZ8.out _ _ hgrow8)
                all_goals
                  have M2 := MD.out.way (w9 := W9.drew.alloc (.cells #[.slice apx nx cpx, .int .i64 (k : Int)] 72)) (x := x) (lv' := .slice (some ⟨gg8, 0, none⟩) (n1 + 1) cp8) (ds := ds) ((Grow.refl W9).drew.alloc _) (by rw [← HN1.out]; exact (own_grow LO.out (Grow.refl W9).drew).alloc _) (LW.out.stay (IntsStay.grow ((Grow.refl W9).drew.alloc _))) hgrow8 (by rw [← HN1.out]; exact hown8) (by have := WayCs.cons x [] _ [] (HPX9.out.grow ((Grow.refl W9).drew.alloc (.cells #[.slice apx nx cpx, .int .i64 (k : Int)] 72))) .nil; rw [← HA.out] at this; simpa using this) rfl (fun q hq => by
                    have e : gg8 = q := by simpa [Value.ownBlock] using hq
                    subst e
                    rcases hat8 with h | h
                    · exact .inl h
                    · exact .inr (by omega))
                  have AR2 := Lib.hid (Mid.ar (f := f') M2 (by
                    have h := HST.out
                    rw [if_pos (by have := HOP.out; omega)] at h
                    exact h) HWR.out (by simp only [List.length_cons]; have := HF'.out; omega) (by rw [List.length_append, List.length_singleton]; have := HF'.out; omega))
                  have HLT := Lib.hid (show f' < f from by have := HF'.out; omega)
                  clear hown8 hgrow8 hat8 c8 f8 M2
                  go_wp2
                  go_roundw
                  case rel => exact ⟨f', AR2.out⟩
                  case measure => rw [← HFL.out]; exact Nat.lt_of_le_of_lt (least_le AR2.out) HLT.out
              | false =>
                cases o2 : (op == 2) with
                | true =>
                  have HOP := Lib.hid (show op = 2 from by simpa using o2)
                  go_wp2_with (at_builtin; refine wpList_append_lies _ (by rfl) _ _ _ (by rfl) w.heap.size 72 i0 _ 2 32 Try.underlying65 hi0 hz0 hz1 hz2 rfl (by omega) _ n cs9 (by rfl) (own_grow TO.out ((Grow.refl _).alloc _)) ⟨W9.heap.size, 0, none⟩ 2 2 [.slice apx nx cpx, .int .i64 (iy), .slice apx nx cpx, .int .i64 (ix)] (by rfl) (by rfl) (World.news_of_block (cs := #[.slice apx nx cpx, .int .i64 (iy), .slice apx nx cpx, .int .i64 (ix)]) (t := 72) (fr := (0, 0)) (heap_alloc_new W9 _)) (by intro u hu; simp at hu; rcases hu with rfl | rfl | rfl | rfl <;> rfl) (by omega) mx2 (by omega) (by simp; omega) (W9.heap.size + 1) (by simp) ?_; intro gg8 cp8 wz hown8 hgrow8 hat8 hlt8; have H8 := Lib.hid (And.intro hown8 (And.intro hgrow8 hat8)); clear hown8 hgrow8 hat8)
                  obtain ⟨hown8, hgrow8, hat8⟩ := H8.out
                  have M2 : Mid B w bl mb lv (⟨x.ps, ix⟩ :: ⟨x.ps, iy⟩ :: rest) ws1 ((k : Int) :: S1) lv1 (.slice (some ⟨gg8, 0, none⟩) (n + 2) cp8) wz := MD.out.push (w9 := W9.alloc (.cells #[.slice apx nx cpx, .int .i64 (iy), .slice apx nx cpx, .int .i64 (ix)] 72)) (Y := [⟨x.ps, iy⟩, ⟨x.ps, ix⟩]) ((Grow.refl W9).alloc _) (by rw [← HN.out]; exact own_grow TO.out ((Grow.refl _).alloc _)) (TW.out.stay (IntsStay.grow ((Grow.refl _).alloc _))) hgrow8 (by simp only [List.length_cons, List.length_cons, ← HN.out]; exact hown8) (WayCs.cons ⟨x.ps, iy⟩ _ _ _ (HPX9.out.grow ((Grow.refl _).alloc _)) (WayCs.cons ⟨x.ps, ix⟩ _ _ _ (HPX9.out.grow ((Grow.refl _).alloc _)) .nil)) (by simp) (fun q hq => by
                    have e : gg8 = q := by simpa [Value.ownBlock] using hq
                    subst e
                    rcases hat8 with h | h
                    · exact .inl h
                    · exact .inr (by omega))
                  have AR2 := Lib.hid (Mid.ar (f := f') M2 (by
                    have h := HST.out
                    rw [if_neg (by have := HOP.out; omega), if_pos HOP.out] at h
                    exact h) (fun y hy => by
                    simp only [List.mem_cons] at hy
                    rcases hy with rfl | rfl | hy
                    · exact ⟨HWI.out.1, NXL.out⟩
                    · exact ⟨HWI.out.2, NXL.out⟩
                    · exact HWR.out y hy) (by simp only [List.length_cons]; have := HF'.out; omega) (by have := HF'.out; omega))
                  have HLT := Lib.hid (show f' < f from by have := HF'.out; omega)
                  clear H8 hown8 hgrow8 hat8 M2
                  go_roundw
                  case rel => exact ⟨f', AR2.out⟩
                  case measure => rw [← HFL.out]; exact Nat.lt_of_le_of_lt (least_le AR2.out) HLT.out
                | false =>
                  cases o3 : (op == 3) with
                  | true =>
                    have HOP := Lib.hid (show op = 3 from by simpa using o3)
                    go_wp2_with (at_builtin; refine wpList_append_lies _ (by rfl) _ _ _ (by rfl) w.heap.size 72 i0 _ 2 32 Try.underlying65 hi0 hz0 hz1 hz2 rfl (by omega) _ n cs9 (by rfl) (own_grow TO.out ((Grow.refl _).alloc _)) ⟨W9.heap.size, 0, none⟩ 1 1 [.slice apx nx cpx, .int .i64 (ix)] (by rfl) (by rfl) (World.news_of_block (cs := #[.slice apx nx cpx, .int .i64 (ix)]) (t := 72) (fr := (0, 0)) (heap_alloc_new W9 _)) (by intro u hu; simp at hu; rcases hu with rfl | rfl <;> rfl) (by omega) mx (by omega) (by simp; omega) (W9.heap.size + 1) (by simp) ?_; intro gg8 cp8 wz hown8 hgrow8 hat8 hlt8; have H8 := Lib.hid (And.intro hown8 (And.intro hgrow8 hat8)); clear hown8 hgrow8 hat8)
                    obtain ⟨hown8, hgrow8, hat8⟩ := H8.out
                    have M2 : Mid B w bl mb lv (⟨x.ps, ix⟩ :: rest) ws1 ((k : Int) :: S1) lv1 (.slice (some ⟨gg8, 0, none⟩) (n + 1) cp8) wz := MD.out.push (w9 := W9.alloc (.cells #[.slice apx nx cpx, .int .i64 (ix)] 72)) (Y := [⟨x.ps, ix⟩]) ((Grow.refl W9).alloc _) (by rw [← HN.out]; exact own_grow TO.out ((Grow.refl _).alloc _)) (TW.out.stay (IntsStay.grow ((Grow.refl _).alloc _))) hgrow8 (by simp only [List.length_cons, ← HN.out]; exact hown8) (WayCs.cons ⟨x.ps, ix⟩ _ _ _ (HPX9.out.grow ((Grow.refl _).alloc _)) .nil) (by simp) (fun q hq => by
                      have e : gg8 = q := by simpa [Value.ownBlock] using hq
                      subst e
                      rcases hat8 with h | h
                      · exact .inl h
                      · exact .inr (by omega))
                    have AR2 := Lib.hid (Mid.ar (f := f') M2 (by
                      have h := HST.out
                      rw [if_neg (by have := HOP.out; omega), if_neg (by have := HOP.out; omega), if_pos HOP.out] at h
                      exact h) (fun y hy => by
                      simp only [List.mem_cons] at hy
                      rcases hy with rfl | hy
                      · exact ⟨HWI.out.1, NXL.out⟩
                      · exact HWR.out y hy) (by simp only [List.length_cons]; have := HF'.out; omega) (by have := HF'.out; omega))
                    have HLT := Lib.hid (show f' < f from by have := HF'.out; omega)
                    clear H8 hown8 hgrow8 hat8 M2
                    go_roundw
                    case rel => exact ⟨f', AR2.out⟩
                    case measure => rw [← HFL.out]; exact Nat.lt_of_le_of_lt (least_le AR2.out) HLT.out
                  | false =>
                    cases o4 : (op == 4) with
                    | true =>
                      have HOP := Lib.hid (show op = 4 from by simpa using o4)
                      have WA : Calls Try.prog 40 #[.agg #[.slice apx nx cpx], .int .i64 ix, .int .i64 (place : Int)] W9.drew fun e w' => ∃ a2 c2, e = .returned (.agg #[.slice a2 nx c2]) ∧ IntsIn (withF x.ps ix place) (.slice a2 nx c2) w' ∧ Grow W9.drew w' := by
                        refine (with_any x.ps ix place (.slice apx nx cpx) W9.drew (HPX9.out.grow (Grow.refl W9).drew) NXL.out).mono ?_
                        rintro e w1 ⟨v2, rfl, own2, b2⟩
                        obtain ⟨a2, c2, rfl⟩ := own2.shape
                        rw [withF_len, ← HNX.out] at own2 ⊢
                        exact ⟨a2, c2, rfl, own2, b2⟩
                      have WA := Lib.hid WA
                      have hx9 : wr.heap.size < W9.heap.size := World.block_lt_of_cell? W9 _ r1
                      have RR := Lib.hid r1
                      have hwk1 : IntKind.i64.wrap ((k : Int) + 1) = (k : Int) + 1 := IntWalk.i64_in _ (by omega)
                      go_wp2
                      go_region_law
                        (first
                          | (refine step_append_lies _ (by rfl) _ _ _ (by rfl) w.heap.size 72 i0 _ 2 32 Try.underlying65 hi0 hz0 hz1 hz2 rfl (by omega) _ n cs9 (by rfl) (own_grow TO.out (GW.out.alloc _)) ⟨w1.heap.size, 0, none⟩ 1 1 [.slice a2 nx c2, .int .i64 ((k : Int) + 1)] (by rfl) (by rfl) (World.news_of_block (cs := #[.slice a2 nx c2, .int .i64 ((k : Int) + 1)]) (t := 72) (fr := (0, 0)) (heap_alloc_new w1 _)) (by intro u hu; simp at hu; rcases hu with rfl | rfl <;> rfl) (by omega) mx (by omega) (by simp; omega) (w1.heap.size + 1) (by simp) ?_; intro gg8 cp8 wz hown8 hgrow8 hat8 hlt8)
                          | (go_simp; go_at_call 40; refine WA.out.mono ?_; rintro e w1 ⟨a2, c2, rfl, own2, b2⟩; have GW : Hid (Grow W9 w1) := Lib.hid ((Grow.refl W9).drew.trans b2); have hs1 : w.heap.size ≤ w1.heap.size := (by have := GW.out.size; omega); have O2 := Lib.hid own2; have r1w := (Below.cell GW.out (p := ⟨wr.heap.size, 1, none⟩) hx9).trans RR.out; clear own2 b2))
                      all_goals
                        have M2 : Mid B w bl mb lv (⟨withF x.ps ix place, (k : Int) + 1⟩ :: rest) ws1 ((k : Int) :: S1) lv1 (.slice (some ⟨gg8, 0, none⟩) (n + 1) cp8) wz := MD.out.push (w9 := w1.alloc (.cells #[.slice a2 nx c2, .int .i64 ((k : Int) + 1)] 72)) (Y := [⟨withF x.ps ix place, (k : Int) + 1⟩]) (GW.out.alloc _) (by rw [← HN.out]; exact own_grow TO.out (GW.out.alloc _)) (TW.out.stay (IntsStay.grow (GW.out.alloc _))) hgrow8 (by simp only [List.length_cons, ← HN.out]; exact hown8) (WayCs.cons ⟨withF x.ps ix place, (k : Int) + 1⟩ _ _ _ (O2.out.grow ((Grow.refl w1).alloc _)) .nil) (by simp) (fun q hq => by
                          have e : gg8 = q := by simpa [Value.ownBlock] using hq
                          subst e
                          rcases hat8 with h | h
                          · exact .inl h
                          · exact .inr (by have := GW.out.size; omega))
                        have AR2 := Lib.hid (Mid.ar (f := f') M2 (by
                          have h := HST.out
                          rw [if_neg (by have := HOP.out; omega), if_neg (by have := HOP.out; omega), if_neg (by have := HOP.out; omega), if_pos HOP.out] at h
                          exact h) (fun y hy => by
                          simp only [List.mem_cons] at hy
                          rcases hy with rfl | hy
                          · exact ⟨HWK.out, by simp only [withF_len]; exact NXL.out⟩
                          · exact HWR.out y hy) (by simp only [List.length_cons]; have := HF'.out; omega) (by have := HF'.out; omega))
                        have HLT := Lib.hid (show f' < f from by have := HF'.out; omega)
                        clear hown8 hgrow8 hat8 M2
                        go_simp
                        go_wp2
                        go_roundw
                        case rel => exact ⟨f', AR2.out⟩
                        case measure => rw [← HFL.out]; exact Nat.lt_of_le_of_lt (least_le AR2.out) HLT.out
                    | false =>
                      cases o5 : (op == 5) with
                      | true =>
                        have HOP := Lib.hid (show op = 5 from by simpa using o5)
                        cases p0 : ((place : Int) == 0) with
                        | true =>
                          go_wp2_with (at_builtin; refine wpList_append_lies _ (by rfl) _ _ _ (by rfl) w.heap.size 72 i0 _ 2 32 Try.underlying65 hi0 hz0 hz1 hz2 rfl (by omega) _ n cs9 (by rfl) (own_grow TO.out ((Grow.refl _).alloc _)) ⟨W9.heap.size, 0, none⟩ 1 1 [.slice apx nx cpx, .int .i64 ((k : Int) + 1)] (by rfl) (by rfl) (World.news_of_block (cs := #[.slice apx nx cpx, .int .i64 ((k : Int) + 1)]) (t := 72) (fr := (0, 0)) (heap_alloc_new W9 _)) (by intro u hu; simp at hu; rcases hu with rfl | rfl <;> rfl) (by omega) mx (by omega) (by simp; omega) (W9.heap.size + 1) (by simp) ?_; intro gg8 cp8 wz hown8 hgrow8 hat8 hlt8; have H8 := Lib.hid (And.intro hown8 (And.intro hgrow8 hat8)); clear hown8 hgrow8 hat8)
                          obtain ⟨hown8, hgrow8, hat8⟩ := H8.out
                          have M2 : Mid B w bl mb lv (⟨x.ps, (k : Int) + 1⟩ :: rest) ws1 ((k : Int) :: S1) lv1 (.slice (some ⟨gg8, 0, none⟩) (n + 1) cp8) wz := MD.out.push (w9 := W9.alloc (.cells #[.slice apx nx cpx, .int .i64 ((k : Int) + 1)] 72)) (Y := [⟨x.ps, (k : Int) + 1⟩]) ((Grow.refl W9).alloc _) (by rw [← HN.out]; exact own_grow TO.out ((Grow.refl _).alloc _)) (TW.out.stay (IntsStay.grow ((Grow.refl _).alloc _))) hgrow8 (by simp only [List.length_cons, ← HN.out]; exact hown8) (WayCs.cons ⟨x.ps, (k : Int) + 1⟩ _ _ _ (HPX9.out.grow ((Grow.refl _).alloc _)) .nil) (by simp) (fun q hq => by
                            have e : gg8 = q := by simpa [Value.ownBlock] using hq
                            subst e
                            rcases hat8 with h | h
                            · exact .inl h
                            · exact .inr (by omega))
                          have AR2 := Lib.hid (Mid.ar (f := f') M2 (by
                            have h := HST.out
                            rw [if_neg (by have := HOP.out; omega), if_neg (by have := HOP.out; omega), if_neg (by have := HOP.out; omega), if_neg (by have := HOP.out; omega), if_pos HOP.out] at h
                            rw [if_pos (by simp at p0; omega)] at h
                            exact h) (fun y hy => by
                            simp only [List.mem_cons] at hy
                            rcases hy with rfl | hy
                            · exact ⟨HWK.out, NXL.out⟩
                            · exact HWR.out y hy) (by simp only [List.length_cons]; have := HF'.out; omega) (by have := HF'.out; omega))
                          have HLT := Lib.hid (show f' < f from by have := HF'.out; omega)
                          clear H8 hown8 hgrow8 hat8 M2
                          go_roundw
                          case rel => exact ⟨f', AR2.out⟩
                          case measure => rw [← HFL.out]; exact Nat.lt_of_le_of_lt (least_le AR2.out) HLT.out
                        | false =>
                          go_wp2
                          have AR2 := Lib.hid (Mid.ar (f := f') MD.out (by
                            have h := HST.out
                            rw [if_neg (by have := HOP.out; omega), if_neg (by have := HOP.out; omega), if_neg (by have := HOP.out; omega), if_neg (by have := HOP.out; omega), if_pos HOP.out] at h
                            rw [if_neg (by simp at p0; omega)] at h
                            exact h) HWR.out (by simp only [List.length_cons]; have := HF'.out; omega) (by have := HF'.out; omega))
                          have HLT := Lib.hid (show f' < f from by have := HF'.out; omega)
                          go_roundw
                          case rel => exact ⟨f', AR2.out⟩
                          case measure => rw [← HFL.out]; exact Nat.lt_of_le_of_lt (least_le AR2.out) HLT.out
                      | false =>
                        cases o6 : (op == 6) with
                        | true =>
                          have HOP := Lib.hid (show op = 6 from by simpa using o6)
                          have p9 := P9.out
                          cases p0 : ((place : Int) == (tx.size : Int)) with
                          | true =>
                            go_wp2_with (at_builtin; refine wpList_append_lies _ (by rfl) _ _ _ (by rfl) w.heap.size 72 i0 _ 2 32 Try.underlying65 hi0 hz0 hz1 hz2 rfl (by omega) _ n cs9 (by rfl) (own_grow TO.out ((Grow.refl _).alloc _)) ⟨W9.heap.size, 0, none⟩ 1 1 [.slice apx nx cpx, .int .i64 ((k : Int) + 1)] (by rfl) (by rfl) (World.news_of_block (cs := #[.slice apx nx cpx, .int .i64 ((k : Int) + 1)]) (t := 72) (fr := (0, 0)) (heap_alloc_new W9 _)) (by intro u hu; simp at hu; rcases hu with rfl | rfl <;> rfl) (by omega) mx (by omega) (by simp; omega) (W9.heap.size + 1) (by simp) ?_; intro gg8 cp8 wz hown8 hgrow8 hat8 hlt8; have H8 := Lib.hid (And.intro hown8 (And.intro hgrow8 hat8)); clear hown8 hgrow8 hat8)
                            obtain ⟨hown8, hgrow8, hat8⟩ := H8.out
                            have M2 : Mid B w bl mb lv (⟨x.ps, (k : Int) + 1⟩ :: rest) ws1 ((k : Int) :: S1) lv1 (.slice (some ⟨gg8, 0, none⟩) (n + 1) cp8) wz := MD.out.push (w9 := W9.alloc (.cells #[.slice apx nx cpx, .int .i64 ((k : Int) + 1)] 72)) (Y := [⟨x.ps, (k : Int) + 1⟩]) ((Grow.refl W9).alloc _) (by rw [← HN.out]; exact own_grow TO.out ((Grow.refl _).alloc _)) (TW.out.stay (IntsStay.grow ((Grow.refl _).alloc _))) hgrow8 (by simp only [List.length_cons, ← HN.out]; exact hown8) (WayCs.cons ⟨x.ps, (k : Int) + 1⟩ _ _ _ (HPX9.out.grow ((Grow.refl _).alloc _)) .nil) (by simp) (fun q hq => by
                              have e : gg8 = q := by simpa [Value.ownBlock] using hq
                              subst e
                              rcases hat8 with h | h
                              · exact .inl h
                              · exact .inr (by omega))
                            have AR2 := Lib.hid (Mid.ar (f := f') M2 (by
                              have h := HST.out
                              rw [if_neg (by have := HOP.out; omega), if_neg (by have := HOP.out; omega), if_neg (by have := HOP.out; omega), if_neg (by have := HOP.out; omega), if_neg (by have := HOP.out; omega), if_pos HOP.out] at h
                              rw [if_pos (by have := HTL.out; simp at p0; omega)] at h
                              exact h) (fun y hy => by
                              simp only [List.mem_cons] at hy
                              rcases hy with rfl | hy
                              · exact ⟨HWK.out, NXL.out⟩
                              · exact HWR.out y hy) (by simp only [List.length_cons]; have := HF'.out; omega) (by have := HF'.out; omega))
                            have HLT := Lib.hid (show f' < f from by have := HF'.out; omega)
                            clear H8 hown8 hgrow8 hat8 M2
                            go_roundw
                            case rel => exact ⟨f', AR2.out⟩
                            case measure => rw [← HFL.out]; exact Nat.lt_of_le_of_lt (least_le AR2.out) HLT.out
                          | false =>
                            go_wp2
                            have AR2 := Lib.hid (Mid.ar (f := f') MD.out (by
                              have h := HST.out
                              rw [if_neg (by have := HOP.out; omega), if_neg (by have := HOP.out; omega), if_neg (by have := HOP.out; omega), if_neg (by have := HOP.out; omega), if_neg (by have := HOP.out; omega), if_pos HOP.out] at h
                              rw [if_neg (by have := HTL.out; simp at p0; omega)] at h
                              exact h) HWR.out (by simp only [List.length_cons]; have := HF'.out; omega) (by have := HF'.out; omega))
                            have HLT := Lib.hid (show f' < f from by have := HF'.out; omega)
                            go_roundw
                            case rel => exact ⟨f', AR2.out⟩
                            case measure => rw [← HFL.out]; exact Nat.lt_of_le_of_lt (least_le AR2.out) HLT.out
                        | false =>
                          have ON := Lib.hid (show op ≠ 1 ∧ op ≠ 7 ∧ op ≠ 2 ∧ op ≠ 3 ∧ op ≠ 4 ∧ op ≠ 5 ∧ op ≠ 6 from by simp at o1 o7 o2 o3 o4 o5 o6; exact ⟨o1, o7, o2, o3, o4, o5, o6⟩)
                          go_wp2
                          have AR2 := Lib.hid (Mid.ar (f := f') MD.out (by
                            have h := HST.out
                            rw [if_neg (by have := ON.out; omega), if_neg (by have := ON.out; omega), if_neg (by have := ON.out; omega), if_neg (by have := ON.out; omega), if_neg (by have := ON.out; omega), if_neg (by have := ON.out; omega)] at h
                            exact h) HWR.out (by simp only [List.length_cons]; have := HF'.out; omega) (by have := HF'.out; omega))
                          have HLT := Lib.hid (show f' < f from by have := HF'.out; omega)
                          go_roundw
                          case rel => exact ⟨f', AR2.out⟩
                          case measure => rw [← HFL.out]; exact Nat.lt_of_le_of_lt (least_le AR2.out) HLT.out
end Go.Proofs.Ytldcbkememonaaa
