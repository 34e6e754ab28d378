/- Contract of the check of parcels: those that are right are told so. -/
import Derived.Test.YtgcpclbkjplipaaPart28
import Derived.Test.YtgcpclbkjplipaaMailParcel
set_option linter.unusedVariables false
namespace Go.Proofs.Ytgcpclbkjplipaa
open Go.RowKit Go.Mem Go.Val

def GoodP (d : Nat) (p : Pc) : Prop := 1 ≤ p.ref ∧ -1 ≤ p.ticks ∧ p.box.length ≤ 60 ∧ p.watches.length ≤ 1000 ∧ p.links.length ≤ 1000 ∧ GoodS d p.saved ∧ (∀ l ∈ p.box, GoodL d l) ∧ (∀ n ∈ p.watches, 1 ≤ n) ∧ ∀ n ∈ p.links, 1 ≤ n

set_option maxRecDepth 100000 in
set_option maxHeartbeats 4000000 in
theorem checkP_any (d : Nat) (p : Pc) (cs : List Value) (w : World) (hd : d ≤ 900) (hv : PcCells d w Any cs p) (hg : GoodP d p) :
    Calls Try.prog 69 #[.agg cs.toArray] w fun e w' => e = .returned (.int .i64 0) ∧ Below w.heap.size w w' := by
  obtain ⟨sv, A3, c3, vs3, A4, c4, A5, c5, rfl, _, _, hsv, _, _, _, r3, a3, r4, r5⟩ := hv
  obtain ⟨pr, ps, pb, pt, pw, pl⟩ := p
  obtain ⟨A1, c1, vs1, A2, c2, vs2, rfl, _⟩ := id hsv
  obtain ⟨sa, ss, si⟩ := ps
  obtain ⟨g1, g2, g3, g4, g5, g6, g7, g8, g9⟩ := hg
  simp only [List.cons_append, List.nil_append] at g1 g2 g3 g4 g5 g6 g7 g8 g9 hsv r3 a3 r4 r5 ⊢
  have G7 := Lib.hid g7
  have G8 := Lib.hid g8
  have G9 := Lib.hid g9
  have hbx := Blk.new w 68 [.int .i64 pr, .string sa, .slice A1 ss.length c1, .slice A2 si.length c2, .slice A3 pb.length c3, .int .i64 pt, .slice A4 pw.length c4, .slice A5 pl.length c5]
  obtain ⟨W, hW⟩ : ∃ W, W = w.alloc (.cells #[.int .i64 pr, .string sa, .slice A1 ss.length c1, .slice A2 si.length c2, .slice A3 pb.length c3, .int .i64 pt, .slice A4 pw.length c4, .slice A5 pl.length c5] 68) := ⟨_, rfl⟩
  have hbW : Blk W w.heap.size 68 [.int .i64 pr, .string sa, .slice A1 ss.length c1, .slice A2 si.length c2, .slice A3 pb.length c3, .int .i64 pt, .slice A4 pw.length c4, .slice A5 pl.length c5] := by rw [hW]; exact hbx
  have hbel : Below w.heap.size w W := by rw [hW]; exact (Below.refl _ _).alloc (Nat.le_refl _) _
  have CS := Lib.hid (checkS_any d ⟨sa, ss, si⟩ [.string sa, .slice A1 ss.length c1, .slice A2 si.length c2] W hd ((SvCells.stable d).keep hsv (Same.any hbel)) g6)
  have HW := Lib.hid hW
  clear g6 g7 g8 g9 hbx hsv hW
  have d1 : decide (pr < 1) = false := by simp; omega
  have d2 : decide (pt < -1) = false := by simp; omega
  have d3 : decide ((60 : Int) < (pb.length : Int)) = false := by simp; omega
  have d4 : decide ((1000 : Int) < (pw.length : Int)) = false := by simp; omega
  have d5 : decide ((1000 : Int) < (pl.length : Int)) = false := by simp; omega
  go_enter Try.func69, Try.ntmps69
  go_wp2_with (fail)
  rw [← HW.out]
  clear HW
  refine CS.out.mono ?_
  rintro e w1 ⟨rfl, hb1⟩
  have hB1 := hbW.below hb1 hbW.lt
  have hw1 : Below w.heap.size w w1 := hbel.trans (hb1.mono hbel.size)
  have t4 := hB1.cell 4
  simp only [List.getElem?_cons_succ, List.getElem?_cons_zero] at t4
  have lw1 := hB1.lt
  clear CS hbW hbel hb1
  go_wp2_with (fail)
  clear t4
  go_loopw [46] (fun v wr => ∃ k : Nat, k ≤ pb.length ∧ v = .int .i64 k ∧ Below w1.heap.size w1 wr) (fun v _ => pb.length - (intOf v).toNat)
  case atStart => exact ⟨0, Nat.zero_le _, rfl, Below.refl _ _⟩
  case round =>
    obtain ⟨k, hk, rfl, hb⟩ := hrel
    have hwr : Below w.heap.size w wr := hw1.trans (hb.mono hw1.size)
    by_cases hlt : k < pb.length
    · obtain ⟨b, off, cs, rfl, hD, hv, hcell⟩ := r3.elem (LCells.stable d) a3 rfl hlt
      have hgl := G7.out _ (List.getElem_mem hlt)
      generalize pb[k] = X at hv hgl
      obtain ⟨lk, lf, lt, ln, ls, X⟩ := X
      obtain ⟨vs, rfl, hfit, hvv⟩ := id hv
      obtain ⟨A6, c6, rfl⟩ := hvv.form
      obtain ⟨vk, vn, vt, va⟩ := X
      simp only [V.kind, V.num, V.text, V.args] at hcell hv
      have hsame : Same Any w wr := Same.any hwr
      have g0 := hsame.cell hD (hcell 0 _ rfl)
      have g1 := hsame.cell hD (hcell 1 _ rfl)
      have g2 := hsame.cell hD (hcell 2 _ rfl)
      have g3 := hsame.cell hD (hcell 3 _ rfl)
      have g4 := hsame.cell hD (hcell 4 _ rfl)
      have g5 := hsame.cell hD (hcell 5 _ rfl)
      have g6 := hsame.cell hD (hcell 6 _ rfl)
      have g7 := hsame.cell hD (hcell 7 _ rfl)
      have g8 := hsame.cell hD (hcell 8 _ rfl)
      simp only [Nat.add_zero, ← Nat.add_assoc] at g0 g1 g2 g3 g4 g5 g6 g7 g8
      have CK := Lib.hid (checkL_any d ⟨lk, lf, lt, ln, ls, V.mk vk vn vt va⟩ [.int .i64 lk, .int .i64 lf, .int .i64 lt, .int .i64 ln, .string ls, .int .i64 vk, .int .i64 vn, .string vt, .slice A6 va.length c6] (wr.alloc (.cells #[.int .i64 lk, .int .i64 lf, .int .i64 lt, .int .i64 ln, .string ls, .int .i64 vk, .int .i64 vn, .string vt, .slice A6 va.length c6] 61)) hd ((LCells.stable d).keep ((LCells.stable d).keep hv hsame) (Same.alloc _ _ _)) hgl)
      clear hgl hcell hv hvv hsame hfit
      go_wp2_with (fail)
      refine CK.out.mono ?_
      rintro e w2 ⟨rfl, hb2⟩
      clear CK
      go_wp2_with (fail)
      exact ⟨⟨k + 1, by omega, by go_num, (hb.alloc hb.size _).trans (hb2.mono (by have := hb.size; simp; omega))⟩, by simp [intOf]; omega⟩
    · have hB2 := hB1.below hb lw1
      have t6 := hB2.cell 6
      have t7 := hB2.cell 7
      simp only [List.getElem?_cons_succ, List.getElem?_cons_zero] at t6 t7
      have lw2 := hB2.lt
      obtain ⟨W2, hW2⟩ : ∃ W2, W2 = wr.alloc (.cells #[.slice A4 pw.length c4, .slice A5 pl.length c5] 42) := ⟨_, rfl⟩
      have hS2 : Blk W2 wr.heap.size 42 [.slice A4 pw.length c4, .slice A5 pl.length c5] := by rw [hW2]; exact Blk.new wr _ _
      have hbe2 : Below w.heap.size w W2 := by rw [hW2]; exact hwr.alloc hwr.size _
      have s0 := hS2.cell 0
      have s1 := hS2.cell 1
      simp only [List.getElem?_cons_succ, List.getElem?_cons_zero] at s0 s1
      have ls2 := hS2.lt
      have q4 := r4.keep (Same.any (D := Any) hbe2)
      have q5 := r5.keep (Same.any (D := Any) hbe2)
      have HW2 := Lib.hid hW2
      clear hW2 hS2 hB1 hB2 r3 a3 r4 r5 hb lw1
      go_upto_region 16 with (fail)
      rw [← HW2.out]
      clear HW2 t6 t7
      go_loop [8, 10, 62, 63, 64, 65, 66, 67, 68, 69, 70, 71, 72, 73, 74, 75] (fun _ _ v _ _ _ _ _ _ _ _ _ _ _ _ _ => ∃ k : Nat, k ≤ 2 ∧ v = .int .i64 k) (fun _ _ v _ _ _ _ _ _ _ _ _ _ _ _ _ => 2 - (intOf v).toNat)
      case atStart => exact ⟨0, by omega, rfl⟩
      case round =>
        obtain ⟨k, hk, rfl⟩ := hrel
        rcases (by omega : k = 0 ∨ k = 1 ∨ k = 2) with rfl | rfl | rfl
        · go_wp2_with (fail)
          go_loop [10, 68, 69, 70, 71, 72, 73, 74] (fun _ v _ _ _ _ _ _ => ∃ j : Nat, j ≤ pw.length ∧ v = .int .i64 j) (fun _ v _ _ _ _ _ _ => pw.length - (intOf v).toNat)
          case atStart => exact ⟨0, by omega, rfl⟩
          case round =>
            obtain ⟨j, hj, rfl⟩ := hrel
            by_cases hjl : j < pw.length
            · obtain ⟨b, off, u, rfl, hD, hu, hc⟩ := q4.at_ hjl
              rw [nums_at pw j hjl] at hu
              injection hu with hu
              subst hu
              have hge := G8.out _ (List.getElem_mem hjl)
              generalize pw[j] = X at hc hge
              have dx : decide (X < 1) = false := by simp; omega
              go_wp2_with (fail)
              exact ⟨⟨j + 1, by omega, by go_num⟩, by simp [intOf]; omega⟩
            · go_wp2_with (fail)
              exact ⟨⟨1, by omega, by go_num⟩, by simp [intOf]⟩
        · go_wp2_with (fail)
          go_loop [10, 68, 69, 70, 71, 72, 73, 74] (fun _ v _ _ _ _ _ _ => ∃ j : Nat, j ≤ pl.length ∧ v = .int .i64 j) (fun _ v _ _ _ _ _ _ => pl.length - (intOf v).toNat)
          case atStart => exact ⟨0, by omega, rfl⟩
          case round =>
            obtain ⟨j, hj, rfl⟩ := hrel
            by_cases hjl : j < pl.length
            · obtain ⟨b, off, u, rfl, hD, hu, hc⟩ := q5.at_ hjl
              rw [nums_at pl j hjl] at hu
              injection hu with hu
              subst hu
              have hge := G9.out _ (List.getElem_mem hjl)
              generalize pl[j] = X at hc hge
              have dx : decide (X < 1) = false := by simp; omega
              go_wp2_with (fail)
              exact ⟨⟨j + 1, by omega, by go_num⟩, by simp [intOf]; omega⟩
            · go_wp2_with (fail)
              exact ⟨⟨2, by omega, by go_num⟩, by simp [intOf]⟩
        · go_wp2_with (fail)
          go_ret
          exact ⟨rfl, hbe2⟩
end Go.Proofs.Ytgcpclbkjplipaa
