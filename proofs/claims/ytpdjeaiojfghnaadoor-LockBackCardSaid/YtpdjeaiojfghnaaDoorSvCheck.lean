/- Contract of solve.Check at a register that may be. -/
import Derived.Test.YtpdjeaiojfghnaaDoorSvMem
import Derived.Deep.RegionHeld3
set_option linter.unusedVariables false
namespace Go.Proofs.YtpdjeaiojfghnaaDoor
open Go.RowKit Go.Mem Go.Sv Go.Maps
set_option maxRecDepth 100000 in
set_option maxHeartbeats 2000000 in
theorem check_any (A : Option Addr) (n c : Nat) (ms : List Md) (w : World) (hr : MdsAt w Any A n c ms) (h : MsOk ms) :
    Calls Tryd.prog 11 #[.slice A n c] w fun e w' => e = .returned (.int .i64 0) ∧ Below w.heap.size w w' := by
  have hn : n = ms.length := by obtain ⟨_, h1, _⟩ := hr; exact h1
  have h30 : n ≤ 30 := by have := h.ln; omega
  have Hn := Lib.hid hn
  have H := Lib.hid h
  have HR := Lib.hid hr
  clear hn h hr
  go_enter Tryd.func11, Tryd.ntmps11
  go_wp2_with (fail)
  go_loopw [11] (fun v wr => ∃ j : Nat, j ≤ n ∧ v = .int .i64 j ∧ Below w.heap.size w wr) (fun v _ => n - (intOf v).toNat)
  case atStart => exact ⟨0, Nat.zero_le _, rfl, Below.refl _ _⟩
  case round =>
    obtain ⟨j, hj, rfl, hb⟩ := hrel
    by_cases hlt : j < n
    · have hl : j < ms.length := by have := Hn.out; omega
      have HRr := HR.out.keep (Same.any hb)
      obtain ⟨b1, o1, Au, nu, cu, rfl, _, p0, p1, p2, q1, q2, q3, q4⟩ := HRr.cells hlt hl
      have hnm := H.out.nm _ (List.getElem_mem hl)
      have hvr := H.out.vr _ (List.getElem_mem hl)
      have hus := H.out.us _ (List.getElem_mem hl)
      have hprev : ∀ i, i + 1 = j → ∀ hi : i < ms.length, MdLt ms[i] ms[j] := fun i e hi => List.pairwise_iff_getElem.1 H.out.od i j hi hl (by omega)
      generalize ms[j] = y at p0 p1 p2 q1 q4 hnm hvr hus hprev
      obtain ⟨yn, yv, yu⟩ := y
      simp only at p0 p1 p2 q1 q4 hnm hvr hus
      obtain ⟨nu2, hnu2⟩ : ∃ k, k = nu := ⟨_, rfl⟩
      rw [← hnu2] at p2 q1 q2 q4
      have Q1 := Lib.hid q1
      clear q1 hnu2
      have NM := fun W => Lib.hid (name_any yn W hnm)
      have WA := fun W hr => Lib.hid (wants_any Au nu2 cu yu W hr Q1.out (by have := Q1.out; omega) hus.2)
      obtain ⟨W, hW⟩ : ∃ W, W = wr.alloc (.cells #[str yn, .int .i64 (yv : Nat), .slice Au nu2 cu] 52) := ⟨_, rfl⟩
      have hbk : Blk W wr.heap.size 52 [str yn, .int .i64 (yv : Nat), .slice Au nu2 cu] := by rw [hW]; exact Blk.new wr _ _
      have hbW0 : Below wr.heap.size wr W := by rw [hW]; exact (Below.refl _ _).alloc (Nat.le_refl _) _
      have HB := Lib.hid (And.intro hbk (hb.trans (hbW0.mono hb.size)))
      have WA1 := Lib.hid (WA W (q4.keep (Same.any hbW0)))
      clear hbk hbW0 q4 WA HRr
      go_upto_region 6 with (fail)
      rw [← hW]
      have e0 := HB.out.1.cell 0
      have e1 := HB.out.1.cell 1
      have e2 := HB.out.1.cell 2
      simp only [List.getElem?_cons_zero, List.getElem?_cons_succ] at e0 e1 e2
      have lD := HB.out.1.lt
      generalize wr.heap.size = D at e0 e1 e2 lD HB ⊢
      clear hW p0 p1 p2
      go_wp2_with (fail)
      refine (NM _).out.mono ?_
      rintro e w' ⟨rfl, rfl⟩
      have g1 : decide ((yv : Int) < 1) = false := decide_eq_false (by omega)
      have g2 : decide ((yv : Int) > 9999) = false := decide_eq_false (by omega)
      go_wp2_with (fail)
      have wa := WA1.out
      refine wa.out.mono ?_
      rintro e w2 ⟨rfl, hb2⟩
      have HB2 := Lib.hid (HB.out.2.trans (hb2.mono HB.out.2.size))
      have bk2 := HB.out.1.below hb2 lD
      have f0 := bk2.cell 0
      have f1 := bk2.cell 1
      simp only [List.getElem?_cons_zero, List.getElem?_cons_succ] at f0 f1
      have lD2 := bk2.lt
      clear wa WA1 hb2 e0 e1 e2 lD bk2 hus
      by_cases h0 : j = 0
      · subst h0
        go_wp2_with (fail)
        go_quiet (fail)
        go_wp2_with (fail)
        exact ⟨⟨1, by omega, by go_num, ⟨HB2.out.os, HB2.out.tape, HB2.out.output, HB2.out.size, HB2.out.block⟩⟩, by simp [intOf]; omega⟩
      · obtain ⟨m, rfl⟩ : ∃ m, j = m + 1 := ⟨j - 1, by omega⟩
        have hm : m < ms.length := by omega
        have HR2 := HR.out.keep (Same.any HB2.out)
        obtain ⟨b2, o2, Av, nv, cv, e2, _, s0, s1, _⟩ := HR2.cells (show m < n by omega) hm
        injection e2 with e2
        injection e2 with e3 e4
        subst e3 e4
        have hlt2 := hprev m rfl hm
        have hxn := H.out.nm _ (List.getElem_mem hm)
        have hxv := H.out.vr _ (List.getElem_mem hm)
        generalize ms[m] = x at s0 s1 hlt2 hxn hxv
        obtain ⟨xn, xv, xu⟩ := x
        simp only at s0 s1 hxn hxv
        obtain ⟨ca, rfl, _, _⟩ := hnm
        obtain ⟨cb, rfl, _, _⟩ := hxn
        have hdiff : IntKind.i64.wrap ((yv : Int) - (xv : Int)) = (yv : Int) - (xv : Int) := IntWalk.i64_in _ (by omega)
        obtain ⟨r, hr9⟩ : ∃ r : Int, r = if ca < cb then -1 else if cb < ca then 1 else 0 := ⟨_, rfl⟩
        obtain ⟨z, hz⟩ : ∃ z : Int, z = if r = 0 then (yv : Int) - (xv : Int) else r := ⟨_, rfl⟩
        have hzp : 0 < z := by
          unfold MdLt at hlt2
          simp only at hlt2
          rcases hlt2 with h1 | ⟨h1, h2⟩
          · have h3 : cb < ca := (lt_one cb ca).1 h1
            have h4 : ¬ ca < cb := fun h => by
              have a1 : ca.toNat < cb.toNat := h
              have a2 : cb.toNat < ca.toNat := h3
              omega
            rw [if_neg h4, if_pos h3] at hr9
            rw [hz, hr9]
            simp
          · injection h1 with h1
            subst h1
            have h4 : ¬ cb < cb := fun h => by have a1 : cb.toNat < cb.toNat := h; omega
            rw [if_neg h4, if_neg h4] at hr9
            rw [hz, hr9, if_pos rfl]
            omega
        have CM := fun W => Lib.hid (compare_any ca cb r W hr9)
        have g3 : decide (z ≤ 0) = false := decide_eq_false (by omega)
        have g4 : decide (((m + 1 : Nat) : Int) > 0) = true := decide_eq_true (by omega)
        have e6 : IntKind.i64.wrap ((m : Int) + 1 - 1) = (m : Int) := (IntWalk.i64_in _ (by omega)).trans (by omega)
        have e7 : IntKind.i64.wrap (m : Int) = (m : Int) := IntWalk.i64_in _ (by omega)
        have OR := fun g W h0 h1 lg => Lib.hid (or_any g r ((yv : Int) - (xv : Int)) z W h0 h1 lg hz)
        clear hprev hlt2 hz hr9 HR2
        go_wp2_with (fail)
        have ORx := fun W (hW : w2.heap.size ≤ W.heap.size) => OR W.heap.size (W.alloc (.cells #[.int .i64 r, .int .i64 ((yv : Int) - (xv : Int))] 3)) ((Blk.new W 3 [.int .i64 r, .int .i64 ((yv : Int) - (xv : Int))]).cell 0) ((Blk.new W 3 [.int .i64 r, .int .i64 ((yv : Int) - (xv : Int))]).cell 1) (Blk.new W 3 [.int .i64 r, .int .i64 ((yv : Int) - (xv : Int))]).lt
        have ORH := Lib.hid ORx
        have i1 : (m : Int) < (n : Int) := by omega
        have i2 : (0 : Int) ≤ (m : Int) := by omega
        have i3 : m < n := by omega
        clear OR ORx
        go_region_held3 (fun w' => w'.cell? ⟨D, 0, none⟩ = some (str [ca]) ∧ w'.cell? ⟨D, 1, none⟩ = some (.int .i64 (yv : Nat)) ∧ w'.cell? ⟨b1, o1 + m * 3, none⟩ = some (str [cb]) ∧ w'.cell? ⟨b1, o1 + m * 3 + 1, none⟩ = some (.int .i64 (xv : Nat)))
          (first | go_keep)
          (first
            | (go_at_call 28; refine (CM _).out.mono ?_; rintro e w' ⟨rfl, rfl⟩)
            | (go_at_call 27; refine (ORH.out w2.drew (Nat.le_refl _)).out.mono ?_; rintro e w' ⟨rfl, rfl⟩))
        all_goals
          go_wp2_with (fail)
          have hb9 := HB2.out.alloc HB2.out.size (.cells #[.int .i64 r, .int .i64 ((yv : Int) - (xv : Int))] 3)
          exact ⟨⟨m + 2, by omega, by go_num, ⟨hb9.os, hb9.tape, hb9.output, hb9.size, hb9.block⟩⟩, by simp [intOf]; omega⟩
    · go_wp2_with (fail)
      go_ret
      exact ⟨rfl, hb⟩
end Go.Proofs.YtpdjeaiojfghnaaDoor
