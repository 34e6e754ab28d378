/- Contract of package replay's Choices. -/
import Derived.Test.YtlpkgheggbcidaaDoorRpIdx
import Derived.Deep.DeepCutAuto
set_option linter.unusedVariables false
namespace Go.Proofs.YtlpkgheggbcidaaDoor
open Go.RowKit Go.Mem Go.Rp Go.Maps
/-- a row of choices that the call has made -/
def OutAt (w wr : World) (v : Value) (l : List Ch) : Prop := Seg wr 36 3 v l.length (cat chC l) ∧ (∀ b, v.ownBlock = some b → w.heap.size ≤ b) ∧ Below w.heap.size w wr
section
variable {w wr w2 : World} {v v2 : Value} {l : List Ch}
theorem OutAt.nil (w : World) : OutAt w w (.slice none 0 0) [] := ⟨Seg.nil _ _ _, fun b hb => by simp [Value.ownBlock] at hb, Below.refl _ _⟩
theorem OutAt.form (h : OutAt w wr v l) : ∃ A c, v = .slice A l.length c := by
  obtain ⟨A, c, e, _⟩ := h.1.form
  exact ⟨A, c, e⟩
theorem OutAt.same (h : OutAt w wr v l) (e : w2.heap = wr.heap) (h1 : w2.os = wr.os) (h2 : w2.tape = wr.tape) (h3 : w2.output = wr.output) : OutAt w w2 v l :=
  ⟨h.1.keep fun b _ => by rw [e], h.2.1, ⟨h1.trans h.2.2.os, h2.trans h.2.2.tape, h3.trans h.2.2.output, by rw [e]; exact h.2.2.size, fun k hk => by rw [e]; exact h.2.2.block k hk⟩⟩
theorem OutAt.drewN (h : OutAt w wr v l) (k : Nat) : OutAt w (wr.drewN k) v l := h.same rfl rfl rfl rfl
theorem OutAt.push (h : OutAt w wr v l) (x : Ch) (hs : Seg w2 36 3 v2 (l.length + 1) (cat chC l ++ chC x)) (hg : (wr.alloc (.cells (chC x).toArray 36)).grownBy w2 v.ownBlock) (hat : ∀ b, v2.ownBlock = some b → v.ownBlock = some b ∨ (wr.alloc (.cells (chC x).toArray 36)).heap.size ≤ b) : OutAt w w2 v2 (l ++ [x]) := by
  have hsz := h.2.2.size
  have hb1 := h.2.2.alloc hsz (.cells (chC x).toArray 36)
  have hsz1 := hb1.size
  refine ⟨by rw [cat_app, cat_one, List.length_append, List.length_singleton]; exact hs, fun b hb => ?_, hb1.grown hg hsz1 fun k hk => h.2.1 k hk⟩
  rcases hat b hb with h1 | h1
  · exact h.2.1 b h1
  · omega
theorem OutAt.read (h : OutAt w wr v l) (x : Ch) : Reads (wr.alloc (.cells (chC x).toArray 36)) Any 3 (some ⟨wr.heap.size, 0, none⟩) 1 (chC x) := Reads.new wr (chC x) 3 1 _ Any trivial rfl
end
theorem goes_len (acs : List Ac) (k : Nat) : (goesF acs k).length ≤ k := by
  unfold goesF
  exact Nat.le_trans (List.length_filterMap_le _ _) (by simp)
theorem late_len (acs : List Ac) (k : Nat) : (lateF acs k).length ≤ k := by
  unfold lateF
  exact Nat.le_trans (List.length_filterMap_le _ _) (by simp)
theorem row_len (s : Wd) (a k : Nat) : (rowF s a k).length ≤ k := by
  unfold rowF
  exact Nat.le_trans (List.length_filterMap_le _ _) (by simp)
theorem comes_len (s : Wd) (k : Nat) : (comesF s k).length ≤ k * s.acs.length := by
  induction k with
  | zero => simp [comesF]
  | succ k ih =>
    rw [comes_succ, List.length_append, Nat.add_mul]
    have := row_len s k s.acs.length
    omega
theorem choices_len {s : Wd} (h : s.acs.length ≤ 30) : (choicesF s).length ≤ 2000 := by
  unfold choicesF
  rw [List.length_append, List.length_append]
  have h1 := goes_len s.acs s.acs.length
  have h2 := late_len s.acs s.acs.length
  have h3 := comes_len s (s.acs.length + 1)
  have h4 : (s.acs.length + 1) * s.acs.length ≤ 31 * 30 := Nat.mul_le_mul (by omega) h
  omega
def ChoPost (w : World) (l : List Ch) (e : Ending) (w' : World) : Prop := ∃ A n c, e = .returned (.slice A n c) ∧ n = l.length ∧ n ≤ c ∧ c ≤ maxLen ∧ Reads w' (fun b => w.heap.size ≤ b) 3 A n (cat chC l) ∧ Below w.heap.size w w'
set_option maxRecDepth 100000 in
set_option maxHeartbeats 8000000 in
theorem choices_any (w : World) (B T : Nat) (col : Nat → Cl) (s : Wd) {A : Option Addr} {c : Nat} {av : Value} {ps : List Value} {M : Nat} {l : List ((Nat × Nat) × Value)} {sv : Value} (h : WdW w B T col s A c av ps M l sv) (hL : s.acs.length ≤ 30) (hw : ∀ k, (wayF s k).length ≤ 500000) (hbx : ∀ (i : Nat) a, s.acs[i]? = some a → a.box.length ≤ 500000) :
    Calls Tryd.prog 13 #[.pointer (some ⟨T, 0, none⟩)] w (ChoPost w (choicesF s)) := by
  obtain ⟨AA, ac, rfl, hac, hcm⟩ := h.rw_.form
  obtain ⟨L, hLe⟩ : ∃ L, L = s.acs.length := ⟨_, rfl⟩
  have c1 := h.blk.cell 1
  have c2 := h.blk.cell 2
  simp only [List.getElem?_cons_succ, List.getElem?_cons_zero] at c1 c2
  have lT := h.blk.lt
  rw [← hLe] at c1 hac hL
  have H := Lib.hid h
  have HL := Lib.hid hLe
  have HW := Lib.hid hw
  have HBX := Lib.hid hbx
  -- actor k, behind whatever the call has made
  have ACT : ∀ (wr : World), Below w.heap.size w wr → ∀ k, k < L → ∃ (b off S Y : Nat) (a : Ac) (BA : Option Addr) (bc : Nat), AA = some ⟨b, off, none⟩ ∧ s.acs[k]? = some a ∧ wr.cell? ⟨b, off + k, none⟩ = some (.pointer (some ⟨S, 0, none⟩)) ∧ Blk wr S 80 (acC Y 166 (.slice BA a.box.length bc) a) ∧ a.box.length ≤ 500000 := by
    intro wr hb k hk
    have hk2 : k < s.acs.length := by rw [← hLe]; exact hk
    obtain ⟨S, hp, Y, bv, hA⟩ := h.acts.2 k s.acs[k] (List.getElem?_eq_getElem hk2)
    obtain ⟨BA, bc, rfl, _, _⟩ := hA.box.form
    have sg := h.rw_
    rcases id sg.2 with ⟨_, h0⟩ | ⟨g, off, c', cur, e1, _⟩
    · omega
    · injection e1 with e1 _ e3
      subst e1 e3
      have hc := sg.cells k _ hp
      exact ⟨g, off, S, Y, s.acs[k], BA, bc, rfl, List.getElem?_eq_getElem hk2, (hb.cell (p := ⟨g, off + k, none⟩) (lt_of_cell hc)).trans hc, hA.blk.below hb hA.blk.lt, hbx k _ (List.getElem?_eq_getElem hk2)⟩
  have HA := Lib.hid ACT
  clear ACT h hLe hw hbx
  go_enter Tryd.func13, Tryd.ntmps13
  go_wp2_with (fail)
  go_loopw [3, 15] (fun v i wr => ∃ k : Nat, k ≤ L ∧ i = .int .i64 k ∧ Hid (OutAt w wr v (goesF s.acs k))) (fun _ i _ => L - (intOf i).toNat)
  case atStart => exact ⟨0, Nat.zero_le _, rfl, OutAt.nil w⟩
  case round =>
    obtain ⟨k, hk, rfl, HO⟩ := hrel
    obtain ⟨A3, c3, rfl⟩ := HO.out.form
    have gl := goes_len s.acs k
    obtain ⟨N, hN⟩ : ∃ N, N = (goesF s.acs k).length := ⟨_, rfl⟩
    rw [← hN] at HO gl ⊢
    have HN := Lib.hid hN
    have HLN := Lib.hid (show (goesF s.acs k).length + 1 ≤ 1000000 by omega)
    clear hN
    by_cases hlt : k < L
    · obtain ⟨b, off, S, Y, a, BA, bc, rfl, ha, hcell, bS, hbl⟩ := HA.out wr HO.out.2.2 k hlt
      have HG := Lib.hid (goes_succ ha)
      obtain ⟨BL, hBL⟩ : ∃ n, n = a.box.length := ⟨_, rfl⟩
      rw [← hBL] at bS hbl
      have s1 := bS.cell 1
      have s2 := bS.cell 2
      have s4 := bS.cell 4
      have s5 := bS.cell 5
      simp only [acC, List.getElem?_cons_succ, List.getElem?_cons_zero] at s1 s2 s4 s5
      have lS := bS.lt
      have lb := lt_of_cell hcell
      obtain ⟨ty, box, wt, tk, of_, en, hw_⟩ := a
      simp only at s1 s2 s4 s5 hBL
      have i1 : (k : Int) < (L : Int) := by omega
      have i0 : (0 : Int) ≤ (k : Int) := by omega
      have HBL := Lib.hid hBL
      clear bS hBL ha
      cases en with
      | true =>
        have e : Hid (goesF s.acs (k + 1) = goesF s.acs k ++ []) := by unfold Hid; rw [HG.out, if_neg (by simp [goes])]
        clear HG
        go_wp2_with (fail)
        go_quiet (fail)
        go_wp2_with (fail)
        exact ⟨⟨k + 1, by omega, by go_num, by unfold Hid; rw [e.out, List.append_nil]; exact HO.out.drewN nq⟩, by simp [intOf]; omega⟩
      | false =>
        cases wt with
        | false =>
          have e : Hid (goesF s.acs (k + 1) = goesF s.acs k ++ [⟨1, (k : Int) + 1, 0⟩]) := by unfold Hid; rw [HG.out, if_pos (by simp [goes])]
          clear HG
          go_wp2_with (fail)
          go_quiet (fail)
          have HQ := HO.out.drewN nq
          have HO := Lib.hid HQ
          clear HQ
          go_wp2_with (at_builtin; refine wpList_app el_ch rfl (.tmp 44) (.tmp 48) rfl (by exact HO.out.1.alloc_ _) rfl (by exact HO.out.read ⟨1, (k : Int) + 1, 0⟩) rfl (by omega) (chC_one _) (by exact HLN.out) ?_; intro v2 w2 hs2 hg2 hat2; have HP := Lib.hid (HO.out.push ⟨1, (k : Int) + 1, 0⟩ hs2 hg2 hat2); clear hs2 hg2 hat2)
          exact ⟨⟨k + 1, by omega, by go_num, by unfold Hid; rw [e.out]; exact HP.out⟩, by simp [intOf]; omega⟩
        | true =>
          by_cases ho : of_ < BL
          · have d1 : decide ((of_ : Int) < (BL : Int)) = true := by simpa using ho
            have d2 : decide (of_ < BL) = true := by simpa using ho
            have e : Hid (goesF s.acs (k + 1) = goesF s.acs k ++ [⟨1, (k : Int) + 1, 0⟩]) := by unfold Hid; rw [HG.out, if_pos (by simp [goes]; rw [← HBL.out]; exact ho)]
            clear HG
            go_wp2_with (fail)
            go_quiet (fail)
            have HQ := HO.out.drewN nq
            have HO := Lib.hid HQ
            clear HQ
            go_wp2_with (at_builtin; refine wpList_app el_ch rfl (.tmp 44) (.tmp 48) rfl (by exact HO.out.1.alloc_ _) rfl (by exact HO.out.read ⟨1, (k : Int) + 1, 0⟩) rfl (by omega) (chC_one _) (by exact HLN.out) ?_; intro v2 w2 hs2 hg2 hat2; have HP := Lib.hid (HO.out.push ⟨1, (k : Int) + 1, 0⟩ hs2 hg2 hat2); clear hs2 hg2 hat2)
            exact ⟨⟨k + 1, by omega, by go_num, by unfold Hid; rw [e.out]; exact HP.out⟩, by simp [intOf]; omega⟩
          · have d1 : decide ((of_ : Int) < (BL : Int)) = false := by simpa using ho
            have d2 : decide (of_ < BL) = false := by simpa using ho
            have e : Hid (goesF s.acs (k + 1) = goesF s.acs k ++ []) := by unfold Hid; rw [HG.out, if_neg (by simp [goes]; rw [← HBL.out]; omega)]
            clear HG
            go_wp2_with (fail)
            go_quiet (fail)
            go_wp2_with (fail)
            exact ⟨⟨k + 1, by omega, by go_num, by unfold Hid; rw [e.out, List.append_nil]; exact HO.out.drewN nq⟩, by simp [intOf]; omega⟩
    · obtain rfl : L = k := by omega
      have hb := HO.out.2.2
      have t1 := (H.out.blk.below hb H.out.blk.lt).cell 1
      simp only [List.getElem?_cons_succ, List.getElem?_cons_zero] at t1
      rw [← HL.out] at t1
      have lTr := (H.out.blk.below hb H.out.blk.lt).lt
      obtain ⟨G, hG⟩ : ∃ G, G = goesF s.acs L := ⟨_, rfl⟩
      have HGG := Lib.hid hG
      have hGl : G.length ≤ 30 := by rw [hG]; have := goes_len s.acs L; omega
      have HO1 : OutAt w wr (.slice A3 N c3) G := by rw [hG]; exact HO.out
      have HO2 := Lib.hid HO1
      clear HO1 hG hb HO HN HLN c1 c2 lT gl
      go_wp2_with (fail)
      go_loopw [3, 57] (fun v i wr => ∃ k : Nat, k ≤ L + 1 ∧ i = .int .i64 k ∧ Hid (OutAt w wr v (G ++ comesF s k))) (fun _ i _ => L + 1 - (intOf i).toNat)
      case atStart => exact ⟨0, Nat.zero_le _, rfl, by unfold Hid; simpa [comesF] using HO2.out⟩
      case round =>
        obtain ⟨k, hk, rfl, HO⟩ := hrel
        clear t1 lTr HO2
        obtain ⟨A4, c4, rfl⟩ := HO.out.form
        have cl := comes_len s k
        have cl2 : k * s.acs.length ≤ 31 * 30 := Nat.mul_le_mul (by omega) (by rw [← HL.out]; omega)
        obtain ⟨N4, hN4⟩ : ∃ n, n = (G ++ comesF s k).length := ⟨_, rfl⟩
        rw [← hN4] at HO ⊢
        have HN4 := Lib.hid hN4
        have hcl3 : (G ++ comesF s k).length ≤ 1000 := by rw [List.length_append]; omega
        have HCL := Lib.hid hcl3
        clear hN4 cl cl2 hcl3
        by_cases hlt : k < L + 1
        · have i1 : (k : Int) < (L : Int) + 1 := by omega
          go_wp2_with (fail)
          go_loopw [3, 7] (fun v i wi => ∃ j : Nat, j ≤ L ∧ i = .int .i64 ((j : Int) + 1) ∧ Hid (OutAt w wi v (G ++ comesF s k ++ rowF s k j))) (fun _ i _ => L + 1 - (intOf i).toNat)
          case atStart => exact ⟨0, Nat.zero_le _, by simp, by unfold Hid; simpa [rowF] using HO.out⟩
          case round =>
            obtain ⟨j, hj, rfl, HI⟩ := hrel
            rename World => wi
            obtain ⟨A5, c5, rfl⟩ := HI.out.form
            have HO := HI
            have hb := HO.out.2.2
            have t1 := (H.out.blk.below hb H.out.blk.lt).cell 1
            have t2 := (H.out.blk.below hb H.out.blk.lt).cell 2
            simp only [List.getElem?_cons_succ, List.getElem?_cons_zero] at t1 t2
            rw [← HL.out] at t1
            have lTr := (H.out.blk.below hb H.out.blk.lt).lt
            obtain ⟨N5, hN5⟩ : ∃ n, n = (G ++ comesF s k ++ rowF s k j).length := ⟨_, rfl⟩
            rw [← hN5] at HO ⊢
            have HN5 := Lib.hid hN5
            have rl := row_len s k j
            have HLN : Hid ((G ++ comesF s k ++ rowF s k j).length + 1 ≤ 1000000) := by
              unfold Hid
              rw [List.length_append]
              have := HCL.out
              omega
            clear hN5 rl HI
            by_cases hjl : j < L
            · have j1 : (j : Int) + 1 ≤ (L : Int) := by omega
              have j2 : (j : Int) < (L : Int) := by omega
              obtain ⟨q, hq⟩ : ∃ q, q = (mget l (k, j + 1)).getD (.slice none 0 0) := ⟨_, rfl⟩
              have lk := look_way H.out.mp k (j + 1) (by omega) (by omega) wi (hb.block M H.out.m_lt)
              rw [← hq, show ((j + 1 : Nat) : Int) = (j : Int) + 1 by simp] at lk
              have hws := (H.out.ws.at_ (k, j + 1)).1
              rw [← hq] at hws
              obtain ⟨A6, c6, rfl, _, _⟩ := hws.form
              have hwl := HW.out (k, j + 1)
              have HR := Lib.hid (row_succ s k j)
              obtain ⟨WL, hWL⟩ : ∃ n, n = (wayF s (k, j + 1)).length := ⟨_, rfl⟩
              rw [← hWL] at lk hwl
              have HWL := Lib.hid hWL
              clear hq hws hWL hb
              by_cases h0 : 0 < WL
              · have e : Hid (rowF s k (j + 1) = rowF s k j ++ [⟨2, (k : Int), (j : Int) + 1⟩]) := by unfold Hid; rw [HR.out, if_pos (by rw [← HWL.out]; exact h0)]
                have h1 : decide ((0 : Int) < (WL : Int)) = true := by simpa using h0
                clear HR
                go_wp2_with (at_builtin; refine wpList_app el_ch rfl (.tmp 79) (.tmp 83) rfl (by exact HO.out.1.alloc_ _) rfl (by exact HO.out.read ⟨2, (k : Int), (j : Int) + 1⟩) rfl (by omega) (chC_one _) (by exact HLN.out) ?_; intro v2 w2 hs2 hg2 hat2; have HP := Lib.hid (HO.out.push ⟨2, (k : Int), (j : Int) + 1⟩ hs2 hg2 hat2); clear hs2 hg2 hat2)
                exact ⟨⟨j + 1, by omega, by go_num, by unfold Hid; rw [e.out, ← List.append_assoc]; exact HP.out⟩, by simp [intOf]; omega⟩
              · have e : Hid (rowF s k (j + 1) = rowF s k j) := by unfold Hid; rw [HR.out, if_neg (by rw [← HWL.out]; exact h0), List.append_nil]
                have h1 : decide ((0 : Int) < (WL : Int)) = false := by simpa using h0
                clear HR
                go_wp2_with (fail)
                exact ⟨⟨j + 1, by omega, by go_num, by unfold Hid; rw [e.out]; exact HO.out⟩, by simp [intOf]; omega⟩
            · obtain rfl : j = L := by omega
              have j1 : ¬ (j : Int) + 1 ≤ (j : Int) := by omega
              have e : Hid (comesF s (k + 1) = comesF s k ++ rowF s k j) := by unfold Hid; rw [comes_succ, ← HL.out]
              clear hb
              go_wp2_with (fail)
              exact ⟨⟨k + 1, by omega, by go_num, by unfold Hid; rw [e.out, ← List.append_assoc]; exact HO.out⟩, by simp [intOf]; omega⟩
        · obtain rfl : k = L + 1 := by omega
          have hb := HO.out.2.2
          have t1 := (H.out.blk.below hb H.out.blk.lt).cell 1
          simp only [List.getElem?_cons_succ, List.getElem?_cons_zero] at t1
          rw [← HL.out] at t1
          have lTr := (H.out.blk.below hb H.out.blk.lt).lt
          obtain ⟨G2, hG2⟩ : ∃ X, X = G ++ comesF s (L + 1) := ⟨_, rfl⟩
          have HG2 := Lib.hid hG2
          have hGl2 : G2.length ≤ 1000 := by rw [hG2]; exact HCL.out
          have HO1 : OutAt w wr (.slice A4 N4 c4) G2 := by rw [hG2]; exact HO.out
          have HO2 := Lib.hid HO1
          clear HO1 hG2 hb HO HN4 HCL
          go_wp2_with (fail)
          go_loopw [3, 91] (fun v i wr => ∃ k : Nat, k ≤ L ∧ i = .int .i64 k ∧ Hid (OutAt w wr v (G2 ++ lateF s.acs k))) (fun _ i _ => L - (intOf i).toNat)
          case atStart => exact ⟨0, Nat.zero_le _, rfl, by unfold Hid; simpa [lateF] using HO2.out⟩
          case round =>
            obtain ⟨k, hk, rfl, HO⟩ := hrel
            clear t1 lTr HO2
            obtain ⟨A6, c6, rfl⟩ := HO.out.form
            have ll := late_len s.acs k
            obtain ⟨N6, hN6⟩ : ∃ n, n = (G2 ++ lateF s.acs k).length := ⟨_, rfl⟩
            rw [← hN6] at HO ⊢
            have HN6 := Lib.hid hN6
            have HLN : Hid ((G2 ++ lateF s.acs k).length + 1 ≤ 1000000) := by
              unfold Hid
              rw [List.length_append]
              omega
            clear hN6 ll
            by_cases hlt : k < L
            · obtain ⟨b, off, S, Y, a, BA, bc, rfl, ha, hcell, bS, hbl⟩ := HA.out wr HO.out.2.2 k hlt
              have HG := Lib.hid (late_succ ha)
              have s2 := bS.cell 2
              have s3 := bS.cell 3
              have s5 := bS.cell 5
              simp only [acC, List.getElem?_cons_succ, List.getElem?_cons_zero] at s2 s3 s5
              have lS := bS.lt
              have lb := lt_of_cell hcell
              obtain ⟨ty, box, wt, tk, of_, en, hw_⟩ := a
              simp only at s2 s3 s5
              have i1 : (k : Int) < (L : Int) := by omega
              have i0 : (0 : Int) ≤ (k : Int) := by omega
              clear bS ha hbl
              cases en with
              | true =>
                have e : Hid (lateF s.acs (k + 1) = lateF s.acs k ++ []) := by unfold Hid; rw [HG.out, if_neg (by simp [late])]
                clear HG
                go_wp2_with (fail)
                exact ⟨⟨k + 1, by omega, by go_num, by unfold Hid; rw [e.out, List.append_nil]; exact HO.out⟩, by simp [intOf]; omega⟩
              | false =>
                cases wt with
                | false =>
                  have e : Hid (lateF s.acs (k + 1) = lateF s.acs k ++ []) := by unfold Hid; rw [HG.out, if_neg (by simp [late])]
                  clear HG
                  go_wp2_with (fail)
                  exact ⟨⟨k + 1, by omega, by go_num, by unfold Hid; rw [e.out, List.append_nil]; exact HO.out⟩, by simp [intOf]; omega⟩
                | true =>
                  by_cases ht : 0 ≤ tk
                  · have d1 : decide (0 ≤ tk) = true := by simpa using ht
                    have e : Hid (lateF s.acs (k + 1) = lateF s.acs k ++ [⟨3, (k : Int) + 1, 0⟩]) := by unfold Hid; rw [HG.out, if_pos (by simp [late]; exact ht)]
                    clear HG
                    go_wp2_with (at_builtin; refine wpList_app el_ch rfl (.tmp 114) (.tmp 118) rfl (by exact HO.out.1.alloc_ _) rfl (by exact HO.out.read ⟨3, (k : Int) + 1, 0⟩) rfl (by omega) (chC_one _) (by exact HLN.out) ?_; intro v2 w2 hs2 hg2 hat2; have HP := Lib.hid (HO.out.push ⟨3, (k : Int) + 1, 0⟩ hs2 hg2 hat2); clear hs2 hg2 hat2)
                    go_roundw
                    case rel =>
                      repeat apply Exists.intro
                      exact ⟨⟨k + 1, by omega, by go_num, by unfold Hid; rw [e.out, ← List.append_assoc]; exact HP.out⟩, rfl⟩
                    case measure => simp [intOf]; omega
                  · have d1 : decide (0 ≤ tk) = false := by simpa using ht
                    have e : Hid (lateF s.acs (k + 1) = lateF s.acs k ++ []) := by unfold Hid; rw [HG.out, if_neg (by simp [late]; omega)]
                    clear HG
                    go_wp2_with (fail)
                    exact ⟨⟨k + 1, by omega, by go_num, by unfold Hid; rw [e.out, List.append_nil]; exact HO.out⟩, by simp [intOf]; omega⟩
            · obtain rfl : k = L := by omega
              go_wp2_with (fail)
              go_ret
              have e : G2 ++ lateF s.acs k = choicesF s := by rw [HG2.out, HGG.out]; unfold choicesF; rw [← HL.out]
              have ho := HO.out
              rw [e] at ho
              obtain ⟨A7, c7, e7, h1, h2, hr⟩ := ho.1.reads
              injection e7 with e1 e2 e3
              subst e1 e3
              refine ⟨_, _, _, rfl, by rw [HN6.out, e], by rw [HN6.out, e]; exact h1, h2, ?_, ho.2.2⟩
              rw [HN6.out, e]
              exact hr.imp (by omega) fun b hb _ => ho.2.1 b hb
end Go.Proofs.YtlpkgheggbcidaaDoor
