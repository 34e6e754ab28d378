/- Contract of (*pair).same. -/
import Derived.Test.YtoddjdajjmcliaaShAlike
import Derived.StillTailTactics
set_option linter.unusedVariables false
namespace Go.Proofs.Ytoddjdajjmcliaa
open Go.RowKit Go.Mem Go.Sh Go.Maps
theorem SeenAt.drew {w W : World} {M : Nat} {s : List Nm} (h : SeenAt w W M s) : SeenAt w (World.drew W) M s := ⟨grownBy_drew h.1, h.2.same rfl⟩
set_option maxRecDepth 100000 in
set_option maxHeartbeats 4000000 in
theorem same_step (f : Nat) (IH : SameTo f) : SameTo (f + 1) := by
  intro dd d w S M p P q Q s a b A1 m1 c1 A2 m2 c2 X cx x Y cy y r s' hp hs ha hb hx hxl hy hyl hf
  obtain ⟨k, n, ts⟩ := a
  obtain ⟨l, m, us⟩ := b
  simp only [Ty.kind, Ty.name] at ha hb ⊢
  obtain ⟨_, _, hk9, hn9, e1, he1, hta⟩ := ha
  obtain ⟨_, _, hl9, hm9, e2, he2, htb⟩ := hb
  obtain rfl : e1 = e2 := by omega
  simp only [Ty.args] at hta htb
  obtain rfl : m1 = ts.length := by obtain ⟨_, h1, _⟩ := hta; exact h1
  obtain rfl : m2 = us.length := by obtain ⟨_, h1, _⟩ := htb; exact h1
  have lts : ts.length ≤ 1000 := by obtain ⟨_, _, h1, _⟩ := hta; exact h1
  have lus : us.length ≤ 1000 := by obtain ⟨_, _, h1, _⟩ := htb; exact h1
  obtain ⟨ba, hba⟩ : ∃ ba, ba = w.heap.size := ⟨_, rfl⟩
  obtain ⟨bb, hbb⟩ : ∃ bb, bb = w.heap.size + 1 := ⟨_, rfl⟩
  have hs1 := (hs.alloc (.cells #[.int .i64 (k : Nat), str n, .slice A1 ts.length c1] 34)).alloc (.cells #[.int .i64 (l : Nat), str m, .slice A2 us.length c2] 34)
  have g1 := (Blk.new w 34 [.int .i64 (k : Nat), str n, .slice A1 ts.length c1]).alloc (.cells #[.int .i64 (l : Nat), str m, .slice A2 us.length c2] 34)
  have g2 := Blk.new (w.alloc (.cells #[.int .i64 (k : Nat), str n, .slice A1 ts.length c1] 34)) 34 [.int .i64 (l : Nat), str m, .slice A2 us.length c2]
  rw [show (w.alloc (.cells #[.int .i64 (k : Nat), str n, .slice A1 ts.length c1] 34)).heap.size = w.heap.size + 1 by simp] at g2
  rw [← hba] at g1
  rw [← hbb] at g2
  have hML : M < w.heap.size := hs.2.lt
  have haM : ba ≠ M := by omega
  have hbM : bb ≠ M := by omega
  have a0 := g1.cell 0
  have a1 := g1.cell 1
  have a2 := g1.cell 2
  have d0 := g2.cell 0
  have d1 := g2.cell 1
  have d2 := g2.cell 2
  simp only [List.getElem?_cons_zero, List.getElem?_cons_succ] at a0 a1 a2 d0 d1 d2
  have la := g1.lt
  have ld := g2.lt
  obtain ⟨W1, hW1⟩ : ∃ W1, W1 = (w.alloc (.cells #[.int .i64 (k : Nat), str n, .slice A1 ts.length c1] 34)).alloc (.cells #[.int .i64 (l : Nat), str m, .slice A2 us.length c2] 34) := ⟨_, rfl⟩
  rw [← hW1] at hs1 g1 g2 a0 a1 a2 d0 d1 d2 la ld
  have HS1 := Lib.hid hs1
  have HG := Lib.hid (And.intro g1 g2)
  have HP := Lib.hid hp
  have HT := Lib.hid (And.intro hta htb)
  have HX := Lib.hid (And.intro (And.intro hx hxl) (And.intro hy hyl))
  have HL := Lib.hid hn9
  clear g1 g2 hML hs1 hs hp hta htb hx hy hn9 hm9 he1 he2
  unfold sameF at hf

  by_cases hk : k = l ∧ k ≠ 7 ∧ ts.length = us.length
  · rw [if_pos hk] at hf
    obtain ⟨rfl, h7, hlen⟩ := hk
    obtain ⟨h, t, hh, hrest⟩ : ∃ h t, headF P Q (sameF P Q f) s k n m x y = some (h, t) ∧ ((h = false ∧ r = false ∧ s' = t) ∨ (h = true ∧ allF (fun s a b => sameF P Q f s a b x y) t ts us = some (r, s'))) := by
      cases hH : headF P Q (sameF P Q f) s k n m x y with
      | none => rw [hH] at hf; cases hf
      | some R =>
        obtain ⟨h, t⟩ := R
        rw [hH] at hf
        cases h with
        | false => injection hf with hf; injection hf with h2 h3; exact ⟨false, t, rfl, .inl ⟨rfl, h2.symm, h3.symm⟩⟩
        | true => exact ⟨true, t, rfl, .inr ⟨rfl, hf⟩⟩
    have HR0 := Lib.hid hrest
    clear hf hrest
    have gk : ((k : Int) == (k : Int)) = true := by simp
    have g7 : ((k : Int) == 7) = false := by simp; omega
    have g7' : (k == 7) = false := by simp; omega
    have gl : ((ts.length : Int) == (us.length : Int)) = true := by simp; omega
    have gl' : (ts.length == us.length) = true := by simp; omega
    have glb : ((ts.length : Int) != (us.length : Int)) = false := by simp; omega
    have HLen := Lib.hid hlen
    clear hlen
    unfold headF at hh
    by_cases h6 : k = 6
    · rw [if_pos h6] at hh
      have g6 : ((k : Int) == 6) = true := by simp; omega
      have g6' : (k == 6) = true := by simp; omega
      clear h6
      by_cases hnm : n = m
      · rw [if_pos hnm] at hh
        have nq : (n == m) = true := (beq_nm _ _).trans (decide_eq_true hnm)
        clear hnm
        have AL := Lib.hid (alike_any f IH dd _ S M p P q Q s n h t (HP.out.seen HS1.out) HS1.out.start HL.out hh)
        clear hh
        go_enter Try.func28, Try.ntmps28
        go_upto_region 1 with (fail)
        rw [← hW1, ← hbb, ← hba]
        clear hba hbb hW1
        cases h
        · go_wp2_with (fail)
          refine AL.out.mono ?_
          rintro e w2 ⟨rfl, hs2⟩
          go_wp2_with (fail)
          go_ret
          rcases HR0.out with ⟨_, rfl, rfl⟩ | ⟨h1, _⟩
          · exact ⟨rfl, HS1.out.trans hs2⟩
          · cases h1
        · go_wp2_with (fail)
          refine AL.out.mono ?_
          rintro e w2 ⟨rfl, hs2⟩
          have HF : Hid (allF (fun s a b => sameF P Q f s a b x y) t ts us = some (r, s')) := by
            rcases HR0.out with ⟨h1, _⟩ | ⟨_, h2⟩
            · cases h1
            · exact h2
          have HS2 := Lib.hid (HS1.out.trans hs2)
          have HG2 := Lib.hid (And.intro (HG.out.1.grown hs2.1 (fun e => haM (by injection e))) (HG.out.2.grown hs2.1 (fun e => hbM (by injection e))))
          have a2' := HG2.out.1.cell 2
          have la' := HG2.out.1.lt
          simp only [List.getElem?_cons_zero, List.getElem?_cons_succ] at a2'
          clear hs2 a0 a1 a2 d0 d1 d2 la ld
          go_wp2_with (fail)
          go_loopw [12, 75] (fun _ v wr => ∃ j : Nat, ∃ sj, j ≤ ts.length ∧ v = .int .i64 j ∧ Hid (allF (fun s a b => sameF P Q f s a b x y) sj (ts.drop j) (us.drop j) = some (r, s') ∧ SeenAt w wr M sj ∧ Blk wr ba 34 [.int .i64 (k : Nat), str n, .slice A1 ts.length c1] ∧ Blk wr bb 34 [.int .i64 (k : Nat), str m, .slice A2 us.length c2])) (fun _ v _ => ts.length - (intOf v).toNat)
          case atStart => exact ⟨0, _, Nat.zero_le _, rfl, HF.out, HS2.out, HG2.out.1, HG2.out.2⟩
          case round =>
            obtain ⟨j, sj, hj, rfl, HI⟩ := hrel
            by_cases hlt : j < ts.length
            · have hltu : j < us.length := by have := HLen.out; omega
              have hsd := HI.out.2.1.drew
              obtain ⟨b1, o1, B1, m3, e3, rfl, _, p0, p1, p2, t1⟩ := (HT.out.1.keep HI.out.2.1.same).cells hlt hlt
              obtain ⟨b2, o2, B2, m4, e4, rfl, _, q0, q1, q2, t2⟩ := (HT.out.2.keep HI.out.2.1.same).cells hltu hltu
              obtain ⟨z, s2, hz, hrest⟩ := allF_drop hlt hltu HI.out.1
              have CB := Lib.hid (IH dd _ (World.drew wr) S M p P q Q sj _ _ B1 m3 e3 B2 m4 e4 X cx x Y cy y z s2 (HP.out.seen hsd) hsd.start (t1.keep fun b _ _ => rfl) (t2.keep fun b _ _ => rfl) (HX.out.1.1.keep hsd.same) HX.out.1.2 (HX.out.2.1.keep hsd.same) HX.out.2.2 hz)
              have HR := Lib.hid hrest
              have HSd := Lib.hid hsd
              have HBd := Lib.hid (And.intro HI.out.2.2.1 HI.out.2.2.2)
              have x2 := HI.out.2.2.1.cell 2
              have y2 := HI.out.2.2.2.cell 2
              simp only [List.getElem?_cons_zero, List.getElem?_cons_succ] at x2 y2
              have i0 : (0 : Int) ≤ (j : Int) := by omega
              have i1 : (j : Int) < (ts.length : Int) := by omega
              have i2 : (j : Int) < (us.length : Int) := by omega
              clear t1 t2 hz hrest hsd
              generalize ts[j].kind = k1 at p0 CB
              generalize ts[j].name = n1 at p1 CB
              generalize us[j].kind = k2 at q0 CB
              generalize us[j].name = n2 at q1 CB
              go_upto_region 16 with (fail)
              go_still_tail 13, (by kernel_rfl)
              change wpList _ _ _ _ _ (World.drew wr)
              cases z
              · go_wp2_with (fail)
                refine CB.out.mono ?_
                rintro e w2 ⟨rfl, hs2⟩
                go_wp2_with (fail)
                go_ret
                rcases HR.out with ⟨_, h2⟩ | ⟨h1, _⟩
                · injection h2 with h2 h3
                  subst h2 h3
                  exact ⟨rfl, HSd.out.trans hs2⟩
                · cases h1
              · go_wp2_with (fail)
                refine CB.out.mono ?_
                rintro e w2 ⟨rfl, hs2⟩
                have fin := Lib.hid (And.intro (HSd.out.trans hs2) (And.intro (HBd.out.1.drew.grown hs2.1 (fun e => haM (by injection e))) (HBd.out.2.drew.grown hs2.1 (fun e => hbM (by injection e)))))
                clear hs2
                go_wp2_with (fail)
                rcases HR.out with ⟨h1, _⟩ | ⟨_, h2⟩
                · cases h1
                · exact ⟨⟨j + 1, s2, by omega, by go_num, h2, fin.out.1, fin.out.2.1, fin.out.2.2⟩, by simp [intOf]; omega⟩
            · have hend := allF_end (by omega) HI.out.1
              have HE := Lib.hid hend
              clear hend
              go_wp2_with (fail)
              go_ret
              have h2 := HE.out
              injection h2 with h2 h3
              subst h2 h3
              exact ⟨rfl, HI.out.2.1⟩
      · rw [if_neg hnm] at hh
        have nq : (n == m) = false := (beq_nm _ _).trans (decide_eq_false hnm)
        injection hh with hh
        injection hh with h2 h3
        subst h2 h3
        obtain ⟨rfl, rfl⟩ : r = false ∧ s' = s := by
          rcases HR0.out with ⟨_, h2, h3⟩ | ⟨h1, _⟩
          · exact ⟨h2, h3⟩
          · cases h1
        clear HR0
        go_enter Try.func28, Try.ntmps28
        go_upto_region 1 with (fail)
        rw [← hW1, ← hbb, ← hba]
        clear hba hbb hW1
        go_wp2_with (fail)
        go_ret
        exact ⟨rfl, HS1.out⟩
    · rw [if_neg h6] at hh
      have g6 : ((k : Int) == 6) = false := by simp; omega
      have g6' : (k == 6) = false := by simp; omega
      by_cases h5 : k = 5
      · rw [if_pos h5] at hh
        have g5 : ((k : Int) == 5) = true := by simp; omega
        have g5' : (k == 5) = true := by simp; omega
        clear h5
        have I1 := Lib.hid (fun W (hk : SeenAt w W M s) => indexS_any X x.length cx x n W ((HX.out.1.1.keep hk.same).imp (by omega) fun _ _ _ => trivial) rfl HX.out.1.2)
        have I2 := Lib.hid (fun W (hk : SeenAt w W M s) => indexS_any Y y.length cy y m W ((HX.out.2.1.keep hk.same).imp (by omega) fun _ _ _ => trivial) rfl HX.out.2.2)
        generalize ixG n x 0 = i at hh I1
        generalize ixG m y 0 = i' at hh I2
        injection hh with hh
        injection hh with h2 h3
        subst h3
        by_cases hi : i < 0
        · have hd : decide (0 ≤ i ∧ i = i') = false := decide_eq_false (by omega)
          rw [hd] at h2
          subst h2
          obtain ⟨rfl, rfl⟩ : r = false ∧ s' = s := by
            rcases HR0.out with ⟨_, h2, h3⟩ | ⟨h1, _⟩
            · exact ⟨h2, h3⟩
            · cases h1
          have gi : decide (i < 0) = true := decide_eq_true hi
          clear HR0 hd
          go_enter Try.func28, Try.ntmps28
          go_upto_region 1 with (fail)
          rw [← hW1, ← hbb, ← hba]
          clear hba hbb hW1
          go_wp2_with (fail)
          refine (I1.out _ HS1.out).mono ?_
          rintro e w2 ⟨rfl, rfl⟩
          go_wp2_with (fail)
          go_ret
          exact ⟨rfl, HS1.out⟩
        · have gi : decide (i < 0) = false := decide_eq_false hi
          by_cases hii : i = i'
          · have hd : decide (0 ≤ i ∧ i = i') = true := decide_eq_true ⟨by omega, hii⟩
            rw [hd] at h2
            subst h2
            have HF : Hid (allF (fun s a b => sameF P Q f s a b x y) s ts us = some (r, s')) := by
              rcases HR0.out with ⟨h1, _⟩ | ⟨_, h2⟩
              · cases h1
              · exact h2
            have gii : (i == i') = true := by simp [hii]
            have gib : (i != i') = false := by simp [hii]
            clear hii
            clear HR0 hd
            go_enter Try.func28, Try.ntmps28
            go_upto_region 1 with (fail)
            rw [← hW1, ← hbb, ← hba]
            clear hba hbb hW1
            go_wp2_with (fail)
            refine (I1.out _ HS1.out).mono ?_
            rintro e w2 ⟨rfl, rfl⟩
            go_wp2_with (fail)
            refine (I2.out _ HS1.out).mono ?_
            rintro e w2 ⟨rfl, rfl⟩
            go_wp2_with (fail)
            go_loopw [12, 75] (fun _ v wr => ∃ j : Nat, ∃ sj, j ≤ ts.length ∧ v = .int .i64 j ∧ Hid (allF (fun s a b => sameF P Q f s a b x y) sj (ts.drop j) (us.drop j) = some (r, s') ∧ SeenAt w wr M sj ∧ Blk wr ba 34 [.int .i64 (k : Nat), str n, .slice A1 ts.length c1] ∧ Blk wr bb 34 [.int .i64 (k : Nat), str m, .slice A2 us.length c2])) (fun _ v _ => ts.length - (intOf v).toNat)
            case atStart => exact ⟨0, _, Nat.zero_le _, rfl, HF.out, HS1.out, HG.out.1, HG.out.2⟩
            case round =>
              obtain ⟨j, sj, hj, rfl, HI⟩ := hrel
              by_cases hlt : j < ts.length
              · have hltu : j < us.length := by have := HLen.out; omega
                have hsd := HI.out.2.1.drew
                obtain ⟨b1, o1, B1, m3, e3, rfl, _, p0, p1, p2, t1⟩ := (HT.out.1.keep HI.out.2.1.same).cells hlt hlt
                obtain ⟨b2, o2, B2, m4, e4, rfl, _, q0, q1, q2, t2⟩ := (HT.out.2.keep HI.out.2.1.same).cells hltu hltu
                obtain ⟨z, s2, hz, hrest⟩ := allF_drop hlt hltu HI.out.1
                have CB := Lib.hid (IH dd _ (World.drew wr) S M p P q Q sj _ _ B1 m3 e3 B2 m4 e4 X cx x Y cy y z s2 (HP.out.seen hsd) hsd.start (t1.keep fun b _ _ => rfl) (t2.keep fun b _ _ => rfl) (HX.out.1.1.keep hsd.same) HX.out.1.2 (HX.out.2.1.keep hsd.same) HX.out.2.2 hz)
                have HR := Lib.hid hrest
                have HSd := Lib.hid hsd
                have HBd := Lib.hid (And.intro HI.out.2.2.1 HI.out.2.2.2)
                have x2 := HI.out.2.2.1.cell 2
                have y2 := HI.out.2.2.2.cell 2
                simp only [List.getElem?_cons_zero, List.getElem?_cons_succ] at x2 y2
                have i0 : (0 : Int) ≤ (j : Int) := by omega
                have i1 : (j : Int) < (ts.length : Int) := by omega
                have i2 : (j : Int) < (us.length : Int) := by omega
                clear t1 t2 hz hrest hsd
                generalize ts[j].kind = k1 at p0 CB
                generalize ts[j].name = n1 at p1 CB
                generalize us[j].kind = k2 at q0 CB
                generalize us[j].name = n2 at q1 CB
                go_upto_region 16 with (fail)
                go_still_tail 13, (by kernel_rfl)
                change wpList _ _ _ _ _ (World.drew wr)
                cases z
                · go_wp2_with (fail)
                  refine CB.out.mono ?_
                  rintro e w2 ⟨rfl, hs2⟩
                  go_wp2_with (fail)
                  go_ret
                  rcases HR.out with ⟨_, h2⟩ | ⟨h1, _⟩
                  · injection h2 with h2 h3
                    subst h2 h3
                    exact ⟨rfl, HSd.out.trans hs2⟩
                  · cases h1
                · go_wp2_with (fail)
                  refine CB.out.mono ?_
                  rintro e w2 ⟨rfl, hs2⟩
                  have fin := Lib.hid (And.intro (HSd.out.trans hs2) (And.intro (HBd.out.1.drew.grown hs2.1 (fun e => haM (by injection e))) (HBd.out.2.drew.grown hs2.1 (fun e => hbM (by injection e)))))
                  clear hs2
                  go_wp2_with (fail)
                  rcases HR.out with ⟨h1, _⟩ | ⟨_, h2⟩
                  · cases h1
                  · exact ⟨⟨j + 1, s2, by omega, by go_num, h2, fin.out.1, fin.out.2.1, fin.out.2.2⟩, by simp [intOf]; omega⟩
              · have hend := allF_end (by omega) HI.out.1
                have HE := Lib.hid hend
                clear hend
                go_wp2_with (fail)
                go_ret
                have h2 := HE.out
                injection h2 with h2 h3
                subst h2 h3
                exact ⟨rfl, HI.out.2.1⟩
          · have hd : decide (0 ≤ i ∧ i = i') = false := decide_eq_false (by omega)
            rw [hd] at h2
            subst h2
            obtain ⟨rfl, rfl⟩ : r = false ∧ s' = s := by
              rcases HR0.out with ⟨_, h2, h3⟩ | ⟨h1, _⟩
              · exact ⟨h2, h3⟩
              · cases h1
            have gii : (i == i') = false := by simp [hii]
            have gib : (i != i') = true := by simp [hii]
            clear HR0 hd
            go_enter Try.func28, Try.ntmps28
            go_upto_region 1 with (fail)
            rw [← hW1, ← hbb, ← hba]
            clear hba hbb hW1
            go_wp2_with (fail)
            refine (I1.out _ HS1.out).mono ?_
            rintro e w2 ⟨rfl, rfl⟩
            go_wp2_with (fail)
            refine (I2.out _ HS1.out).mono ?_
            rintro e w2 ⟨rfl, rfl⟩
            go_wp2_with (fail)
            go_ret
            exact ⟨rfl, HS1.out⟩
      · rw [if_neg h5] at hh
        have g5 : ((k : Int) == 5) = false := by simp; omega
        have g5' : (k == 5) = false := by simp; omega
        injection hh with hh
        injection hh with h2 h3
        subst h3
        by_cases hn0 : n = []
        · by_cases hm0 : m = []
          · have hd : decide (n = [] ∧ m = []) = true := decide_eq_true ⟨hn0, hm0⟩
            rw [hd] at h2
            subst h2
            have HF : Hid (allF (fun s a b => sameF P Q f s a b x y) s ts us = some (r, s')) := by
              rcases HR0.out with ⟨h1, _⟩ | ⟨_, h2⟩
              · cases h1
              · exact h2
            have nn : (n == ([] : Nm)) = true := (beq_nm _ _).trans (decide_eq_true hn0)
            have nm : (m == ([] : Nm)) = true := (beq_nm _ _).trans (decide_eq_true hm0)
            have nnb : (n != ([] : Nm)) = false := by simp [hn0]
            have nmb : (m != ([] : Nm)) = false := by simp [hm0]
            clear hn0 hm0
            clear HR0 hd
            go_enter Try.func28, Try.ntmps28
            go_upto_region 1 with (fail)
            rw [← hW1, ← hbb, ← hba]
            clear hba hbb hW1
            go_wp2_with (fail)
            go_loopw [12, 75] (fun _ v wr => ∃ j : Nat, ∃ sj, j ≤ ts.length ∧ v = .int .i64 j ∧ Hid (allF (fun s a b => sameF P Q f s a b x y) sj (ts.drop j) (us.drop j) = some (r, s') ∧ SeenAt w wr M sj ∧ Blk wr ba 34 [.int .i64 (k : Nat), str n, .slice A1 ts.length c1] ∧ Blk wr bb 34 [.int .i64 (k : Nat), str m, .slice A2 us.length c2])) (fun _ v _ => ts.length - (intOf v).toNat)
            case atStart => exact ⟨0, _, Nat.zero_le _, rfl, HF.out, HS1.out, HG.out.1, HG.out.2⟩
            case round =>
              obtain ⟨j, sj, hj, rfl, HI⟩ := hrel
              by_cases hlt : j < ts.length
              · have hltu : j < us.length := by have := HLen.out; omega
                have hsd := HI.out.2.1.drew
                obtain ⟨b1, o1, B1, m3, e3, rfl, _, p0, p1, p2, t1⟩ := (HT.out.1.keep HI.out.2.1.same).cells hlt hlt
                obtain ⟨b2, o2, B2, m4, e4, rfl, _, q0, q1, q2, t2⟩ := (HT.out.2.keep HI.out.2.1.same).cells hltu hltu
                obtain ⟨z, s2, hz, hrest⟩ := allF_drop hlt hltu HI.out.1
                have CB := Lib.hid (IH dd _ (World.drew wr) S M p P q Q sj _ _ B1 m3 e3 B2 m4 e4 X cx x Y cy y z s2 (HP.out.seen hsd) hsd.start (t1.keep fun b _ _ => rfl) (t2.keep fun b _ _ => rfl) (HX.out.1.1.keep hsd.same) HX.out.1.2 (HX.out.2.1.keep hsd.same) HX.out.2.2 hz)
                have HR := Lib.hid hrest
                have HSd := Lib.hid hsd
                have HBd := Lib.hid (And.intro HI.out.2.2.1 HI.out.2.2.2)
                have x2 := HI.out.2.2.1.cell 2
                have y2 := HI.out.2.2.2.cell 2
                simp only [List.getElem?_cons_zero, List.getElem?_cons_succ] at x2 y2
                have i0 : (0 : Int) ≤ (j : Int) := by omega
                have i1 : (j : Int) < (ts.length : Int) := by omega
                have i2 : (j : Int) < (us.length : Int) := by omega
                clear t1 t2 hz hrest hsd
                generalize ts[j].kind = k1 at p0 CB
                generalize ts[j].name = n1 at p1 CB
                generalize us[j].kind = k2 at q0 CB
                generalize us[j].name = n2 at q1 CB
                go_upto_region 16 with (fail)
                go_still_tail 13, (by kernel_rfl)
                change wpList _ _ _ _ _ (World.drew wr)
                cases z
                · go_wp2_with (fail)
                  refine CB.out.mono ?_
                  rintro e w2 ⟨rfl, hs2⟩
                  go_wp2_with (fail)
                  go_ret
                  rcases HR.out with ⟨_, h2⟩ | ⟨h1, _⟩
                  · injection h2 with h2 h3
                    subst h2 h3
                    exact ⟨rfl, HSd.out.trans hs2⟩
                  · cases h1
                · go_wp2_with (fail)
                  refine CB.out.mono ?_
                  rintro e w2 ⟨rfl, hs2⟩
                  have fin := Lib.hid (And.intro (HSd.out.trans hs2) (And.intro (HBd.out.1.drew.grown hs2.1 (fun e => haM (by injection e))) (HBd.out.2.drew.grown hs2.1 (fun e => hbM (by injection e)))))
                  clear hs2
                  go_wp2_with (fail)
                  rcases HR.out with ⟨h1, _⟩ | ⟨_, h2⟩
                  · cases h1
                  · exact ⟨⟨j + 1, s2, by omega, by go_num, h2, fin.out.1, fin.out.2.1, fin.out.2.2⟩, by simp [intOf]; omega⟩
              · have hend := allF_end (by omega) HI.out.1
                have HE := Lib.hid hend
                clear hend
                go_wp2_with (fail)
                go_ret
                have h2 := HE.out
                injection h2 with h2 h3
                subst h2 h3
                exact ⟨rfl, HI.out.2.1⟩
          · have hd : decide (n = [] ∧ m = []) = false := decide_eq_false (fun h => hm0 h.2)
            rw [hd] at h2
            subst h2
            obtain ⟨rfl, rfl⟩ : r = false ∧ s' = s := by
              rcases HR0.out with ⟨_, h2, h3⟩ | ⟨h1, _⟩
              · exact ⟨h2, h3⟩
              · cases h1
            have nm : (m == ([] : Nm)) = false := (beq_nm _ _).trans (decide_eq_false hm0)
            have nn : (n == ([] : Nm)) = true := (beq_nm _ _).trans (decide_eq_true hn0)
            clear hn0
            clear HR0 hd
            go_enter Try.func28, Try.ntmps28
            go_upto_region 1 with (fail)
            rw [← hW1, ← hbb, ← hba]
            clear hba hbb hW1
            go_wp2_with (fail)
            go_ret
            exact ⟨rfl, HS1.out⟩
        · have hd : decide (n = [] ∧ m = []) = false := decide_eq_false (fun h => hn0 h.1)
          rw [hd] at h2
          subst h2
          obtain ⟨rfl, rfl⟩ : r = false ∧ s' = s := by
            rcases HR0.out with ⟨_, h2, h3⟩ | ⟨h1, _⟩
            · exact ⟨h2, h3⟩
            · cases h1
          have nm : (n == ([] : Nm)) = false := (beq_nm _ _).trans (decide_eq_false hn0)
          clear HR0 hd
          go_enter Try.func28, Try.ntmps28
          go_upto_region 1 with (fail)
          rw [← hW1, ← hbb, ← hba]
          clear hba hbb hW1
          go_wp2_with (fail)
          go_ret
          exact ⟨rfl, HS1.out⟩
  · rw [if_neg hk] at hf
    injection hf with hf
    injection hf with h2 h3
    subst h2 h3
    by_cases hkl : k = l
    · subst hkl
      have gk : ((k : Int) == (k : Int)) = true := by simp
      by_cases h7 : k = 7
      · have g7 : ((k : Int) == 7) = true := by simp; omega
        have g7' : (k == 7) = true := by simp; omega
        clear h7 hk
        go_enter Try.func28, Try.ntmps28
        go_upto_region 1 with (fail)
        rw [← hW1, ← hbb, ← hba]
        clear hba hbb hW1
        go_wp2_with (fail)
        go_ret
        exact ⟨rfl, HS1.out⟩
      · have g7 : ((k : Int) == 7) = false := by simp; omega
        have g7' : (k == 7) = false := by simp; omega
        have hne : ts.length ≠ us.length := fun h => hk ⟨rfl, h7, h⟩
        have gl : ((ts.length : Int) == (us.length : Int)) = false := by simp; omega
        have gl' : (ts.length == us.length) = false := by simp; omega
        clear hk hne
        go_enter Try.func28, Try.ntmps28
        go_upto_region 1 with (fail)
        rw [← hW1, ← hbb, ← hba]
        clear hba hbb hW1
        go_wp2_with (fail)
        go_ret
        exact ⟨rfl, HS1.out⟩
    · have gk : ((k : Int) == (l : Int)) = false := by simp; omega
      have gk' : (k == l) = false := by simp; omega
      go_enter Try.func28, Try.ntmps28
      go_upto_region 1 with (fail)
      rw [← hW1, ← hbb, ← hba]
      clear hba hbb hW1
      go_wp2_with (fail)
      go_ret
      exact ⟨rfl, HS1.out⟩
theorem same_any (f : Nat) : SameTo f := by
  induction f with
  | zero =>
    intro dd d w S M p P q Q s a b A1 m1 c1 A2 m2 c2 X cx x Y cy y r s' _ _ _ _ _ _ _ _ hf
    cases a; cases b
    cases hf
  | succ f ih => exact same_step f ih
end Go.Proofs.Ytoddjdajjmcliaa
