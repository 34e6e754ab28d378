/- There and back an actor is what it was. No program in sight. · What an actor becomes is of the new program's types. No program in sight. · Turn by a program's plan for itself changes nothing. No program in sight. · RenewThere's walk. · RenewThere returns true for every input, and leaves its arguments as they were. No condition. -/
import Derived.Test.YtoddjdajjmcliaaRnRest
import Derived.Test.YtoddjdajjmcliaaJRnBack
import Derived.Test.YtoddjdajjmcliaaRnPlain
import Derived.Test.YtoddjdajjmcliaaRnSaved0
import Derived.Test.YtoddjdajjmcliaaJRnSame
import Derived.Test.YtoddjdajjmcliaaRnSaved
import Derived.Deep.DeepCutAuto
import Derived.Deep.CutBlock
import Derived.Deep.LoopGhost
import Derived.Test.YtoddjdajjmcliaaRows
import Derived.Test.YtoddjdajjmcliaaLaw
import Derived.Test.YtoddjdajjmcliaaJLawNumS
set_option linter.unusedVariables false
namespace Go.Sh
open Go.Val
theorem backA_law (S : List V) : ∀ (fl : List Fld) (s : List V), s.length = S.length → (∀ f ∈ fl, f.src = -1 ∨ (0 ≤ f.src ∧ f.src < (S.length : Int))) → ∀ k : Nat, ((k : Int) ∈ fl.map Fld.src ∨ s[k]? = S[k]?) → (backA fl (turnF S fl) s)[k]? = S[k]?
  | [], s, _, _, k, h => by
    rcases h with h | h
    · simp at h
    · exact h
  | f :: fl, s, hl, hf, k, h => by
    show (backA fl (turnF S fl) (if 0 ≤ f.src then s.set f.src.toNat (if 0 ≤ f.src then S.getD f.src.toNat zeroV else f.val) else s))[k]? = S[k]?
    have hf' := fun g hg => hf g (List.mem_cons_of_mem _ hg)
    by_cases h0 : 0 ≤ f.src
    · rw [if_pos h0, if_pos h0]
      have hb : f.src < (S.length : Int) := by rcases hf f (by simp) with h | h <;> omega
      refine backA_law S fl _ (by simpa using hl) hf' k ?_
      by_cases hk : f.src.toNat = k
      · refine .inr ?_
        subst hk
        have hlt : f.src.toNat < S.length := by omega
        rw [List.getElem?_set_self (by omega), List.getD_eq_getElem?_getD, List.getElem?_eq_getElem hlt]
        rfl
      · rcases h with h | h
        · rcases List.mem_cons.1 h with h | h
          · exact absurd (by have h' : (k : Int) = f.src := h; omega) hk
          · exact .inl h
        · exact .inr (by rw [List.getElem?_set_ne hk]; exact h)
    · rw [if_neg h0]
      refine backA_law S fl _ hl hf' k ?_
      rcases h with h | h
      · rcases List.mem_cons.1 h with h | h
        · exact absurd (by have h' : (k : Int) = f.src := h; omega) h0
        · exact .inl h
      · exact .inr h
theorem backB_law (S : List V) : ∀ (l : List Nat) (s : List V), s.length = S.length → (∀ i ∈ l, i < S.length) → ∀ k : Nat, (k ∈ l ∨ s[k]? = S[k]?) → (backB l (restF S l) s)[k]? = S[k]?
  | [], s, _, _, k, h => by
    rcases h with h | h
    · simp at h
    · exact h
  | i :: l, s, hl, hf, k, h => by
    show (backB l (restF S l) (s.set i (S.getD i zeroV)))[k]? = S[k]?
    have hi := hf i (by simp)
    refine backB_law S l _ (by simpa using hl) (fun g hg => hf g (List.mem_cons_of_mem _ hg)) k ?_
    by_cases hk : i = k
    · refine .inr ?_
      subst hk
      rw [List.getElem?_set_self (by omega), List.getD_eq_getElem?_getD, List.getElem?_eq_getElem hi]
      rfl
    · rcases h with h | h
      · rcases List.mem_cons.1 h with h | h
        · exact absurd h.symm hk
        · exact .inl h
      · exact .inr (by rw [List.getElem?_set_ne hk]; exact h)
/-- Back, behind Turn and Rest, gives the state -/
theorem back_law {n : Nat} {S : List V} {fl : List Fld} (hS : S.length = n) (hf : ∀ f ∈ fl, f.src = -1 ∨ (0 ≤ f.src ∧ f.src < (n : Int))) :
    backF n fl (turnF S fl) (lostF n (fl.map Fld.src)) (restF S (lostF n (fl.map Fld.src))) = S := by
  subst hS
  apply List.ext_getElem?
  intro k
  by_cases hk : k < S.length
  · unfold backF
    refine backB_law S _ _ (by rw [backA_len]; simp) (fun i hi => by unfold lostF at hi; exact List.mem_range.1 (List.mem_filter.1 hi).1) k ?_
    by_cases hm : (k : Int) ∈ fl.map Fld.src
    · exact .inr (backA_law S fl _ (by simp) hf k (.inl hm))
    · exact .inl (by unfold lostF; exact List.mem_filter.2 ⟨List.mem_range.2 hk, by simpa using hm⟩)
  · rw [List.getElem?_eq_none (by unfold backF; rw [backB_len, backA_len]; simp; omega), List.getElem?_eq_none (by omega)]
end Go.Sh
set_option linter.unusedVariables false
namespace Go.Sh
open Go.Val Go.Proofs.Ytoddjdajjmcliaa
theorem turn_fits {P Q : List Dt} (hP : P ∈ progs) (hQ : Q ∈ progs) {I I' : List Nat} {fl : List Fld} {l : List Int} {S : List V} (h : PlanOf P Q I I' (some fl)) (hS : stateF P l (I.map tyF) S) {k : Nat} (hk : k < I'.length) :
    ∃ v, (turnF S fl)[k]? = some v ∧ (fitsF Q 12 .nil (tyF I'[k]) v = some true ∨ fitsF Q 10 .nil (tyF I'[k]) v = some true) := by
  obtain ⟨f, hf, hc⟩ := h.2 k I'[k] (List.getElem?_eq_getElem hk)
  rcases hc with ⟨j, hj, rfl, hs⟩ | ⟨hm, v, rfl, hv⟩
  · have hjI := (List.getElem?_eq_some_iff.1 hj).1
    have hjS : j < S.length := by rw [hS.1]; simpa using hjI
    have hSj : S[j]? = some S[j] := List.getElem?_eq_getElem hjS
    refine ⟨S[j], ?_, .inr ?_⟩
    · unfold turnF
      rw [List.getElem?_map, hf]
      show some (if (0 : Int) ≤ (j : Int) then S.getD (j : Int).toNat zeroV else zeroV) = some S[j]
      rw [if_pos (by omega), Int.toNat_natCast, List.getD_eq_getElem?_getD, hSj]
      rfl
    · have hval := hS.2 j (tyF I'[k]) S[j] (by rw [List.getElem?_map, hj]; rfl) hSj
      obtain ⟨v, h1, _, _, r, ⟨s, h2⟩, h3⟩ := carry_law hP hQ (tyF_mem I'[k]) (l.drop j)
      rw [hval] at h1
      injection h1 with h1
      rw [h1]
      refine h3 ?_
      unfold same12 at hs
      rw [h2] at hs
      simpa using hs
  · refine ⟨v, ?_, .inl ?_⟩
    · unfold turnF
      rw [List.getElem?_map, hf]
      rfl
    · obtain ⟨v', h1, h2⟩ := first_fits hQ (tyF_mem I'[k])
      rw [hv] at h1
      injection h1 with h1
      injection h1 with h1
      rw [h1]
      exact h2
end Go.Sh
set_option linter.unusedVariables false
namespace Go.Sh
open Go.Val
theorem turn_self {P : List Dt} {I : List Nat} {fl : List Fld} {S : List V} (hn : I.Nodup) (hS : S.length = I.length) (h : PlanOf P P I I (some fl)) : turnF S fl = S := by
  apply List.ext_getElem?
  intro k
  by_cases hk : k < I.length
  · have hIk : I[k]? = some I[k] := List.getElem?_eq_getElem hk
    obtain ⟨f, hf, hc⟩ := h.2 k I[k] hIk
    rcases hc with ⟨j, hj, rfl, _⟩ | ⟨hm, _⟩
    · obtain ⟨h1, e1⟩ := List.getElem?_eq_some_iff.1 hj
      have hjk : j = k := by
        rcases Nat.lt_trichotomy j k with h | h | h
        · exact absurd e1 (List.pairwise_iff_getElem.1 hn j k h1 hk h)
        · exact h
        · exact absurd e1.symm (List.pairwise_iff_getElem.1 hn k j hk h1 h)
      subst hjk
      have hSj : S[j]? = some S[j] := List.getElem?_eq_getElem (by omega)
      unfold turnF
      rw [List.getElem?_map, hf]
      show some (if (0 : Int) ≤ (j : Int) then S.getD (j : Int).toNat zeroV else zeroV) = S[j]?
      rw [if_pos (by omega), Int.toNat_natCast, List.getD_eq_getElem?_getD, hSj]
      rfl
    · exact absurd (List.mem_of_getElem? hIk) hm
  · have hl := h.1
    rw [List.getElem?_eq_none (by unfold turnF; rw [List.length_map]; omega), List.getElem?_eq_none (by omega)]
end Go.Sh
set_option linter.unusedVariables false
namespace Go.Proofs.Ytoddjdajjmcliaa
open Go.RowKit Go.Mem Go.Sh Go.Maps Go.Val
set_option maxRecDepth 100000 in
set_option maxHeartbeats 16000000 in
theorem renewThere_any (w : World) (x0 x1 : Int) (h0 : I64 x0) (h1 : I64 x1) (Lp : Option Addr) (ln cl : Nat) (l : List Int) (hl : NsAt w Lp ln cl l) :
    Calls Try.prog 10 #[.int .i64 x0, .int .i64 x1, .slice Lp ln cl] w fun e w' => e = .returned (.bool true) ∧ Below w.heap.size w w' := by
  have P0 := Lib.hid (programOf_any x0 w h0)
  have P1 := Lib.hid (fun W => programOf_any x1 W h1)
  have HI := Lib.hid hl
  clear h0 h1 hl
  go_enter Try.func10, Try.ntmps10
  go_wp2_with (fail)
  refine P0.out.mono ?_
  unfold PgPost
  rintro e w1 ⟨hb1, p, y, bad, q, bits, rfl, hy, hq, hbits, hp⟩
  obtain ⟨A, n, c, bc, e, ad, cn, At, ct, m, rfl, hpx⟩ := hp.x hy hq hbits
  generalize idxF bits 9 = I at hpx
  have HX1 := Lib.hid hpx
  have HB1 := Lib.hid hb1
  clear hp hy hq hbits hb1 hpx P0
  unfold Pg.cells pvs
  go_wp2_with (fail)
  refine (P1.out w1).mono ?_
  unfold PgPost
  rintro e w2 ⟨hb2, p', y', bad', q', bits', rfl, hy', hq', hbits', hp'⟩
  obtain ⟨A', n', c', bc', e', ad', cn', At', ct', m', rfl, hpx'⟩ := hp'.x hy' hq' hbits'
  generalize idxF bits' 9 = I' at hpx'
  have HX2 := Lib.hid (And.intro (HX1.out.below hb2) hpx')
  have HB2 := Lib.hid (HB1.out.trans (hb2.mono HB1.out.size))
  clear hp' hy' hq' hbits' hb2 hpx' P1 HX1 HB1
  unfold Pg.cells pvs
  go_upto_region 2 with (fail)
  obtain ⟨u1, hu1⟩ : ∃ u, u = w2.alloc (.cells #[str [109], .int .i64 1, .slice none 0 0, .slice A n c, .slice none 0 0, .slice none 0 0, .slice none 0 0, .slice (some ⟨bc, 0, none⟩) 1 e] 29) := ⟨_, rfl⟩
  have zu1 : u1.heap.size = w2.heap.size + 1 := by rw [hu1]; simp
  have hbu1 : Below w2.heap.size w2 u1 := by rw [hu1]; exact (Below.refl _ _).alloc (Nat.le_refl _) _
  have fPB : Blk u1 (w2.heap.size) 29 [str [109], .int .i64 1, .slice none 0 0, .slice A n c, .slice none 0 0, .slice none 0 0, .slice none 0 0, .slice (some ⟨bc, 0, none⟩) 1 e] := by rw [hu1]; have h := Blk.new w2 29 [str [109], .int .i64 1, .slice none 0 0, .slice A n c, .slice none 0 0, .slice none 0 0, .slice none 0 0, .slice (some ⟨bc, 0, none⟩) 1 e]; exact h
  obtain ⟨u2, hu2⟩ : ∃ u, u = u1.alloc (.cells #[str [109], .int .i64 1, .slice none 0 0, .slice A' n' c', .slice none 0 0, .slice none 0 0, .slice none 0 0, .slice (some ⟨bc', 0, none⟩) 1 e'] 29) := ⟨_, rfl⟩
  have zu2 : u2.heap.size = w2.heap.size + 1 + 1 := by rw [hu2]; simp [zu1]
  have hbu2 : Below w2.heap.size w2 u2 := by rw [hu2]; exact hbu1.alloc hbu1.size _
  replace fPB := fPB.alloc (.cells #[str [109], .int .i64 1, .slice none 0 0, .slice A' n' c', .slice none 0 0, .slice none 0 0, .slice none 0 0, .slice (some ⟨bc', 0, none⟩) 1 e'] 29)
  rw [← hu2] at fPB
  have fQB : Blk u2 (w2.heap.size + 1) 29 [str [109], .int .i64 1, .slice none 0 0, .slice A' n' c', .slice none 0 0, .slice none 0 0, .slice none 0 0, .slice (some ⟨bc', 0, none⟩) 1 e'] := by rw [hu2]; have h := Blk.new u1 29 [str [109], .int .i64 1, .slice none 0 0, .slice A' n' c', .slice none 0 0, .slice none 0 0, .slice none 0 0, .slice (some ⟨bc', 0, none⟩) 1 e']; rw [zu1] at h; exact h
  rw [← hu1, ← hu2]
  obtain ⟨QB, zQB⟩ : ∃ b, b = w2.heap.size + 1 := ⟨_, rfl⟩
  obtain ⟨PB, zPB⟩ : ∃ b, b = w2.heap.size := ⟨_, rfl⟩
  rw [← zQB, ← zPB]
  rw [← zPB] at fPB
  rw [← zQB] at fQB
  clear hu1 hu2
  have HX := Lib.hid (And.intro (HX2.out.1.below hbu2) (HX2.out.2.below hbu2))
  have HB := Lib.hid (And.intro (HB2.out.trans (hbu2.mono HB2.out.size)) (And.intro fPB fQB))
  have hI9 : ∀ i ∈ I, i < 9 := by obtain ⟨bits, h, _⟩ := HX2.out.1.idx; rw [h]; exact fun i hi => idxF_lt bits 9 i hi
  have hI9' : ∀ i ∈ I', i < 9 := by obtain ⟨bits, h, _⟩ := HX2.out.2.idx; rw [h]; exact fun i hi => idxF_lt bits 9 i hi
  have hnd : I.Nodup := by obtain ⟨bits, h, _⟩ := HX2.out.1.idx; rw [h]; exact idxF_nodup bits 9
  obtain ⟨R, hR, hpo⟩ := flds_law (pd_mem HX2.out.1.y12 bad) (pd_mem HX2.out.2.y12 bad') hI9 hI9'
  obtain ⟨R0, hR0, hpo0⟩ := flds_law (pd_mem HX2.out.1.y12 bad) (pd_mem HX2.out.1.y12 bad) hI9 hI9
  obtain ⟨fl0, rfl⟩ := plan_self (pd_mem HX2.out.1.y12 bad) hpo0
  have CW := Lib.hid (way_any u2 A n c bc e y bad ad cn At ct q m I A' n' c' bc' e' y' bad' ad' cn' At' ct' q' m' I' R HX.out.1 HX.out.2 hR)
  have CW0 := Lib.hid (fun W (hW : Below u2.heap.size u2 W) => way_any W A n c bc e y bad ad cn At ct q m I A n c bc e y bad ad cn At ct q m I (some fl0) (HX.out.1.below hW) (HX.out.1.below hW) hR0)
  have hpR : planR q q (some fl0) = some fl0 := by unfold planR; rw [if_pos rfl]
  rw [hpR] at CW0
  have HPO0 := Lib.hid (And.intro hpo0 (And.intro hnd (And.intro hI9 hI9')))
  have HCA := Lib.hid (show planR q q' R = none ∨ ∃ fl, planR q q' R = some fl ∧ PlanOf (pd y bad) (pd y' bad') I I' (some fl) from by
    unfold planR
    by_cases h : q = q'
    · rw [if_pos h]
      cases R with
      | none => exact .inl rfl
      | some fl => exact .inr ⟨fl, rfl, hpo⟩
    · rw [if_neg h]; exact .inl rfl)
  have g0 := fPB.cell 0
  have g1 := fPB.cell 1
  have g2 := fPB.cell 2
  have g3 := fPB.cell 3
  have g4 := fPB.cell 4
  have g5 := fPB.cell 5
  have g6 := fPB.cell 6
  have g7 := fPB.cell 7
  have lg := fPB.lt
  simp only [List.getElem?_cons_zero, List.getElem?_cons_succ] at g0 g1 g2 g3 g4 g5 g6 g7
  have i0 := fQB.cell 0
  have i1 := fQB.cell 1
  have i2 := fQB.cell 2
  have i3 := fQB.cell 3
  have i4 := fQB.cell 4
  have i5 := fQB.cell 5
  have i6 := fQB.cell 6
  have i7 := fQB.cell 7
  have li := fQB.lt
  simp only [List.getElem?_cons_zero, List.getElem?_cons_succ] at i0 i1 i2 i3 i4 i5 i6 i7
  clear fPB fQB zPB zQB zu1 zu2 hbu1 hbu2 hR hpo hI9 hI9' hnd hR0 hpo0 hpR HX2 HB2
  generalize u2 = W2 at *
  generalize hRR : planR q q' R = R2 at CW HCA
  clear hRR
  rcases HCA.out with rfl | ⟨fl, rfl, hpo⟩
  ·
    go_upto_region 3 with (go_at_call 19; refine CW.out.mono ?_; unfold WayPost; rintro e w3 ⟨rfl, hb3⟩; have H3 := Lib.hid (And.intro hb3 trivial); clear hb3)
    obtain ⟨W4, hWW4⟩ : ∃ W, W = w3.alloc (.cells #[.slice none 0 0] 60) := ⟨_, rfl⟩
    obtain ⟨WB, hBWB⟩ : ∃ b, b = w3.heap.size := ⟨_, rfl⟩
    have fWB : Blk W4 WB 60 [.slice none 0 0] := by rw [hWW4, hBWB]; exact Blk.new _ _ _
    have hbW4 : Below w3.heap.size w3 W4 := by rw [hWW4]; exact (Below.refl _ _).alloc (Nat.le_refl _) _
    rw [← hWW4, ← hBWB]
    have hb24 := H3.out.1.trans (hbW4.mono H3.out.1.size)
    have fPB4 := HB.out.2.1.below hb24 HB.out.2.1.lt
    have fQB4 := HB.out.2.2.below hb24 HB.out.2.2.lt
    skip
    have H4 := Lib.hid (And.intro hb24 (And.intro fPB4 (And.intro fQB4 fWB)))
    clear hb24 hbW4 hWW4 hBWB fWB g0 g1 g2 g3 g4 g5 g6 g7 lg i0 i1 i2 i3 i4 i5 i6 i7 li
    have k0 := fPB4.cell 0
    have k1 := fPB4.cell 1
    have k2 := fPB4.cell 2
    have k3 := fPB4.cell 3
    have k4 := fPB4.cell 4
    have k5 := fPB4.cell 5
    have k6 := fPB4.cell 6
    have k7 := fPB4.cell 7
    have lk := fPB4.lt
    simp only [List.getElem?_cons_zero, List.getElem?_cons_succ] at k0 k1 k2 k3 k4 k5 k6 k7
    clear fPB4 fQB4
    go_upto_region 4 with (go_at_call 19; refine (CW0.out _ H4.out.1).mono ?_; unfold WayPost; rintro e w5 ⟨⟨M0, cM0, rfl, hway⟩, hb5⟩; have H5 := Lib.hid (And.intro hb5 hway); clear hb5 hway)
    obtain ⟨W6, hWW6⟩ : ∃ W, W = w5.alloc (.cells #[.slice M0 1 cM0] 60) := ⟨_, rfl⟩
    obtain ⟨OB, hBOB⟩ : ∃ b, b = w5.heap.size := ⟨_, rfl⟩
    have fOB : Blk W6 OB 60 [.slice M0 1 cM0] := by rw [hWW6, hBOB]; exact Blk.new _ _ _
    have hbW6 : Below w5.heap.size w5 W6 := by rw [hWW6]; exact (Below.refl _ _).alloc (Nat.le_refl _) _
    rw [← hWW6, ← hBOB]
    have hb46 := H5.out.1.trans (hbW6.mono H5.out.1.size)
    have hb26 := H4.out.1.trans (hb46.mono H4.out.1.size)
    have fPB6 := H4.out.2.1.below hb46 H4.out.2.1.lt
    have HVY := Lib.hid ((H5.out.2.imp (D' := Any) fun _ _ _ => trivial).keep (Same.any hbW6))
    skip
    have H6 := Lib.hid (And.intro hb26 (And.intro fPB6 (And.intro (H4.out.2.2.1.below hb46 H4.out.2.2.1.lt) (And.intro (H4.out.2.2.2.below hb46 H4.out.2.2.2.lt) fOB))))
    have HX6 := Lib.hid (And.intro (HX.out.1.below hb26) (HX.out.2.below hb26))
    have HB6 := Lib.hid (HB.out.1.trans (hb26.mono HB.out.1.size))
    have CS := Lib.hid (savedFor_any W6 A n c bc e y bad ad cn At ct q m I Lp ln cl l (HX.out.1.below hb26) (HI.out.keep (Same.any (HB.out.1.trans (hb26.mono HB.out.1.size)))))
    clear hb26 hb46 hbW6 hWW6 hBOB fOB k0 k1 k2 k3 k4 k5 k6 k7 lk
    have k0 := fPB6.cell 0
    have k1 := fPB6.cell 1
    have k2 := fPB6.cell 2
    have k3 := fPB6.cell 3
    have k4 := fPB6.cell 4
    have k5 := fPB6.cell 5
    have k6 := fPB6.cell 6
    have k7 := fPB6.cell 7
    have lk := fPB6.lt
    simp only [List.getElem?_cons_zero, List.getElem?_cons_succ] at k0 k1 k2 k3 k4 k5 k6 k7
    have hm6 : m ≤ 6 := HX.out.1.len.2.2
    have hm6' : m' ≤ 6 := HX.out.2.len.2.2
    clear fPB6
    go_upto_region 5 with (go_at_call 20; refine CS.out.mono ?_; unfold SvPost; rintro e w7 ⟨S, hst, ⟨A5, c5, rfl, hvs⟩, hb7⟩; have H7 := Lib.hid (And.intro hst (And.intro hvs hb7)); clear hst hvs hb7)
    obtain ⟨W8, hWW8⟩ : ∃ W, W = w7.alloc (.cells #[str [65], .slice A5 m c5, .slice none 0 0] 65) := ⟨_, rfl⟩
    obtain ⟨SB, hBSB⟩ : ∃ b, b = w7.heap.size := ⟨_, rfl⟩
    have fSB : Blk W8 SB 65 [str [65], .slice A5 m c5, .slice none 0 0] := by rw [hWW8, hBSB]; exact Blk.new _ _ _
    have hbW8 : Below w7.heap.size w7 W8 := by rw [hWW8]; exact (Below.refl _ _).alloc (Nat.le_refl _) _
    rw [← hWW8, ← hBSB]
    have hb68 := H7.out.2.2.trans (hbW8.mono H7.out.2.2.size)
    have HX8 := Lib.hid (And.intro (HX6.out.1.below hb68) (HX6.out.2.below hb68))
    have HB8 := Lib.hid (HB6.out.trans (hb68.mono HB6.out.size))
    have HS8 := Lib.hid ((H7.out.2.1.imp (D' := Any) fun _ _ _ => trivial).keep (Same.any hbW8))
    skip
    have H8 := Lib.hid (And.intro (H6.out.2.1.below hb68 H6.out.2.1.lt) (And.intro (H6.out.2.2.1.below hb68 H6.out.2.2.1.lt) (And.intro (H6.out.2.2.2.1.below hb68 H6.out.2.2.2.1.lt) (And.intro (H6.out.2.2.2.2.below hb68 H6.out.2.2.2.2.lt) fSB))))
    have hok := plan_ok (by have := HX.out.1.len; omega) HPO0.out.1
    rw [← HX.out.1.len.1] at hok
    have hSl : S.length = I.length := by have := H7.out.1.1; simpa using this
    have hSm : S.length = m := by rw [hSl]; exact HX.out.1.len.1.symm
    have CT := (show Calls Try.prog 21 #[.agg #[str [65], .slice A5 m c5, .slice none 0 0], .agg #[.slice M0 1 cM0]] W8 (TurnPost W8 (turnF S fl0)) from by
      obtain ⟨F, cF, Ls, cL, r1, r2, r3⟩ := HVY.out.keep (Same.any hb68)
      exact turn_ok W8 A5 c5 S none 0 M0 cM0 m F fl0.length cF Ls _ cL fl0 _ r1 r3 hok HS8.out)
    rw [turn_self HPO0.out.2.1 hSl HPO0.out.1] at CT
    unfold TurnPost at CT
    rw [hSm] at CT
    have CT3 := Lib.hid CT
    have HSL := Lib.hid (And.intro hSl hSm)
    have ob0 := H8.out.2.2.2.1.cell 0
    have lob := H8.out.2.2.2.1.lt
    simp only [List.getElem?_cons_zero] at ob0
    clear CT hok hSl hSm hWW8 hBSB hbW8 hb68 k0 k1 k2 k3 k4 k5 k6 k7 lk
    have s0 := fSB.cell 0
    have s1 := fSB.cell 1
    have s2 := fSB.cell 2
    have ls := fSB.lt
    simp only [List.getElem?_cons_zero, List.getElem?_cons_succ] at s0 s1 s2
    clear fSB
    go_upto_region 6 with (go_at_call 21; refine CT3.out.mono ?_; rintro e w9 ⟨⟨A6, c6, rfl, hts⟩, hb9⟩; have H9 := Lib.hid (And.intro hts hb9); clear hts hb9)
    obtain ⟨W10, hWW10⟩ : ∃ W, W = w9.alloc (.cells #[str [65], .slice A6 m c6, .slice none 0 0] 65) := ⟨_, rfl⟩
    obtain ⟨TB, hBTB⟩ : ∃ b, b = w9.heap.size := ⟨_, rfl⟩
    have fTB : Blk W10 TB 65 [str [65], .slice A6 m c6, .slice none 0 0] := by rw [hWW10, hBTB]; exact Blk.new _ _ _
    have hbW10 : Below w9.heap.size w9 W10 := by rw [hWW10]; exact (Below.refl _ _).alloc (Nat.le_refl _) _
    rw [← hWW10, ← hBTB]
    have hb80 := H9.out.2.trans (hbW10.mono H9.out.2.size)
    have HX10 := Lib.hid (And.intro (HX8.out.1.below hb80) (HX8.out.2.below hb80))
    have HB10 := Lib.hid (HB8.out.trans (hb80.mono HB8.out.size))
    have HS10 := Lib.hid (HS8.out.keep (Same.any hb80))
    have HT10 := Lib.hid ((H9.out.1.imp (D' := Any) fun _ _ _ => trivial).keep (Same.any hbW10))
    skip
    have H10 := Lib.hid (And.intro (H8.out.2.1.below hb80 H8.out.2.1.lt) (And.intro (H8.out.2.2.1.below hb80 H8.out.2.2.1.lt) (And.intro (H8.out.2.2.2.2.below hb80 H8.out.2.2.2.2.lt) fTB)))
    have CM := Lib.hid (sameS_any W10 A5 A6 m c5 c6 S HS10.out HT10.out)
    have fS10 := H10.out.2.2.1
    clear ob0 lob hWW10 hBTB hbW10 hb80 s0 s1 s2 ls
    have s0 := fS10.cell 0
    have s1 := fS10.cell 1
    have s2 := fS10.cell 2
    have ls := fS10.lt
    simp only [List.getElem?_cons_zero, List.getElem?_cons_succ] at s0 s1 s2
    have t0 := fTB.cell 0
    have t1 := fTB.cell 1
    have t2 := fTB.cell 2
    have lt := fTB.lt
    simp only [List.getElem?_cons_zero, List.getElem?_cons_succ] at t0 t1 t2
    clear fS10 fTB
    go_upto_region 8 with (go_at_call 23; refine CM.out.mono ?_; rintro e w11 ⟨rfl, hb11⟩; have H11 := Lib.hid hb11; clear hb11)
    have HX11 := Lib.hid (And.intro (HX10.out.1.below H11.out) (HX10.out.2.below H11.out))
    have HB11 := Lib.hid (HB10.out.trans (H11.out.mono HB10.out.size))
    have HS11 := Lib.hid (HS10.out.keep (Same.any H11.out))
    skip
    have fW11 := H10.out.2.1.below H11.out H10.out.2.1.lt
    have wb0 := fW11.cell 0
    have lwb := fW11.lt
    simp only [List.getElem?_cons_zero] at wb0
    clear fW11 s0 s1 s2 ls t0 t1 t2 lt
    go_wp2_with (fail)
    go_ret
    exact ⟨rfl, HB11.out⟩
  ·
    have HPO := Lib.hid hpo
    clear hpo HCA
    go_upto_region 3 with (go_at_call 19; refine CW.out.mono ?_; unfold WayPost; rintro e w3 ⟨⟨M, cM, rfl, hway⟩, hb3⟩; have H3 := Lib.hid (And.intro hb3 hway); clear hb3 hway)
    obtain ⟨W4, hWW4⟩ : ∃ W, W = w3.alloc (.cells #[.slice M 1 cM] 60) := ⟨_, rfl⟩
    obtain ⟨WB, hBWB⟩ : ∃ b, b = w3.heap.size := ⟨_, rfl⟩
    have fWB : Blk W4 WB 60 [.slice M 1 cM] := by rw [hWW4, hBWB]; exact Blk.new _ _ _
    have hbW4 : Below w3.heap.size w3 W4 := by rw [hWW4]; exact (Below.refl _ _).alloc (Nat.le_refl _) _
    rw [← hWW4, ← hBWB]
    have hb24 := H3.out.1.trans (hbW4.mono H3.out.1.size)
    have fPB4 := HB.out.2.1.below hb24 HB.out.2.1.lt
    have fQB4 := HB.out.2.2.below hb24 HB.out.2.2.lt
    have HWY := Lib.hid ((H3.out.2.imp (D' := Any) fun _ _ _ => trivial).keep (Same.any hbW4))
    have H4 := Lib.hid (And.intro hb24 (And.intro fPB4 (And.intro fQB4 fWB)))
    clear hb24 hbW4 hWW4 hBWB fWB g0 g1 g2 g3 g4 g5 g6 g7 lg i0 i1 i2 i3 i4 i5 i6 i7 li
    have k0 := fPB4.cell 0
    have k1 := fPB4.cell 1
    have k2 := fPB4.cell 2
    have k3 := fPB4.cell 3
    have k4 := fPB4.cell 4
    have k5 := fPB4.cell 5
    have k6 := fPB4.cell 6
    have k7 := fPB4.cell 7
    have lk := fPB4.lt
    simp only [List.getElem?_cons_zero, List.getElem?_cons_succ] at k0 k1 k2 k3 k4 k5 k6 k7
    clear fPB4 fQB4
    go_upto_region 4 with (go_at_call 19; refine (CW0.out _ H4.out.1).mono ?_; unfold WayPost; rintro e w5 ⟨⟨M0, cM0, rfl, hway⟩, hb5⟩; have H5 := Lib.hid (And.intro hb5 hway); clear hb5 hway)
    obtain ⟨W6, hWW6⟩ : ∃ W, W = w5.alloc (.cells #[.slice M0 1 cM0] 60) := ⟨_, rfl⟩
    obtain ⟨OB, hBOB⟩ : ∃ b, b = w5.heap.size := ⟨_, rfl⟩
    have fOB : Blk W6 OB 60 [.slice M0 1 cM0] := by rw [hWW6, hBOB]; exact Blk.new _ _ _
    have hbW6 : Below w5.heap.size w5 W6 := by rw [hWW6]; exact (Below.refl _ _).alloc (Nat.le_refl _) _
    rw [← hWW6, ← hBOB]
    have hb46 := H5.out.1.trans (hbW6.mono H5.out.1.size)
    have hb26 := H4.out.1.trans (hb46.mono H4.out.1.size)
    have fPB6 := H4.out.2.1.below hb46 H4.out.2.1.lt
    have HVY := Lib.hid ((H5.out.2.imp (D' := Any) fun _ _ _ => trivial).keep (Same.any hbW6))
    have HWY6 := Lib.hid (HWY.out.keep (Same.any hb46))
    have H6 := Lib.hid (And.intro hb26 (And.intro fPB6 (And.intro (H4.out.2.2.1.below hb46 H4.out.2.2.1.lt) (And.intro (H4.out.2.2.2.below hb46 H4.out.2.2.2.lt) fOB))))
    have HX6 := Lib.hid (And.intro (HX.out.1.below hb26) (HX.out.2.below hb26))
    have HB6 := Lib.hid (HB.out.1.trans (hb26.mono HB.out.1.size))
    have CS := Lib.hid (savedFor_any W6 A n c bc e y bad ad cn At ct q m I Lp ln cl l (HX.out.1.below hb26) (HI.out.keep (Same.any (HB.out.1.trans (hb26.mono HB.out.1.size)))))
    clear hb26 hb46 hbW6 hWW6 hBOB fOB k0 k1 k2 k3 k4 k5 k6 k7 lk
    have k0 := fPB6.cell 0
    have k1 := fPB6.cell 1
    have k2 := fPB6.cell 2
    have k3 := fPB6.cell 3
    have k4 := fPB6.cell 4
    have k5 := fPB6.cell 5
    have k6 := fPB6.cell 6
    have k7 := fPB6.cell 7
    have lk := fPB6.lt
    simp only [List.getElem?_cons_zero, List.getElem?_cons_succ] at k0 k1 k2 k3 k4 k5 k6 k7
    have hm6 : m ≤ 6 := HX.out.1.len.2.2
    have hm6' : m' ≤ 6 := HX.out.2.len.2.2
    clear fPB6
    go_upto_region 5 with (go_at_call 20; refine CS.out.mono ?_; unfold SvPost; rintro e w7 ⟨S, hst, ⟨A5, c5, rfl, hvs⟩, hb7⟩; have H7 := Lib.hid (And.intro hst (And.intro hvs hb7)); clear hst hvs hb7)
    obtain ⟨W8, hWW8⟩ : ∃ W, W = w7.alloc (.cells #[str [65], .slice A5 m c5, .slice none 0 0] 65) := ⟨_, rfl⟩
    obtain ⟨SB, hBSB⟩ : ∃ b, b = w7.heap.size := ⟨_, rfl⟩
    have fSB : Blk W8 SB 65 [str [65], .slice A5 m c5, .slice none 0 0] := by rw [hWW8, hBSB]; exact Blk.new _ _ _
    have hbW8 : Below w7.heap.size w7 W8 := by rw [hWW8]; exact (Below.refl _ _).alloc (Nat.le_refl _) _
    rw [← hWW8, ← hBSB]
    have hb68 := H7.out.2.2.trans (hbW8.mono H7.out.2.2.size)
    have HX8 := Lib.hid (And.intro (HX6.out.1.below hb68) (HX6.out.2.below hb68))
    have HB8 := Lib.hid (HB6.out.trans (hb68.mono HB6.out.size))
    have HS8 := Lib.hid ((H7.out.2.1.imp (D' := Any) fun _ _ _ => trivial).keep (Same.any hbW8))
    have HWY8 := Lib.hid (HWY6.out.keep (Same.any hb68))
    have H8 := Lib.hid (And.intro (H6.out.2.1.below hb68 H6.out.2.1.lt) (And.intro (H6.out.2.2.1.below hb68 H6.out.2.2.1.lt) (And.intro (H6.out.2.2.2.1.below hb68 H6.out.2.2.2.1.lt) (And.intro (H6.out.2.2.2.2.below hb68 H6.out.2.2.2.2.lt) fSB))))
    have hok := plan_ok (by have := HX.out.1.len; omega) HPO0.out.1
    rw [← HX.out.1.len.1] at hok
    have hSl : S.length = I.length := by have := H7.out.1.1; simpa using this
    have hSm : S.length = m := by rw [hSl]; exact HX.out.1.len.1.symm
    have CT := (show Calls Try.prog 21 #[.agg #[str [65], .slice A5 m c5, .slice none 0 0], .agg #[.slice M0 1 cM0]] W8 (TurnPost W8 (turnF S fl0)) from by
      obtain ⟨F, cF, Ls, cL, r1, r2, r3⟩ := HVY.out.keep (Same.any hb68)
      exact turn_ok W8 A5 c5 S none 0 M0 cM0 m F fl0.length cF Ls _ cL fl0 _ r1 r3 hok HS8.out)
    rw [turn_self HPO0.out.2.1 hSl HPO0.out.1] at CT
    unfold TurnPost at CT
    rw [hSm] at CT
    have CT3 := Lib.hid CT
    have HSL := Lib.hid (And.intro hSl hSm)
    have ob0 := H8.out.2.2.2.1.cell 0
    have lob := H8.out.2.2.2.1.lt
    simp only [List.getElem?_cons_zero] at ob0
    clear CT hok hSl hSm hWW8 hBSB hbW8 hb68 k0 k1 k2 k3 k4 k5 k6 k7 lk
    have s0 := fSB.cell 0
    have s1 := fSB.cell 1
    have s2 := fSB.cell 2
    have ls := fSB.lt
    simp only [List.getElem?_cons_zero, List.getElem?_cons_succ] at s0 s1 s2
    clear fSB
    go_upto_region 6 with (go_at_call 21; refine CT3.out.mono ?_; rintro e w9 ⟨⟨A6, c6, rfl, hts⟩, hb9⟩; have H9 := Lib.hid (And.intro hts hb9); clear hts hb9)
    obtain ⟨W10, hWW10⟩ : ∃ W, W = w9.alloc (.cells #[str [65], .slice A6 m c6, .slice none 0 0] 65) := ⟨_, rfl⟩
    obtain ⟨TB, hBTB⟩ : ∃ b, b = w9.heap.size := ⟨_, rfl⟩
    have fTB : Blk W10 TB 65 [str [65], .slice A6 m c6, .slice none 0 0] := by rw [hWW10, hBTB]; exact Blk.new _ _ _
    have hbW10 : Below w9.heap.size w9 W10 := by rw [hWW10]; exact (Below.refl _ _).alloc (Nat.le_refl _) _
    rw [← hWW10, ← hBTB]
    have hb80 := H9.out.2.trans (hbW10.mono H9.out.2.size)
    have HX10 := Lib.hid (And.intro (HX8.out.1.below hb80) (HX8.out.2.below hb80))
    have HB10 := Lib.hid (HB8.out.trans (hb80.mono HB8.out.size))
    have HS10 := Lib.hid (HS8.out.keep (Same.any hb80))
    have HT10 := Lib.hid ((H9.out.1.imp (D' := Any) fun _ _ _ => trivial).keep (Same.any hbW10))
    have HWY10 := Lib.hid (HWY8.out.keep (Same.any hb80))
    have H10 := Lib.hid (And.intro (H8.out.2.1.below hb80 H8.out.2.1.lt) (And.intro (H8.out.2.2.1.below hb80 H8.out.2.2.1.lt) (And.intro (H8.out.2.2.2.2.below hb80 H8.out.2.2.2.2.lt) fTB)))
    have CM := Lib.hid (sameS_any W10 A5 A6 m c5 c6 S HS10.out HT10.out)
    have fS10 := H10.out.2.2.1
    clear ob0 lob hWW10 hBTB hbW10 hb80 s0 s1 s2 ls
    have s0 := fS10.cell 0
    have s1 := fS10.cell 1
    have s2 := fS10.cell 2
    have ls := fS10.lt
    simp only [List.getElem?_cons_zero, List.getElem?_cons_succ] at s0 s1 s2
    have t0 := fTB.cell 0
    have t1 := fTB.cell 1
    have t2 := fTB.cell 2
    have lt := fTB.lt
    simp only [List.getElem?_cons_zero, List.getElem?_cons_succ] at t0 t1 t2
    clear fS10 fTB
    go_upto_region 8 with (go_at_call 23; refine CM.out.mono ?_; rintro e w11 ⟨rfl, hb11⟩; have H11 := Lib.hid hb11; clear hb11)
    have HX11 := Lib.hid (And.intro (HX10.out.1.below H11.out) (HX10.out.2.below H11.out))
    have HB11 := Lib.hid (HB10.out.trans (H11.out.mono HB10.out.size))
    have HS11 := Lib.hid (HS10.out.keep (Same.any H11.out))
    have HWY11 := Lib.hid (HWY10.out.keep (Same.any H11.out))
    have fW11 := H10.out.2.1.below H11.out H10.out.2.1.lt
    have wb0 := fW11.cell 0
    have lwb := fW11.lt
    simp only [List.getElem?_cons_zero] at wb0
    clear fW11 s0 s1 s2 ls t0 t1 t2 lt
    have hokW := plan_ok (by have := HX.out.1.len; omega) HPO.out
    rw [← HX.out.1.len.1] at hokW
    have hfl : fl.length = m' := by rw [HPO.out.1]; exact HX.out.2.len.1.symm
    have hXl : (turnF S fl).length = m' := by unfold turnF; rw [List.length_map]; exact hfl
    have CT := (show Calls Try.prog 21 #[.agg #[str [65], .slice A5 m c5, .slice none 0 0], .agg #[.slice M 1 cM]] w11 (TurnPost w11 (turnF S fl)) from by
      obtain ⟨F, cF, Ls, cL, r1, r2, r3⟩ := HWY11.out
      exact turn_ok w11 A5 c5 S none 0 M cM m F fl.length cF Ls _ cL fl _ r1 r3 hokW HS11.out)
    unfold TurnPost at CT
    rw [hXl] at CT
    have CT4 := Lib.hid CT
    have HOK := Lib.hid (And.intro hokW (And.intro hfl hXl))
    have fS11 := H10.out.2.2.1.below H11.out H10.out.2.2.1.lt
    clear CT hokW hfl hXl
    have s0 := fS11.cell 0
    have s1 := fS11.cell 1
    have s2 := fS11.cell 2
    have ls := fS11.lt
    simp only [List.getElem?_cons_zero, List.getElem?_cons_succ] at s0 s1 s2
    clear fS11
    go_upto_region 11 with (go_at_call 21; refine CT4.out.mono ?_; rintro e w12 ⟨⟨A7, c7, rfl, hxs⟩, hb12⟩; have H12 := Lib.hid (And.intro hxs hb12); clear hxs hb12)
    obtain ⟨W13, hWW13⟩ : ∃ W, W = w12.alloc (.cells #[str [65], .slice A7 m' c7, .slice none 0 0] 65) := ⟨_, rfl⟩
    obtain ⟨XB, hBXB⟩ : ∃ b, b = w12.heap.size := ⟨_, rfl⟩
    have fXB : Blk W13 XB 65 [str [65], .slice A7 m' c7, .slice none 0 0] := by rw [hWW13, hBXB]; exact Blk.new _ _ _
    have hbW13 : Below w12.heap.size w12 W13 := by rw [hWW13]; exact (Below.refl _ _).alloc (Nat.le_refl _) _
    rw [← hWW13, ← hBXB]
    have hb13 := H11.out.trans ((H12.out.2.trans (hbW13.mono H12.out.2.size)).mono H11.out.size)
    have hb113 := H12.out.2.trans (hbW13.mono H12.out.2.size)
    have HX13 := Lib.hid (And.intro (HX11.out.1.below hb113) (HX11.out.2.below hb113))
    have HB13 := Lib.hid (HB11.out.trans (hb113.mono HB11.out.size))
    have HS13 := Lib.hid (HS11.out.keep (Same.any hb113))
    have HWY13 := Lib.hid (HWY11.out.keep (Same.any hb113))
    have HXS := Lib.hid ((H12.out.1.imp (D' := Any) fun _ _ _ => trivial).keep (Same.any hbW13))
    have H13 := Lib.hid (And.intro (H10.out.1.below hb13 H10.out.1.lt) (And.intro (H10.out.2.1.below hb13 H10.out.2.1.lt) (And.intro (H10.out.2.2.1.below hb13 H10.out.2.2.1.lt) fXB)))
    have CR := Lib.hid (show Calls Try.prog 24 #[.agg #[str [65], .slice A5 m c5, .slice none 0 0], .agg #[.slice M 1 cM]] W13 (RestPost W13 (lostF m (fl.map Fld.src)).length (restF S (lostF m (fl.map Fld.src)))) from by
      obtain ⟨F, cF, Ls, cL, r1, r2, r3⟩ := HWY13.out
      exact rest_ok W13 A5 c5 S none 0 M cM m F fl.length cF Ls _ cL fl _ r1 r3 HOK.out.1 HS13.out)
    have fS13 := H13.out.2.2.1
    have fW13 := H13.out.2.1
    have wb0 := fW13.cell 0
    have lwb := fW13.lt
    simp only [List.getElem?_cons_zero] at wb0
    clear fW13 hb13 hb113 hbW13 hWW13 hBXB s0 s1 s2 ls
    have s0 := fS13.cell 0
    have s1 := fS13.cell 1
    have s2 := fS13.cell 2
    have ls := fS13.lt
    simp only [List.getElem?_cons_zero, List.getElem?_cons_succ] at s0 s1 s2
    clear fS13
    go_upto_region 12 with (go_at_call 24; refine CR.out.mono ?_; unfold RestPost; rintro e w14 ⟨⟨A8, c8, rfl, hrs⟩, hb14⟩; have H14 := Lib.hid (And.intro hrs hb14); clear hrs hb14)
    have CB := Lib.hid (show Calls Try.prog 25 #[.agg #[str [65], .slice A7 m' c7, .slice none 0 0], .agg #[.slice M 1 cM], .slice A8 (lostF m (fl.map Fld.src)).length c8] w14 (TurnPost w14 S) from by
      obtain ⟨F, cF, Ls, cL, r1, r2, r3⟩ := HWY13.out.keep (Same.any H14.out.2)
      have h := back_ok w14 A7 c7 (turnF S fl) none 0 M cM m F fl.length cF Ls _ cL fl _ A8 c8 (restF S (lostF m (fl.map Fld.src))) r1 r3 HOK.out.1 (by rw [HOK.out.2.1]; exact HXS.out.keep (Same.any H14.out.2)) (H14.out.1.imp fun _ _ _ => trivial)
      rw [back_law HSL.out.2 HOK.out.1.2.1, HOK.out.2.1] at h
      exact h)
    unfold TurnPost at CB
    rw [HSL.out.2] at CB
    have fX14 := H13.out.2.2.2.below H14.out.2 H13.out.2.2.2.lt
    have fW14 := H13.out.2.1.below H14.out.2 H13.out.2.1.lt
    have wb0 := fW14.cell 0
    have lwb := fW14.lt
    simp only [List.getElem?_cons_zero] at wb0
    clear fW14 fXB s0 s1 s2 ls
    have t0 := fX14.cell 0
    have t1 := fX14.cell 1
    have t2 := fX14.cell 2
    have lt := fX14.lt
    simp only [List.getElem?_cons_zero, List.getElem?_cons_succ] at t0 t1 t2
    clear fX14
    go_upto_region 13 with (go_at_call 25; refine CB.out.mono ?_; rintro e w15 ⟨⟨A9, c9, rfl, hys⟩, hb15⟩; have H15 := Lib.hid (And.intro hys hb15); clear hys hb15)
    obtain ⟨W16, hWW16⟩ : ∃ W, W = w15.alloc (.cells #[str [65], .slice A9 m c9, .slice none 0 0] 65) := ⟨_, rfl⟩
    obtain ⟨YB, hBYB⟩ : ∃ b, b = w15.heap.size := ⟨_, rfl⟩
    have fYB : Blk W16 YB 65 [str [65], .slice A9 m c9, .slice none 0 0] := by rw [hWW16, hBYB]; exact Blk.new _ _ _
    have hbW16 : Below w15.heap.size w15 W16 := by rw [hWW16]; exact (Below.refl _ _).alloc (Nat.le_refl _) _
    rw [← hWW16, ← hBYB]
    have hb36 := H14.out.2.trans ((H15.out.2.trans (hbW16.mono H15.out.2.size)).mono H14.out.2.size)
    have hb46 := H15.out.2.trans (hbW16.mono H15.out.2.size)
    have HX16 := Lib.hid (And.intro (HX13.out.1.below hb36) (HX13.out.2.below hb36))
    have HB16 := Lib.hid (HB13.out.trans (hb36.mono HB13.out.size))
    have HS16 := Lib.hid (HS13.out.keep (Same.any hb36))
    have HXS16 := Lib.hid (HXS.out.keep (Same.any hb36))
    have HYS := Lib.hid ((H15.out.1.imp (D' := Any) fun _ _ _ => trivial).keep (Same.any hbW16))
    have H16 := Lib.hid (And.intro (H13.out.1.below hb36 H13.out.1.lt) (And.intro (H13.out.2.2.1.below hb36 H13.out.2.2.1.lt) (And.intro (H13.out.2.2.2.below hb36 H13.out.2.2.2.lt) fYB)))
    have HAC := Lib.hid HX16.out.2.act
    have CM2 := Lib.hid (fun W (hW : Below W16.heap.size W16 W) => sameS_any W A5 A9 m c5 c9 S (HS16.out.keep (Same.any hW)) (HYS.out.keep (Same.any hW)))
    have MK := Lib.hid (show ∀ w', Below W16.heap.size W16 w' → (Below W16.heap.size W16 w' ∧ w'.cell? ⟨SB, 0, none⟩ = some (str [65]) ∧ w'.cell? ⟨SB, 1, none⟩ = some (.slice A5 m c5) ∧ w'.cell? ⟨SB, 2, none⟩ = some (.slice none 0 0) ∧ w'.cell? ⟨YB, 0, none⟩ = some (str [65]) ∧ w'.cell? ⟨YB, 1, none⟩ = some (.slice A9 m c9) ∧ w'.cell? ⟨YB, 2, none⟩ = some (.slice none 0 0) ∧ w'.cell? ⟨XB, 1, none⟩ = some (.slice A7 m' c7) ∧ w'.cell? ⟨QB, 7, none⟩ = some (.slice (some ⟨bc', 0, none⟩) 1 e') ∧ w'.cell? ⟨bc', 2, none⟩ = some (.slice At' m' ct')) from fun w' h => ⟨h, (h.cell (p := ⟨SB, 0, none⟩) (H16.out.2.1.lt)).trans (H16.out.2.1.cell 0), (h.cell (p := ⟨SB, 1, none⟩) (H16.out.2.1.lt)).trans (H16.out.2.1.cell 1), (h.cell (p := ⟨SB, 2, none⟩) (H16.out.2.1.lt)).trans (H16.out.2.1.cell 2), (h.cell (p := ⟨YB, 0, none⟩) (H16.out.2.2.2.lt)).trans (H16.out.2.2.2.cell 0), (h.cell (p := ⟨YB, 1, none⟩) (H16.out.2.2.2.lt)).trans (H16.out.2.2.2.cell 1), (h.cell (p := ⟨YB, 2, none⟩) (H16.out.2.2.2.lt)).trans (H16.out.2.2.2.cell 2), (h.cell (p := ⟨XB, 1, none⟩) (H16.out.2.2.1.lt)).trans (H16.out.2.2.1.cell 1), (h.cell (p := ⟨QB, 7, none⟩) (H16.out.1.lt)).trans (H16.out.1.cell 7), (h.cell (p := ⟨bc', 2, none⟩) (HAC.out.lt)).trans (HAC.out.cell 2)⟩)
    clear hb36 hb46 hbW16 hWW16 hBYB fYB wb0 lwb t0 t1 t2 lt
    go_cut [117] (fun s117 wc => s117 = .bool false ∧ Hid (Below W16.heap.size W16 wc))
    case first =>
      have hself : Below W16.heap.size W16 W16 := Below.refl _ _
      have hbd : Below W16.heap.size W16 W16.drew := ⟨rfl, rfl, rfl, Nat.le_refl _, fun _ _ => rfl⟩
      obtain ⟨hbaq, aq0, aq1, aq2, aq3, aq4, aq5, aq6, aq7, aq8⟩ := MK.out _ (by assumption)
      have lS := H16.out.2.1.lt
      have lX := H16.out.2.2.1.lt
      have lY := H16.out.2.2.2.lt
      have lQ := H16.out.1.lt
      have lA := HAC.out.lt
      have d1 : ((m' : Int) != (m' : Int)) = false := by simp
      have d2 : (m' != m') = false := by simp
      clear hself
      go_region_held3 (fun w' => Below W16.heap.size W16 w' ∧ w'.cell? ⟨SB, 0, none⟩ = some (str [65]) ∧ w'.cell? ⟨SB, 1, none⟩ = some (.slice A5 m c5) ∧ w'.cell? ⟨SB, 2, none⟩ = some (.slice none 0 0) ∧ w'.cell? ⟨YB, 0, none⟩ = some (str [65]) ∧ w'.cell? ⟨YB, 1, none⟩ = some (.slice A9 m c9) ∧ w'.cell? ⟨YB, 2, none⟩ = some (.slice none 0 0) ∧ w'.cell? ⟨XB, 1, none⟩ = some (.slice A7 m' c7) ∧ w'.cell? ⟨QB, 7, none⟩ = some (.slice (some ⟨bc', 0, none⟩) 1 e') ∧ w'.cell? ⟨bc', 2, none⟩ = some (.slice At' m' ct')) (first | exact MK.out _ hbd | exact MK.out _ hbn | (refine MK.out _ ?_; assumption) | go_keep)
        (first | (go_at_call 23; (with_reducible refine (CM2.out _ (by assumption)).mono ?_); rintro e w' ⟨rfl, hbx⟩; have hbn : Below W16.heap.size W16 w' := below_nextR hbx (by assumption); clear hbx))
      all_goals
        have HI3 := Lib.hid hbn
        clear hbn
        go_wp2_with (fail)
        go_meet
        exact ⟨rfl, HI3.out⟩
    case rest =>
      obtain ⟨rfl, HC⟩ := hcut
      have fQc := H16.out.1.below HC.out H16.out.1.lt
      have q7 := fQc.cell 7
      have lQc := fQc.lt
      have fAc := HAC.out.below HC.out HAC.out.lt
      have a2 := fAc.cell 2
      have lAc := fAc.lt
      simp only [acell, List.getElem?_cons_zero, List.getElem?_cons_succ] at q7 a2
      have hm6' : m' ≤ 6 := HX16.out.2.len.2.2
      clear fQc fAc
      go_wp2_with (fail)
      clear q7 a2 lQc lAc
      go_loopw [124] (fun v wr => ∃ k : Nat, k ≤ m' ∧ v = .int .i64 (k : Nat) ∧ Hid (Below W16.heap.size W16 wr)) (fun v _ => m' - (intOf v).toNat)
      case atStart => exact ⟨0, Nat.zero_le _, rfl, HC.out⟩
      case round =>
        obtain ⟨k, hk, rfl, HI1⟩ := hrel
        by_cases hlt : k < m'
        · have hkI : k < I'.length := by have := HX16.out.2.len; omega
          have hkT : k < (I'.map tyF).length := by rw [List.length_map]; exact hkI
          obtain ⟨b1, o1, B1, m1, e1, rfl, _, p0, p1, p2, ht⟩ := (HX16.out.2.ts.keep (Same.any HI1.out)).cells hlt hkT
          rw [List.getElem_map] at p0 p1 ht
          obtain ⟨v, hv, hf⟩ := turn_fits (pd_mem HX16.out.1.y12 bad) (pd_mem HX16.out.2.y12 bad') HPO.out H7.out.1 hkI
          have hkX : k < (turnF S fl).length := (List.getElem?_eq_some_iff.1 hv).1
          have hXv : (turnF S fl)[k] = v := (List.getElem?_eq_some_iff.1 hv).2
          obtain ⟨b4, o4, A8', c8', rfl, _, hxv, x0, x1, x2, x3⟩ := (HXS16.out.keep (Same.any HI1.out)).elem hlt hkX
          rw [hXv] at hxv x0 x1 x2 x3
          have HT := Lib.hid (And.intro ht (And.intro hf hxv))
          have l1 := lt_of_cell p0
          have l4 := lt_of_cell x0
          clear ht hf hxv hv hXv hkX
          generalize tyF I'[k] = ta at p0 p1 HT
          clear hkT hkI
          generalize hka : ta.kind = ka at p0
          generalize hna : ta.name = na at p1
          have HKN := Lib.hid (And.intro hka hna)
          clear hka hna
          generalize hvk : v.kind = vk at x0
          generalize hvn : v.num = vn at x1
          generalize hvt : v.text = vt at x2
          generalize hva : v.args.length = va at x3
          have HVN := Lib.hid (And.intro hvk (And.intro hvn (And.intro hvt hva)))
          clear hvk hvn hvt hva
          have i0 : (0 : Int) ≤ (k : Int) := by omega
          have i1 : (k : Int) < (m' : Int) := by omega
          go_upto_region 18 with (fail)

          obtain ⟨W17, hWW17⟩ : ∃ W, W = wr.alloc (.cells #[.int .i64 (ka : Nat), str na, .slice B1 m1 e1] 34) := ⟨_, rfl⟩
          obtain ⟨TB2, hBTB2⟩ : ∃ b, b = wr.heap.size := ⟨_, rfl⟩
          have fTB2 : Blk W17 TB2 34 [.int .i64 (ka : Nat), str na, .slice B1 m1 e1] := by rw [hWW17, hBTB2]; exact Blk.new _ _ _
          have hbW17 : Below wr.heap.size wr W17 := by rw [hWW17]; exact (Below.refl _ _).alloc (Nat.le_refl _) _
          rw [← hWW17, ← hBTB2]
          have HB17 := Lib.hid (HI1.out.trans (hbW17.mono HI1.out.size))
          have HG := Lib.hid (And.intro (H16.out.1.below HB17.out H16.out.1.lt) (And.intro fTB2 (H16.out.2.2.1.below HB17.out H16.out.2.2.1.lt)))
          have HE := Lib.hid (And.intro ((hbW17.cell (p := ⟨b4, o4 + k * 4, none⟩) l4).trans x0) (And.intro ((hbW17.cell (p := ⟨b4, o4 + k * 4 + 1, none⟩) l4).trans x1) (And.intro ((hbW17.cell (p := ⟨b4, o4 + k * 4 + 2, none⟩) l4).trans x2) (And.intro ((hbW17.cell (p := ⟨b4, o4 + k * 4 + 3, none⟩) l4).trans x3) (Nat.lt_of_lt_of_le l4 hbW17.size)))))
          have CF := Lib.hid (show ∀ W', Below W17.heap.size W17 W' → Calls Try.prog 15 #[.agg #[str [109], .int .i64 1, .slice none 0 0, .slice A' n' c', .slice none 0 0, .slice none 0 0, .slice none 0 0, .slice (some ⟨bc', 0, none⟩) 1 e'], .agg #[.int .i64 (ka : Nat), str na, .slice B1 m1 e1], .agg #[.int .i64 vk, .int .i64 vn, .string vt, .slice A8' va c8']] W' fun e w' => e = .returned (.bool true) ∧ Below W'.heap.size W' w' from fun W' hW => by
            have hb := hbW17.trans (hW.mono hbW17.size)
            have hb16 := HB17.out.trans (hW.mono HB17.out.size)
            have h1 := HT.out.1.keep (Same.any hb)
            have h2 := HT.out.2.2.keep (Same.any hb)
            obtain ⟨rfl, rfl⟩ := HKN.out
            obtain ⟨rfl, rfl, rfl, rfl⟩ := HVN.out
            rcases HT.out.2.1 with hf | hf
            · exact Fits_any 12 4 W' ⟨A', n', c', some ⟨bc', 0, none⟩, 1, e'⟩ (pd y' bad') ta B1 m1 e1 v A8' c8' true (HX16.out.2.dts.keep (Same.any hb16)) h1 (h2.le (by omega)) hf
            · exact Fits_any 10 4 W' ⟨A', n', c', some ⟨bc', 0, none⟩, 1, e'⟩ (pd y' bad') ta B1 m1 e1 v A8' c8' true (HX16.out.2.dts.keep (Same.any hb16)) h1 h2 hf)
          clear hWW17 hBTB2 hbW17 fTB2 p0 p1 p2 x0 x1 x2 x3 l1 l4
          have MKF := Lib.hid (show ∀ w', Below W17.heap.size W17 w' → (Below W17.heap.size W17 w' ∧ w'.cell? ⟨QB, 0, none⟩ = some (str [109]) ∧ w'.cell? ⟨QB, 1, none⟩ = some (.int .i64 1) ∧ w'.cell? ⟨QB, 2, none⟩ = some (.slice none 0 0) ∧ w'.cell? ⟨QB, 3, none⟩ = some (.slice A' n' c') ∧ w'.cell? ⟨QB, 4, none⟩ = some (.slice none 0 0) ∧ w'.cell? ⟨QB, 5, none⟩ = some (.slice none 0 0) ∧ w'.cell? ⟨QB, 6, none⟩ = some (.slice none 0 0) ∧ w'.cell? ⟨QB, 7, none⟩ = some (.slice (some ⟨bc', 0, none⟩) 1 e') ∧ w'.cell? ⟨TB2, 0, none⟩ = some (.int .i64 (ka : Nat)) ∧ w'.cell? ⟨TB2, 1, none⟩ = some (str na) ∧ w'.cell? ⟨TB2, 2, none⟩ = some (.slice B1 m1 e1) ∧ w'.cell? ⟨XB, 1, none⟩ = some (.slice (some ⟨b4, o4, none⟩) m' c7) ∧ w'.cell? ⟨b4, o4 + k * 4, none⟩ = some (.int .i64 vk) ∧ w'.cell? ⟨b4, o4 + k * 4 + 1, none⟩ = some (.int .i64 vn) ∧ w'.cell? ⟨b4, o4 + k * 4 + 2, none⟩ = some (.string vt) ∧ w'.cell? ⟨b4, o4 + k * 4 + 3, none⟩ = some (.slice A8' va c8')) from fun w' h => ⟨h, (h.cell (p := ⟨QB, 0, none⟩) (HG.out.1.lt)).trans (HG.out.1.cell 0), (h.cell (p := ⟨QB, 1, none⟩) (HG.out.1.lt)).trans (HG.out.1.cell 1), (h.cell (p := ⟨QB, 2, none⟩) (HG.out.1.lt)).trans (HG.out.1.cell 2), (h.cell (p := ⟨QB, 3, none⟩) (HG.out.1.lt)).trans (HG.out.1.cell 3), (h.cell (p := ⟨QB, 4, none⟩) (HG.out.1.lt)).trans (HG.out.1.cell 4), (h.cell (p := ⟨QB, 5, none⟩) (HG.out.1.lt)).trans (HG.out.1.cell 5), (h.cell (p := ⟨QB, 6, none⟩) (HG.out.1.lt)).trans (HG.out.1.cell 6), (h.cell (p := ⟨QB, 7, none⟩) (HG.out.1.lt)).trans (HG.out.1.cell 7), (h.cell (p := ⟨TB2, 0, none⟩) (HG.out.2.1.lt)).trans (HG.out.2.1.cell 0), (h.cell (p := ⟨TB2, 1, none⟩) (HG.out.2.1.lt)).trans (HG.out.2.1.cell 1), (h.cell (p := ⟨TB2, 2, none⟩) (HG.out.2.1.lt)).trans (HG.out.2.1.cell 2), (h.cell (p := ⟨XB, 1, none⟩) (HG.out.2.2.lt)).trans (HG.out.2.2.cell 1), (h.cell (p := ⟨b4, o4 + k * 4, none⟩) (HE.out.2.2.2.2)).trans (HE.out.1), (h.cell (p := ⟨b4, o4 + k * 4 + 1, none⟩) (HE.out.2.2.2.2)).trans (HE.out.2.1), (h.cell (p := ⟨b4, o4 + k * 4 + 2, none⟩) (HE.out.2.2.2.2)).trans (HE.out.2.2.1), (h.cell (p := ⟨b4, o4 + k * 4 + 3, none⟩) (HE.out.2.2.2.2)).trans (HE.out.2.2.2.1)⟩)
          have hbd : Below W17.heap.size W17 W17.drew := ⟨rfl, rfl, rfl, Nat.le_refl _, fun _ _ => rfl⟩
          obtain ⟨hbaq, aq0, aq1, aq2, aq3, aq4, aq5, aq6, aq7, aq8, aq9, aq10, aq11, aq12, aq13, aq14, aq15⟩ := MKF.out _ (Below.refl _ _)
          have lX17 := HG.out.2.2.lt
          have lQ17 := HG.out.1.lt
          have lT17 := HG.out.2.1.lt
          have l417 := HE.out.2.2.2.2
          go_region_held3 (fun w' => Below W17.heap.size W17 w' ∧ w'.cell? ⟨QB, 0, none⟩ = some (str [109]) ∧ w'.cell? ⟨QB, 1, none⟩ = some (.int .i64 1) ∧ w'.cell? ⟨QB, 2, none⟩ = some (.slice none 0 0) ∧ w'.cell? ⟨QB, 3, none⟩ = some (.slice A' n' c') ∧ w'.cell? ⟨QB, 4, none⟩ = some (.slice none 0 0) ∧ w'.cell? ⟨QB, 5, none⟩ = some (.slice none 0 0) ∧ w'.cell? ⟨QB, 6, none⟩ = some (.slice none 0 0) ∧ w'.cell? ⟨QB, 7, none⟩ = some (.slice (some ⟨bc', 0, none⟩) 1 e') ∧ w'.cell? ⟨TB2, 0, none⟩ = some (.int .i64 (ka : Nat)) ∧ w'.cell? ⟨TB2, 1, none⟩ = some (str na) ∧ w'.cell? ⟨TB2, 2, none⟩ = some (.slice B1 m1 e1) ∧ w'.cell? ⟨XB, 1, none⟩ = some (.slice (some ⟨b4, o4, none⟩) m' c7) ∧ w'.cell? ⟨b4, o4 + k * 4, none⟩ = some (.int .i64 vk) ∧ w'.cell? ⟨b4, o4 + k * 4 + 1, none⟩ = some (.int .i64 vn) ∧ w'.cell? ⟨b4, o4 + k * 4 + 2, none⟩ = some (.string vt) ∧ w'.cell? ⟨b4, o4 + k * 4 + 3, none⟩ = some (.slice A8' va c8')) (first | exact MKF.out _ hbd | exact MKF.out _ hbn | (refine MKF.out _ ?_; assumption) | go_keep)
            (first | (go_at_call 15; (with_reducible refine (CF.out _ (by assumption)).mono ?_); rintro e w' ⟨rfl, hbx⟩; have hbn : Below W17.heap.size W17 w' := below_nextR hbx (by assumption); clear hbx))
          all_goals
            have HI3 := Lib.hid (HB17.out.trans (hbn.mono HB17.out.size))
            clear hbn
            go_wp2_with (fail)
            exact ⟨⟨k + 1, by omega, by go_num, HI3.out⟩, by simp [intOf]; omega⟩
        · go_wp2_with (fail)
          go_ret
          exact ⟨rfl, HB16.out.trans (HI1.out.mono HB16.out.size)⟩
end Go.Proofs.Ytoddjdajjmcliaa
set_option linter.unusedVariables false
namespace Go.Proofs.Ytoddjdajjmcliaa.renewThere
open Go.ChangeShapes Go.WideShapes Go.ChangeAt Go.RowKit Go.Mem Go.Law

theorem own : ownKnob Try.prog.godebug = none := by kernel_rfl
theorem laidOut : laidOutB Try.prog = true := by kernel_rfl

set_option maxRecDepth 100000 in
theorem lifted (os : Os) (started : os.Started) (H : Type) (enc : TypeId × Value → H) :
    ReturnsInHanded {} Try.checked os 10 .any (Rows.renewThereSpec.pre6 enc Try.prog Try.f10 Rows.renewThereRow.domain false) (Rows.renewThereSpec.post enc Try.prog Try.f10 false true false false) := by
  refine returnsInHanded_of_change (C := Try.checked) own started (by kernel_rfl) Try.func10
    (ChangeSpec.witness6 (enc := enc) (C := Try.checked) false ⟨#[], #[.int .i64 0, .int .i64 0, .slice none 0 0], []⟩ 8 (by kernel_rfl) (by kernel_rfl) (by kernel_rfl) (by kernel_rfl)) ?_
  intro W base args ds gs before hval0 hW hcnd _
  have hval : ∀ (j : Nat) t v, Try.f10.params[j]? = some t → args[j]? = some v → Value.okWide Try.prog W .any base t v := hval0
  have hW' : DataW.Whole enc Try.prog Try.f10.params.toList Rows.renewThereSpec.vars false W args.toList ds gs before := hW
  obtain ⟨p, q, hA0, hV, rfl, hfz, hnd⟩ := hW
  have hA : DataW.TrodAll enc Try.prog W 0 (fun _ => true) true Try.f10.params.toList args.toList ds p := hA0
  rw [Try.params10] at hA hval
  obtain ⟨v0, vs0, d0, ds0, p0, q0, hargs, rfl, rfl, h0, r0⟩ := trodAll_cons hA
  obtain ⟨v1, vs1, d1, ds1, p1, q1, rfl, rfl, rfl, h1, r1⟩ := trodAll_cons r0
  obtain ⟨v2, vs2, d2, ds2, p2, q2, rfl, rfl, rfl, h2, r2⟩ := trodAll_cons r1
  obtain ⟨rfl, rfl, rfl⟩ := trodAll_nil r2
  obtain rfl : args = #[v0, v1, v2] := by cases args; simp_all
  obtain ⟨rfl, rfl⟩ := trodVars_none hV
  obtain ⟨a0, rfl, rfl, rfl, x0⟩ := open_int Try.underlying3 (hval 0 _ v0 rfl rfl) h0
  have w0 := i64_of_wf x0
  obtain ⟨a1, rfl, rfl, rfl, x1⟩ := open_int Try.underlying3 (hval 1 _ v1 rfl rfl) h1
  have w1 := i64_of_wf x1
  obtain ⟨A2, n2, c2, s2, rfl, hn2, hc2, hd2, hr2, hl2⟩ := open_nums Try.underlying44 Try.underlying3 (by kernel_rfl) (hval 2 _ v2 rfl rfl) h2
  clear hA0 hval0
  refine (renewThere_any W a0 a1 w0 w1 A2 n2 c2 s2 ⟨hn2, ⟨hc2, hd2⟩, hr2, hl2⟩).mono fun e W' ⟨he, bel⟩ => ?_
  subst he
  exact ⟨_, rfl, law_post (tb := 4) laidOut Try.underlying4 (by kernel_rfl) (by kernel_rfl) rfl rfl hW' bel⟩

/-- ████ THE STATEMENT ████ -/
theorem proved : Rows.RenewThereSaid :=
  OpenClaim.holds_of_wide 10 Try.f10 rfl rfl rfl rfl rfl rfl rfl ⟨rfl, rfl, rfl, rfl, rfl⟩ rfl rfl rfl rfl rfl (by kernel_rfl) Try.func10 (by kernel_rfl)
    (of_decide_eq_true (by kernel_rfl)) (by unfold Func.isWrapper; first | (rw [if_pos (by decide +kernel)]; kernel_rfl) | (rw [if_neg (by decide +kernel)]; exact ⟨rfl, rfl⟩))
    (fun os started H enc _ => lifted os started H enc)
#print axioms proved
end Go.Proofs.Ytoddjdajjmcliaa.renewThere
