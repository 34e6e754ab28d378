/- Contract of renew.Rest: copies of the values that are lost. -/
import Derived.Test.YtoddjdajjmcliaaJRnTurn
set_option linter.unusedVariables false
namespace Go.Sh
open Go.Val
/-- the values of a state that a Move loses -/
def restF (S : List V) (lost : List Nat) : List V := lost.map fun i => S.getD i zeroV
end Go.Sh
namespace Go.Proofs.Ytoddjdajjmcliaa
open Go.RowKit Go.Mem Go.Sh Go.Maps Go.Val
def RestPost (w : World) (nl : Nat) (R : List V) (e : Ending) (w' : World) : Prop := (∃ A c, e = .returned (.tuple #[.slice A nl c, .int .i64 0]) ∧ VsRd 10 w' (fun b => w.heap.size ≤ b) A nl c R) ∧ Below w.heap.size w w'
set_option maxRecDepth 100000 in
set_option maxHeartbeats 8000000 in
theorem rest_ok (w : World) (Sa : Option Addr) (sc : Nat) (S : List V) (Ia : Option Addr) (ic : Nat) (M : Option Addr) (cM n : Nat) (F : Option Addr) (nf cF : Nat) (Ls : Option Addr) (nl cL : Nat) (fl : List Fld) (lost : List Nat) (hr : Reads w Any 4 M 1 [str [65], .int .i64 (n : Nat), .slice F nf cF, .slice Ls nl cL]) (hm : MoveAt w Any F nf cF Ls nl cL fl lost) (hok : MvOk n fl lost) (hS : VsRd 10 w Any Sa n sc S) :
    Calls Try.prog 24 #[.agg #[str [65], .slice Sa n sc, .slice Ia 0 ic], .agg #[.slice M 1 cM]] w (RestPost w nl (restF S lost)) := by
  have HE := Lib.hid (And.intro hr (And.intro hm (And.intro hok hS)))
  have hnl := hm.hl.2.1
  have hn1 := hok.1
  clear hr hm hok hS
  go_enter Try.func24, Try.ntmps24
  go_upto_region 1 with (fail)
  obtain ⟨u1, hu1⟩ : ∃ u, u = w.alloc (.cells #[str [65], .slice Sa n sc, .slice Ia 0 ic] 65) := ⟨_, rfl⟩
  have zu1 : u1.heap.size = w.heap.size + 1 := by rw [hu1]; simp
  have hbu1 : Below w.heap.size w u1 := by rw [hu1]; exact (Below.refl _ _).alloc (Nat.le_refl _) _
  have fSB : Blk u1 (w.heap.size) 65 [str [65], .slice Sa n sc, .slice Ia 0 ic] := by rw [hu1]; have h := Blk.new w 65 [str [65], .slice Sa n sc, .slice Ia 0 ic]; exact h
  obtain ⟨u2, hu2⟩ : ∃ u, u = u1.alloc (.cells #[.slice M 1 cM] 60) := ⟨_, rfl⟩
  have hbu2 : Below w.heap.size w u2 := by rw [hu2]; exact hbu1.alloc hbu1.size _
  replace fSB := fSB.alloc (.cells #[.slice M 1 cM] 60)
  rw [← hu2] at fSB
  have fWB : Blk u2 (w.heap.size + 1) 60 [.slice M 1 cM] := by rw [hu2]; have h := Blk.new u1 60 [.slice M 1 cM]; rw [zu1] at h; exact h
  rw [← hu1, ← hu2]
  obtain ⟨WB, zWB⟩ : ∃ b, b = w.heap.size + 1 := ⟨_, rfl⟩
  obtain ⟨SB, zSB⟩ : ∃ b, b = w.heap.size := ⟨_, rfl⟩
  rw [← zWB, ← zSB]
  rw [← zSB] at fSB
  rw [← zWB] at fWB
  clear hu1 hu2
  have HB := Lib.hid (And.intro hbu2 (And.intro fSB fWB))
  have c0 := fWB.cell 0
  have lw := fWB.lt
  have s0 := fSB.cell 0
  have s1 := fSB.cell 1
  have s2 := fSB.cell 2
  have ls := fSB.lt
  simp only [List.getElem?_cons_zero, List.getElem?_cons_succ] at c0 s0 s1 s2
  have CI := Lib.hid (begin_ok u2 Sa sc Ia ic M cM n F nf cF Ls nl cL fl lost (HE.out.1.keep (Same.any hbu2)) (HE.out.2.1.keep (Same.any hbu2)) HE.out.2.2.1)
  clear fSB fWB zSB zWB zu1 hbu1 hbu2
  generalize u2 = W3 at *
  go_upto_region 4 with (go_at_call 35; refine CI.out.mono ?_; rintro e w4 ⟨rfl, hb4⟩; have HB4 := Lib.hid hb4; clear hb4)
  obtain ⟨W5, hW5⟩ : ∃ W5, W5 = w4.alloc (.cells #[str [65], .int .i64 (n : Nat), .slice F nf cF, .slice Ls nl cL] 99) := ⟨_, rfl⟩
  obtain ⟨MB, hMB⟩ : ∃ b, b = w4.heap.size := ⟨_, rfl⟩
  have hb5 : Below w4.heap.size w4 W5 := by rw [hW5]; exact (Below.refl _ _).alloc (Nat.le_refl _) _
  have fM := Blk.new w4 99 [str [65], .int .i64 (n : Nat), .slice F nf cF, .slice Ls nl cL]
  rw [← hW5, ← hMB] at fM
  rw [← hW5, ← hMB]
  have hb35 : Below W3.heap.size W3 W5 := HB4.out.trans (hb5.mono HB4.out.size)
  have fS := HB.out.2.1.below hb35 HB.out.2.1.lt
  have m3 := fM.cell 3
  have lM := fM.lt
  simp only [List.getElem?_cons_zero, List.getElem?_cons_succ] at m3
  have hb05 := HB.out.1.trans (hb35.mono HB.out.1.size)
  have H5 := Lib.hid (And.intro hb05 (And.intro fS (show SB < W5.heap.size from fS.lt)))
  clear fM fS c0 lw s0 s1 s2 ls hW5 hMB hb5 hb35 hb05
  go_wp2_with (fail)
  clear m3 lM
  have hlen0 : (restF S lost).length = nl := by unfold restF; rw [List.length_map]; exact HE.out.2.1.hl.1.symm
  have HLT := Lib.hid hlen0
  clear hlen0
  go_loopw [8, 23] (fun s i wr => ∃ k : Nat, k ≤ nl ∧ i = .int .i64 (k : Nat) ∧ Hid (Below w.heap.size w wr ∧ Blk wr SB 65 [str [65], .slice Sa n sc, .slice Ia 0 ic]) ∧ Hid (VsOwn' 10 wr W5.heap.size s ((restF S lost).take k)) ∧ Hid (Below W5.heap.size W5 wr)) (fun _ i _ => nl - (intOf i).toNat)
  case atStart => exact ⟨0, Nat.zero_le _, rfl, ⟨H5.out.1, H5.out.2.1⟩, OwnList.nil _ _ _ _, Below.refl _ _⟩
  case round =>
    obtain ⟨k, hk, rfl, HF, hown, hbe⟩ := hrel
    have hlen : ((restF S lost).take k).length = k := by rw [List.length_take]; have := HLT.out; omega
    obtain ⟨A3, c3, hf, hjc, hcm⟩ := hown.out.form
    rw [hlen] at hf
    subst hf
    by_cases hlt : k < nl
    · have hkl : k < lost.length := by have := HE.out.2.1.hl.1; omega
      obtain ⟨b1, o1, u, rfl, _, hu, hc⟩ := (HE.out.2.1.lr.keep (Same.any HF.out.1)).at_ hlt
      have hu2 : u = .int .i64 (lost[k] : Nat) := by
        have : (natsV lost)[k]? = some (.int .i64 (lost[k] : Nat)) := by simp [natsV, hkl]
        rw [this] at hu
        exact (Option.some.inj hu).symm
      subst hu2
      have hjn := HE.out.2.2.1.2.2 lost[k] (List.getElem_mem hkl)
      have htk : Hid ((restF S lost).take (k + 1) = (restF S lost).take k ++ [S.getD lost[k] zeroV]) := by
        unfold Hid
        rw [List.take_succ_eq_append_getElem (by unfold restF; simpa using hkl)]
        congr 2
        unfold restF
        rw [List.getElem_map]
      generalize lost[k] = j at hc hjn htk
      have l1 := lt_of_cell hc
      have hSw := HE.out.2.2.2.keep (Same.any HF.out.1)
      have hjS : j < S.length := by obtain ⟨_, h1, _⟩ := HE.out.2.2.2; omega
      obtain ⟨b2, o2, A8, c8, rfl, _, hzv, p0, p1, p2, p3⟩ := hSw.elem hjn hjS
      have hge : S.getD j zeroV = S[j] := by rw [List.getD_eq_getElem?_getD, List.getElem?_eq_getElem hjS]; rfl
      rw [hge] at htk
      generalize S[j] = z at hzv p0 p1 p2 p3 htk
      obtain ⟨xk, xn, xt, xa⟩ := z
      simp only [V.kind, V.num, V.text, V.args] at hzv p0 p1 p2 p3
      have l5 := lt_of_cell p0
      have s1x := HF.out.2.cell 1
      have lsx := HF.out.2.lt
      simp only [List.getElem?_cons_zero, List.getElem?_cons_succ] at s1x
      have i1 : (0 : Int) ≤ (j : Int) := by omega
      have i2 : (j : Int) < (n : Int) := by omega
      have C := Lib.hid (copyV_any 10 (V.mk xk xn xt xa) A8 c8 wr Any hzv)
      simp only [V.kind, V.num, V.text, V.args] at C
      have hS1 : ((restF S lost).take k).length ≤ 1000 := by omega
      clear hzv hSw hge hu
      go_wp2_with (first | (go_at_call 36; refine C.out.mono ?_; unfold ValPost; rintro e w1 ⟨hb1, A5, c5, rfl, hv5⟩; have hb1' := hbe.out.trans (hb1.mono hbe.out.size); have hs1 := hb1'.size; have hs6 := hbe.out.size; have hown1 := hown.out.keep (VCells.stable 10) (Same.of_below hb1 fun _ _ h => h); have hy : VCells 10 w1 (fun b => W5.heap.size ≤ b ∧ (Value.slice A3 k c3).ownBlock ≠ some b) [.int .i64 xk, .int .i64 xn, .string xt, .slice A5 xa.length c5] (V.mk xk xn xt xa) := hv5.imp (fun b hb _ => ⟨by have hb' : wr.heap.size ≤ b := hb; omega, fun e => by have h1 := (hown.out.lt b e).2; have hb' : wr.heap.size ≤ b := hb; omega⟩); obtain ⟨vs1, ho1, ha1⟩ := hown1; dsimp only [V.kind, V.num, V.text, V.args]) | (at_builtin; refine app_Vl _ rfl (.tmp 27) (.tmp 34) rfl (ho1.alloc _) rfl (Reads.new (D := Any) _ [.int .i64 xk, .int .i64 xn, .string xt, .slice A5 xa.length c5] 4 1 _ trivial rfl) rfl (by simp [Value.oneCell']) (by omega) (by simp; omega) ?_; intro v2 w2 hown2 hg2 hat2))
      have hbn : Below W5.heap.size W5 w2 := (hb1'.alloc hs1 _).grown hg2 (by simp; omega) (fun k hk => (ho1.lt k hk).1)
      have h5 := H5.out
      refine ⟨⟨k + 1, by omega, by go_num, ⟨h5.1.trans (hbn.mono h5.1.size), h5.2.1.below hbn h5.2.2⟩, ?_, hbn⟩, by simp [intOf]; omega⟩
      unfold Hid
      rw [htk.out]
      exact OwnList.push (VCells.stable 10) ha1 hy hg2 hat2 hown2
    · obtain rfl : k = nl := by omega
      have hO := hown.out
      rw [List.take_of_length_le (by have := HLT.out; omega)] at hO
      have HO := Lib.hid hO
      clear hown hO
      go_wp2_with (fail)
      go_ret2
      have h5 := H5.out.1.size
      exact ⟨⟨A3, c3, rfl, (VsRd.of_own HO.out hnl).imp fun b hb _ => by have h1 : W5.heap.size ≤ b := hb; omega⟩, HF.out.1⟩
end Go.Proofs.Ytoddjdajjmcliaa
