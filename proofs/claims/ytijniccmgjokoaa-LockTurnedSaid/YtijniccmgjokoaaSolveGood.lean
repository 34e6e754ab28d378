/- SolveGood's and SolveClash's walks. -/
import Derived.Test.YtijniccmgjokoaaSvPlain
import Derived.Test.YtijniccmgjokoaaSvReg
import Derived.Test.YtijniccmgjokoaaSvSolved
set_option linter.unusedVariables false
namespace Go.Proofs.Ytijniccmgjokoaa
open Go.RowKit Go.Mem Go.Sv Go.Maps
/-- a register and wants -/
structure Got (w : World) (A : Option Addr) (c : Nat) (ms : List Md) (B : Option Addr) (d : Nat) (root : List Us) : Prop where
  md : MdsAt w Any A ms.length c ms
  rt : HoldsU w root B d
  ok : RegOk 20 ms
  r3 : root.length ≤ 3
  ae : ∀ u ∈ root, UsAE u
section
variable {w w' : World} {A B : Option Addr} {c d : Nat} {ms : List Md} {root : List Us}
theorem Got.below (h : Got w A c ms B d root) (hb : Below w.heap.size w w') : Got w' A c ms B d root :=
  ⟨h.md.keep (Same.any hb), ⟨h.rt.1, h.rt.2.1, h.rt.2.2.keep (Same.any hb)⟩, h.ok, h.r3, h.ae⟩
theorem RegRow.mds {base : Nat} {n : Nat} (h : RegRow w base (.slice A n c) ms) : MdsAt w Any A n c ms := by
  obtain ⟨vss, e1, e2, e3, e4, e5⟩ := OwnList.reads MdCells.stable (by omega) h
  exact ⟨vss, e1, e2, e3, e4.imp (by omega) fun _ _ _ => trivial, e5.imp fun x y hxy => MdCells.stable.imp hxy fun _ _ _ => trivial⟩
theorem Got.rok (h : Got w A c ms B d root) : ∀ u ∈ root, UsOk u := fun u hu => (h.ae u hu).ok
theorem Got.best (h : Got w A c ms B d root) {A2 : Option Addr} {c2 : Nat} {first : List Pk} (hf : Reads w Any 2 A2 first.length (pks first)) (hl : first.length ≤ 1000) :
    Calls Try.prog 14 #[.slice A ms.length c, .slice B root.length d, .slice A2 first.length c2] w (BestPost w (bestF ms root first)) :=
  best_any w A ms.length c ms B root.length d root A2 first.length c2 first h.md h.ok.ms h.rt.2.2 rfl h.rt.1 h.rt.2.1 (by have := h.r3; omega) h.rok hf rfl hl
theorem Got.right (h : Got w A c ms B d root) {A2 : Option Addr} {c2 : Nat} {picks : List Pk} (hf : Reads w Any 2 A2 picks.length (pks picks)) (hl : picks.length ≤ 1000) :
    Calls Try.prog 21 #[.slice A ms.length c, .slice B root.length d, .slice A2 picks.length c2] w (RightPost w ms root picks) :=
  right_any w A ms.length c ms B root.length d root A2 picks.length c2 picks h.md h.ok.ms h.rt.2.2 rfl (by have := h.r3; omega) h.rok hf rfl hl
theorem best_len {first x : List Pk} (hm : MsOk ms) (h : bestF ms root first = some x) : x.length ≤ 30 := by
  obtain ⟨r, _, rfl, _, hT⟩ := best_some h
  rw [picks_len]
  have := nodup_len hT.nd hT.sub
  have := hm.ln
  omega
end
set_option maxRecDepth 100000 in
set_option maxHeartbeats 2000000 in
theorem solveGood_any (w : World) (A0 : Option Addr) (n0 c0 : Nat) (s0 : List Int) (A1 : Option Addr) (n1 c1 : Nat) (s1 : List Int)
    (hn0 : n0 = s0.length) (hm0 : n0 ≤ maxLen) (hr0 : Reads w Any 1 A0 n0 (nums s0)) (hl0 : ∀ x ∈ s0, I64 x) (hn1 : n1 = s1.length) (hm1 : n1 ≤ maxLen) (hr1 : Reads w Any 1 A1 n1 (nums s1)) (hl1 : ∀ x ∈ s1, I64 x) :
    Calls Try.prog 6 #[.slice A0 n0 c0, .slice A1 n1 c1] w fun e w' => e = .returned (.bool true) ∧ Below w.heap.size w w' := by
  have RG := Lib.hid (registerOf_any A0 n0 c0 s0 w hr0 hn0 hm0 hl0)
  have RT := Lib.hid (fun w1 (hb : Below w.heap.size w w1) => rootOf_any A1 n1 c1 s1 w1 (hr1.keep (Same.any hb)) hn1 hm1 hl1)
  clear hn0 hm0 hr0 hl0 hn1 hm1 hr1 hl1
  go_enter Try.func6, Try.ntmps6
  go_wp2_with (fail)
  refine RG.out.mono ?_
  rintro e w1 ⟨A, c, ms, rfl, hrow, hreg, hb1⟩
  have HB1 := Lib.hid hb1
  have H1 := Lib.hid (And.intro (RegRow.mds hrow) hreg)
  clear hrow hreg hb1 RG
  go_wp2_with (fail)
  refine (RT.out w1 HB1.out).mono ?_
  rintro e w2 ⟨B, d, root, rfl, hown, h3, hae⟩
  have HB2 := Lib.hid (HB1.out.trans (hown.2.mono HB1.out.size))
  have G2 := Lib.hid (show Got w2 A c ms B d root from ⟨H1.out.1.keep (Same.any hown.2), hown.holds, H1.out.2, h3, hae⟩)
  clear hown h3 hae RT H1
  go_wp2_with (fail)
  refine (G2.out.best (A2 := none) (c2 := 0) (first := []) Reads.empty (by simp)).mono ?_
  obtain ⟨R, hR⟩ : ∃ R, R = bestF ms root [] := ⟨_, rfl⟩
  rw [← hR]
  have HR := Lib.hid hR
  clear hR
  unfold BestPost
  rintro e w3 ⟨hb3, hnone, hsome⟩
  have HB3 := Lib.hid (HB2.out.trans (hb3.mono HB2.out.size))
  have G3 := Lib.hid (G2.out.below hb3)
  have SV := fun W => solved_any W
  have CK := Lib.hid (fun w4 (hb : Below w3.heap.size w3 w4) => check_any A ms.length c ms w4 (G3.out.below hb).md G3.out.ok.ms)
  cases R with
  | none =>
    have he := hnone rfl
    subst he
    clear hnone hsome hb3
    go_wp2_with (fail)
    refine (SV w3).mono ?_
    rintro e w4 ⟨rfl, hb4⟩
    have HB4 := Lib.hid (HB3.out.trans (hb4.mono HB3.out.size))
    have K4 := CK.out w4 hb4
    clear hb4
    go_wp2_with (fail)
    refine K4.mono ?_
    rintro e w5 ⟨rfl, hb5⟩
    go_wp2_with (fail)
    go_ret
    exact ⟨rfl, HB4.out.trans (hb5.mono HB4.out.size)⟩
  | some x =>
    obtain ⟨A2, c2, he, hxc, hxm, hxr⟩ := hsome x rfl
    subst he
    have HX := Lib.hid (And.intro hxc (And.intro hxm (hxr.imp (D' := Any) (by omega) fun _ _ _ => trivial)))
    have hxl := best_len G3.out.ok.ms HR.out.symm
    clear hnone hsome hb3 hxc hxm hxr
    go_wp2_with (fail)
    refine (SV w3).mono ?_
    rintro e w4 ⟨rfl, hb4⟩
    have HB4 := Lib.hid (HB3.out.trans (hb4.mono HB3.out.size))
    have HB34 := Lib.hid hb4
    have K4 := CK.out w4 hb4
    clear hb4
    go_wp2_with (fail)
    refine K4.mono ?_
    rintro e w5 ⟨rfl, hb5⟩
    have HB5 := Lib.hid (HB4.out.trans (hb5.mono HB4.out.size))
    have hb35 := HB34.out.trans (hb5.mono HB34.out.size)
    have G5 := Lib.hid (G3.out.below hb35)
    have X5 := Lib.hid (HX.out.2.2.keep (Same.any hb35))
    clear hb5 hb35 K4
    go_wp2_with (fail)
    have B5 := G5.out.best (c2 := c2) X5.out (by omega)
    rw [best_again G3.out.ok.ms HR.out.symm] at B5
    refine B5.mono ?_
    clear B5
    unfold BestPost
    rintro e w6 ⟨hb6, _, hsome6⟩
    obtain ⟨A6, c6, he6, hyc, hym, hyr⟩ := hsome6 x rfl
    subst he6
    have HB6 := Lib.hid (HB5.out.trans (hb6.mono HB5.out.size))
    have G6 := Lib.hid (G5.out.below hb6)
    have X6 := Lib.hid (X5.out.keep (Same.any hb6))
    have Y6 := Lib.hid (hyr.imp (D' := Any) (by omega) fun _ _ _ => trivial)
    clear hb6 hsome6 hyc hym hyr
    go_wp2_with (fail)
    refine (G6.out.right (c2 := c2) X6.out (by omega)).mono ?_
    rintro e w7 ⟨b, rfl, hbr, hb7⟩
    have hbt : b = true := hbr.2 (best_right G3.out.ok.ms HR.out.symm)
    subst hbt
    have HB7 := Lib.hid (HB6.out.trans (hb7.mono HB6.out.size))
    have EQ := Lib.hid (equal_pks A2 A6 x.length c2 c6 x w7 (X6.out.keep (Same.any hb7)) (Y6.out.keep (Same.any hb7)) (by omega) rfl)
    clear hb7 hbr
    go_wp2_with (fail)
    refine EQ.out.mono ?_
    rintro e w8 ⟨rfl, hb8⟩
    go_wp2_with (fail)
    go_ret
    exact ⟨rfl, HB7.out.trans (hb8.mono HB7.out.size)⟩
end Go.Proofs.Ytijniccmgjokoaa
