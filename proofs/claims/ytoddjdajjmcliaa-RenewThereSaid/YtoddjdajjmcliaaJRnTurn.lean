/- Contracts of slices.IndexFunc and ContainsFunc as renew's find calls them, and of its inner functions. · Contracts of renew's find and begin. · Contracts of renew.Turn. -/
import Derived.Test.YtoddjdajjmcliaaJRnWay
import Derived.Test.YtoddjdajjmcliaaRnSaved0
import Derived.Laws.EntriesVeiled
import Derived.Deep.RegionLaw
import Derived.Deep.DeepCutAuto
import Derived.Deep.LoopGhost
set_option linter.unusedVariables false
namespace Go.Proofs.Ytoddjdajjmcliaa
open Go.RowKit Go.Mem Go.Sh Go.Maps Go.Val
set_option maxRecDepth 100000 in
set_option maxHeartbeats 1000000 in
theorem find1_any (w : World) (nm nm' : Nm) (SB : Nat) (hS : w.cell? ⟨SB, 0, none⟩ = some (str nm')) (lS : SB < w.heap.size) (k : Int) (F : Option Addr) (nf cF : Nat) (Ls : Option Addr) (nl cL : Nat) :
    Calls Try.prog 61 #[.agg #[str nm, .int .i64 k, .slice F nf cF, .slice Ls nl cL], .pointer (some ⟨SB, 0, none⟩)] w fun e w' => e = .returned (.bool (decide (nm = nm'))) ∧ Below w.heap.size w w' := by
  have nq := beq_nm nm nm'
  have HE := Lib.hid (show nm = nm' ∨ ¬ nm = nm' from Classical.em _)
  rcases HE.out with h | h
  · subst h
    have nq1 : (nm == nm) = true := by simp
    clear nq
    go_enter Try.func61, Try.ntmps61
    go_wp2_with (fail)
    go_ret
    exact ⟨by simp, (Below.refl _ _).alloc (Nat.le_refl _) _⟩
  · have nq1 : (nm == nm') = false := by simpa using h
    have hd : decide (nm = nm') = false := by simpa using h
    rw [hd]
    clear nq h hd HE
    go_enter Try.func61, Try.ntmps61
    go_wp2_with (fail)
    go_ret
    exact ⟨rfl, (Below.refl _ _).alloc (Nat.le_refl _) _⟩
set_option maxRecDepth 100000 in
theorem find2_any (w : World) (x : Int) (n MB : Nat) (hM : w.cell? ⟨MB, 1, none⟩ = some (.int .i64 (n : Nat))) (lM : MB < w.heap.size) (h0 : 0 ≤ x) (h1 : x < (n : Int)) :
    Calls Try.prog 62 #[.int .i64 x, .pointer (some ⟨MB, 0, none⟩)] w fun e w' => e = .returned (.bool false) ∧ w' = w := by
  have d1 : decide (x < 0) = false := by simp; omega
  have d2 : decide ((n : Int) ≤ x) = false := by simp; omega
  go_enter Try.func62, Try.ntmps62
  go_wp2_with (fail)
  go_ret
  exact ⟨rfl, rfl⟩
set_option maxRecDepth 100000 in
set_option maxHeartbeats 1000000 in
theorem find3_any (w : World) (s : Int) (x1 x2 : Int) (t : ByteArray) (A : Option Addr) (k c : Nat) (n MB OB : Nat) (hM : w.cell? ⟨MB, 1, none⟩ = some (.int .i64 (n : Nat))) (lM : MB < w.heap.size) (hO : w.cell? ⟨OB, 0, none⟩ = some (.func (.func 62) #[] #[.pointer (some ⟨MB, 0, none⟩)])) (lO : OB < w.heap.size) (hs : s = -1 ∨ (0 ≤ s ∧ s < (n : Int))) :
    Calls Try.prog 65 #[.agg #[.int .i64 s, .int .i64 x1, .int .i64 x2, .string t, .slice A k c], .pointer (some ⟨OB, 0, none⟩)] w fun e w' => e = .returned (.bool false) ∧ Below w.heap.size w w' := by
  rcases hs with rfl | ⟨h0, h1⟩
  · go_enter Try.func65, Try.ntmps65
    go_wp2_with (fail)
    go_ret
    exact ⟨rfl, (Below.refl _ _).alloc (Nat.le_refl _) _⟩
  · have d1 : (s != -1) = true := by simp; omega
    have d2 : (s == -1) = false := by simp; omega
    have C := Lib.hid (fun W (hW : Below w.heap.size w W) => find2_any W s n MB ((hW.cell (p := ⟨MB, 1, none⟩) lM).trans hM) (Nat.lt_of_lt_of_le lM hW.size) h0 h1)
    clear h0 h1
    go_enter Try.func65, Try.ntmps65
    go_wp2_with (go_at_call 62; refine (C.out _ ((Below.refl _ _).alloc (Nat.le_refl _) _)).mono ?_; rintro e w' ⟨rfl, rfl⟩)
    go_ret
    exact ⟨rfl, (Below.refl _ _).alloc (Nat.le_refl _) _⟩
set_option maxRecDepth 100000 in
set_option maxHeartbeats 1000000 in
theorem idxInts_none (w : World) (A : Option Addr) (nl c : Nat) (lost : List Nat) (n MB : Nat) (hn : nl = lost.length) (hn1 : nl ≤ 1000) (hr : Reads w Any 1 A nl (natsV lost)) (hM : w.cell? ⟨MB, 1, none⟩ = some (.int .i64 (n : Nat))) (lM : MB < w.heap.size) (hl : ∀ i ∈ lost, i < n) :
    Calls Try.prog 80 #[.slice A nl c, .func (.func 62) #[] #[.pointer (some ⟨MB, 0, none⟩)]] w fun e w' => e = .returned (.int .i64 (-1)) ∧ w' = w := by
  have Hn := Lib.hid hn
  have HL := Lib.hid hl
  clear hn hl
  go_enter Try.func80, Try.ntmps80
  go_wp2_with (fail)
  go_loopw [8] (fun v wr => ∃ j : Nat, j ≤ nl ∧ v = .int .i64 j ∧ wr = w) (fun v _ => nl - (intOf v).toNat)
  case atStart => exact ⟨0, Nat.zero_le _, rfl, rfl⟩
  case round =>
    obtain ⟨j, hj, rfl, rfl⟩ := hrel
    by_cases hlt : j < nl
    · have hjl : j < lost.length := by have := Hn.out; omega
      obtain ⟨b, off, u, rfl, _, hu, hc⟩ := hr.at_ hlt
      have hu2 : u = .int .i64 (lost[j] : Nat) := by
        have : (natsV lost)[j]? = some (.int .i64 (lost[j] : Nat)) := by simp [natsV, hjl]
        rw [this] at hu
        exact (Option.some.inj hu).symm
      subst hu2
      have hx := HL.out lost[j] (List.getElem_mem hjl)
      generalize lost[j] = x at hc hx
      have C := Lib.hid (find2_any wr (x : Nat) n MB hM lM (by omega) (by omega))
      have l1 := lt_of_cell hc
      clear hu hx
      go_wp2_with (go_at_call 62; refine C.out.mono ?_; rintro e w' ⟨rfl, rfl⟩)
      exact ⟨⟨j + 1, by omega, by go_num, by first | trivial | rfl⟩, by simp [intOf]; omega⟩
    · go_wp2_with (fail)
      go_ret
      exact ⟨rfl, rfl⟩
set_option maxRecDepth 100000 in
theorem cntInts_none (w : World) (A : Option Addr) (nl c : Nat) (lost : List Nat) (n MB : Nat) (hn : nl = lost.length) (hn1 : nl ≤ 1000) (hr : Reads w Any 1 A nl (natsV lost)) (hM : w.cell? ⟨MB, 1, none⟩ = some (.int .i64 (n : Nat))) (lM : MB < w.heap.size) (hl : ∀ i ∈ lost, i < n) :
    Calls Try.prog 63 #[.slice A nl c, .func (.func 62) #[] #[.pointer (some ⟨MB, 0, none⟩)]] w fun e w' => e = .returned (.bool false) ∧ w' = w := by
  have C := Lib.hid (idxInts_none w A nl c lost n MB hn hn1 hr hM lM hl)
  clear hn hr hl
  go_enter Try.func63, Try.ntmps63
  go_wp2_with (go_at_call 80; refine C.out.mono ?_; rintro e w' ⟨rfl, rfl⟩)
  go_ret
  exact ⟨rfl, rfl⟩
set_option maxRecDepth 100000 in
set_option maxHeartbeats 1000000 in
theorem idxFlds_none (w : World) (A : Option Addr) (nf c : Nat) (fl : List Fld) (vss : List (List Value)) (n MB OB : Nat) (hn : nf = fl.length) (hn1 : nf ≤ 1000) (hr : Reads w Any 5 A nf vss.flatten) (ha : All2 (FdCells w Any) vss fl) (hM : w.cell? ⟨MB, 1, none⟩ = some (.int .i64 (n : Nat))) (lM : MB < w.heap.size) (hO : w.cell? ⟨OB, 0, none⟩ = some (.func (.func 62) #[] #[.pointer (some ⟨MB, 0, none⟩)])) (lO : OB < w.heap.size) (hl : ∀ f ∈ fl, f.src = -1 ∨ (0 ≤ f.src ∧ f.src < (n : Int))) :
    Calls Try.prog 81 #[.slice A nf c, .func (.func 65) #[] #[.pointer (some ⟨OB, 0, none⟩)]] w fun e w' => e = .returned (.int .i64 (-1)) ∧ Below w.heap.size w w' := by
  have Hn := Lib.hid hn
  have HL := Lib.hid (And.intro hl (And.intro hM (And.intro lM (And.intro hO lO))))
  clear hn hl hM lM hO lO
  go_enter Try.func81, Try.ntmps81
  go_wp2_with (fail)
  go_loopw [8] (fun v wr => ∃ j : Nat, j ≤ nf ∧ v = .int .i64 j ∧ Hid (Below w.heap.size w wr)) (fun v _ => nf - (intOf v).toNat)
  case atStart => exact ⟨0, Nat.zero_le _, rfl, Below.refl _ _⟩
  case round =>
    obtain ⟨j, hj, rfl, HB⟩ := hrel
    by_cases hlt : j < nf
    · have hjl : j < fl.length := by have := Hn.out; omega
      obtain ⟨b, off, cs, rfl, hD, ⟨A4, c4, rfl, hv, _⟩, hcell⟩ := hr.elem FdCells.stable ha Hn.out hjl
      have hx := HL.out.1 fl[j] (List.getElem_mem hjl)
      generalize fl[j] = f at hcell hx
      obtain ⟨fs, fv⟩ := f
      obtain ⟨xk, xn, xt, xa⟩ := fv
      simp only [V.kind, V.num, V.text, V.args] at hcell hx
      have hs : Same Any w wr := Same.any HB.out
      have g0 := hs.cell trivial (hcell 0 _ rfl)
      have g1 := hs.cell trivial (hcell 1 _ rfl)
      have g2 := hs.cell trivial (hcell 2 _ rfl)
      have g3 := hs.cell trivial (hcell 3 _ rfl)
      have g4 := hs.cell trivial (hcell 4 _ rfl)
      simp only [Nat.add_zero, ← Nat.add_assoc] at g0 g1 g2 g3 g4
      have l4 := lt_of_cell g0
      have C := Lib.hid (find3_any wr fs xk xn xt A4 xa.length c4 n MB OB ((HB.out.cell (p := ⟨MB, 1, none⟩) HL.out.2.2.1).trans HL.out.2.1) (Nat.lt_of_lt_of_le HL.out.2.2.1 HB.out.size) ((HB.out.cell (p := ⟨OB, 0, none⟩) HL.out.2.2.2.2).trans HL.out.2.2.2.1) (Nat.lt_of_lt_of_le HL.out.2.2.2.2 HB.out.size) hx)
      clear hcell hx hv hs
      go_wp2_with (go_at_call 65; refine C.out.mono ?_; rintro e w' ⟨rfl, hb'⟩; have HB' := Lib.hid (HB.out.trans (hb'.mono HB.out.size)); clear hb')
      exact ⟨⟨j + 1, by omega, by go_num, HB'.out⟩, by simp [intOf]; omega⟩
    · go_wp2_with (fail)
      go_ret
      exact ⟨rfl, HB.out⟩
set_option maxRecDepth 100000 in
theorem cntFlds_none (w : World) (A : Option Addr) (nf c : Nat) (fl : List Fld) (vss : List (List Value)) (n MB OB : Nat) (hn : nf = fl.length) (hn1 : nf ≤ 1000) (hr : Reads w Any 5 A nf vss.flatten) (ha : All2 (FdCells w Any) vss fl) (hM : w.cell? ⟨MB, 1, none⟩ = some (.int .i64 (n : Nat))) (lM : MB < w.heap.size) (hO : w.cell? ⟨OB, 0, none⟩ = some (.func (.func 62) #[] #[.pointer (some ⟨MB, 0, none⟩)])) (lO : OB < w.heap.size) (hl : ∀ f ∈ fl, f.src = -1 ∨ (0 ≤ f.src ∧ f.src < (n : Int))) :
    Calls Try.prog 64 #[.slice A nf c, .func (.func 65) #[] #[.pointer (some ⟨OB, 0, none⟩)]] w fun e w' => e = .returned (.bool false) ∧ Below w.heap.size w w' := by
  have C := Lib.hid (idxFlds_none w A nf c fl vss n MB OB hn hn1 hr ha hM lM hO lO hl)
  clear hn hr hl ha hM hO
  go_enter Try.func64, Try.ntmps64
  go_wp2_with (go_at_call 81; refine C.out.mono ?_; rintro e w' ⟨rfl, hb'⟩)
  go_ret
  exact ⟨rfl, hb'⟩
set_option maxRecDepth 100000 in
set_option maxHeartbeats 1000000 in
theorem idxMove_one (w : World) (M : Option Addr) (cM n : Nat) (nm : Nm) (F : Option Addr) (nf cF : Nat) (Ls : Option Addr) (nl cL : Nat) (hr : Reads w Any 4 M 1 [str [65], .int .i64 (n : Nat), .slice F nf cF, .slice Ls nl cL]) (SB : Nat) (hS : w.cell? ⟨SB, 0, none⟩ = some (str nm)) (lS : SB < w.heap.size) :
    Calls Try.prog 60 #[.slice M 1 cM, .func (.func 61) #[] #[.pointer (some ⟨SB, 0, none⟩)]] w fun e w' => e = .returned (.int .i64 (if [65] = nm then 0 else -1)) ∧ Below w.heap.size w w' := by
  obtain ⟨b, off, rfl, _, hc⟩ := hr.2 (by omega)
  have g0 := hc 0 _ rfl
  have g1 := hc 1 _ rfl
  have g2 := hc 2 _ rfl
  have g3 := hc 3 _ rfl
  simp only [Nat.add_zero] at g0
  have l4 := lt_of_cell g0
  have C := Lib.hid (find1_any w [65] nm SB hS lS (n : Nat) F nf cF Ls nl cL)
  have HG := Lib.hid (And.intro g0 (And.intro g1 (And.intro g2 g3)))
  clear hr hc g0 g1 g2 g3 hS
  by_cases hq : ([65] : Nm) = nm
  · have hd : decide (([65] : Nm) = nm) = true := by simpa using hq
    rw [hd] at C
    rw [if_pos hq]
    clear hq hd
    obtain ⟨g0, g1, g2, g3⟩ := HG.out
    go_enter Try.func60, Try.ntmps60
    go_wp2_with (fail)
    go_loopw [8] (fun v wr => v = .int .i64 0 ∧ wr = w) (fun v _ => 0)
    case atStart => exact ⟨rfl, rfl⟩
    case round =>
      obtain ⟨rfl, rfl⟩ := hrel
      go_wp2_with (go_at_call 61; refine C.out.mono ?_; rintro e w' ⟨rfl, hb'⟩)
      go_ret
      exact ⟨rfl, hb'⟩
  · have hd : decide (([65] : Nm) = nm) = false := by simpa using hq
    rw [hd] at C
    rw [if_neg hq]
    clear hq hd
    obtain ⟨g0, g1, g2, g3⟩ := HG.out
    go_enter Try.func60, Try.ntmps60
    go_wp2_with (fail)
    go_loopw [8] (fun v wr => Hid ((v = .int .i64 0 ∧ wr = w) ∨ (v = .int .i64 1 ∧ Hid (Below w.heap.size w wr)))) (fun v _ => 1 - (intOf v).toNat)
    case atStart => exact .inl ⟨rfl, rfl⟩
    case round =>
      rcases hrel.out with ⟨rfl, rfl⟩ | ⟨rfl, hb⟩
      · clear hrel
        go_wp2_with (go_at_call 61; refine C.out.mono ?_; rintro e w' ⟨rfl, hb'⟩)
        exact ⟨.inr ⟨by go_num, hb'⟩, by simp [intOf]⟩
      · clear hrel g0 g1 g2 g3 l4
        go_wp2_with (fail)
        go_ret
        exact ⟨rfl, hb.out⟩
end Go.Proofs.Ytoddjdajjmcliaa
set_option linter.unusedVariables false
namespace Go.Proofs.Ytoddjdajjmcliaa
open Go.RowKit Go.Mem Go.Sh Go.Maps Go.Val
/-- a Move that may be -/
def MvOk (n : Nat) (fl : List Fld) (lost : List Nat) : Prop := n ≤ 1000 ∧ (∀ f ∈ fl, f.src = -1 ∨ (0 ≤ f.src ∧ f.src < (n : Int))) ∧ ∀ i ∈ lost, i < n
set_option maxRecDepth 100000 in
set_option maxHeartbeats 8000000 in
theorem find_no (w : World) (nm : Nm) (hne : ¬ [65] = nm) (Sa : Option Addr) (sn sc : Nat) (Ia : Option Addr) (ni ic : Nat) (M : Option Addr) (cM n : Nat) (F : Option Addr) (nf cF : Nat) (Ls : Option Addr) (nl cL : Nat) (hr : Reads w Any 4 M 1 [str [65], .int .i64 (n : Nat), .slice F nf cF, .slice Ls nl cL]) :
    Calls Try.prog 38 #[.agg #[str nm, .slice Sa sn sc, .slice Ia ni ic], .agg #[.slice M 1 cM]] w fun e w' => e = .returned (.tuple #[.agg #[.string ⟨#[]⟩, .int .i64 0, .slice none 0 0, .slice none 0 0], .int .i64 4]) ∧ Below w.heap.size w w' := by
  have HE := Lib.hid hne
  have HR := Lib.hid hr
  clear hne hr
  go_enter Try.func38, Try.ntmps38
  go_upto_region 1 with (fail)
  obtain ⟨u1, hu1⟩ : ∃ u, u = w.alloc (.cells #[str nm, .slice Sa sn sc, .slice Ia ni ic] 65) := ⟨_, rfl⟩
  have zu1 : u1.heap.size = w.heap.size + 1 := by rw [hu1]; simp
  have hbu1 : Below w.heap.size w u1 := by rw [hu1]; exact (Below.refl _ _).alloc (Nat.le_refl _) _
  have fSB : Blk u1 (w.heap.size) 65 [str nm, .slice Sa sn sc, .slice Ia ni ic] := by rw [hu1]; have h := Blk.new w 65 [str nm, .slice Sa sn sc, .slice Ia ni ic]; exact h
  obtain ⟨u2, hu2⟩ : ∃ u, u = u1.alloc (.cells #[.slice M 1 cM] 60) := ⟨_, rfl⟩
  have zu2 : u2.heap.size = w.heap.size + 1 + 1 := by rw [hu2]; simp [zu1]
  have hbu2 : Below w.heap.size w u2 := by rw [hu2]; exact hbu1.alloc hbu1.size _
  replace fSB := fSB.alloc (.cells #[.slice M 1 cM] 60)
  rw [← hu2] at fSB
  have fWB : Blk u2 (w.heap.size + 1) 60 [.slice M 1 cM] := by rw [hu2]; have h := Blk.new u1 60 [.slice M 1 cM]; rw [zu1] at h; exact h
  obtain ⟨u3, hu3⟩ : ∃ u, u = u2.alloc (.cells #[.string ⟨#[]⟩, .int .i64 0, .slice none 0 0, .slice none 0 0] 99) := ⟨_, rfl⟩
  have zu3 : u3.heap.size = w.heap.size + 1 + 1 + 1 := by rw [hu3]; simp [zu2]
  have hbu3 : Below w.heap.size w u3 := by rw [hu3]; exact hbu2.alloc hbu2.size _
  replace fSB := fSB.alloc (.cells #[.string ⟨#[]⟩, .int .i64 0, .slice none 0 0, .slice none 0 0] 99)
  rw [← hu3] at fSB
  replace fWB := fWB.alloc (.cells #[.string ⟨#[]⟩, .int .i64 0, .slice none 0 0, .slice none 0 0] 99)
  rw [← hu3] at fWB
  have fRB : Blk u3 (w.heap.size + 1 + 1) 99 [.string ⟨#[]⟩, .int .i64 0, .slice none 0 0, .slice none 0 0] := by rw [hu3]; have h := Blk.new u2 99 [.string ⟨#[]⟩, .int .i64 0, .slice none 0 0, .slice none 0 0]; rw [zu2] at h; exact h
  rw [← hu1, ← hu2, ← hu3]
  obtain ⟨RB, zRB⟩ : ∃ b, b = w.heap.size + 1 + 1 := ⟨_, rfl⟩
  obtain ⟨WB, zWB⟩ : ∃ b, b = w.heap.size + 1 := ⟨_, rfl⟩
  obtain ⟨SB, zSB⟩ : ∃ b, b = w.heap.size := ⟨_, rfl⟩
  rw [← zRB, ← zWB, ← zSB]
  rw [← zSB] at fSB
  rw [← zWB] at fWB
  rw [← zRB] at fRB
  clear hu1 hu2 hu3
  have HB := Lib.hid (And.intro hbu3 (And.intro fSB (And.intro fWB (And.intro fRB (show w.heap.size ≤ RB ∧ RB < u3.heap.size from ⟨by omega, by omega⟩)))))
  have c0 := fWB.cell 0
  have lw := fWB.lt
  simp only [List.getElem?_cons_zero] at c0
  have CI := Lib.hid (idxMove_one u3 M cM n nm F nf cF Ls nl cL (HR.out.keep (Same.any hbu3)) SB (fSB.cell 0) fSB.lt)
  clear fSB fWB fRB zSB zWB zRB zu1 zu2 zu3 hbu1 hbu2 hbu3
  generalize u3 = W3 at *
  rw [if_neg HE.out] at CI
  go_upto_region 3 with (go_at_call 60; refine CI.out.mono ?_; rintro e w4 ⟨rfl, hb4⟩; have HB4 := Lib.hid hb4; clear hb4)
  have fR := HB.out.2.2.2.1.below HB4.out HB.out.2.2.2.1.lt
  have r0 := fR.cell 0
  have z0 := fR.frozen 0
  have r1 := fR.cell 1
  have z1 := fR.frozen 1
  have r2 := fR.cell 2
  have z2 := fR.frozen 2
  have r3 := fR.cell 3
  have z3 := fR.frozen 3
  have lR := fR.lt
  simp only [List.getElem?_cons_zero, List.getElem?_cons_succ] at r0 r1 r2 r3
  have HFR := Lib.hid fR
  clear fR c0 lw
  go_wp2_with (fail)
  have hB := (((HFR.out.put 0 (.string ⟨#[]⟩)).put 1 (.int .i64 0)).put 2 (.slice none 0 0)).put 3 (.slice none 0 0)
  have hz := HB.out.2.2.2.2.1
  have hbe := ((((HB.out.1.trans (HB4.out.mono HB.out.1.size)).setCell (p := ⟨RB, 0, none⟩) hz (.string ⟨#[]⟩)).setCell (p := ⟨RB, 1, none⟩) hz (.int .i64 0)).setCell (p := ⟨RB, 2, none⟩) hz (.slice none 0 0)).setCell (p := ⟨RB, 3, none⟩) hz (.slice none 0 0)
  refine ret_blk_tmp rfl rfl hB Try.underlying99 (by kernel_rfl) rfl ?_
  exact ⟨rfl, hbe⟩
set_option maxRecDepth 100000 in
set_option maxHeartbeats 8000000 in
theorem find_ok (w : World) (Sa : Option Addr) (sn sc : Nat) (Ia : Option Addr) (ni ic : Nat) (M : Option Addr) (cM n : Nat) (F : Option Addr) (nf cF : Nat) (Ls : Option Addr) (nl cL : Nat) (fl : List Fld) (lost : List Nat) (hr : Reads w Any 4 M 1 [str [65], .int .i64 (n : Nat), .slice F nf cF, .slice Ls nl cL]) (hm : MoveAt w Any F nf cF Ls nl cL fl lost) (hok : MvOk n fl lost) :
    Calls Try.prog 38 #[.agg #[str [65], .slice Sa sn sc, .slice Ia ni ic], .agg #[.slice M 1 cM]] w fun e w' => e = .returned (.tuple #[.agg #[str [65], .int .i64 (n : Nat), .slice F nf cF, .slice Ls nl cL], .int .i64 0]) ∧ Below w.heap.size w w' := by
  have HR := Lib.hid hr
  have HM := Lib.hid hm
  have HOK := Lib.hid hok
  have hn0 := hok.1
  clear hr hm hok
  go_enter Try.func38, Try.ntmps38
  go_upto_region 1 with (fail)
  obtain ⟨u1, hu1⟩ : ∃ u, u = w.alloc (.cells #[str [65], .slice Sa sn sc, .slice Ia ni ic] 65) := ⟨_, rfl⟩
  have zu1 : u1.heap.size = w.heap.size + 1 := by rw [hu1]; simp
  have hbu1 : Below w.heap.size w u1 := by rw [hu1]; exact (Below.refl _ _).alloc (Nat.le_refl _) _
  have fSB : Blk u1 (w.heap.size) 65 [str [65], .slice Sa sn sc, .slice Ia ni ic] := by rw [hu1]; have h := Blk.new w 65 [str [65], .slice Sa sn sc, .slice Ia ni ic]; exact h
  obtain ⟨u2, hu2⟩ : ∃ u, u = u1.alloc (.cells #[.slice M 1 cM] 60) := ⟨_, rfl⟩
  have zu2 : u2.heap.size = w.heap.size + 1 + 1 := by rw [hu2]; simp [zu1]
  have hbu2 : Below w.heap.size w u2 := by rw [hu2]; exact hbu1.alloc hbu1.size _
  replace fSB := fSB.alloc (.cells #[.slice M 1 cM] 60)
  rw [← hu2] at fSB
  have fWB : Blk u2 (w.heap.size + 1) 60 [.slice M 1 cM] := by rw [hu2]; have h := Blk.new u1 60 [.slice M 1 cM]; rw [zu1] at h; exact h
  obtain ⟨u3, hu3⟩ : ∃ u, u = u2.alloc (.cells #[.string ⟨#[]⟩, .int .i64 0, .slice none 0 0, .slice none 0 0] 99) := ⟨_, rfl⟩
  have zu3 : u3.heap.size = w.heap.size + 1 + 1 + 1 := by rw [hu3]; simp [zu2]
  have hbu3 : Below w.heap.size w u3 := by rw [hu3]; exact hbu2.alloc hbu2.size _
  replace fSB := fSB.alloc (.cells #[.string ⟨#[]⟩, .int .i64 0, .slice none 0 0, .slice none 0 0] 99)
  rw [← hu3] at fSB
  replace fWB := fWB.alloc (.cells #[.string ⟨#[]⟩, .int .i64 0, .slice none 0 0, .slice none 0 0] 99)
  rw [← hu3] at fWB
  have fRB : Blk u3 (w.heap.size + 1 + 1) 99 [.string ⟨#[]⟩, .int .i64 0, .slice none 0 0, .slice none 0 0] := by rw [hu3]; have h := Blk.new u2 99 [.string ⟨#[]⟩, .int .i64 0, .slice none 0 0, .slice none 0 0]; rw [zu2] at h; exact h
  rw [← hu1, ← hu2, ← hu3]
  obtain ⟨RB, zRB⟩ : ∃ b, b = w.heap.size + 1 + 1 := ⟨_, rfl⟩
  obtain ⟨WB, zWB⟩ : ∃ b, b = w.heap.size + 1 := ⟨_, rfl⟩
  obtain ⟨SB, zSB⟩ : ∃ b, b = w.heap.size := ⟨_, rfl⟩
  rw [← zRB, ← zWB, ← zSB]
  rw [← zSB] at fSB
  rw [← zWB] at fWB
  rw [← zRB] at fRB
  clear hu1 hu2 hu3
  have HB := Lib.hid (And.intro hbu3 (And.intro fSB (And.intro fWB (And.intro fRB (show w.heap.size ≤ RB ∧ RB < u3.heap.size from ⟨by omega, by omega⟩)))))
  have c0 := fWB.cell 0
  have lw := fWB.lt
  simp only [List.getElem?_cons_zero] at c0
  have CI := Lib.hid (idxMove_one u3 M cM n [65] F nf cF Ls nl cL (HR.out.keep (Same.any hbu3)) SB (fSB.cell 0) fSB.lt)
  clear fSB fWB fRB zSB zWB zRB zu1 zu2 zu3 hbu1 hbu2 hbu3
  generalize u3 = W3 at *
  rw [if_pos rfl] at CI
  go_upto_region 4 with (go_at_call 60; refine CI.out.mono ?_; rintro e w4 ⟨rfl, hb4⟩; have HB4 := Lib.hid hb4; clear hb4)
  have hb4 : Below w.heap.size w w4 := HB.out.1.trans (HB4.out.mono HB.out.1.size)
  obtain ⟨b, off, rfl, _, hc⟩ := (HR.out.keep (Same.any hb4)).2 (by omega)
  have m0 := hc 0 _ rfl
  have m1 := hc 1 _ rfl
  have m2 := hc 2 _ rfl
  have m3 := hc 3 _ rfl
  simp only [Nat.add_zero] at m0
  have lm := lt_of_cell m0
  have fW := HB.out.2.2.1.below HB4.out HB.out.2.2.1.lt
  have c0' := fW.cell 0
  have lw' := fW.lt
  simp only [List.getElem?_cons_zero] at c0'
  clear hc fW c0 lw
  go_upto_region 6 with (fail)
  obtain ⟨u1, hu1⟩ : ∃ u, u = w4.alloc (.cells #[str [65], .int .i64 (n : Nat), .slice F nf cF, .slice Ls nl cL] 99) := ⟨_, rfl⟩
  obtain ⟨MB, zMB⟩ : ∃ b, b = w4.heap.size := ⟨_, rfl⟩
  have zu1 : u1.heap.size = w4.heap.size + 1 := by rw [hu1]; simp
  have hb1 : Below w4.heap.size w4 u1 := by rw [hu1]; exact (Below.refl _ _).alloc (Nat.le_refl _) _
  have fM1 : Blk u1 MB 99 [str [65], .int .i64 (n : Nat), .slice F nf cF, .slice Ls nl cL] := by rw [hu1, zMB]; exact Blk.new _ _ _
  rw [← hu1, ← zMB]
  obtain ⟨u2, hu2⟩ : ∃ u, u = u1.alloc (.cells #[(.func (.func 62) #[] #[.pointer (some ⟨MB, 0, none⟩)])] 141) := ⟨_, rfl⟩
  obtain ⟨OB, zOB⟩ : ∃ b, b = w4.heap.size + 1 := ⟨_, rfl⟩
  have hb2 : Below u1.heap.size u1 u2 := by rw [hu2]; exact (Below.refl _ _).alloc (Nat.le_refl _) _
  have fO2 : Blk u2 OB 141 [(.func (.func 62) #[] #[.pointer (some ⟨MB, 0, none⟩)])] := by rw [hu2, zOB, ← zu1]; exact Blk.new _ _ _
  rw [zMB]
  rw [← zOB, ← zMB]
  rw [← hu2]
  have hb42 : Below w4.heap.size w4 u2 := hb1.trans (hb2.mono hb1.size)
  have hbw2 : Below w.heap.size w u2 := hb4.trans (hb42.mono hb4.size)
  have fM2 := fM1.below hb2 fM1.lt
  have fR2 := (HB.out.2.2.2.1.below HB4.out HB.out.2.2.2.1.lt).below hb42 (HB.out.2.2.2.1.below HB4.out HB.out.2.2.2.1.lt).lt
  have HX := Lib.hid (And.intro hbw2 (And.intro fM2 (And.intro fO2 fR2)))
  have C1 := Lib.hid (cntInts_none u2 Ls nl cL lost n MB HM.out.hl.1 HM.out.hl.2.1 (HM.out.lr.keep (Same.any hbw2)) (fM2.cell 1) fM2.lt HOK.out.2.2)
  have C2 := Lib.hid (show Calls Try.prog 64 #[.slice F nf cF, .func (.func 65) #[] #[.pointer (some ⟨OB, 0, none⟩)]] u2 (fun e w' => e = .returned (.bool false) ∧ Below u2.heap.size u2 w') from by
    obtain ⟨vss, h1, h2⟩ := HM.out.fr
    exact cntFlds_none u2 F nf cF fl vss n MB OB HM.out.hf.1 HM.out.hf.2.1 (h1.keep (Same.any hbw2)) (h2.imp fun x y hxy => FdCells.stable.keep hxy (Same.any hbw2)) (fM2.cell 1) fM2.lt (fO2.cell 0) fO2.lt HOK.out.2.1)
  have k1 := fM2.cell 1
  have k2 := fM2.cell 2
  have k3 := fM2.cell 3
  have lM := fM2.lt
  have p0 := fO2.cell 0
  have lO := fO2.lt
  simp only [List.getElem?_cons_zero, List.getElem?_cons_succ] at k1 k2 k3 p0
  have d1 : decide ((n : Int) < 0) = false := by simp
  have d2 : decide ((1000 : Int) < (n : Int)) = false := by simp; omega
  clear hu1 hu2 zMB zOB zu1 hb1 hb2 hb42 hbw2 fM1 fM2 fO2 fR2 hb4 m0 m1 m2 m3 lm c0' lw'
  go_upto_region 10 with (first
    | (go_at_call 63; refine C1.out.mono ?_; rintro e w' ⟨rfl, rfl⟩)
    | (go_at_call 64; refine C2.out.mono ?_; rintro e w5 ⟨rfl, hb5⟩; have HB5 := Lib.hid hb5; have y1 := (HX.out.2.1.below hb5 HX.out.2.1.lt).cell 1; have ly := (HX.out.2.1.below hb5 HX.out.2.1.lt).lt; simp only [List.getElem?_cons_zero, List.getElem?_cons_succ] at y1; clear hb5))
  have fM := HX.out.2.1.below HB5.out HX.out.2.1.lt
  have fR := HX.out.2.2.2.below HB5.out HX.out.2.2.2.lt
  have g0 := fM.cell 0
  have r0 := fR.cell 0
  have z0 := fR.frozen 0
  have g1 := fM.cell 1
  have r1 := fR.cell 1
  have z1 := fR.frozen 1
  have g2 := fM.cell 2
  have r2 := fR.cell 2
  have z2 := fR.frozen 2
  have g3 := fM.cell 3
  have r3 := fR.cell 3
  have z3 := fR.frozen 3
  have lM' := fM.lt
  have lR := fR.lt
  simp only [List.getElem?_cons_zero, List.getElem?_cons_succ] at g0 g1 g2 g3 r0 r1 r2 r3
  have HFR := Lib.hid fR
  clear fM fR k1 k2 k3 lM p0 lO
  go_wp2_with (fail)
  have hB := (((HFR.out.put 0 (str [65])).put 1 (.int .i64 (n : Nat))).put 2 (.slice F nf cF)).put 3 (.slice Ls nl cL)
  have hz := HB.out.2.2.2.2.1
  have hbe := ((((HX.out.1.trans (HB5.out.mono HX.out.1.size)).setCell (p := ⟨RB, 0, none⟩) hz (str [65])).setCell (p := ⟨RB, 1, none⟩) hz (.int .i64 (n : Nat))).setCell (p := ⟨RB, 2, none⟩) hz (.slice F nf cF)).setCell (p := ⟨RB, 3, none⟩) hz (.slice Ls nl cL)
  refine ret_blk_tmp rfl rfl hB Try.underlying99 (by kernel_rfl) rfl ?_
  exact ⟨rfl, hbe⟩
set_option maxRecDepth 100000 in
set_option maxHeartbeats 8000000 in
theorem begin_no (w : World) (nm : Nm) (hne : ¬ [65] = nm) (Sa : Option Addr) (sn sc : Nat) (Ia : Option Addr) (ni ic : Nat) (M : Option Addr) (cM n : Nat) (F : Option Addr) (nf cF : Nat) (Ls : Option Addr) (nl cL : Nat) (hr : Reads w Any 4 M 1 [str [65], .int .i64 (n : Nat), .slice F nf cF, .slice Ls nl cL]) :
    Calls Try.prog 35 #[.agg #[str nm, .slice Sa sn sc, .slice Ia ni ic], .agg #[.slice M 1 cM]] w fun e w' => e = .returned (.tuple #[.agg #[.string ⟨#[]⟩, .int .i64 0, .slice none 0 0, .slice none 0 0], .int .i64 4]) ∧ Below w.heap.size w w' := by
  have HE := Lib.hid (And.intro hne hr)
  clear hne hr
  go_enter Try.func35, Try.ntmps35
  go_upto_region 1 with (fail)
  obtain ⟨u1, hu1⟩ : ∃ u, u = w.alloc (.cells #[str nm, .slice Sa sn sc, .slice Ia ni ic] 65) := ⟨_, rfl⟩
  have zu1 : u1.heap.size = w.heap.size + 1 := by rw [hu1]; simp
  have hbu1 : Below w.heap.size w u1 := by rw [hu1]; exact (Below.refl _ _).alloc (Nat.le_refl _) _
  have fSB : Blk u1 (w.heap.size) 65 [str nm, .slice Sa sn sc, .slice Ia ni ic] := by rw [hu1]; have h := Blk.new w 65 [str nm, .slice Sa sn sc, .slice Ia ni ic]; exact h
  obtain ⟨u2, hu2⟩ : ∃ u, u = u1.alloc (.cells #[.slice M 1 cM] 60) := ⟨_, rfl⟩
  have zu2 : u2.heap.size = w.heap.size + 1 + 1 := by rw [hu2]; simp [zu1]
  have hbu2 : Below w.heap.size w u2 := by rw [hu2]; exact hbu1.alloc hbu1.size _
  replace fSB := fSB.alloc (.cells #[.slice M 1 cM] 60)
  rw [← hu2] at fSB
  have fWB : Blk u2 (w.heap.size + 1) 60 [.slice M 1 cM] := by rw [hu2]; have h := Blk.new u1 60 [.slice M 1 cM]; rw [zu1] at h; exact h
  obtain ⟨u3, hu3⟩ : ∃ u, u = u2.alloc (.cells #[.string ⟨#[]⟩, .int .i64 0, .slice none 0 0, .slice none 0 0] 99) := ⟨_, rfl⟩
  have zu3 : u3.heap.size = w.heap.size + 1 + 1 + 1 := by rw [hu3]; simp [zu2]
  have hbu3 : Below w.heap.size w u3 := by rw [hu3]; exact hbu2.alloc hbu2.size _
  replace fSB := fSB.alloc (.cells #[.string ⟨#[]⟩, .int .i64 0, .slice none 0 0, .slice none 0 0] 99)
  rw [← hu3] at fSB
  replace fWB := fWB.alloc (.cells #[.string ⟨#[]⟩, .int .i64 0, .slice none 0 0, .slice none 0 0] 99)
  rw [← hu3] at fWB
  have fRB : Blk u3 (w.heap.size + 1 + 1) 99 [.string ⟨#[]⟩, .int .i64 0, .slice none 0 0, .slice none 0 0] := by rw [hu3]; have h := Blk.new u2 99 [.string ⟨#[]⟩, .int .i64 0, .slice none 0 0, .slice none 0 0]; rw [zu2] at h; exact h
  rw [← hu1, ← hu2, ← hu3]
  obtain ⟨RB, zRB⟩ : ∃ b, b = w.heap.size + 1 + 1 := ⟨_, rfl⟩
  obtain ⟨WB, zWB⟩ : ∃ b, b = w.heap.size + 1 := ⟨_, rfl⟩
  obtain ⟨SB, zSB⟩ : ∃ b, b = w.heap.size := ⟨_, rfl⟩
  rw [← zRB, ← zWB, ← zSB]
  rw [← zSB] at fSB
  rw [← zWB] at fWB
  rw [← zRB] at fRB
  clear hu1 hu2 hu3
  have HB := Lib.hid (And.intro hbu3 (And.intro fSB (And.intro fWB (And.intro fRB (show w.heap.size ≤ RB ∧ RB < u3.heap.size from ⟨by omega, by omega⟩)))))
  have c0 := fWB.cell 0
  have lw := fWB.lt
  have s0 := fSB.cell 0
  have s1 := fSB.cell 1
  have s2 := fSB.cell 2
  have ls := fSB.lt
  simp only [List.getElem?_cons_zero, List.getElem?_cons_succ] at c0 s0 s1 s2
  have CI := Lib.hid (show Calls Try.prog 38 #[.agg #[str nm, .slice Sa sn sc, .slice Ia ni ic], .agg #[.slice M 1 cM]] u3 (fun e w' => e = .returned (.tuple #[.agg #[.string ⟨#[]⟩, .int .i64 0, .slice none 0 0, .slice none 0 0], .int .i64 4]) ∧ Below u3.heap.size u3 w') from find_no u3 nm HE.out.1 Sa sn sc Ia ni ic M cM n F nf cF Ls nl cL (HE.out.2.keep (Same.any hbu3)))
  clear fSB fWB fRB zSB zWB zRB zu1 zu2 zu3 hbu1 hbu2 hbu3
  generalize u3 = W3 at *
  go_upto_region 2 with (go_at_call 38; refine CI.out.mono ?_; rintro e w4 ⟨rfl, hb4⟩; have HB4 := Lib.hid hb4; clear hb4)
  obtain ⟨W5, hW5⟩ : ∃ W5, W5 = w4.alloc (.cells #[.string ⟨#[]⟩, .int .i64 0, .slice none 0 0, .slice none 0 0] 99) := ⟨_, rfl⟩
  obtain ⟨MB, hMB⟩ : ∃ b, b = w4.heap.size := ⟨_, rfl⟩
  have hb5 : Below w4.heap.size w4 W5 := by rw [hW5]; exact (Below.refl _ _).alloc (Nat.le_refl _) _
  have fM := Blk.new w4 99 [.string ⟨#[]⟩, .int .i64 0, .slice none 0 0, .slice none 0 0]
  rw [← hW5, ← hMB] at fM
  rw [← hW5, ← hMB]
  have hb35 : Below W3.heap.size W3 W5 := HB4.out.trans (hb5.mono HB4.out.size)
  have fS := HB.out.2.1.below hb35 HB.out.2.1.lt
  have fR := HB.out.2.2.2.1.below hb35 HB.out.2.2.2.1.lt
  have g0 := fM.cell 0
  have r0 := fR.cell 0
  have z0 := fR.frozen 0
  have g1 := fM.cell 1
  have r1 := fR.cell 1
  have z1 := fR.frozen 1
  have g2 := fM.cell 2
  have r2 := fR.cell 2
  have z2 := fR.frozen 2
  have g3 := fM.cell 3
  have r3 := fR.cell 3
  have z3 := fR.frozen 3
  have t0 := fS.cell 0
  have t1 := fS.cell 1
  have t2 := fS.cell 2
  have lM' := fM.lt
  have lR := fR.lt
  have lS' := fS.lt
  simp only [List.getElem?_cons_zero, List.getElem?_cons_succ] at g0 g1 g2 g3 r0 r1 r2 r3 t0 t1 t2
  have HFR := Lib.hid (And.intro fR (HB.out.1.trans (hb35.mono HB.out.1.size)))
  clear fM fR fS c0 lw s0 s1 s2 ls hW5 hMB hb5 hb35
  go_wp2_with (fail)
  have hz := HB.out.2.2.2.2.1
  have hB := ((((HFR.out.1.put 0 (.string ⟨#[]⟩)).put 1 (.int .i64 0)).put 2 (.slice none 0 0)).put 3 (.slice none 0 0))
  have hbe := ((((HFR.out.2.setCell (p := ⟨RB, 0, none⟩) hz (.string ⟨#[]⟩)).setCell (p := ⟨RB, 1, none⟩) hz (.int .i64 0)).setCell (p := ⟨RB, 2, none⟩) hz (.slice none 0 0)).setCell (p := ⟨RB, 3, none⟩) hz (.slice none 0 0))
  refine ret_blk_tmp rfl rfl hB Try.underlying99 (by kernel_rfl) rfl ?_
  exact ⟨rfl, hbe⟩
set_option maxRecDepth 100000 in
set_option maxHeartbeats 8000000 in
theorem begin_ok (w : World) (Sa : Option Addr) (sc : Nat) (Ia : Option Addr) (ic : Nat) (M : Option Addr) (cM n : Nat) (F : Option Addr) (nf cF : Nat) (Ls : Option Addr) (nl cL : Nat) (fl : List Fld) (lost : List Nat) (hr : Reads w Any 4 M 1 [str [65], .int .i64 (n : Nat), .slice F nf cF, .slice Ls nl cL]) (hm : MoveAt w Any F nf cF Ls nl cL fl lost) (hok : MvOk n fl lost) :
    Calls Try.prog 35 #[.agg #[str [65], .slice Sa n sc, .slice Ia 0 ic], .agg #[.slice M 1 cM]] w fun e w' => e = .returned (.tuple #[.agg #[str [65], .int .i64 (n : Nat), .slice F nf cF, .slice Ls nl cL], .int .i64 0]) ∧ Below w.heap.size w w' := by
  have HE := Lib.hid (And.intro hr (And.intro hm hok))
  have d1 : ((n : Int) != (n : Int)) = false := by simp
  have d1' : (n != n) = false := by simp
  clear hr hm hok
  go_enter Try.func35, Try.ntmps35
  go_upto_region 1 with (fail)
  obtain ⟨u1, hu1⟩ : ∃ u, u = w.alloc (.cells #[str [65], .slice Sa n sc, .slice Ia 0 ic] 65) := ⟨_, rfl⟩
  have zu1 : u1.heap.size = w.heap.size + 1 := by rw [hu1]; simp
  have hbu1 : Below w.heap.size w u1 := by rw [hu1]; exact (Below.refl _ _).alloc (Nat.le_refl _) _
  have fSB : Blk u1 (w.heap.size) 65 [str [65], .slice Sa n sc, .slice Ia 0 ic] := by rw [hu1]; have h := Blk.new w 65 [str [65], .slice Sa n sc, .slice Ia 0 ic]; exact h
  obtain ⟨u2, hu2⟩ : ∃ u, u = u1.alloc (.cells #[.slice M 1 cM] 60) := ⟨_, rfl⟩
  have zu2 : u2.heap.size = w.heap.size + 1 + 1 := by rw [hu2]; simp [zu1]
  have hbu2 : Below w.heap.size w u2 := by rw [hu2]; exact hbu1.alloc hbu1.size _
  replace fSB := fSB.alloc (.cells #[.slice M 1 cM] 60)
  rw [← hu2] at fSB
  have fWB : Blk u2 (w.heap.size + 1) 60 [.slice M 1 cM] := by rw [hu2]; have h := Blk.new u1 60 [.slice M 1 cM]; rw [zu1] at h; exact h
  obtain ⟨u3, hu3⟩ : ∃ u, u = u2.alloc (.cells #[.string ⟨#[]⟩, .int .i64 0, .slice none 0 0, .slice none 0 0] 99) := ⟨_, rfl⟩
  have zu3 : u3.heap.size = w.heap.size + 1 + 1 + 1 := by rw [hu3]; simp [zu2]
  have hbu3 : Below w.heap.size w u3 := by rw [hu3]; exact hbu2.alloc hbu2.size _
  replace fSB := fSB.alloc (.cells #[.string ⟨#[]⟩, .int .i64 0, .slice none 0 0, .slice none 0 0] 99)
  rw [← hu3] at fSB
  replace fWB := fWB.alloc (.cells #[.string ⟨#[]⟩, .int .i64 0, .slice none 0 0, .slice none 0 0] 99)
  rw [← hu3] at fWB
  have fRB : Blk u3 (w.heap.size + 1 + 1) 99 [.string ⟨#[]⟩, .int .i64 0, .slice none 0 0, .slice none 0 0] := by rw [hu3]; have h := Blk.new u2 99 [.string ⟨#[]⟩, .int .i64 0, .slice none 0 0, .slice none 0 0]; rw [zu2] at h; exact h
  rw [← hu1, ← hu2, ← hu3]
  obtain ⟨RB, zRB⟩ : ∃ b, b = w.heap.size + 1 + 1 := ⟨_, rfl⟩
  obtain ⟨WB, zWB⟩ : ∃ b, b = w.heap.size + 1 := ⟨_, rfl⟩
  obtain ⟨SB, zSB⟩ : ∃ b, b = w.heap.size := ⟨_, rfl⟩
  rw [← zRB, ← zWB, ← zSB]
  rw [← zSB] at fSB
  rw [← zWB] at fWB
  rw [← zRB] at fRB
  clear hu1 hu2 hu3
  have HB := Lib.hid (And.intro hbu3 (And.intro fSB (And.intro fWB (And.intro fRB (show w.heap.size ≤ RB ∧ RB < u3.heap.size from ⟨by omega, by omega⟩)))))
  have c0 := fWB.cell 0
  have lw := fWB.lt
  have s0 := fSB.cell 0
  have s1 := fSB.cell 1
  have s2 := fSB.cell 2
  have ls := fSB.lt
  simp only [List.getElem?_cons_zero, List.getElem?_cons_succ] at c0 s0 s1 s2
  have CI := Lib.hid (show Calls Try.prog 38 #[.agg #[str [65], .slice Sa n sc, .slice Ia 0 ic], .agg #[.slice M 1 cM]] u3 (fun e w' => e = .returned (.tuple #[.agg #[str [65], .int .i64 (n : Nat), .slice F nf cF, .slice Ls nl cL], .int .i64 0]) ∧ Below u3.heap.size u3 w') from find_ok u3 Sa n sc Ia 0 ic M cM n F nf cF Ls nl cL fl lost (HE.out.1.keep (Same.any hbu3)) (HE.out.2.1.keep (Same.any hbu3)) HE.out.2.2)
  clear fSB fWB fRB zSB zWB zRB zu1 zu2 zu3 hbu1 hbu2 hbu3
  generalize u3 = W3 at *
  go_upto_region 2 with (go_at_call 38; refine CI.out.mono ?_; rintro e w4 ⟨rfl, hb4⟩; have HB4 := Lib.hid hb4; clear hb4)
  obtain ⟨W5, hW5⟩ : ∃ W5, W5 = w4.alloc (.cells #[str [65], .int .i64 (n : Nat), .slice F nf cF, .slice Ls nl cL] 99) := ⟨_, rfl⟩
  obtain ⟨MB, hMB⟩ : ∃ b, b = w4.heap.size := ⟨_, rfl⟩
  have hb5 : Below w4.heap.size w4 W5 := by rw [hW5]; exact (Below.refl _ _).alloc (Nat.le_refl _) _
  have fM := Blk.new w4 99 [str [65], .int .i64 (n : Nat), .slice F nf cF, .slice Ls nl cL]
  rw [← hW5, ← hMB] at fM
  rw [← hW5, ← hMB]
  have hb35 : Below W3.heap.size W3 W5 := HB4.out.trans (hb5.mono HB4.out.size)
  have fS := HB.out.2.1.below hb35 HB.out.2.1.lt
  have fR := HB.out.2.2.2.1.below hb35 HB.out.2.2.2.1.lt
  have g0 := fM.cell 0
  have r0 := fR.cell 0
  have z0 := fR.frozen 0
  have g1 := fM.cell 1
  have r1 := fR.cell 1
  have z1 := fR.frozen 1
  have g2 := fM.cell 2
  have r2 := fR.cell 2
  have z2 := fR.frozen 2
  have g3 := fM.cell 3
  have r3 := fR.cell 3
  have z3 := fR.frozen 3
  have t0 := fS.cell 0
  have t1 := fS.cell 1
  have t2 := fS.cell 2
  have lM' := fM.lt
  have lR := fR.lt
  have lS' := fS.lt
  simp only [List.getElem?_cons_zero, List.getElem?_cons_succ] at g0 g1 g2 g3 r0 r1 r2 r3 t0 t1 t2
  have HFR := Lib.hid (And.intro fR (HB.out.1.trans (hb35.mono HB.out.1.size)))
  clear fM fR fS c0 lw s0 s1 s2 ls hW5 hMB hb5 hb35
  go_wp2_with (fail)
  have hz := HB.out.2.2.2.2.1
  have hB := ((((HFR.out.1.put 0 (str [65])).put 1 (.int .i64 (n : Nat))).put 2 (.slice F nf cF)).put 3 (.slice Ls nl cL))
  have hbe := ((((HFR.out.2.setCell (p := ⟨RB, 0, none⟩) hz (str [65])).setCell (p := ⟨RB, 1, none⟩) hz (.int .i64 (n : Nat))).setCell (p := ⟨RB, 2, none⟩) hz (.slice F nf cF)).setCell (p := ⟨RB, 3, none⟩) hz (.slice Ls nl cL))
  refine ret_blk_tmp rfl rfl hB Try.underlying99 (by kernel_rfl) rfl ?_
  exact ⟨rfl, hbe⟩
set_option maxRecDepth 100000 in
set_option maxHeartbeats 8000000 in
theorem begin_late (w : World) (Sa : Option Addr) (sc : Nat) (Ia : Option Addr) (ni ic : Nat) (M : Option Addr) (cM n : Nat) (F : Option Addr) (nf cF : Nat) (Ls : Option Addr) (nl cL : Nat) (fl : List Fld) (lost : List Nat) (hr : Reads w Any 4 M 1 [str [65], .int .i64 (n : Nat), .slice F nf cF, .slice Ls nl cL]) (hm : MoveAt w Any F nf cF Ls nl cL fl lost) (hok : MvOk n fl lost) :
    Calls Try.prog 35 #[.agg #[str [65], .slice Sa n sc, .slice Ia (ni + 1) ic], .agg #[.slice M 1 cM]] w fun e w' => e = .returned (.tuple #[.agg #[.string ⟨#[]⟩, .int .i64 0, .slice none 0 0, .slice none 0 0], .int .i64 8]) ∧ Below w.heap.size w w' := by
  have HE := Lib.hid (And.intro hr (And.intro hm hok))
  have d1 : ((n : Int) != (n : Int)) = false := by simp
  have d1' : (n != n) = false := by simp
  have d2 : decide ((0 : Int) < ((ni + 1 : Nat) : Int)) = true := by apply decide_eq_true; omega
  have d3 : decide ((0 : Int) < (ni : Int) + 1) = true := by apply decide_eq_true; omega
  clear hr hm hok
  go_enter Try.func35, Try.ntmps35
  go_upto_region 1 with (fail)
  obtain ⟨u1, hu1⟩ : ∃ u, u = w.alloc (.cells #[str [65], .slice Sa n sc, .slice Ia (ni + 1) ic] 65) := ⟨_, rfl⟩
  have zu1 : u1.heap.size = w.heap.size + 1 := by rw [hu1]; simp
  have hbu1 : Below w.heap.size w u1 := by rw [hu1]; exact (Below.refl _ _).alloc (Nat.le_refl _) _
  have fSB : Blk u1 (w.heap.size) 65 [str [65], .slice Sa n sc, .slice Ia (ni + 1) ic] := by rw [hu1]; have h := Blk.new w 65 [str [65], .slice Sa n sc, .slice Ia (ni + 1) ic]; exact h
  obtain ⟨u2, hu2⟩ : ∃ u, u = u1.alloc (.cells #[.slice M 1 cM] 60) := ⟨_, rfl⟩
  have zu2 : u2.heap.size = w.heap.size + 1 + 1 := by rw [hu2]; simp [zu1]
  have hbu2 : Below w.heap.size w u2 := by rw [hu2]; exact hbu1.alloc hbu1.size _
  replace fSB := fSB.alloc (.cells #[.slice M 1 cM] 60)
  rw [← hu2] at fSB
  have fWB : Blk u2 (w.heap.size + 1) 60 [.slice M 1 cM] := by rw [hu2]; have h := Blk.new u1 60 [.slice M 1 cM]; rw [zu1] at h; exact h
  obtain ⟨u3, hu3⟩ : ∃ u, u = u2.alloc (.cells #[.string ⟨#[]⟩, .int .i64 0, .slice none 0 0, .slice none 0 0] 99) := ⟨_, rfl⟩
  have zu3 : u3.heap.size = w.heap.size + 1 + 1 + 1 := by rw [hu3]; simp [zu2]
  have hbu3 : Below w.heap.size w u3 := by rw [hu3]; exact hbu2.alloc hbu2.size _
  replace fSB := fSB.alloc (.cells #[.string ⟨#[]⟩, .int .i64 0, .slice none 0 0, .slice none 0 0] 99)
  rw [← hu3] at fSB
  replace fWB := fWB.alloc (.cells #[.string ⟨#[]⟩, .int .i64 0, .slice none 0 0, .slice none 0 0] 99)
  rw [← hu3] at fWB
  have fRB : Blk u3 (w.heap.size + 1 + 1) 99 [.string ⟨#[]⟩, .int .i64 0, .slice none 0 0, .slice none 0 0] := by rw [hu3]; have h := Blk.new u2 99 [.string ⟨#[]⟩, .int .i64 0, .slice none 0 0, .slice none 0 0]; rw [zu2] at h; exact h
  rw [← hu1, ← hu2, ← hu3]
  obtain ⟨RB, zRB⟩ : ∃ b, b = w.heap.size + 1 + 1 := ⟨_, rfl⟩
  obtain ⟨WB, zWB⟩ : ∃ b, b = w.heap.size + 1 := ⟨_, rfl⟩
  obtain ⟨SB, zSB⟩ : ∃ b, b = w.heap.size := ⟨_, rfl⟩
  rw [← zRB, ← zWB, ← zSB]
  rw [← zSB] at fSB
  rw [← zWB] at fWB
  rw [← zRB] at fRB
  clear hu1 hu2 hu3
  have HB := Lib.hid (And.intro hbu3 (And.intro fSB (And.intro fWB (And.intro fRB (show w.heap.size ≤ RB ∧ RB < u3.heap.size from ⟨by omega, by omega⟩)))))
  have c0 := fWB.cell 0
  have lw := fWB.lt
  have s0 := fSB.cell 0
  have s1 := fSB.cell 1
  have s2 := fSB.cell 2
  have ls := fSB.lt
  simp only [List.getElem?_cons_zero, List.getElem?_cons_succ] at c0 s0 s1 s2
  have CI := Lib.hid (show Calls Try.prog 38 #[.agg #[str [65], .slice Sa n sc, .slice Ia (ni + 1) ic], .agg #[.slice M 1 cM]] u3 (fun e w' => e = .returned (.tuple #[.agg #[str [65], .int .i64 (n : Nat), .slice F nf cF, .slice Ls nl cL], .int .i64 0]) ∧ Below u3.heap.size u3 w') from find_ok u3 Sa n sc Ia (ni + 1) ic M cM n F nf cF Ls nl cL fl lost (HE.out.1.keep (Same.any hbu3)) (HE.out.2.1.keep (Same.any hbu3)) HE.out.2.2)
  clear fSB fWB fRB zSB zWB zRB zu1 zu2 zu3 hbu1 hbu2 hbu3
  generalize u3 = W3 at *
  go_upto_region 2 with (go_at_call 38; refine CI.out.mono ?_; rintro e w4 ⟨rfl, hb4⟩; have HB4 := Lib.hid hb4; clear hb4)
  obtain ⟨W5, hW5⟩ : ∃ W5, W5 = w4.alloc (.cells #[str [65], .int .i64 (n : Nat), .slice F nf cF, .slice Ls nl cL] 99) := ⟨_, rfl⟩
  obtain ⟨MB, hMB⟩ : ∃ b, b = w4.heap.size := ⟨_, rfl⟩
  have hb5 : Below w4.heap.size w4 W5 := by rw [hW5]; exact (Below.refl _ _).alloc (Nat.le_refl _) _
  have fM := Blk.new w4 99 [str [65], .int .i64 (n : Nat), .slice F nf cF, .slice Ls nl cL]
  rw [← hW5, ← hMB] at fM
  rw [← hW5, ← hMB]
  have hb35 : Below W3.heap.size W3 W5 := HB4.out.trans (hb5.mono HB4.out.size)
  have fS := HB.out.2.1.below hb35 HB.out.2.1.lt
  have fR := HB.out.2.2.2.1.below hb35 HB.out.2.2.2.1.lt
  have g0 := fM.cell 0
  have r0 := fR.cell 0
  have z0 := fR.frozen 0
  have g1 := fM.cell 1
  have r1 := fR.cell 1
  have z1 := fR.frozen 1
  have g2 := fM.cell 2
  have r2 := fR.cell 2
  have z2 := fR.frozen 2
  have g3 := fM.cell 3
  have r3 := fR.cell 3
  have z3 := fR.frozen 3
  have t0 := fS.cell 0
  have t1 := fS.cell 1
  have t2 := fS.cell 2
  have lM' := fM.lt
  have lR := fR.lt
  have lS' := fS.lt
  simp only [List.getElem?_cons_zero, List.getElem?_cons_succ] at g0 g1 g2 g3 r0 r1 r2 r3 t0 t1 t2
  have HFR := Lib.hid (And.intro fR (HB.out.1.trans (hb35.mono HB.out.1.size)))
  clear fM fR fS c0 lw s0 s1 s2 ls hW5 hMB hb5 hb35
  go_wp2_with (fail)
  have hz := HB.out.2.2.2.2.1
  have hB := ((((HFR.out.1.put 0 (.string ⟨#[]⟩)).put 1 (.int .i64 0)).put 2 (.slice none 0 0)).put 3 (.slice none 0 0))
  have hbe := ((((HFR.out.2.setCell (p := ⟨RB, 0, none⟩) hz (.string ⟨#[]⟩)).setCell (p := ⟨RB, 1, none⟩) hz (.int .i64 0)).setCell (p := ⟨RB, 2, none⟩) hz (.slice none 0 0)).setCell (p := ⟨RB, 3, none⟩) hz (.slice none 0 0))
  refine ret_blk_tmp rfl rfl hB Try.underlying99 (by kernel_rfl) rfl ?_
  exact ⟨rfl, hbe⟩
end Go.Proofs.Ytoddjdajjmcliaa
set_option linter.unusedVariables false
namespace Go.Sh
open Go.Val
/-- the state that an actor has behind Turn -/
def turnF (S : List V) (fl : List Fld) : List V := fl.map fun f => if 0 ≤ f.src then S.getD f.src.toNat zeroV else f.val
end Go.Sh
namespace Go.Proofs.Ytoddjdajjmcliaa
open Go.RowKit Go.Mem Go.Sh Go.Maps Go.Val
set_option maxRecDepth 100000 in
set_option maxHeartbeats 8000000 in
theorem turn_err (w : World) (nm : Nm) (Sa : Option Addr) (sn sc : Nat) (Ia : Option Addr) (ni ic : Nat) (M : Option Addr) (cM : Nat) (er : Int) (her : (er != 0) = true)
    (hb : ∀ W, Below w.heap.size w W → Calls Try.prog 35 #[.agg #[str nm, .slice Sa sn sc, .slice Ia ni ic], .agg #[.slice M 1 cM]] W fun e w' => e = .returned (.tuple #[.agg #[.string ⟨#[]⟩, .int .i64 0, .slice none 0 0, .slice none 0 0], .int .i64 er]) ∧ Below W.heap.size W w') :
    Calls Try.prog 21 #[.agg #[str nm, .slice Sa sn sc, .slice Ia ni ic], .agg #[.slice M 1 cM]] w fun e w' => e = .returned (.tuple #[.agg #[.string ⟨#[]⟩, .slice none 0 0, .slice none 0 0], .int .i64 er]) ∧ Below w.heap.size w w' := by
  have HE := Lib.hid hb
  clear hb
  go_enter Try.func21, Try.ntmps21
  go_upto_region 1 with (fail)
  obtain ⟨u1, hu1⟩ : ∃ u, u = w.alloc (.cells #[str nm, .slice Sa sn sc, .slice Ia ni ic] 65) := ⟨_, rfl⟩
  have zu1 : u1.heap.size = w.heap.size + 1 := by rw [hu1]; simp
  have hbu1 : Below w.heap.size w u1 := by rw [hu1]; exact (Below.refl _ _).alloc (Nat.le_refl _) _
  have fSB : Blk u1 (w.heap.size) 65 [str nm, .slice Sa sn sc, .slice Ia ni ic] := by rw [hu1]; have h := Blk.new w 65 [str nm, .slice Sa sn sc, .slice Ia ni ic]; exact h
  obtain ⟨u2, hu2⟩ : ∃ u, u = u1.alloc (.cells #[.slice M 1 cM] 60) := ⟨_, rfl⟩
  have zu2 : u2.heap.size = w.heap.size + 1 + 1 := by rw [hu2]; simp [zu1]
  have hbu2 : Below w.heap.size w u2 := by rw [hu2]; exact hbu1.alloc hbu1.size _
  replace fSB := fSB.alloc (.cells #[.slice M 1 cM] 60)
  rw [← hu2] at fSB
  have fWB : Blk u2 (w.heap.size + 1) 60 [.slice M 1 cM] := by rw [hu2]; have h := Blk.new u1 60 [.slice M 1 cM]; rw [zu1] at h; exact h
  obtain ⟨u3, hu3⟩ : ∃ u, u = u2.alloc (.cells #[.string ⟨#[]⟩, .slice none 0 0, .slice none 0 0] 65) := ⟨_, rfl⟩
  have zu3 : u3.heap.size = w.heap.size + 1 + 1 + 1 := by rw [hu3]; simp [zu2]
  have hbu3 : Below w.heap.size w u3 := by rw [hu3]; exact hbu2.alloc hbu2.size _
  replace fSB := fSB.alloc (.cells #[.string ⟨#[]⟩, .slice none 0 0, .slice none 0 0] 65)
  rw [← hu3] at fSB
  replace fWB := fWB.alloc (.cells #[.string ⟨#[]⟩, .slice none 0 0, .slice none 0 0] 65)
  rw [← hu3] at fWB
  have fRB : Blk u3 (w.heap.size + 1 + 1) 65 [.string ⟨#[]⟩, .slice none 0 0, .slice none 0 0] := by rw [hu3]; have h := Blk.new u2 65 [.string ⟨#[]⟩, .slice none 0 0, .slice none 0 0]; rw [zu2] at h; exact h
  rw [← hu1, ← hu2, ← hu3]
  obtain ⟨RB, zRB⟩ : ∃ b, b = w.heap.size + 1 + 1 := ⟨_, rfl⟩
  obtain ⟨WB, zWB⟩ : ∃ b, b = w.heap.size + 1 := ⟨_, rfl⟩
  obtain ⟨SB, zSB⟩ : ∃ b, b = w.heap.size := ⟨_, rfl⟩
  rw [← zRB, ← zWB, ← zSB]
  rw [← zSB] at fSB
  rw [← zWB] at fWB
  rw [← zRB] at fRB
  clear hu1 hu2 hu3
  have HB := Lib.hid (And.intro hbu3 (And.intro fSB (And.intro fWB (And.intro fRB (show w.heap.size ≤ RB ∧ RB < u3.heap.size ∧ SB < u3.heap.size ∧ w.heap.size ≤ SB ∧ RB + 1 = u3.heap.size from ⟨by omega, by omega, by omega, by omega, by omega⟩)))))
  have c0 := fWB.cell 0
  have lw := fWB.lt
  have s0 := fSB.cell 0
  have s1 := fSB.cell 1
  have s2 := fSB.cell 2
  have ls := fSB.lt
  simp only [List.getElem?_cons_zero, List.getElem?_cons_succ] at c0 s0 s1 s2
  have CI := Lib.hid (HE.out u3 hbu3)
  clear fSB fWB fRB zSB zWB zRB zu1 zu2 zu3 hbu1 hbu2 hbu3
  generalize u3 = W3 at *
  go_upto_region 2 with (go_at_call 35; refine CI.out.mono ?_; rintro e w4 ⟨rfl, hb4⟩; have HB4 := Lib.hid hb4; clear hb4)
  have fR := ((HB.out.2.2.2.1.below HB4.out HB.out.2.2.2.1.lt).alloc (.cells #[.string ⟨#[]⟩, .int .i64 0, .slice none 0 0, .slice none 0 0] 99))
  have hbe0 := below_allocR (HB.out.1.trans (HB4.out.mono HB.out.1.size)) (.cells #[.string ⟨#[]⟩, .int .i64 0, .slice none 0 0, .slice none 0 0] 99)
  have r0 := fR.cell 0
  have z0 := fR.frozen 0
  have r1 := fR.cell 1
  have z1 := fR.frozen 1
  have r2 := fR.cell 2
  have z2 := fR.frozen 2
  have lR := fR.lt
  simp only [List.getElem?_cons_zero, List.getElem?_cons_succ] at r0 r1 r2
  have HFR := Lib.hid (And.intro fR hbe0)
  clear fR hbe0 c0 lw s0 s1 s2 ls
  generalize w4.alloc (.cells #[.string ⟨#[]⟩, .int .i64 0, .slice none 0 0, .slice none 0 0] 99) = W5 at *
  go_wp2_with (fail)
  have hz := HB.out.2.2.2.2.1
  have hB := ((HFR.out.1.put 0 (.string ⟨#[]⟩)).put 1 (.slice none 0 0)).put 2 (.slice none 0 0)
  have hbe := ((HFR.out.2.setCell (p := ⟨RB, 0, none⟩) hz (.string ⟨#[]⟩)).setCell (p := ⟨RB, 1, none⟩) hz (.slice none 0 0)).setCell (p := ⟨RB, 2, none⟩) hz (.slice none 0 0)
  refine ret_blk_tmp rfl rfl hB Try.underlying65 (by kernel_rfl) rfl ?_
  exact ⟨rfl, hbe⟩
def TurnPost (w : World) (S : List V) (e : Ending) (w' : World) : Prop := (∃ A c, e = .returned (.tuple #[.agg #[str [65], .slice A S.length c, .slice none 0 0], .int .i64 0]) ∧ VsRd 10 w' (fun b => w.heap.size ≤ b) A S.length c S) ∧ Below w.heap.size w w'
set_option maxRecDepth 100000 in
set_option maxHeartbeats 16000000 in
theorem turn_ok (w : World) (Sa : Option Addr) (sc : Nat) (S : List V) (Ia : Option Addr) (ic : Nat) (M : Option Addr) (cM n : Nat) (F : Option Addr) (nf cF : Nat) (Ls : Option Addr) (nl cL : Nat) (fl : List Fld) (lost : List Nat) (hr : Reads w Any 4 M 1 [str [65], .int .i64 (n : Nat), .slice F nf cF, .slice Ls nl cL]) (hm : MoveAt w Any F nf cF Ls nl cL fl lost) (hok : MvOk n fl lost) (hS : VsRd 10 w Any Sa n sc S) :
    Calls Try.prog 21 #[.agg #[str [65], .slice Sa n sc, .slice Ia 0 ic], .agg #[.slice M 1 cM]] w (TurnPost w (turnF S fl)) := by
  have HE := Lib.hid (And.intro hr (And.intro hm (And.intro hok hS)))
  have hnf := hm.hf.2.1
  have hn1 := hok.1
  clear hr hm hok hS
  go_enter Try.func21, Try.ntmps21
  go_upto_region 1 with (fail)
  obtain ⟨u1, hu1⟩ : ∃ u, u = w.alloc (.cells #[str [65], .slice Sa n sc, .slice Ia 0 ic] 65) := ⟨_, rfl⟩
  have zu1 : u1.heap.size = w.heap.size + 1 := by rw [hu1]; simp
  have hbu1 : Below w.heap.size w u1 := by rw [hu1]; exact (Below.refl _ _).alloc (Nat.le_refl _) _
  have fSB : Blk u1 (w.heap.size) 65 [str [65], .slice Sa n sc, .slice Ia 0 ic] := by rw [hu1]; have h := Blk.new w 65 [str [65], .slice Sa n sc, .slice Ia 0 ic]; exact h
  obtain ⟨u2, hu2⟩ : ∃ u, u = u1.alloc (.cells #[.slice M 1 cM] 60) := ⟨_, rfl⟩
  have zu2 : u2.heap.size = w.heap.size + 1 + 1 := by rw [hu2]; simp [zu1]
  have hbu2 : Below w.heap.size w u2 := by rw [hu2]; exact hbu1.alloc hbu1.size _
  replace fSB := fSB.alloc (.cells #[.slice M 1 cM] 60)
  rw [← hu2] at fSB
  have fWB : Blk u2 (w.heap.size + 1) 60 [.slice M 1 cM] := by rw [hu2]; have h := Blk.new u1 60 [.slice M 1 cM]; rw [zu1] at h; exact h
  obtain ⟨u3, hu3⟩ : ∃ u, u = u2.alloc (.cells #[.string ⟨#[]⟩, .slice none 0 0, .slice none 0 0] 65) := ⟨_, rfl⟩
  have zu3 : u3.heap.size = w.heap.size + 1 + 1 + 1 := by rw [hu3]; simp [zu2]
  have hbu3 : Below w.heap.size w u3 := by rw [hu3]; exact hbu2.alloc hbu2.size _
  replace fSB := fSB.alloc (.cells #[.string ⟨#[]⟩, .slice none 0 0, .slice none 0 0] 65)
  rw [← hu3] at fSB
  replace fWB := fWB.alloc (.cells #[.string ⟨#[]⟩, .slice none 0 0, .slice none 0 0] 65)
  rw [← hu3] at fWB
  have fRB : Blk u3 (w.heap.size + 1 + 1) 65 [.string ⟨#[]⟩, .slice none 0 0, .slice none 0 0] := by rw [hu3]; have h := Blk.new u2 65 [.string ⟨#[]⟩, .slice none 0 0, .slice none 0 0]; rw [zu2] at h; exact h
  rw [← hu1, ← hu2, ← hu3]
  obtain ⟨RB, zRB⟩ : ∃ b, b = w.heap.size + 1 + 1 := ⟨_, rfl⟩
  obtain ⟨WB, zWB⟩ : ∃ b, b = w.heap.size + 1 := ⟨_, rfl⟩
  obtain ⟨SB, zSB⟩ : ∃ b, b = w.heap.size := ⟨_, rfl⟩
  rw [← zRB, ← zWB, ← zSB]
  rw [← zSB] at fSB
  rw [← zWB] at fWB
  rw [← zRB] at fRB
  clear hu1 hu2 hu3
  have HB := Lib.hid (And.intro hbu3 (And.intro fSB (And.intro fWB (And.intro fRB (show w.heap.size ≤ RB ∧ RB < u3.heap.size ∧ SB < u3.heap.size ∧ w.heap.size ≤ SB ∧ RB + 1 = u3.heap.size from ⟨by omega, by omega, by omega, by omega, by omega⟩)))))
  have c0 := fWB.cell 0
  have lw := fWB.lt
  have s0 := fSB.cell 0
  have s1 := fSB.cell 1
  have s2 := fSB.cell 2
  have ls := fSB.lt
  simp only [List.getElem?_cons_zero, List.getElem?_cons_succ] at c0 s0 s1 s2
  have CI := Lib.hid (begin_ok u3 Sa sc Ia ic M cM n F nf cF Ls nl cL fl lost (HE.out.1.keep (Same.any hbu3)) (HE.out.2.1.keep (Same.any hbu3)) HE.out.2.2.1)
  clear fSB fWB fRB zSB zWB zRB zu1 zu2 zu3 hbu1 hbu2 hbu3
  generalize u3 = W3 at *
  go_upto_region 4 with (go_at_call 35; refine CI.out.mono ?_; rintro e w4 ⟨rfl, hb4⟩; have HB4 := Lib.hid hb4; clear hb4)
  obtain ⟨W5, hW5⟩ : ∃ W5, W5 = w4.alloc (.cells #[str [65], .int .i64 (n : Nat), .slice F nf cF, .slice Ls nl cL] 99) := ⟨_, rfl⟩
  obtain ⟨MB, hMB⟩ : ∃ b, b = w4.heap.size := ⟨_, rfl⟩
  have hb5 : Below w4.heap.size w4 W5 := by rw [hW5]; exact (Below.refl _ _).alloc (Nat.le_refl _) _
  have fM := Blk.new w4 99 [str [65], .int .i64 (n : Nat), .slice F nf cF, .slice Ls nl cL]
  rw [← hW5, ← hMB] at fM
  rw [← hW5, ← hMB]
  have hb35 : Below W3.heap.size W3 W5 := HB4.out.trans (hb5.mono HB4.out.size)
  have fS := HB.out.2.1.below hb35 HB.out.2.1.lt
  have fR := HB.out.2.2.2.1.below hb35 HB.out.2.2.2.1.lt
  have q0 := fS.cell 0
  have m2 := fM.cell 2
  have lM := fM.lt
  have lS := fS.lt
  simp only [List.getElem?_cons_zero, List.getElem?_cons_succ] at q0 m2
  have H5 := Lib.hid (And.intro (HB.out.1.trans (hb35.mono HB.out.1.size)) (And.intro fS (And.intro fR fM)))
  clear fM fR fS c0 lw s0 s1 s2 ls hW5 hMB hb5 hb35
  go_upto_region 5 with (fail)
  obtain ⟨W6, hW6⟩ : ∃ W6, W6 = W5.alloc (.cells #[.string ⟨#[65]⟩, .slice none 0 0, .slice none 0 0] 65) := ⟨_, rfl⟩
  obtain ⟨OB, hOB⟩ : ∃ b, b = W5.heap.size := ⟨_, rfl⟩
  have hb6 : Below W5.heap.size W5 W6 := by rw [hW6]; exact (Below.refl _ _).alloc (Nat.le_refl _) _
  have fO : Blk W6 OB 65 [str [65], .slice none 0 0, .slice none 0 0] := by rw [hW6, hOB]; exact Blk.new _ _ _
  try rw [show (str [65] : Value) = .string ⟨#[65]⟩ from rfl]
  rw [← hW6, ← hOB]
  try rw [show (Value.string ⟨#[65]⟩) = str [65] from rfl]
  have hw5 := H5.out.1.size
  have H6 := Lib.hid (And.intro (H5.out.1.trans (hb6.mono H5.out.1.size)) (And.intro (H5.out.2.1.below hb6 H5.out.2.1.lt) (And.intro (H5.out.2.2.1.below hb6 H5.out.2.2.1.lt) (And.intro (H5.out.2.2.2.below hb6 H5.out.2.2.2.lt) (show SB < OB ∧ RB < OB ∧ w.heap.size ≤ OB from ⟨by have := H5.out.2.1.lt; omega, by have := H5.out.2.2.1.lt; omega, by omega⟩)))))
  have HR0 := Lib.hid (show SvRow W6 OB (str [65]) 0 [] from ⟨none, 0, fO, OwnList.nil _ _ _ _, rfl⟩)
  have m2' := H6.out.2.2.2.1.cell 2
  have lM' := H6.out.2.2.2.1.lt
  simp only [List.getElem?_cons_zero, List.getElem?_cons_succ] at m2'
  clear q0 m2 lM lS hW6 hOB hb6 fO hw5
  go_wp2_with (fail)
  clear m2' lM'
  have hlenT : (turnF S fl).length = nf := by unfold turnF; rw [List.length_map]; exact HE.out.2.1.hf.1.symm
  have HLT := Lib.hid hlenT
  clear hlenT
  go_loopw [28] (fun i wr => ∃ k : Nat, k ≤ nf ∧ i = .int .i64 (k : Nat) ∧ Hid (Below w.heap.size w wr ∧ Blk wr SB 65 [str [65], .slice Sa n sc, .slice Ia 0 ic] ∧ Blk wr RB 65 [.string ⟨#[]⟩, .slice none 0 0, .slice none 0 0]) ∧ Hid (SvRow wr OB (str [65]) k ((turnF S fl).take k))) (fun i _ => nf - (intOf i).toNat)
  case atStart => exact ⟨0, Nat.zero_le _, rfl, ⟨H6.out.1, H6.out.2.1, H6.out.2.2.1⟩, HR0.out⟩
  case round =>
    obtain ⟨k, hk, rfl, HF, HSR⟩ := hrel
    by_cases hlt : k < nf
    · obtain ⟨vss, hfr, hfa⟩ := HE.out.2.1.fr
      have hkl : k < fl.length := by have := HE.out.2.1.hf.1; omega
      obtain ⟨b1, o1, cs, rfl, hD, ⟨A4, c4, rfl, hv, _⟩, hcell⟩ := (hfr.keep (Same.any HF.out.1)).elem FdCells.stable (hfa.imp fun x y hxy => FdCells.stable.keep hxy (Same.any HF.out.1)) HE.out.2.1.hf.1 hkl
      have hsrc := HE.out.2.2.1.2.1 fl[k] (List.getElem_mem hkl)
      have htk : Hid ((turnF S fl).take (k + 1) = (turnF S fl).take k ++ [if 0 ≤ fl[k].src then S.getD fl[k].src.toNat zeroV else fl[k].val]) := by
        unfold Hid
        rw [List.take_succ_eq_append_getElem (by unfold turnF; simpa using hkl)]
        congr 2
        unfold turnF
        rw [List.getElem_map]
      generalize fl[k] = f at hcell hv hsrc htk
      obtain ⟨fs, fv⟩ := f
      obtain ⟨xk, xn, xt, xa⟩ := fv
      simp only [V.kind, V.num, V.text, V.args] at hcell hv hsrc htk
      have g0 := hcell 0 _ rfl
      have g1 := hcell 1 _ rfl
      have g2 := hcell 2 _ rfl
      have g3 := hcell 3 _ rfl
      have g4 := hcell 4 _ rfl
      simp only [Nat.add_zero, ← Nat.add_assoc] at g0 g1 g2 g3 g4
      have l4 := lt_of_cell g0
      have HV := Lib.hid hv
      obtain ⟨A3, c3, hO, hown, hlen⟩ := HSR.out
      clear hcell hv hfr hfa
      rcases hsrc with rfl | ⟨hs0, hs1⟩
      · rw [if_neg (by omega)] at htk
        
        go_upto_region 11 with (fail)
        obtain ⟨w6, hw6⟩ : ∃ w6, w6 = (wr.alloc (.cells #[.int .i64 (-1), .int .i64 xk, .int .i64 xn, .string xt, .slice A4 xa.length c4] 104)).alloc (.cells #[.int .i64 xk, .int .i64 xn, .string xt, .slice A4 xa.length c4] 47) := ⟨_, rfl⟩
        obtain ⟨VB, hVB⟩ : ∃ b, b = wr.heap.size + 1 := ⟨_, rfl⟩
        have hb6 : Below wr.heap.size wr w6 := by rw [hw6]; exact ((Below.refl _ _).alloc (Nat.le_refl _) _).alloc (by simp) _
        have fV : Blk w6 VB 47 [.int .i64 xk, .int .i64 xn, .string xt, .slice A4 xa.length c4] := by
          rw [hw6, hVB]
          have h := Blk.new (wr.alloc (.cells #[.int .i64 (-1), .int .i64 xk, .int .i64 xn, .string xt, .slice A4 xa.length c4] 104)) 47 [.int .i64 xk, .int .i64 xn, .string xt, .slice A4 xa.length c4]
          rwa [show (wr.alloc (.cells #[.int .i64 (-1), .int .i64 xk, .int .i64 xn, .string xt, .slice A4 xa.length c4] 104)).heap.size = wr.heap.size + 1 by simp] at h
        rw [← hw6, ← hVB]
        have hO6 := hO.below hb6 hO.lt
        have hown6 := hown.keep (VCells.stable 10) (Same.any hb6)
        have H6x := Lib.hid (And.intro hO6 (And.intro hown6 (And.intro hlen hb6)))
        have C := Lib.hid (fun (W : World) (hW : W.heap = w6.heap) => copyV_any 10 (V.mk xk xn xt xa) _ _ W Any (((HV.out.le (by omega)).keep (Same.any hb6)).keep (Same.of_heap hW)))
        simp only [V.kind, V.num, V.text, V.args] at C
        have v0 := fV.cell 0
        have v1 := fV.cell 1
        have v2 := fV.cell 2
        have v3 := fV.cell 3
        have lV := fV.lt
        have o1' := hO6.cell 1
        have fo1 := hO6.frozen 1
        have lO := hO6.lt
        simp only [List.getElem?_cons_zero, List.getElem?_cons_succ] at v0 v1 v2 v3 o1'
        have hS1 : ((turnF S fl).take k).length ≤ 1000 := by omega
        have HO6 := Lib.hid hown6
        clear hw6 hVB hb6 fV hO hown hO6 hown6
        go_region_law
          (first
            | (rw [if_pos (by simp [Region.wanted])]; unfold Oper.wp; go_simp; go_at_call 36; refine (C.out w6.drew rfl).mono ?_; unfold ValPost; rintro e w1 ⟨hb1, A5, c5, rfl, hv4⟩; dsimp only; simp only [V.kind, V.num, V.text, V.args, vl] at hv4 ⊢; have hb1' := below_undrew hb1; have cO1 := H6x.out.1.below hb1' H6x.out.1.lt; have k1 := cO1.cell 1; have fk1 := cO1.frozen 1; have lk1 := cO1.lt; have k1a : ∀ o, (w1.alloc o).cell? ⟨OB, 1, none⟩ = some (.slice A3 k c3) := fun o => (cO1.alloc o).cell 1; simp only [List.getElem?_cons_zero, List.getElem?_cons_succ] at k1; have hown1 := HO6.out.keep (VCells.stable 10) (Same.any hb1'); have hs1 : w6.heap.size ≤ w1.heap.size := hb1'.size; have hlen6 := H6x.out.2.2.1; obtain ⟨vs1, ho1, ha1⟩ := hown1; rw [hlen6] at ho1; have HH1 := Lib.hid (And.intro hb1' (And.intro hv4 ha1)))
            | (refine step_app_Vl _ rfl (.tmp 44) (.tmp 47) (by rfl) (ho1.alloc _) rfl (Reads.new (D := Any) _ [.int .i64 xk, .int .i64 xn, .string xt, .slice A5 xa.length c5] 4 1 _ trivial rfl) rfl (by simp [Value.oneCell']) (by omega) (by simp; omega) ?_; intro v2' w2 hown2 hg2 hat2; obtain ⟨A7, c7, rfl, hn5⟩ := own_form hown2; have cO2 := (cO1.alloc (.cells #[.int .i64 xk, .int .i64 xn, .string xt, .slice A5 xa.length c5] 47)).grown hg2 (fun e => by have := (ho1.lt _ e.symm).1; omega); have k1c := cO2.cell 1; have f1c := cO2.frozen 1; have l1c := cO2.lt; simp only [List.getElem?_cons_zero, List.getElem?_cons_succ] at k1c))
        all_goals go_wp2_with (fail)
        all_goals
          obtain ⟨st1, st2⟩ := SvRow.step H6x.out.1 H6x.out.2.1 H6x.out.2.2.1 HH1.out.1 HH1.out.2.1 HH1.out.2.2 hown2 hg2 hat2
          have hz := H6.out.2.2.2.2
          have hb6' := H6x.out.2.2.2
          have hbw := HF.out.1.trans (hb6'.mono HF.out.1.size)
          have fS6 := HF.out.2.1.below hb6' HF.out.2.1.lt
          have fR6 := HF.out.2.2.below hb6' HF.out.2.2.lt
          exact ⟨⟨k + 1, by omega, by go_num, ⟨hbw.trans (st2.mono hz.2.2), (st2.block SB hz.1).trans fS6, (st2.block RB hz.2.1).trans fR6⟩, by rw [htk.out]; exact st1⟩, by simp [intOf]; omega⟩
      · obtain ⟨j, rfl⟩ : ∃ j : Nat, fs = (j : Nat) := ⟨fs.toNat, by omega⟩
        have hjn : j < n := by omega
        rw [if_pos hs0, Int.toNat_natCast] at htk
        have hSw := HE.out.2.2.2.keep (Same.any HF.out.1)
        have hjS : j < S.length := by obtain ⟨_, h1, _⟩ := HE.out.2.2.2; omega
        obtain ⟨b2, o2, A8, c8, rfl, _, hzv, p0, p1, p2, p3⟩ := hSw.elem hjn hjS
        have hge : S.getD j zeroV = S[j] := by rw [List.getD_eq_getElem?_getD, List.getElem?_eq_getElem hjS]; rfl
        rw [hge] at htk
        generalize S[j] = z at hzv p0 p1 p2 p3 htk
        obtain ⟨zk, zn, zt, za⟩ := z
        simp only [V.kind, V.num, V.text, V.args] at hzv p0 p1 p2 p3
        have HZ := Lib.hid hzv
        have l5 := lt_of_cell p0
        have s1x := HF.out.2.1.cell 1
        have lsx := HF.out.2.1.lt
        simp only [List.getElem?_cons_zero, List.getElem?_cons_succ] at s1x
        have i1 : (0 : Int) ≤ (j : Int) := by omega
        have i2 : (j : Int) < (n : Int) := by omega
        have i3 : decide ((0 : Int) ≤ (j : Int)) = true := by simp
        clear hzv hSw hge hs0 hs1
        
        go_upto_region 11 with (fail)
        obtain ⟨w6, hw6⟩ : ∃ w6, w6 = (wr.alloc (.cells #[.int .i64 (j : Nat), .int .i64 xk, .int .i64 xn, .string xt, .slice A4 xa.length c4] 104)).alloc (.cells #[.int .i64 zk, .int .i64 zn, .string zt, .slice A8 za.length c8] 47) := ⟨_, rfl⟩
        obtain ⟨VB, hVB⟩ : ∃ b, b = wr.heap.size + 1 := ⟨_, rfl⟩
        have hb6 : Below wr.heap.size wr w6 := by rw [hw6]; exact ((Below.refl _ _).alloc (Nat.le_refl _) _).alloc (by simp) _
        have fV : Blk w6 VB 47 [.int .i64 zk, .int .i64 zn, .string zt, .slice A8 za.length c8] := by
          rw [hw6, hVB]
          have h := Blk.new (wr.alloc (.cells #[.int .i64 (j : Nat), .int .i64 xk, .int .i64 xn, .string xt, .slice A4 xa.length c4] 104)) 47 [.int .i64 zk, .int .i64 zn, .string zt, .slice A8 za.length c8]
          rwa [show (wr.alloc (.cells #[.int .i64 (j : Nat), .int .i64 xk, .int .i64 xn, .string xt, .slice A4 xa.length c4] 104)).heap.size = wr.heap.size + 1 by simp] at h
        rw [← hw6, ← hVB]
        have hO6 := hO.below hb6 hO.lt
        have hown6 := hown.keep (VCells.stable 10) (Same.any hb6)
        have H6x := Lib.hid (And.intro hO6 (And.intro hown6 (And.intro hlen hb6)))
        have C := Lib.hid (fun (W : World) (hW : W.heap = w6.heap) => copyV_any 10 (V.mk zk zn zt za) _ _ W Any (((HZ.out).keep (Same.any hb6)).keep (Same.of_heap hW)))
        simp only [V.kind, V.num, V.text, V.args] at C
        have v0 := fV.cell 0
        have v1 := fV.cell 1
        have v2 := fV.cell 2
        have v3 := fV.cell 3
        have lV := fV.lt
        have o1' := hO6.cell 1
        have fo1 := hO6.frozen 1
        have lO := hO6.lt
        simp only [List.getElem?_cons_zero, List.getElem?_cons_succ] at v0 v1 v2 v3 o1'
        have hS1 : ((turnF S fl).take k).length ≤ 1000 := by omega
        have HO6 := Lib.hid hown6
        clear hw6 hVB hb6 fV hO hown hO6 hown6
        go_region_law
          (first
            | (rw [if_pos (by simp [Region.wanted])]; unfold Oper.wp; go_simp; go_at_call 36; refine (C.out w6.drew rfl).mono ?_; unfold ValPost; rintro e w1 ⟨hb1, A5, c5, rfl, hv4⟩; dsimp only; simp only [V.kind, V.num, V.text, V.args, vl] at hv4 ⊢; have hb1' := below_undrew hb1; have cO1 := H6x.out.1.below hb1' H6x.out.1.lt; have k1 := cO1.cell 1; have fk1 := cO1.frozen 1; have lk1 := cO1.lt; have k1a : ∀ o, (w1.alloc o).cell? ⟨OB, 1, none⟩ = some (.slice A3 k c3) := fun o => (cO1.alloc o).cell 1; simp only [List.getElem?_cons_zero, List.getElem?_cons_succ] at k1; have hown1 := HO6.out.keep (VCells.stable 10) (Same.any hb1'); have hs1 : w6.heap.size ≤ w1.heap.size := hb1'.size; have hlen6 := H6x.out.2.2.1; obtain ⟨vs1, ho1, ha1⟩ := hown1; rw [hlen6] at ho1; have HH1 := Lib.hid (And.intro hb1' (And.intro hv4 ha1)))
            | (refine step_app_Vl _ rfl (.tmp 44) (.tmp 47) (by rfl) (ho1.alloc _) rfl (Reads.new (D := Any) _ [.int .i64 zk, .int .i64 zn, .string zt, .slice A5 za.length c5] 4 1 _ trivial rfl) rfl (by simp [Value.oneCell']) (by omega) (by simp; omega) ?_; intro v2' w2 hown2 hg2 hat2; obtain ⟨A7, c7, rfl, hn5⟩ := own_form hown2; have cO2 := (cO1.alloc (.cells #[.int .i64 zk, .int .i64 zn, .string zt, .slice A5 za.length c5] 47)).grown hg2 (fun e => by have := (ho1.lt _ e.symm).1; omega); have k1c := cO2.cell 1; have f1c := cO2.frozen 1; have l1c := cO2.lt; simp only [List.getElem?_cons_zero, List.getElem?_cons_succ] at k1c))
        all_goals go_wp2_with (fail)
        all_goals
          obtain ⟨st1, st2⟩ := SvRow.step H6x.out.1 H6x.out.2.1 H6x.out.2.2.1 HH1.out.1 HH1.out.2.1 HH1.out.2.2 hown2 hg2 hat2
          have hz := H6.out.2.2.2.2
          have hb6' := H6x.out.2.2.2
          have hbw := HF.out.1.trans (hb6'.mono HF.out.1.size)
          have fS6 := HF.out.2.1.below hb6' HF.out.2.1.lt
          have fR6 := HF.out.2.2.below hb6' HF.out.2.2.lt
          exact ⟨⟨k + 1, by omega, by go_num, ⟨hbw.trans (st2.mono hz.2.2), (st2.block SB hz.1).trans fS6, (st2.block RB hz.2.1).trans fR6⟩, by rw [htk.out]; exact st1⟩, by simp [intOf]; omega⟩
    · obtain rfl : k = nf := by omega
      obtain ⟨A3, c3, hO, hown, hlen⟩ := HSR.out
      rw [List.take_of_length_le (by have := HLT.out; omega)] at hown
      have fR := HF.out.2.2
      have x0 := hO.cell 0
      have x1 := hO.cell 1
      have x2 := hO.cell 2
      have lO := hO.lt
      have r0 := fR.cell 0
      have r1 := fR.cell 1
      have r2 := fR.cell 2
      have z0 := fR.frozen 0
      have z1 := fR.frozen 1
      have z2 := fR.frozen 2
      have lR := fR.lt
      simp only [List.getElem?_cons_zero, List.getElem?_cons_succ] at x0 x1 x2 r0 r1 r2
      have HO := Lib.hid hown
      clear hO hown hlen fR
      go_wp2_with (fail)
      have hz := HB.out.2.2.2.2.1
      have hz6 := H6.out.2.2.2.2
      have hB := ((HF.out.2.2.put 0 (str [65])).put 1 (.slice A3 k c3)).put 2 (.slice none 0 0)
      have hbe := ((HF.out.1.setCell (p := ⟨RB, 0, none⟩) hz (str [65])).setCell (p := ⟨RB, 1, none⟩) hz (.slice A3 k c3)).setCell (p := ⟨RB, 2, none⟩) hz (.slice none 0 0)
      refine ret_blk_tmp rfl rfl hB Try.underlying65 (by kernel_rfl) rfl ?_
      have hl := HLT.out
      have hv := VsRd.of_own HO.out (by omega)
      unfold TurnPost
      rw [hl]
      refine ⟨⟨A3, c3, rfl, ?_⟩, hbe⟩
      refine (hv.keep fun b hb _ => ?_).imp fun b hb _ => by have h1 : OB + 1 ≤ b := hb; omega
      have hne : b ≠ RB := by have h1 : OB + 1 ≤ b := hb; omega
      rw [Below.heap_setCell _ _ _ _ hne, Below.heap_setCell _ _ _ _ hne, Below.heap_setCell _ _ _ _ hne]
end Go.Proofs.Ytoddjdajjmcliaa
