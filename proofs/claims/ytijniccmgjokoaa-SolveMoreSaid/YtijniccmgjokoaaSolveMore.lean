/- SolveMore's walk. -/
import Derived.Test.YtijniccmgjokoaaSolveGood
set_option linter.unusedVariables false
namespace Go.Proofs.Ytijniccmgjokoaa
open Go.RowKit Go.Mem Go.Sv Go.Maps
set_option maxRecDepth 100000 in
/-- slices.Clone at modules -/
theorem clone_ms (A : Option Addr) (n c : Nat) (ms : List Md) (w : World) (h : MdsAt w Any A n c ms) (hn1 : n ≤ 1000) :
    Calls Try.prog 15 #[.slice A n c] w fun e w' => ∃ A' c', ∃ vss : List (List Value), e = .returned (.slice A' n c') ∧ w'.ownsRow w.heap.size 45 3 (.slice A' n c') n vss.flatten ∧ All2 (MdCells w' (fun b => b < w.heap.size)) vss ms ∧ Below w.heap.size w w' := by
  have hn := h.imp (D' := fun b => b < w.heap.size) fun b _ hl => hl
  obtain ⟨vss, hnl, hnc, hcm, hr, ha⟩ := hn
  have HA := Lib.hid (And.intro hnl ha)
  have hones : ∀ u ∈ vss.flatten, u.oneCell' = true := fun u hu => by
    obtain ⟨cs, hcs, hu⟩ := List.mem_flatten.1 hu
    obtain ⟨i, hi, rfl⟩ := List.mem_iff_getElem.1 hcs
    have hi2 : i < ms.length := by rw [← ha.1]; exact hi
    exact MdCells.stable.one (ha.2 i _ _ (List.getElem?_eq_getElem hi) (List.getElem?_eq_getElem hi2)) u hu
  have HO := Lib.hid hones
  have q : ∀ (w : World) (a : Option Addr) (n c : Nat), (binOp .eql 37 (.slice a n c) (.slice none 0 0)).run Try.prog w = .ok (.bool a.isNone) w := fun w a n c => Lib.run_eql_slice_nil w _ _ a n c 0 0 Try.underlying37
  clear h ha hones hnl
  rcases A with _ | ad
  · obtain rfl := hr.nil_len
    go_enter Try.func15, Try.ntmps15
    go_wp2
    go_ret
    have hx : vss.flatten = [] := List.eq_nil_of_length_eq_zero (by simpa using hr.1)
    exact ⟨none, 0, vss, rfl, by rw [hx]; exact World.ownsRow_nil _ _ _ _, HA.out.2, Below.refl _ _⟩
  · go_enter Try.func15, Try.ntmps15
    go_wp2_with (at_builtin; refine app_md _ rfl (.tmp 5) (.tmp 6) rfl (World.ownsRow_made w #[] 0 (Nat.le_refl _) (Nat.zero_le _) rfl) rfl (hr.keep (Same.alloc _ _ _)) rfl HO.out (by omega) (by simp) ?_; intro v1 w1 hown1 hg1 hat1)
    go_ret
    simp only [Nat.zero_add, List.nil_append] at hown1
    obtain ⟨A1, c1, rfl, _⟩ := own_form hown1
    have hb : Below w.heap.size w w1 := ((Below.refl _ _).alloc (Nat.le_refl _) _).grown hg1 (by simp) (by simp [Value.ownBlock])
    exact ⟨A1, c1, vss, rfl, hown1, HA.out.2.imp fun x y hxy => MdCells.stable.keep hxy fun b hb' _ => hb.block b hb', hb⟩
def zMd (v : Nat) : Md := ⟨[122], 1 + v, [⟨[97], 9, 9⟩]⟩
theorem ae_ne {n : Nm} (h : AE n) : n ≠ [122] := by
  obtain ⟨c, rfl, _, h2⟩ := h
  intro e
  injection e with e
  subst e
  exact absurd h2 (by decide)
theorem more_ok {ms : List Md} (h : RegOk 20 ms) {v : Nat} (hv : v < 100) : MsOk (ms ++ [zMd v]) := by
  have hm := h.ms
  refine ⟨fun m hm' => ?_, fun m hm' => ?_, fun m hm' => ?_, ?_, by rw [List.length_append, List.length_singleton]; have := h.ln; omega⟩
  · rcases List.mem_append.1 hm' with h1 | h1
    · exact hm.nm m h1
    · rw [List.mem_singleton] at h1
      subst h1
      exact ⟨122, rfl, by decide, by decide⟩
  · rcases List.mem_append.1 hm' with h1 | h1
    · exact hm.vr m h1
    · rw [List.mem_singleton] at h1
      subst h1
      simp only [zMd]
      omega
  · rcases List.mem_append.1 hm' with h1 | h1
    · exact hm.us m h1
    · rw [List.mem_singleton] at h1
      subst h1
      refine ⟨by simp [zMd], fun u hu => ?_⟩
      simp [zMd] at hu
      subst hu
      exact ⟨⟨97, rfl, by decide, by decide⟩, by simp, by simp, by simp⟩
  · rw [List.pairwise_append]
    refine ⟨h.od, by simp, fun x hx y hy => ?_⟩
    rw [List.mem_singleton] at hy
    subst hy
    obtain ⟨k, h1, h2, _⟩ := h.ka x hx
    obtain ⟨c, h3, _, h4⟩ := chr_ae (k / 4) (by omega)
    rw [h3] at h2
    refine .inl ?_
    rw [h2]
    show ([c] : List UInt8) < [122]
    rw [lt_one]
    show c.toNat < (122 : UInt8).toNat
    have : (122 : UInt8).toNat = 122 := by decide
    omega
theorem more_same {ms : List Md} {root : List Us} (h : RegOk 20 ms) (hr : ∀ u ∈ root, UsAE u) (first : List Pk) (v : Nat) : bestF (ms ++ [zMd v]) root first = bestF ms root first :=
  best_more (fun m hm u hu => ae_ne ((h.gd m hm).ae u hu).1) (fun u hu => ae_ne (hr u hu).1)
/-- behind append(clone, z) -/
theorem more_mds {w3 w4 w9 : World} {A9 A' : Option Addr} {n c' c9 v : Nat} {ms : List Md} {vss : List (List Value)} {o : Obj} (hn : n = ms.length) (hown : w4.ownsRow w3.heap.size 45 3 (.slice A' n c') n vss.flatten) (ha : All2 (MdCells w4 (fun b => b < w3.heap.size)) vss ms) (hb : w3.heap.size ≤ w4.heap.size)
    (hg : ((w4.alloc (.cells (usc ⟨[97], 9, 9⟩).toArray 47)).alloc o).grownBy w9 (Value.slice A' n c').ownBlock) (hown9 : w9.ownsRow w3.heap.size 45 3 (.slice A9 (n + 1) c9) (n + 1) (vss.flatten ++ [str [122], .int .i64 ((1 + v : Nat) : Int), .slice (some ⟨w4.heap.size, 0, none⟩) 1 1])) :
    MdsAt w9 Any A9 (n + 1) c9 (ms ++ [zMd v]) := by
  obtain ⟨q1, q2, q3⟩ := own_reads (by omega) hown9
  have hfl : (vss ++ [[str [122], .int .i64 ((1 + v : Nat) : Int), .slice (some ⟨w4.heap.size, 0, none⟩) 1 1]]).flatten = vss.flatten ++ [str [122], .int .i64 ((1 + v : Nat) : Int), .slice (some ⟨w4.heap.size, 0, none⟩) 1 1] := by simp
  refine ⟨vss ++ [[str [122], .int .i64 ((1 + v : Nat) : Int), .slice (some ⟨w4.heap.size, 0, none⟩) 1 1]], by simp [hn], q1, q2, by rw [hfl]; exact q3.imp (by omega) fun _ _ _ => trivial, ?_⟩
  refine all2_append (ha.imp fun x y hxy => ?_) (all2_one ?_)
  · refine MdCells.stable.imp (D := fun b => b < w3.heap.size) (MdCells.stable.keep hxy fun b hb' hl => ?_) fun _ _ _ => trivial
    have hb2 : b < w3.heap.size := hb'
    rw [hg.block b (by simp; omega) (fun e => by have := (hown.lt b e.symm).1; omega)]
    exact (Below.heap_alloc _ _ b (by simp; omega)).trans (Below.heap_alloc _ _ b (by omega))
  · refine ⟨_, 1, 1, rfl, rfl, Nat.le_refl _, by unfold maxLen; omega, ?_⟩
    have r1 : Reads (w4.alloc (.cells (usc ⟨[97], 9, 9⟩).toArray 47)) (fun b => b = w4.heap.size) 3 (some ⟨w4.heap.size, 0, none⟩) 1 (uss [⟨[97], 9, 9⟩]) := Reads.new w4 (usc ⟨[97], 9, 9⟩) 3 1 47 (fun b => b = w4.heap.size) rfl rfl
    refine (r1.keep fun b hb' hl => ?_).imp (by omega) fun _ _ _ => trivial
    have hb2 : b = w4.heap.size := hb'
    rw [hg.block b (by simp; omega) (fun e => by have := (hown.lt b e.symm).2; omega)]
    exact Below.heap_alloc _ _ b (by simp; omega)
set_option maxRecDepth 100000 in
set_option maxHeartbeats 2000000 in
theorem solveMore_any (w : World) (A0 : Option Addr) (n0 c0 : Nat) (s0 : List Int) (A1 : Option Addr) (n1 c1 : Nat) (s1 : List Int) (a2 : Int)
    (hn0 : n0 = s0.length) (hm0 : n0 ≤ maxLen) (hr0 : Reads w Any 1 A0 n0 (nums s0)) (hl0 : ∀ x ∈ s0, I64 x) (hn1 : n1 = s1.length) (hm1 : n1 ≤ maxLen) (hr1 : Reads w Any 1 A1 n1 (nums s1)) (hl1 : ∀ x ∈ s1, I64 x) (h2 : I64 a2) :
    Calls Try.prog 4 #[.slice A0 n0 c0, .slice A1 n1 c1, .int .i64 a2] w fun e w' => e = .returned (.bool true) ∧ Below w.heap.size w w' := by
  have RG := Lib.hid (registerOf_any A0 n0 c0 s0 w hr0 hn0 hm0 hl0)
  have RT := Lib.hid (fun w1 (hb : Below w.heap.size w w1) => rootOf_any A1 n1 c1 s1 w1 (hr1.keep (Same.any hb)) hn1 hm1 hl1)
  have R0 := Lib.hid (fun W => rest_q a2 100 W ((rsN a2 100 : Nat) : Int) h2 (by omega) (by omega) (rsN_eq _ _ (by omega)))
  have b0 := rsN_lt a2 100 (by omega)
  generalize rsN a2 100 = q0 at R0 b0
  have w0 : IntKind.i64.wrap (1 + (q0 : Int)) = 1 + (q0 : Int) := IntWalk.i64_in _ (by omega)
  clear hn0 hm0 hr0 hl0 hn1 hm1 hr1 hl1 h2
  go_enter Try.func4, Try.ntmps4
  go_wp2_with (fail)
  refine RG.out.mono ?_
  rintro e w1 ⟨A, c, ms, rfl, hrow, hreg, hb1⟩
  have HB1 := Lib.hid hb1
  have H1 := Lib.hid (And.intro (RegRow.mds hrow) hreg)
  clear hrow hreg hb1 RG
  go_wp2_with (fail)
  refine (RT.out w1 HB1.out).mono ?_
  rintro e w2 ⟨B, d, root, rfl, hown, h3, hae⟩
  have HB2 := Lib.hid (HB1.out.trans (hown.2.mono HB1.out.size))
  have G2 := Lib.hid (show Got w2 A c ms B d root from ⟨H1.out.1.keep (Same.any hown.2), hown.holds, H1.out.2, h3, hae⟩)
  clear hown h3 hae RT H1
  go_wp2_with (fail)
  refine (G2.out.best (A2 := none) (c2 := 0) (first := []) Reads.empty (by simp)).mono ?_
  obtain ⟨R, hR⟩ : ∃ R, R = bestF ms root [] := ⟨_, rfl⟩
  rw [← hR]
  have HR := Lib.hid hR
  clear hR
  unfold BestPost
  rintro e w3 ⟨hb3, hnone, hsome⟩
  have HB3 := Lib.hid (HB2.out.trans (hb3.mono HB2.out.size))
  have G3 := Lib.hid (G2.out.below hb3)
  have he : ∃ A9 n9 c9 z, ∃ x : List Pk, e = .returned (.tuple #[.slice A9 n9 c9, .int .i64 z]) ∧ n9 = x.length ∧ x.length ≤ 30 ∧ Reads w3 Any 2 A9 n9 (pks x) ∧ ((z = 22 ∧ R = none ∧ x = []) ∨ (z = 0 ∧ R = some x)) := by
    cases R with
    | none => exact ⟨_, _, _, _, [], hnone rfl, rfl, by simp, Reads.empty, .inl ⟨rfl, rfl, rfl⟩⟩
    | some x =>
      obtain ⟨A2, c2, he, _, _, hx⟩ := hsome x rfl
      exact ⟨_, _, _, _, x, he, rfl, best_len G2.out.ok.ms HR.out.symm, hx.imp (by omega) fun _ _ _ => trivial, .inr ⟨rfl, rfl⟩⟩
  obtain ⟨A9, n9, c9, z, x, rfl, hn9, hx30, hxr, hz⟩ := he
  have HX := Lib.hid (And.intro hn9 hxr)
  have HZ := Lib.hid hz
  have CL := Lib.hid (clone_ms A ms.length c ms w3 G3.out.md (by have := G3.out.ok.ln; omega))
  clear hb3 hnone hsome hz hxr
  go_wp2_with (fail)
  refine CL.out.mono ?_
  rintro e w4 ⟨A', c', vss, rfl, hown4, hall4, hb4⟩
  have H4 := Lib.hid (And.intro hown4 (And.intro hall4 hb4))
  have hb4s := hb4.size
  have hmsl := G3.out.ok.ln
  clear hown4 hall4 hb4 CL
  go_wp2_with (fail)
  refine (R0.out _).mono ?_
  rintro e w' ⟨rfl, rfl⟩
  go_wp2_with (at_builtin; refine app_md _ rfl (.tmp 25) (.tmp 32) rfl ((H4.out.1.alloc (.cells (usc ⟨[97], 9, 9⟩).toArray 47)).alloc (.cells [str [122], .int .i64 ((1 + q0 : Nat) : Int), .slice (some ⟨w4.heap.size, 0, none⟩) 1 1].toArray 45)) rfl (A := some ⟨w4.heap.size + 1, 0, none⟩) (m := 1) (news := [str [122], .int .i64 ((1 + q0 : Nat) : Int), .slice (some ⟨w4.heap.size, 0, none⟩) 1 1]) (D := Any) (by have h := Reads.new (D := Any) (w4.alloc (.cells (usc ⟨[97], 9, 9⟩).toArray 47)) [str [122], .int .i64 ((1 + q0 : Nat) : Int), .slice (some ⟨w4.heap.size, 0, none⟩) 1 1] 3 1 45 trivial rfl; rw [show (w4.alloc (.cells (usc ⟨[97], 9, 9⟩).toArray 47)).heap.size = w4.heap.size + 1 by simp] at h; exact h) rfl (by simp [Value.oneCell']) (by omega) (by simp; omega) ?_; intro v5 w5 hown5 hg5 hat5; obtain ⟨A5, c5, rfl, hc5, hc5m⟩ := own_form hown5; have HM5 := Lib.hid (more_mds (v := q0) rfl H4.out.1 H4.out.2.1 hb4s hg5 hown5); have HB45 := Lib.hid (show Below w3.heap.size w3 w5 from H4.out.2.2.trans (Below.mono (show Below w3.heap.size w4 w5 from ((Below.refl _ w4).alloc hb4s _ |>.alloc (by simp; omega) _).grown hg5 (by simp; omega) (fun k hk => (H4.out.1.lt k hk).1)) (Nat.le_refl _))); clear hown5 hg5 hat5)
  have HMok := Lib.hid (more_ok (v := q0) G3.out.ok (by omega))
  have B5 := best_any w5 A5 (ms.length + 1) c5 (ms ++ [zMd q0]) B root.length d root none 0 0 [] HM5.out HMok.out (G3.out.below HB45.out).rt.2.2 rfl G3.out.rt.1 G3.out.rt.2.1 (by have := G3.out.r3; omega) G3.out.rok Reads.empty rfl (by omega)
  rw [more_same G3.out.ok G3.out.ae, ← HR.out] at B5
  refine B5.mono ?_
  clear B5
  unfold BestPost
  rintro e w6 ⟨hb6, hnone6, hsome6⟩
  have HB6 := Lib.hid ((HB3.out.trans (HB45.out.mono HB3.out.size)).trans (hb6.mono (by have := HB3.out.size; have := HB45.out.size; omega)))
  have HX6 := Lib.hid (HX.out.2.keep (Same.any (HB45.out.trans (hb6.mono HB45.out.size))))
  have he6 : ∃ A8 c8, e = .returned (.tuple #[.slice A8 x.length c8, .int .i64 z]) ∧ Reads w6 Any 2 A8 x.length (pks x) := by
    rcases HZ.out with ⟨rfl, hRn, rfl⟩ | ⟨rfl, hRs⟩
    · exact ⟨_, _, hnone6 hRn, Reads.empty⟩
    · obtain ⟨A8, c8, he8, _, _, hx8⟩ := hsome6 x hRs
      exact ⟨A8, c8, he8, hx8.imp (by omega) fun _ _ _ => trivial⟩
  obtain ⟨A8, c8, rfl, hx8⟩ := he6
  have HX8 := Lib.hid hx8
  have SV := solved_any w6
  clear hb6 hnone6 hsome6 hx8
  go_wp2_with (fail)
  refine SV.mono ?_
  rintro e w7 ⟨rfl, hb7⟩
  have HB7 := Lib.hid (HB6.out.trans (hb7.mono HB6.out.size))
  have EQ := Lib.hid (equal_pks A9 A8 x.length c9 c8 x w7 (by have := HX6.out.keep (Same.any hb7); rwa [HX.out.1] at this) (HX8.out.keep (Same.any hb7)) (by omega) rfl)
  clear hb7
  subst hn9
  go_wp2_with (fail)
  refine EQ.out.mono ?_
  rintro e w8 ⟨rfl, hb8⟩
  go_wp2_with (fail)
  go_ret
  exact ⟨rfl, HB7.out.trans (hb8.mono HB7.out.size)⟩
end Go.Proofs.Ytijniccmgjokoaa
