/- LockStays's walk. -/
import Derived.Test.YtijniccmgjokoaaLkAnewAll
set_option linter.unusedVariables false
namespace Go.Proofs.Ytijniccmgjokoaa
open Go.RowKit Go.Mem Go.Sv Go.Maps
theorem best_pkok {ms : List Md} {root : List Us} {first x : List Pk} (h : RegOk 20 ms) (hb : bestF ms root first = some x) : PkOk x ∧ ∀ p ∈ x, AE p.1 := by
  have hl := best_len h.ms hb
  obtain ⟨r, _, rfl, hw, hT⟩ := best_some hb
  have key : ∀ p ∈ picksF r, ∃ m ∈ ms, p = (m.name, m.ver) := fun p hp => by
    obtain ⟨m, h1, h2⟩ := (mem_picks hT.nd).1 hp
    exact ⟨m, hT.sub m h1, h2⟩
  have ae : ∀ p ∈ picksF r, AE p.1 := fun p hp => by
    obtain ⟨m, h1, rfl⟩ := key p hp
    obtain ⟨k, h2, h3, _⟩ := h.ka m h1
    have := chr_ae (k / 4) (by omega)
    rw [← h3] at this
    exact this
  refine ⟨⟨hl, fun p hp => (ae p hp).letter, fun p hp => ?_, picks_asc hT.nd⟩, ae⟩
  obtain ⟨m, h1, rfl⟩ := key p hp
  obtain ⟨k, h2, _, h3⟩ := h.ka m h1
  simp only
  omega
theorem best_nil {ms : List Md} {root : List Us} {first x : List Pk} (hm : MsOk ms) (h : bestF ms root first = some x) : ∃ y, bestF ms root [] = some y := by
  cases h2 : bestF ms root [] with
  | some y => exact ⟨y, rfl⟩
  | none => exact absurd (best_right hm h) (best_none (first := []) hm h2)
def fiveS : List Nm := [[97], [98], [99], [100], [101]]
theorem ae_five {n : Nm} (h : AE n) : n ∈ fiveS := by
  obtain ⟨c, rfl, h1, h2⟩ := h
  have h3 : c.toNat = 97 ∨ c.toNat = 98 ∨ c.toNat = 99 ∨ c.toNat = 100 ∨ c.toNat = 101 := by omega
  have key : ∀ d : UInt8, c.toNat = d.toNat → c = d := fun d hd => UInt8.toNat_inj.1 hd
  rcases h3 with h3 | h3 | h3 | h3 | h3
  · rw [key 97 h3]; decide
  · rw [key 98 h3]; decide
  · rw [key 99 h3]; decide
  · rw [key 100 h3]; decide
  · rw [key 101 h3]; decide
set_option maxRecDepth 100000 in
set_option maxHeartbeats 2000000 in
theorem lockStays_any (w : World) (A0 : Option Addr) (n0 c0 : Nat) (s0 : List Int) (A1 : Option Addr) (n1 c1 : Nat) (s1 : List Int) (a2 : Int)
    (hn0 : n0 = s0.length) (hm0 : n0 ≤ maxLen) (hr0 : Reads w Any 1 A0 n0 (nums s0)) (hl0 : ∀ x ∈ s0, I64 x) (hn1 : n1 = s1.length) (hm1 : n1 ≤ maxLen) (hr1 : Reads w Any 1 A1 n1 (nums s1)) (hl1 : ∀ x ∈ s1, I64 x) (h2 : I64 a2) :
    Calls Try.prog 8 #[.slice A0 n0 c0, .slice A1 n1 c1, .int .i64 a2] w fun e w' => e = .returned (.bool true) ∧ Below w.heap.size w w' := by
  have RG := Lib.hid (registerOf_any A0 n0 c0 s0 w hr0 hn0 hm0 hl0)
  have RT := Lib.hid (fun w1 (hb : Below w.heap.size w w1) => rootOf_any A1 n1 c1 s1 w1 (hr1.keep (Same.any hb)) hn1 hm1 hl1)
  have x4 := I64.tdiv h2 4 (by omega)
  have x16 := I64.tdiv h2 16 (by omega)
  have R0 := Lib.hid (fun W => rest_q a2 4 W ((rsN a2 4 : Nat) : Int) h2 (by omega) (by omega) (rsN_eq _ _ (by omega)))
  have R1 := Lib.hid (fun W => rest_q (a2.tdiv 4) 4 W ((rsN (a2.tdiv 4) 4 : Nat) : Int) x4.1 (by omega) (by omega) (rsN_eq _ _ (by omega)))
  have R2 := Lib.hid (fun W => rest_q (a2.tdiv 16) 4 W ((rsN (a2.tdiv 16) 4 : Nat) : Int) x16.1 (by omega) (by omega) (rsN_eq _ _ (by omega)))
  have b0 := rsN_lt a2 4 (by omega)
  have b1 := rsN_lt (a2.tdiv 4) 4 (by omega)
  have b2 := rsN_lt (a2.tdiv 16) 4 (by omega)
  generalize rsN a2 4 = q0 at R0 b0
  generalize rsN (a2.tdiv 4) 4 = q1 at R1 b1
  generalize rsN (a2.tdiv 16) 4 = q2 at R2 b2
  have k4 : IntKind.i64.wrap (a2.tdiv 4) = a2.tdiv 4 := IntWalk.i64_in _ (by have := x4.2; omega)
  have k16 : IntKind.i64.wrap (a2.tdiv 16) = a2.tdiv 16 := IntWalk.i64_in _ (by have := x16.2; omega)
  have w0 : IntKind.i64.wrap (1 + (q0 : Int)) = 1 + (q0 : Int) := IntWalk.i64_in _ (by omega)
  have w1 : IntKind.i64.wrap (1 + (q1 : Int)) = 1 + (q1 : Int) := IntWalk.i64_in _ (by omega)
  have w2 : IntKind.i64.wrap (1 + (q2 : Int)) = 1 + (q2 : Int) := IntWalk.i64_in _ (by omega)
  clear hn0 hm0 hr0 hl0 hn1 hm1 hr1 hl1 h2 x4 x16
  go_enter Try.func8, Try.ntmps8
  go_wp2_with (fail)
  refine RG.out.mono ?_
  rintro e w1' ⟨A, c, ms, rfl, hrow, hreg, hb1⟩
  have HB1 := Lib.hid hb1
  have H1 := Lib.hid (And.intro (RegRow.mds hrow) hreg)
  clear hrow hreg hb1 RG
  go_wp2_with (fail)
  refine (RT.out w1' HB1.out).mono ?_
  rintro e w2' ⟨B, d, root, rfl, hown, h3, hae⟩
  have HB2 := Lib.hid (HB1.out.trans (hown.2.mono HB1.out.size))
  have G2 := Lib.hid (show Got w2' A c ms B d root from ⟨H1.out.1.keep (Same.any hown.2), hown.holds, H1.out.2, h3, hae⟩)
  clear hown h3 hae RT H1
  go_wp2_with (fail)
  refine (R0.out _).mono ?_
  rintro e w' ⟨rfl, rfl⟩
  go_wp2_with (fail)
  refine (R1.out _).mono ?_
  rintro e w' ⟨rfl, rfl⟩
  go_wp2_with (fail)
  refine (R2.out _).mono ?_
  rintro e w' ⟨rfl, rfl⟩
  go_wp2_with (fail)
  have HBa := Lib.hid (show Below w2'.heap.size w2' (w2'.alloc (.cells #[str [97], .int .i64 (1 + (q0 : Int)), str [98], .int .i64 (1 + (q1 : Int)), str [99], .int .i64 (1 + (q2 : Int))] 27)) from (Below.refl _ _).alloc (Nat.le_refl _) _)
  have hrf : Reads (w2'.alloc (.cells #[str [97], .int .i64 (1 + (q0 : Int)), str [98], .int .i64 (1 + (q1 : Int)), str [99], .int .i64 (1 + (q2 : Int))] 27)) Any 2 (some ⟨w2'.heap.size, 0, none⟩) 3 (pks [([97], 1 + q0), ([98], 1 + q1), ([99], 1 + q2)]) := by
    have h := Reads.new (D := Any) w2' (pks [([97], 1 + q0), ([98], 1 + q1), ([99], 1 + q2)]) 2 3 27 trivial rfl
    simp only [pks, pkc, List.map_cons, List.map_nil, List.flatten_cons, List.flatten_nil, List.cons_append, List.nil_append, Int.natCast_add, Int.natCast_one] at h ⊢
    exact h
  have B3 := (G2.out.below HBa.out).best (A2 := some ⟨w2'.heap.size, 0, none⟩) (c2 := 3) (first := [([97], 1 + q0), ([98], 1 + q1), ([99], 1 + q2)]) hrf (by simp)
  refine B3.mono ?_
  clear B3 hrf
  generalize hfi : [(([97] : Nm), 1 + q0), ([98], 1 + q1), ([99], 1 + q2)] = first
  obtain ⟨R, hR⟩ : ∃ R, R = bestF ms root first := ⟨_, rfl⟩
  rw [← hR]
  have HR := Lib.hid hR
  clear hR hfi
  unfold BestPost
  rintro e w3 ⟨hb3, hnone, hsome⟩
  have HB3 := Lib.hid ((HB2.out.trans (HBa.out.mono HB2.out.size)).trans (hb3.mono (by have := HB2.out.size; have := HBa.out.size; omega)))
  have G3 := Lib.hid ((G2.out.below HBa.out).below hb3)
  have SV := fun W => solved_any W
  cases R with
  | none =>
    have he := hnone rfl
    subst he
    clear hnone hsome hb3
    go_wp2_with (fail)
    refine (SV w3).mono ?_
    rintro e w4 ⟨rfl, hb4⟩
    have HB4 := Lib.hid (HB3.out.trans (hb4.mono HB3.out.size))
    clear hb4
    go_wp2_with (fail)
    go_ret
    exact ⟨rfl, HB4.out⟩
  | some x =>
    obtain ⟨A2, c2, he, _, _, hxr⟩ := hsome x rfl
    subst he
    obtain ⟨hok, hae⟩ := best_pkok G3.out.ok HR.out.symm
    obtain ⟨y, hy⟩ := best_nil (root := root) G3.out.ok.ms HR.out.symm
    have HY := Lib.hid hy
    have HX := Lib.hid (hxr.imp (D' := Any) (by omega) fun _ _ _ => trivial)
    have HK := Lib.hid (And.intro hok hae)
    have hxl := hok.ln
    have hyl := best_len G3.out.ok.ms hy
    clear hnone hsome hb3 hxr hok hae hy
    go_wp2_with (fail)
    refine (SV w3).mono ?_
    rintro e w4 ⟨rfl, hb4⟩
    have HB4 := Lib.hid (HB3.out.trans (hb4.mono HB3.out.size))
    have G4 := Lib.hid (G3.out.below hb4)
    have X4 := Lib.hid (HX.out.keep (Same.any hb4))
    clear hb4 HX
    have A4 := Lib.hid (anew_none w4 G4.out A2 c2 x X4.out HK.out.1 none 0 0 [] Reads.empty rfl (by omega) (by simp))
    rw [best_again G4.out.ok.ms HR.out.symm] at A4
    go_wp2_with (fail)
    refine A4.out.mono ?_
    clear A4
    unfold BestPost
    rintro e w5 ⟨hb5, _, hsome5⟩
    obtain ⟨A5, c5, he5, _, _, hyr⟩ := hsome5 x rfl
    subst he5
    have HB5 := Lib.hid (HB4.out.trans (hb5.mono HB4.out.size))
    have G5 := Lib.hid (G4.out.below hb5)
    have X5 := Lib.hid (X4.out.keep (Same.any hb5))
    have Y5 := Lib.hid (hyr.imp (D' := Any) (by omega) fun _ _ _ => trivial)
    clear hb5 hsome5 hyr X4
    have HBf := Lib.hid (show Below w5.heap.size w5 (w5.alloc (.cells #[str [97], str [98], str [99], str [100], str [101]] 9)) from (Below.refl _ _).alloc (Nat.le_refl _) _)
    have A6 := Lib.hid (anew_all _ (G5.out.below HBf.out) A2 c2 x (X5.out.keep (Same.any HBf.out)) HK.out.1 (some ⟨w5.heap.size, 0, none⟩) 5 5 fiveS (Reads.new (D := Any) w5 (strs fiveS) 1 5 9 trivial rfl) rfl (by omega) (fun p hp => ae_five (HK.out.2 p hp)))
    rw [HY.out] at A6
    go_wp2_with (fail)
    refine A6.out.mono ?_
    clear A6
    unfold BestPost
    rintro e w6 ⟨hb6, _, hsome6⟩
    obtain ⟨A7, c7, he6, _, _, hzr⟩ := hsome6 y rfl
    subst he6
    have hb56 := HBf.out.trans (hb6.mono HBf.out.size)
    have HB6 := Lib.hid (HB5.out.trans (hb56.mono HB5.out.size))
    have G6 := Lib.hid (G5.out.below hb56)
    have X6 := Lib.hid (X5.out.keep (Same.any hb56))
    have Y6 := Lib.hid (Y5.out.keep (Same.any hb56))
    have Z6 := Lib.hid (hzr.imp (D' := Any) (by omega) fun _ _ _ => trivial)
    clear hb6 hb56 hsome6 hzr X5 Y5
    have B7 := Lib.hid (G6.out.best (A2 := none) (c2 := 0) (first := []) Reads.empty (by simp))
    rw [HY.out] at B7
    go_wp2_with (fail)
    refine B7.out.mono ?_
    clear B7
    unfold BestPost
    rintro e w7 ⟨hb7, _, hsome7⟩
    obtain ⟨A8, c8, he7, _, _, hwr⟩ := hsome7 y rfl
    subst he7
    have HB7 := Lib.hid (HB6.out.trans (hb7.mono HB6.out.size))
    have Z7 := Lib.hid (Z6.out.keep (Same.any hb7))
    have V7 := Lib.hid (hwr.imp (D' := Any) (by omega) fun _ _ _ => trivial)
    have EQ := Lib.hid (equal_pks A2 A5 x.length c2 c5 x w7 (X6.out.keep (Same.any hb7)) (Y6.out.keep (Same.any hb7)) (by omega) rfl)
    clear hb7 hsome7 hwr X6 Y6 Z6
    go_wp2_with (fail)
    refine EQ.out.mono ?_
    rintro e w8 ⟨rfl, hb8⟩
    have HB8 := Lib.hid (HB7.out.trans (hb8.mono HB7.out.size))
    have EQ2 := Lib.hid (equal_pks A7 A8 y.length c7 c8 y w8 (Z7.out.keep (Same.any hb8)) (V7.out.keep (Same.any hb8)) (by omega) rfl)
    clear hb8
    go_wp2_with (fail)
    refine EQ2.out.mono ?_
    rintro e w9 ⟨rfl, hb9⟩
    go_wp2_with (fail)
    go_ret
    exact ⟨rfl, HB8.out.trans (hb9.mono HB8.out.size)⟩
end Go.Proofs.Ytijniccmgjokoaa
