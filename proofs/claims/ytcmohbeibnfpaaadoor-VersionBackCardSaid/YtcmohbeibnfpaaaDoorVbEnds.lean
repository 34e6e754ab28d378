/- Contract of version.Ends. -/
import Derived.Test.YtcmohbeibnfpaaaDoorVbRead
set_option linter.unusedVariables false
namespace Go.Proofs.YtcmohbeibnfpaaaDoor
open Go.RowKit Go.Mem Go.Ver
set_option maxRecDepth 100000 in
set_option maxHeartbeats 2000000 in
theorem ends_none (A : Option Addr) (c : Nat) (w : World) : Calls Tryd.prog 7 #[.slice A 0 c] w fun e w' => e = .returned (.tuple #[.int .i64 0, .int .i64 0, .int .i64 4]) ∧ Below w.heap.size w w' := by
  have CK := Lib.hid (check_any A 0 c [] w Reads.empty rfl Ok.nil (by omega))
  go_enter Tryd.func7, Tryd.ntmps7
  go_wp2_with (go_at_call 12; refine CK.out.mono ?_; rintro e w1 ⟨rfl, hb1⟩)
  refine bodyPost_ret (v := .tuple #[.int .i64 0, .int .i64 0, .int .i64 4]) (by simp [results, Tryd.results7, go_sem]) rfl ⟨rfl, hb1⟩
set_option maxRecDepth 100000 in
set_option maxHeartbeats 2000000 in
theorem ends_any (A : Option Addr) (m c : Nat) (l : List Rg) (w : World) (hr : Reads w Any 2 A (m + 1) (rgs l)) (hn : m + 1 = l.length) (h : Ok l) (h50 : m + 1 ≤ 50) :
    Calls Tryd.prog 7 #[.slice A (m + 1) c] w fun e w' => e = .returned (.tuple #[.int .i64 ((l[0]'(by omega)).1 : Nat), .int .i64 ((l[m]'(by omega)).2 : Nat), .int .i64 0]) ∧ Below w.heap.size w w' := by
  have CK := Lib.hid (check_any A (m + 1) c l w hr hn h h50)
  have HR := Lib.hid (And.intro hr hn)
  have h0 : 0 < l.length := by omega
  have hm : m < l.length := by omega
  have p0 := (h.1 _ (List.getElem_mem h0))
  have pm := (h.1 _ (List.getElem_mem hm))
  obtain ⟨b0, b1, b2⟩ := p0
  obtain ⟨q0, q1, q2⟩ := pm
  obtain ⟨bb, off, rfl, _, c0, z0⟩ := rgs_cells hr (show 0 < m + 1 by omega) hn
  obtain ⟨bb', off', he, _, z1, c1⟩ := rgs_cells hr (show m < m + 1 by omega) hn
  injection he with he
  injection he with he1 he2
  subst he1 he2
  have lb := lt_of_cell c0
  clear z0 z1
  generalize (l[0]).1 = lo at c0 b0 b2 ⊢
  generalize (l[m]).2 = hi at c1 q1 q2 ⊢
  have HD := Lib.hid (fun (V : World) (hV : Below w.heap.size w V) => And.intro ((hV.cell (p := ⟨bb, off + 0 * 2, none⟩) lb).trans c0) ((hV.cell (p := ⟨bb, off + m * 2 + 1, none⟩) lb).trans c1))
  clear hr hn h c0 c1 b0 b1 b2 q0 q1 q2
  go_enter Tryd.func7, Tryd.ntmps7
  go_upto_region 6 with (go_at_call 12; refine CK.out.mono ?_; rintro e w1 ⟨rfl, hb1⟩)
  obtain ⟨d0, d1⟩ := HD.out w1 hb1
  have lb1 := lt_of_cell d0
  simp only [Nat.zero_mul, Nat.add_zero] at d0
  have k1 : IntKind.i64.wrap (((m : Nat) : Int) + 1 - 1) = ((m : Nat) : Int) := by rw [Int.add_sub_cancel]; exact IntWalk.i64_in _ (by omega)
  have k2 : (0 : Int) ≤ (m : Int) := by omega
  have HB := Lib.hid hb1
  clear hb1
  go_quiet (fail)
  go_wp2_with (fail)
  refine bodyPost_ret (v := .tuple #[.int .i64 (lo : Nat), .int .i64 (hi : Nat), .int .i64 0]) (by simp [results, Tryd.results7, go_sem]) rfl ⟨rfl, ?_⟩
  exact HB.out.trans ((below_drewNm' _ _).mono HB.out.size)
end Go.Proofs.YtcmohbeibnfpaaaDoor
