/- Contracts of layout.Check at a right document, layout.length. -/
import Derived.Test.YtdbpgofabbpadaaDoorLyMem
import Derived.Deep.DeepCutAuto
import Derived.Deep.CutBlock
import Derived.Deep.LoopGhost
set_option linter.unusedVariables false
namespace Go.Proofs.YtdbpgofabbpadaaDoor
open Go.RowKit Go.Mem Go.Ly
theorem sv_len (s : List UInt8) : (ByteArray.mk s.toArray).size = s.length := by simp [ByteArray.size]
set_option maxRecDepth 100000 in
theorem length_any (p : Pc) (w : World) : Calls Tryd.prog 20 #[.agg #[.int .i64 (p.kind : Nat), .int .i64 (p.n : Nat), .string ⟨p.s.toArray⟩]] w fun e w' => e = .returned (.int .i64 (lenF p : Nat)) ∧ Below w.heap.size w w' := by
  have e := sv_len p.s
  by_cases h : p.kind = 2
  · have h1 : lenF p = 1 := by unfold lenF; rw [if_pos h]
    rw [h1, h]
    generalize p.s = s at e ⊢
    generalize p.n = m
    go_enter Tryd.func20, Tryd.ntmps20
    go_wp2_with (fail)
    go_ret
    exact ⟨rfl, (Below.refl _ _).alloc (Nat.le_refl _) _⟩
  · have h1 : lenF p = p.s.length := by unfold lenF; rw [if_neg h]
    rw [h1]
    have h2 : ((p.kind : Int) == 2) = false := by simp; omega
    clear h h1
    generalize p.s = s at e ⊢
    generalize p.n = m
    generalize p.kind = kd at h2 ⊢
    go_enter Tryd.func20, Tryd.ntmps20
    go_wp2_with (fail)
    go_ret
    exact ⟨rfl, (Below.refl _ _).alloc (Nat.le_refl _) _⟩
set_option maxRecDepth 100000 in
set_option maxHeartbeats 4000000 in
theorem check_any (A : Option Addr) (n c : Nat) (d : List Pc) (w : World) (hd : DocAt w Any A n c d) (ho : Ok d) :
    Calls Tryd.prog 9 #[.slice A n c] w fun e w' => e = .returned (.int .i64 0) ∧ Below w.heap.size w w' := by
  have HD := Lib.hid (And.intro hd ho)
  have hn : n ≤ 100 := hd.2.2.2.1
  clear hd ho
  go_enter Tryd.func9, Tryd.ntmps9
  go_wp2_with (fail)
  go_loopw [3, 11] (fun s3 i wr => ∃ k, k ≤ n ∧ i = .int .i64 (k : Nat) ∧ s3 = .int .i64 (depAt d k : Nat) ∧ Hid (Below w.heap.size w wr)) (fun _ i _ => n - (intOf i).toNat)
  case atStart => exact ⟨0, Nat.zero_le _, rfl, rfl, Below.refl _ _⟩
  case round =>
    obtain ⟨k, hk, rfl, rfl, HB⟩ := hrel
    by_cases hlt : k < n
    · have hkl : k < d.length := by have := HD.out.1.1; omega
      obtain ⟨b, off, rfl, _, c0, c1, c2⟩ := (HD.out.1.keep (Same.any HB.out)).cells hlt hkl
      have lb := lt_of_cell c0
      have hp := HD.out.2.pc _ (List.getElem_mem hkl)
      have hdl := HD.out.2.depthLe k (by omega)
      have HO := Lib.hid (And.intro (HD.out.2.open_ hkl) (And.intro (HD.out.2.close hkl) (HD.out.2.other hkl)))
      generalize d[k] = p at c0 c1 c2 hp HO
      obtain ⟨kd, nn, s⟩ := p
      simp only at c0 c1 c2 HO
      obtain ⟨⟨p1, p2⟩, p3, p4, p5, p6, p7⟩ := hp
      simp only at p1 p2 p3 p4 p5 p6 p7
      have CN := Lib.hid (fun W => contains_no s W fun b hb e => by have := p7 b hb; rw [e] at this; simp at this)
      have es := sv_len s
      unfold sv at c2 CN
      have hb2 := Lib.hid (HB.out.alloc HB.out.size (.cells #[.int .i64 (kd : Nat), .int .i64 (nn : Nat), .string ⟨s.toArray⟩] 30))
      have HP := Lib.hid (And.intro p5 p6)
      clear p5 p6 p7
      generalize depAt d k = dk at hdl HO ⊢
      generalize hd1 : depAt d (k + 1) = dk1 at HO
      have HD1 := Lib.hid hd1
      clear hd1
      rcases (show kd = 1 ∨ kd = 2 ∨ kd = 3 ∨ kd = 4 ∨ kd = 5 ∨ kd = 6 from by omega) with rfl | rfl | rfl | rfl | rfl | rfl
      · obtain rfl : nn = 0 := HP.out.2 (by omega)
        obtain rfl : dk1 = dk := HO.out.2.2 (by omega) (by omega)
        clear HO HP
        go_wp2_with (go_at_call 19; (with_reducible refine (CN.out _).mono ?_); rintro e w' ⟨rfl, rfl⟩)
        exact ⟨⟨k + 1, by omega, by go_num, by rw [HD1.out], hb2.out⟩, by simp [intOf]; omega⟩
      · obtain rfl : nn = 0 := HP.out.2 (by omega)
        obtain rfl : s = [] := HP.out.1 (by omega)
        obtain rfl : dk1 = dk := HO.out.2.2 (by omega) (by omega)
        clear HO HP
        go_wp2_with (go_at_call 19; (with_reducible refine (CN.out _).mono ?_); rintro e w' ⟨rfl, rfl⟩)
        exact ⟨⟨k + 1, by omega, by go_num, by rw [HD1.out], hb2.out⟩, by simp [intOf]; omega⟩
      · obtain rfl : nn = 0 := HP.out.2 (by omega)
        obtain rfl : s = [] := HP.out.1 (by omega)
        obtain rfl : dk1 = dk := HO.out.2.2 (by omega) (by omega)
        clear HO HP
        go_wp2_with (go_at_call 19; (with_reducible refine (CN.out _).mono ?_); rintro e w' ⟨rfl, rfl⟩)
        exact ⟨⟨k + 1, by omega, by go_num, by rw [HD1.out], hb2.out⟩, by simp [intOf]; omega⟩
      · obtain rfl : nn = 0 := HP.out.2 (by omega)
        obtain rfl : s = [] := HP.out.1 (by omega)
        obtain rfl : dk1 = dk := HO.out.2.2 (by omega) (by omega)
        clear HO HP
        go_wp2_with (go_at_call 19; (with_reducible refine (CN.out _).mono ?_); rintro e w' ⟨rfl, rfl⟩)
        exact ⟨⟨k + 1, by omega, by go_num, by rw [HD1.out], hb2.out⟩, by simp [intOf]; omega⟩
      · obtain rfl : s = [] := HP.out.1 (by omega)
        have hdk : dk1 = dk + 1 := HO.out.1 rfl
        have ed : ((dk : Int) + 1) = ((dk1 : Nat) : Int) := by omega
        have hd3 : dk1 ≤ 101 := by omega
        clear HO HP hdk
        go_wp2_with (go_at_call 19; (with_reducible refine (CN.out _).mono ?_); rintro e w' ⟨rfl, rfl⟩)
        exact ⟨⟨k + 1, by omega, by go_num, by rw [HD1.out], hb2.out⟩, by simp [intOf]; omega⟩
      · obtain rfl : nn = 0 := HP.out.2 (by omega)
        obtain rfl : s = [] := HP.out.1 (by omega)
        have hdk : dk = dk1 + 1 := HO.out.2.1 rfl
        have ed : ((dk : Int) - 1) = ((dk1 : Nat) : Int) := by omega
        have ed2 : IntKind.i64.wrap ((dk : Int) - 1) = ((dk1 : Nat) : Int) := (IntWalk.i64_in _ (by omega)).trans ed
        have hd3 : dk1 ≤ 101 := by omega
        clear HO HP hdk
        go_wp2_with (go_at_call 19; (with_reducible refine (CN.out _).mono ?_); rintro e w' ⟨rfl, rfl⟩)
        exact ⟨⟨k + 1, by omega, by go_num, by rw [HD1.out], hb2.out⟩, by simp [intOf]; omega⟩
    · obtain rfl : k = n := by omega
      have he : depAt d k = 0 := by rw [HD.out.1.1]; exact HD.out.2.depthEnd
      rw [he]
      go_wp2_with (fail)
      go_ret
      exact ⟨rfl, HB.out⟩
end Go.Proofs.YtdbpgofabbpadaaDoor
