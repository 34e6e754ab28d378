/- Contracts of version.Either and of the laws' setOf. -/
import Derived.Test.YtcmohbeibnfpaaaDoorVerSet
import Derived.Test.YtcmohbeibnfpaaaDoorRest
set_option linter.unusedVariables false
namespace Go.Ver
open Go.RowKit Go.Mem
abbrev Pr := Int × Int
def prc (p : Pr) : List Value := [.int .i64 p.1, .int .i64 p.2]
def prs (l : List Pr) : List Value := (l.map prc).flatten
theorem prs_at (l : List Pr) (k j : Nat) (hk : k < l.length) (hj : j < 2) : (prs l)[k * 2 + j]? = (prc l[k])[j]? :=
  flatten_at (size := 2) (vss := l.map prc) (fun c hc => by obtain ⟨d, _, rfl⟩ := List.mem_map.1 hc; rfl) (k := k) (c := prc l[k]) (by rw [List.getElem?_map, List.getElem?_eq_getElem hk]; rfl) j hj
theorem prs_cells {w : World} {D : Nat → Prop} {A : Option Addr} {n : Nat} {l : List Pr} (h : Reads w D 2 A n (prs l)) {k : Nat} (hk : k < n) (hn : n = l.length) :
    ∃ b off, A = some ⟨b, off, none⟩ ∧ D b ∧ w.cell? ⟨b, off + k * 2, none⟩ = some (.int .i64 (l[k]'(by omega)).1) ∧ w.cell? ⟨b, off + k * 2 + 1, none⟩ = some (.int .i64 (l[k]'(by omega)).2) := by
  obtain ⟨b, off, e, hD, hc⟩ := h.2 (by omega)
  have hl : k < l.length := by omega
  have h0 := hc (k * 2 + 0) _ (prs_at l k 0 hl (by omega))
  have h1 := hc (k * 2 + 1) _ (prs_at l k 1 hl (by omega))
  exact ⟨b, off, e, hD, h0, by rw [Nat.add_assoc]; exact h1⟩
end Go.Ver
namespace Go.Proofs.YtcmohbeibnfpaaaDoor
open Go.RowKit Go.Mem Go.Ver
def rsN (x m : Int) : Nat := (restI x m).toNat
theorem rsN_eq (x m : Int) (h : 0 < m) : restI x m = ((rsN x m : Nat) : Int) := by
  have := restI_bd x m h
  unfold rsN
  omega
theorem rsN_lt (x m : Int) (h : 0 < m) : (rsN x m : Int) < m := by
  have := restI_bd x m h
  unfold rsN
  omega
/-- the range of two raw numbers -/
def ofP (p : Pr) : Rg := (1 + rsN p.1 200, 1 + rsN p.1 200 + rsN p.2 20)
def rawR (l : List Pr) : List Rg := (l.take 12).map ofP
theorem rawR_next (l : List Pr) (j : Nat) (h : j < l.length) : rawR (l.take (j + 1)) = if j < 12 then rawR (l.take j) ++ [ofP l[j]] else rawR (l.take j) := by
  unfold rawR
  by_cases hj : j < 12
  · rw [if_pos hj, List.take_take, List.take_take, Nat.min_eq_right (by omega), Nat.min_eq_right (by omega), List.take_succ_eq_append_getElem h, List.map_append]
    rfl
  · rw [if_neg hj, List.take_take, List.take_take, Nat.min_eq_left (by omega), Nat.min_eq_left (by omega)]
theorem rawR_right (l : List Pr) : ∀ r ∈ rawR l, right r ∧ r.2 ≤ 220 := by
  intro r hr
  obtain ⟨p, _, rfl⟩ := List.mem_map.1 hr
  have h1 := rsN_lt p.1 200 (by omega)
  have h2 := rsN_lt p.2 20 (by omega)
  unfold right ofP
  simp only
  omega
theorem rawR_len (l : List Pr) : (rawR l).length ≤ 12 := by
  unfold rawR
  rw [List.length_map, List.length_take]
  omega

/-- a set, and true -/
def SoPost (w : World) : Ending → World → Prop := fun e w' => ∃ A c m, e = .returned (.tuple #[.slice A m.length c, .bool true]) ∧ Ok m ∧ (∀ v, In m v → v ≤ 220) ∧ m.length ≤ 12 ∧ Ver.Holds w' m A c ∧ Below w.heap.size w w'
set_option maxRecDepth 100000 in
set_option maxHeartbeats 1000000 in
theorem setOf_any (A : Option Addr) (n c : Nat) (l : List Pr) (w : World) (hr : Reads w Any 2 A n (prs l)) (hn : n = l.length) (hnc : n ≤ c) (hc : c ≤ maxLen) (hl : ∀ p ∈ l, I64 p.1 ∧ I64 p.2) :
    Calls Tryd.prog 4 #[.slice A n c] w (SoPost w) := by
  have Hn := Lib.hid hn
  have Hl := Lib.hid hl
  have HR := Lib.hid hr
  have hn63 : n ≤ 9223372036854775807 := by unfold maxLen at hc; omega
  unfold SoPost
  clear hr hn hl hc
  go_enter Tryd.func4, Tryd.ntmps4
  go_wp2_with (fail)
  go_loopw [4, 12] (fun v4 v wr => ∃ (j k : Nat) (A1 : Option Addr) (c1 : Nat), j ≤ n ∧ v = .int .i64 j ∧ v4 = .slice A1 k c1 ∧ k ≤ 12 ∧ k ≤ j ∧ Hid (k = (rawR (l.take j)).length ∧ OwnR w wr (rawR (l.take j)) A1 c1)) (fun _ v _ => n - (intOf v).toNat)
  case atStart => exact ⟨0, 0, none, 0, Nat.zero_le _, rfl, rfl, by omega, by omega, rfl, OwnR.nil w⟩
  case round =>
    obtain ⟨j, k, A1, c1, hj, rfl, rfl, hk, hkj, HI⟩ := hrel
    by_cases hlt : j < n
    · obtain ⟨b1, o1, rfl, _, r0, r1⟩ := prs_cells HR.out hlt Hn.out
      have hjl : j < l.length := by have := Hn.out; omega
      have p0 := (Same.any (D := Any) HI.out.2.2).cell trivial r0
      have p1 := (Same.any (D := Any) HI.out.2.2).cell trivial r1
      have hx := Hl.out _ (List.getElem_mem hjl)
      have hnx := rawR_next l j hjl
      generalize l[j] = x at p0 p1 hx hnx
      obtain ⟨x0, x1⟩ := x
      obtain ⟨i0, i1⟩ := hx
      simp only at p0 p1 i0 i1
      generalize rawR (l.take j) = acc at HI hnx
      have hkl : k = acc.length := HI.out.1
      subst hkl
      have HNX := Lib.hid hnx
      have HO := Lib.hid (HI.out.2.alloc (.cells #[.int .i64 x0, .int .i64 x1] 34))
      have Hne := Lib.hid (show (Value.slice A1 acc.length c1).ownBlock ≠ some wr.heap.size from fun e => by have := (HI.out.2.1.lt _ e).2; omega)
      have hws := HI.out.2.2.size
      clear r0 r1 hnx HI
      by_cases h12 : j < 12
      · have R0 := Lib.hid (fun W => rest_q x0 200 W ((rsN x0 200 : Nat) : Int) i0 (by omega) (by omega) (rsN_eq _ _ (by omega)))
        have R1 := Lib.hid (fun W => rest_q x1 20 W ((rsN x1 20 : Nat) : Int) i1 (by omega) (by omega) (rsN_eq _ _ (by omega)))
        have b0 := rsN_lt x0 200 (by omega)
        have b1' := rsN_lt x1 20 (by omega)
        have hnx' : rawR (l.take (j + 1)) = acc ++ [(1 + rsN x0 200, 1 + rsN x0 200 + rsN x1 20)] := by rw [HNX.out, if_pos h12]; rfl
        generalize rsN x0 200 = q0 at R0 b0 hnx'
        generalize rsN x1 20 = q1 at R1 b1' hnx'
        have k0 : IntKind.i64.wrap (1 + (q0 : Int)) = ((1 + q0 : Nat) : Int) := (IntWalk.i64_in _ (by omega)).trans (by omega)
        have k1 : IntKind.i64.wrap (((1 + q0 : Nat) : Int) + (q1 : Int)) = ((1 + q0 + q1 : Nat) : Int) := (IntWalk.i64_in _ (by omega)).trans (by omega)
        have HX := Lib.hid hnx'
        clear hnx' i0 i1
        go_wp2_with (first
          | (go_at_call 10; (with_reducible refine (R0.out _).mono ?_); rintro e w' ⟨rfl, rfl⟩)
          | (go_at_call 10; (with_reducible refine (R1.out _).mono ?_); rintro e w' ⟨rfl, rfl⟩)
          | (at_builtin; refine app_rg _ rfl (.tmp 23) (.tmp 31) rfl (HO.out.1.alloc _) rfl (reads_new2 _ _ (rgc (1 + q0, 1 + q0 + q1)) 2 1 34 rfl) rfl (by simp [rgc, Value.oneCell']) (by omega) (by simp; omega) ?_; intro v2 w2 hown2 hg2 hat2; obtain ⟨A9, c9, rfl, _⟩ := own_form hown2))
        have h2 := (HO.out.alloc _).app (r := (1 + q0, 1 + q0 + q1)) hown2 hg2
        exact ⟨⟨j + 1, acc.length + 1, A9, c9, by omega, by go_num, rfl, by omega, by omega, by rw [HX.out]; exact ⟨by simp, h2⟩⟩, by simp [intOf]; omega⟩
      · have hnx' : rawR (l.take (j + 1)) = acc := by rw [HNX.out, if_neg h12]
        have HX := Lib.hid hnx'
        clear hnx' i0 i1
        go_wp2_with (fail)
        exact ⟨⟨j + 1, acc.length, A1, c1, by omega, by go_num, rfl, hk, by omega, by rw [HX.out]; exact ⟨rfl, HO.out⟩⟩, by simp [intOf]; omega⟩
    · have hall : l.take j = l := List.take_of_length_le (by have := Hn.out; omega)
      have hI := HI.out
      rw [hall] at hI
      have hr9 := rawR_right l
      generalize rawR l = acc at hI hr9
      obtain ⟨hk9, hO⟩ := hI
      subst hk9
      have C1 := Lib.hid (set_any A1 acc.length c1 acc wr hO.holds.2.2 rfl (fun r hr => (hr9 r hr).1) (by omega))
      have HB := Lib.hid hO.2
      have HH := Lib.hid hr9
      clear hall HI hO hr9
      go_wp2_with (fail)
      have cc := C1.out
      unfold SetPost at cc
      refine cc.mono ?_
      rintro e w4 ⟨A4, c4, s, rfl, k1, k2, k3, k4, k5⟩
      have C5 := Lib.hid (check_any A4 s.length c4 s w4 k4.2.2 rfl k1 (by omega))
      have HK := Lib.hid (show Ok s ∧ (∀ v, In s v → v ≤ 220) ∧ s.length ≤ 12 ∧ Ver.Holds w4 s A4 c4 ∧ Below w.heap.size w w4 from ⟨k1, fun v hv => by
        obtain ⟨r, hr, _, h2⟩ := (k2 v).1 hv
        have := (HH.out r hr).2
        omega, by omega, k4, HB.out.trans (k5.mono HB.out.size)⟩)
      clear k1 k2 k3 k4 k5 cc C1 HH HB
      go_wp2_with (go_at_call 12; refine C5.out.mono ?_; rintro e w' ⟨rfl, hb5⟩)
      go_ret2
      obtain ⟨k1, k2, k3, k4, k5⟩ := HK.out
      exact ⟨A4, c4, s, rfl, k1, k2, k3, k4.later hb5 (Nat.le_refl _), k5.trans (hb5.mono k5.size)⟩
end Go.Proofs.YtcmohbeibnfpaaaDoor
