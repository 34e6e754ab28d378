/- Contracts of the writing of lists of ints and of saved actors. -/
import Derived.Test.YtgcpclbkjplipaaMailList
set_option linter.unusedVariables false
namespace Go.Mem
open Go.RowKit
def nums (l : List Int) : List Value := l.map (.int .i64)
theorem nums_length (l : List Int) : (nums l).length = l.length := by simp [nums]
theorem nums_at (l : List Int) (k : Nat) (h : k < l.length) : (nums l)[k]? = some (.int .i64 l[k]) := by simp [nums, h]
end Go.Mem
namespace Go.Proofs.Ytgcpclbkjplipaa
open Go.RowKit Go.Mem Go.Val

set_option maxRecDepth 100000 in
set_option maxHeartbeats 1000000 in
theorem listN_any (bv : Value) (A : Option Addr) (n c : Nat) (l : List Int) (xs : List Value) (base : Nat) (w : World) (hown : w.ownsRow base 5 1 bv xs.length xs) (hb : base ≤ w.heap.size) (hn2 : n ≤ 4194304)
    (hr : Reads w (fun b => bv.ownBlock ≠ some b) 1 A n (nums l)) (hok : ∀ x ∈ l, okN x) (hx : xs.length + (listE natI l).length ≤ 1099511627776) :
    Calls Try.prog 108 #[bv, .slice A n c, .func (.func 105) #[] #[]] w (GrewPost w base bv xs (listE natI l)) := by
  have hn : n = l.length := by have := hr.len; rwa [nums_length] at this
  have Hx := Lib.hid hx
  have Hn := Lib.hid hn
  have Hok := Lib.hid hok
  clear hx hn hok
  go_enter Try.func108, Try.ntmps108
  go_wp2_with (fail)
  refine (nat_any bv n xs base w (by omega) hown hb (by have := Hx.out; omega)).mono ?_
  rintro e w1 ⟨A1, c1, rfl, hg1⟩
  go_wp2_with (fail)
  go_loopw [0, 15] (fun v1 i wr => ∃ k : Nat, k ≤ n ∧ i = .int .i64 k ∧ Grew w base bv xs wr v1 (natE n ++ (l.take k).flatMap natI)) (fun _ i _ => n - (intOf i).toNat)
  case atStart => exact ⟨0, Nat.zero_le _, rfl, by simpa using hg1⟩
  case round =>
    obtain ⟨k, hk, rfl, hg⟩ := hrel
    by_cases hlt : k < n
    · have hkl : k < l.length := by have := Hn.out; omega
      obtain ⟨b, off, u, rfl, hD, hu, hc⟩ := hr.at_ hlt
      rw [nums_at l k hkl] at hu
      injection hu with hu
      subst hu
      have hsame : Same (fun b => bv.ownBlock ≠ some b) w wr := Same.of_grown hg.2.1 fun b hb _ e => hb e.symm
      have Hft := Lib.hid (flat_take natI l k hkl)
      have Hfl := Lib.hid (flat_take_le natI l (k + 1))
      have hokk := Hok.out _ (List.getElem_mem hkl)
      have g0 := hsame.cell hD hc
      generalize hxx : l[k] = X at g0 hokk
      have HX := Lib.hid hxx
      clear hxx hc
      obtain ⟨m, rfl⟩ := Int.eq_ofNat_of_zero_le hokk.1
      have hm : m ≤ 9223372036854775807 := by have := hokk.2; omega
      have hlen : (xs ++ u8s (natE n ++ (l.take k).flatMap natI)).length ≤ 1099511627776 := by
        have h1 := Hfl.out
        have h2 := Hx.out
        rw [Hft.out] at h1
        simp only [listE, List.length_append, u8s_length] at h1 h2 ⊢
        have := Hn.out
        subst this
        omega
      have Hlen := Lib.hid hlen
      clear hlen hokk
      go_wp2_with (fail)
      refine (nat_any u0 m _ base _ hm hg.own (by have := hg.2.1.size; omega) Hlen.out).mono ?_
      rintro e w2 ⟨A2, c2, rfl, hg2⟩
      generalize Value.slice A2 ((xs ++ u8s (natE n ++ (l.take k).flatMap natI)).length + (natE m).length) c2 = v2 at hg2 ⊢
      go_wp2_with (fail)
      refine ⟨⟨k + 1, by omega, by go_num, ?_⟩, by simp [intOf]; omega⟩
      rw [Hft.out, HX.out, ← List.append_assoc]
      exact hg.trans hg2
    · go_wp2
      go_ret
      obtain rfl : k = n := by omega
      have e : (natE k ++ (l.take k).flatMap natI) = listE natI l := by
        have := Hn.out
        subst this
        rw [List.take_length, listE]
      rw [e] at hg
      obtain ⟨A2, c2, rfl⟩ := hg.form
      exact ⟨A2, c2, rfl, hg⟩

/-- the three cells of a saved actor -/
def SvCells (d : Nat) (w : World) (D : Nat → Prop) (cs : List Value) (s : Sv) : Prop :=
  ∃ A1 c1 vs1 A2 c2 vs2, cs = [.string s.actor, .slice A1 s.state.length c1, .slice A2 s.inputs.length c2] ∧ s.actor.size ≤ 4611686018427387904 ∧ (s.state.length ≤ 4194304 ∧ s.state.length ≤ c1 ∧ c1 ≤ maxLen) ∧ (s.inputs.length ≤ 4194304 ∧ s.inputs.length ≤ c2 ∧ c2 ≤ maxLen) ∧
    Reads w D 4 A1 s.state.length vs1.flatten ∧ All2 (VCells d w D) vs1 s.state ∧ Reads w D 5 A2 s.inputs.length vs2.flatten ∧ All2 (InCells d w D) vs2 s.inputs
theorem SvCells.stable (d : Nat) : Stable 3 (SvCells d) where
  keep := fun ⟨A1, c1, vs1, A2, c2, vs2, e, h0, h1, h2, r1, a1, r2, a2⟩ hs => ⟨A1, c1, vs1, A2, c2, vs2, e, h0, h1, h2, r1.keep hs, a1.imp fun _ _ h => h.keep hs, r2.keep hs, a2.imp fun _ _ h => (InCells.stable d).keep h hs⟩
  imp := fun ⟨A1, c1, vs1, A2, c2, vs2, e, h0, h1, h2, r1, a1, r2, a2⟩ hs => ⟨A1, c1, vs1, A2, c2, vs2, e, h0, h1, h2, r1.imp (by omega) hs, a1.imp fun _ _ h => h.imp hs, r2.imp (by omega) hs, a2.imp fun _ _ h => (InCells.stable d).imp h hs⟩
  len := fun ⟨A1, c1, vs1, A2, c2, vs2, e, _⟩ => by rw [e]; rfl
  one := fun ⟨A1, c1, vs1, A2, c2, vs2, e, _⟩ u hu => by rw [e] at hu; simp at hu; rcases hu with rfl | rfl | rfl <;> rfl

set_option maxRecDepth 100000 in
set_option maxHeartbeats 2000000 in
theorem as_any (d : Nat) (bv : Value) (s : Sv) (cs xs : List Value) (base : Nat) (w : World) (hown : w.ownsRow base 5 1 bv xs.length xs) (hb : base ≤ w.heap.size) (hv : SvCells d w (fun b => bv.ownBlock ≠ some b) cs s) (hok : ∀ x ∈ s.inputs, 0 ≤ x.kind ∧ x.kind ≤ 255) (hx : xs.length + (encS d s).length ≤ 1099511627776) :
    Calls Try.prog 75 #[bv, .agg cs.toArray] w (GrewPost w base bv xs (encS d s)) := by
  obtain ⟨A1, c1, vs1, A2, c2, vs2, rfl, h0, h1, h2, r1, a1, r2, a2⟩ := hv
  obtain ⟨sa, ss, si⟩ := s
  simp only at h0 h1 h2 r1 a1 r2 a2 hx hok ⊢
  have hlx : (encS d ⟨sa, ss, si⟩).length = (textE sa).length + (listE (encV d) ss).length + (listE (encI d) si).length := by
    simp only [encS, List.length_append]
    omega
  rw [hlx] at hx
  have hls : sa.size ≤ 1099511627776 := by
    have hl : sa.data.toList.length = sa.size := by rw [Array.length_toList]; rfl
    simp only [textE, List.length_append] at hx
    omega
  have Hx := Lib.hid hx
  have Hok := Lib.hid hok
  clear hx hlx hok
  have hnb : bv.ownBlock ≠ some w.heap.size := fun e => by have := (hown.lt _ e).2; omega
  have hbx := Blk.new w 65 [.string sa, .slice A1 ss.length c1, .slice A2 si.length c2]
  have hG0 : Grew w base bv xs (w.alloc (.cells #[.string sa, .slice A1 ss.length c1, .slice A2 si.length c2] 65)).drew bv [] := ((Grew.refl hown).alloc _).drew
  have hx1 : (xs ++ u8s ([] ++ textE sa)).length + (listE (encV d) ss).length ≤ 1099511627776 := by
    have := Hx.out
    simp only [List.nil_append, List.length_append, u8s_length]
    omega
  have hx2 : (xs ++ u8s ([] ++ textE sa ++ listE (encV d) ss)).length + (listE (encI d) si).length ≤ 1099511627776 := by
    have := Hx.out
    simp only [List.nil_append, List.length_append, u8s_length]
    omega
  have hx0 : (xs ++ u8s []).length ≤ 1099511627776 := by
    have := Hx.out
    simp [u8s]
    omega
  have Hx0 := Lib.hid hx0
  have Hx1 := Lib.hid hx1
  have Hx2 := Lib.hid hx2
  have HG0 := Lib.hid hG0
  clear hx0 hx1 hx2 hG0
  go_enter Try.func75, Try.ntmps75
  go_wp2_with (fail)
  go_region_law (first
    | (rw [if_pos (by simp [Region.wanted])]; unfold Oper.wp; go_simp; go_at_call 96; refine (wtext_any bv sa (xs ++ u8s []) base _ hls HG0.out.own (by simp; omega) Hx0.out).mono ?_; rintro e w3 ⟨A3, c3, rfl, hg3⟩; generalize Value.slice A3 ((xs ++ u8s []).length + (textE sa).length) c3 = v3 at hg3 ⊢; dsimp only; have hG1 := HG0.out.trans hg3; have hB1 : Blk w3 w.heap.size 65 [.string sa, .slice A1 ss.length c1, .slice A2 si.length c2] := (by exact hbx.drew : Blk (w.alloc (.cells #[.string sa, .slice A1 ss.length c1, .slice A2 si.length c2] 65)).drew w.heap.size 65 [.string sa, .slice A1 ss.length c1, .slice A2 si.length c2]).grown hg3.2.1 (fun e => hnb e.symm); have hne1 : v3.ownBlock ≠ some w.heap.size := fun e => hg3.2.2.elim (fun h => hnb (h.symm.trans e)) (fun h => by have h1 := h _ e; simp at h1; omega); have m1 := hB1.cell 1; have m2 := hB1.cell 2; simp only [List.getElem?_cons_succ, List.getElem?_cons_zero] at m1 m2)
    | (rw [if_pos (by simp [Region.wanted])]; unfold Oper.wp; go_simp; go_at_call 95; refine (list_any d (av_any d) v3 A1 ss.length c1 ss vs1 _ base _ hG1.own (by have := hG1.2.1.size; omega) rfl h1.1 (hG1.apartR (by omega) r1) (a1.imp fun _ _ h => hG1.apart h) Hx1.out).mono ?_; rintro e w4 ⟨A4, c4, rfl, hg4⟩; generalize Value.slice A4 ((xs ++ u8s ([] ++ textE sa)).length + (listE (encV d) ss).length) c4 = v4 at hg4 ⊢; dsimp only; have hG2 := hG1.trans hg4; have hB2 := hg4.blk hB1 hne1; have m2 := hB2.cell 2; simp only [List.getElem?_cons_succ, List.getElem?_cons_zero] at m2)
    | (rw [if_pos (by simp [Region.wanted])]; unfold Oper.wp; go_simp; go_at_call 111; refine (listI_any d v4 A2 si.length c2 si vs2 _ base _ hG2.own (by have := hG2.2.1.size; omega) rfl h2.1 (hG2.apartR (by omega) r2) (a2.imp fun _ _ h => hG2.apartS (InCells.stable d) h) Hok.out Hx2.out).mono ?_; rintro e w5 ⟨A5, c5, rfl, hg5⟩; generalize Value.slice A5 ((xs ++ u8s ([] ++ textE sa ++ listE (encV d) ss)).length + (listE (encI d) si).length) c5 = v5 at hg5 ⊢; dsimp only))
  all_goals go_wp2_with (fail)
  all_goals go_ret
  all_goals have hG5 := hG2.trans hg5
  all_goals rw [show [] ++ textE sa ++ listE (encV d) ss ++ listE (encI d) si = encS d ⟨sa, ss, si⟩ by simp [encS]] at hG5
  all_goals obtain ⟨A6, c6, rfl⟩ := hG5.form
  all_goals exact ⟨A6, c6, rfl, hG5⟩
end Go.Proofs.Ytgcpclbkjplipaa
