/- slices.DeleteFunc at picks where the function holds of all. -/
import Derived.Test.YtijniccmgjokoaaLkAnew
set_option linter.unusedVariables false
namespace Go.Proofs.Ytijniccmgjokoaa
open Go.RowKit Go.Mem Go.Sv Go.Maps
theorem run_clear_any {P : Program} (w : World) (t e ty : TypeId) (z : Value) (ht : P.underlying t = some (.slice e)) (hv : ∀ w, (zeroValue e).run P w = .ok z w) (b o n c : Nat) (hn : 0 < n) (vs : List Value) (hvs : (Builtin.zeroCells z.cells n).toList = vs) (h1 : ∀ v ∈ vs, v.oneCell' = true)
    (hc : ∀ j, j < vs.length → (w.cell? ⟨b, o + j, none⟩).isSome = true) (hf : ∀ j, j < vs.length → w.frozen? ⟨b, o + j, none⟩ = false) :
    (Builtin.clear_ #[t] ty #[.slice (some ⟨b, o, none⟩) n c]).run P w = .ok (.tuple #[]) (w.setCells b o vs) := by
  have hst := run_storeCells_cells (P := P) b o vs 0 w (by simpa using hc) (by simpa using hf) h1
  simp only [Nat.add_zero] at hst
  obtain ⟨m, rfl⟩ : ∃ m, n = m + 1 := ⟨n - 1, by omega⟩
  simp [Builtin.clear_, run_underlying ht, hv, hvs, hst]
theorem zero_pk : ∀ w : World, (zeroValue 27).run Try.prog w = .ok (.agg #[.string ⟨#[]⟩, .int .i64 0]) w := fun _ => by kernel_rfl
theorem asc_apart {l : List Pk} (h : Asc l) : ∀ (i j : Nat) (hi : i < l.length) (hj : j < l.length), i < j → (l[i]).1 < (l[j]).1 := by
  intro i j hi hj hij
  induction j with
  | zero => omega
  | succ j ih =>
    have h1 := h j hj
    rcases Nat.lt_or_ge i j with h2 | h2
    · exact List.lt_trans (ih (by omega) h2) h1
    · have : i = j := by omega
      subst this
      exact h1
theorem own_clear {w wr : World} {base n c : Nat} {A : Option Addr} {xs : List Value} (h : w.ownsRow base 27 2 (.slice A n c) n xs) (hb : Below w.heap.size w wr) (hn : 0 < n) :
    ∃ b vs, A = some ⟨b, 0, none⟩ ∧ w.grownBy (wr.setCells b 0 vs) (Value.slice A n c).ownBlock ∧ ∀ ty, (Builtin.clear_ #[23] ty #[.slice (some ⟨b, 0, none⟩) n c]).run Try.prog wr = .ok (.tuple #[]) (wr.setCells b 0 vs) := by
  rcases h.2 with ⟨_, h0⟩ | ⟨g, cap, cur, e, _, hg, hnc, _, hcs, _⟩
  · omega
  · injection e with e1 _ e3
    subst e1 e3
    have hlt : g < w.heap.size := by
      rcases Nat.lt_or_ge g w.heap.size with h' | h'
      · exact h'
      · rw [Array.getElem?_eq_none h'] at hg; cases hg
    have hg2 : wr.heap[g]? = some (.cells cur 27 (0, 0)) := (hb.block g hlt).trans hg
    obtain ⟨vs, hvs⟩ : ∃ vs, (Builtin.zeroCells (Value.agg #[.string ⟨#[]⟩, .int .i64 0]).cells n).toList = vs := ⟨_, rfl⟩
    have hz : (Value.agg #[.string ⟨#[]⟩, .int .i64 0]).cells = #[.string ⟨#[]⟩, .int .i64 0] := rfl
    have hvl : vs.length = n * 2 := by rw [← hvs, hz]; simp [Builtin.zeroCells]
    have hv1 : ∀ v ∈ vs, v.oneCell' = true := by
      intro v hv
      rw [← hvs, hz] at hv
      simp [Builtin.zeroCells] at hv
      obtain ⟨i, hi, rfl⟩ := hv
      rcases Nat.mod_two_eq_zero_or_one i with h | h <;> simp [h, Value.oneCell']
    refine ⟨g, vs, rfl, grownBy_trans ⟨hb.os, hb.tape, hb.output, hb.size, fun k hk _ => hb.block k hk⟩ (grownBy_setCells g vs 0 wr), fun ty => run_clear_any wr _ _ ty _ Try.underlying23 zero_pk g 0 n c hn vs hvs hv1 (fun j hj => ?_) (fun j hj => ?_)⟩
    · have hj2 : j < cur.size := by have : n * 2 ≤ c * 2 := Nat.mul_le_mul_right 2 hnc; omega
      simp [World.cell?, hg2, hj2]
    · simp [World.frozen?, hg2]
set_option maxRecDepth 100000 in
set_option maxHeartbeats 1000000 in
/-- all is deleted -/
theorem delete_all (base : Nat) (A : Option Addr) (n c : Nat) (l : List Pk) (p : Pk → Bool) (g : Nat) (cb : Array Value) (w : World) (hown : w.ownsRow base 27 2 (.slice A n c) n (pks l)) (hn : n = l.length) (hn1 : n ≤ 1000) (ha : Asc l)
    (eg : ∀ args w, (callFunc g args).run Try.prog w = .ok (.enter g args) w)
    (hp : ∀ r ∈ l, ∀ W, Below w.heap.size w W → Calls Try.prog g (#[.agg #[str r.1, .int .i64 (r.2 : Nat)]] ++ cb) W fun e w' => e = .returned (.bool (p r)) ∧ Below W.heap.size W w') (hall : ∀ r ∈ l, p r = true) :
    Calls Try.prog 39 #[.slice A n c, .func (.func g) #[] cb] w fun e w' => ∃ A' c', e = .returned (.slice A' 0 c') ∧ w.grownBy w' (Value.slice A n c).ownBlock := by
  obtain ⟨_, _, hr0⟩ := own_reads (by omega) hown
  have hr := hr0.imp (D' := Any) (by omega) fun _ _ _ => trivial
  have IX := Lib.hid (indexFuncP_any A n c l p g cb w hr hn (by omega) eg hp)
  have HP := Lib.hid hp
  have HA := Lib.hid (And.intro hall (And.intro ha hn))
  have HO := Lib.hid hown
  have HR := Lib.hid hr
  clear hr hr0 hn hp hall ha hown
  go_enter Try.func39, Try.ntmps39
  go_wp2_with (fail)
  refine IX.out.mono ?_
  rintro e w1 ⟨i, rfl, hf, hb⟩
  rcases hf with ⟨hnone, rfl⟩ | ⟨j, hj, rfl, hs⟩
  · have hn0 : n = 0 := by
      rcases Nat.eq_zero_or_pos n with h | h
      · exact h
      · have hl : 0 < l.length := by have := HA.out.2.2; omega
        have h2 := List.find?_eq_none.1 hnone _ (List.getElem_mem hl)
        exact absurd (HA.out.1 _ (List.getElem_mem hl)) h2
    subst hn0
    have HB := Lib.hid (show w.grownBy w1 (Value.slice A 0 c).ownBlock from ⟨hb.os, hb.tape, hb.output, hb.size, fun k hk _ => hb.block k hk⟩)
    clear hb hnone
    go_wp2_with (fail)
    go_ret
    exact ⟨A, c, rfl, HB.out⟩
  · have hj0 : j = 0 := by
      rcases Nat.eq_zero_or_pos j with h | h
      · exact h
      · have hl : 0 < l.length := by omega
        have e1 : l.find? p = some l[0] := by
          cases l with
          | nil => simp at hl
          | cons a r => rw [List.find?_cons, HA.out.1 a (by simp)]; rfl
        rw [e1] at hs
        injection hs with hs
        have h2 := asc_apart HA.out.2.1 0 j hl hj h
        rw [hs] at h2
        exact absurd h2 (List.lt_irrefl _)
    subst hj0
    have hn0 : 0 < n := by have := HA.out.2.2; omega
    have HB := Lib.hid hb
    clear hs hb
    go_wp2_with (fail)
    go_loopw [5, 6] (fun v5 v6 wr => ∃ j : Nat, j ≤ n ∧ v5 = .int .i64 0 ∧ v6 = .int .i64 j ∧ Below w.heap.size w wr) (fun _ v6 _ => n - (intOf v6).toNat)
    case atStart => exact ⟨1, by omega, rfl, rfl, HB.out⟩
    case round =>
      obtain ⟨j, hj, rfl, rfl, hb⟩ := hrel
      by_cases hlt : j < n
      · obtain ⟨b1, o1, rfl, _, r0, r1⟩ := pks_cells HR.out hlt HA.out.2.2
        have p0 := (Same.any (D := Any) hb).cell trivial r0
        have p1 := (Same.any (D := Any) hb).cell trivial r1
        have hl : j < l.length := by have := HA.out.2.2; omega
        have hba := hb.alloc hb.size (.cells #[str l[j].1, .int .i64 (l[j].2 : Nat)] 27)
        have R1 := HP.out l[j] (List.getElem_mem hl) _ hba
        rw [HA.out.1 _ (List.getElem_mem hl)] at R1
        generalize l[j] = y at p0 p1 R1 hba
        obtain ⟨yn, yv⟩ := y
        simp only at p0 p1 R1 hba
        have R1 := Lib.hid R1
        have HB1 := Lib.hid hba
        clear r0 r1 hb hl hba
        go_wp2_with (go_at_fn g; refine R1.out.mono ?_; rintro e w2 ⟨rfl, hb2⟩)
        exact ⟨⟨j + 1, by omega, rfl, by go_num, HB1.out.trans (hb2.mono HB1.out.size)⟩, by simp [intOf]; omega⟩
      · obtain ⟨b, vs, rfl, hg, hcl⟩ := own_clear HO.out hb hn0
        have HG := Lib.hid hg
        have HB1 := Lib.hid hb
        clear hg hb
        go_wp2_with (fail)
        go_ret
        exact ⟨_, _, rfl, HG.out⟩
end Go.Proofs.Ytijniccmgjokoaa
