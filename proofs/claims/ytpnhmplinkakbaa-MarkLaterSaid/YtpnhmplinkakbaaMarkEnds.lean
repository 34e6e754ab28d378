/- MarkEnds' walk. -/
import Derived.Test.YtpnhmplinkakbaaMarkSum
import Derived.Test.YtpnhmplinkakbaaMarkEnd
set_option linter.unusedVariables false
namespace Go.Proofs.Ytpnhmplinkakbaa
open Go.RowKit Go.Mem Go.Maps

/-- a cut of a row of the call's own, from its beginning -/
theorem own_cut {w : World} {base : Nat} {e : TypeId} {size n c : Nat} {A : Option Addr} {xs : List Value} (h : w.ownsRow base e size (.slice A n c) n xs) (k : Nat) (hk : k ≤ n) : w.ownsRow base e size (.slice A k c) k (xs.take (k * size)) := by
  have hks : k * size ≤ n * size := Nat.mul_le_mul_right _ hk
  refine ⟨by rw [List.length_take, h.1]; omega, ?_⟩
  rcases h.2 with ⟨e1, rfl⟩ | ⟨g, cap, cur, e1, hb, hg, hnc, hcm, hcs, htake⟩
  · injection e1 with e1 e2 e3
    obtain rfl : k = 0 := by omega
    exact .inl ⟨by rw [e1, e3], rfl⟩
  · injection e1 with e1 e2 e3
    refine .inr ⟨g, cap, cur, by rw [e1, e3], hb, hg, by omega, hcm, hcs, ?_⟩
    rw [← htake, List.take_take, Nat.min_eq_left hks]
theorem own_caps {w : World} {base : Nat} {e : TypeId} {size n m c : Nat} {A : Option Addr} {xs : List Value} (h : w.ownsRow base e size (.slice A m c) n xs) : n ≤ c ∧ c ≤ maxLen := by
  obtain ⟨A', c', e1, h1, h2⟩ := own_form h
  injection e1 with e1 e2 e3
  subst e3
  exact ⟨h1, h2⟩
theorem app_deed (w : World) {ops : Array Oper} {rest : List Oper} {o : Oper} {a : Act} {Q : Exit → Act → World → Prop} (hgd : o.guard = none) (s x : Operand)
    (ho : o.op = .call { callee := .builtin .append, args := #[s, x], argTypes := #[54, 54] })
    {base : Nat} {v : Value} {n : Nat} {xs : List Value} (hown : w.ownsRow base 64 4 v n xs) (hs : a.eval s = v)
    {D : Nat → Prop} {A : Option Addr} {m : Nat} {news : List Value} (hr : Reads w D 4 A m news) {c : Nat} (hx : a.eval x = .slice A m c) (h1 : ∀ u ∈ news, u.oneCell' = true)
    (h63 : n + m ≤ 109951162777) (hbase : base ≤ w.heap.size)
    (h : ∀ v' w', w'.ownsRow base 64 4 v' (n + m) (xs ++ news) → w.grownBy w' v.ownBlock → (v'.ownBlock = v.ownBlock ∨ v'.ownBlock = some w.heap.size) → wpList Try.prog ops Q rest (a.put o.dst v') w') : wpList Try.prog ops Q (o :: rest) a w := by
  obtain ⟨i0, hi0, hz0, hz1, hz2⟩ := info_parts info_deed
  exact wpList_append_any w hgd s x _ ho base _ i0 _ 4 32 Try.underlying54 hi0 hz0 hz1 hz2 rfl (by omega) v n xs hs hown D A m c news hx hr h1 (by simp only [maxLen]; omega) (by omega) hbase h
/-- x[:k], laid ahead of the walk -/
theorem slice_h {P : Program} {size n c : Nat} {A : Option Addr} (t e : TypeId) (ht : P.underlying t = some (.slice e)) (hi : (P.info? e).map (·.size) = some size) (k : Nat) (hk : k ≤ c) (h : Int) (hh : h = k) (W : World) :
    (Instr.slice t (.slice A n c) none (some (.int .i64 h)) none).run P W = .ok (.slice A k c) W := by
  subst hh
  obtain ⟨inf, hinf, hsz⟩ := Option.map_eq_some_iff.1 hi
  have he : P.elem t = e := by simp [Program.elem, ht]
  rw [run_slice_h W t A n c (by rw [he]; exact ht) .i64 _ (by omega) (by omega)]
  cases A <;> simp [he, sizeOf, typeInfo, hinf, hsz, sliced, Addr.add]
theorem ddcs_take (l : List Dd) (k : Nat) : (ddcs l).take (k * 4) = ddcs (l.take k) := by
  induction l generalizing k with
  | nil => simp [ddcs]
  | cons d r ih =>
    cases k with
    | zero => simp [ddcs]
    | succ k =>
      have e1 : ddcs (d :: r) = ddc d ++ ddcs r := by simp [ddcs]
      have e2 : ddcs ((d :: r).take (k + 1)) = ddc d ++ ddcs (r.take k) := by simp [ddcs]
      rw [e1, e2, List.take_append, ← ih k]
      have : (ddc d).length = 4 := rfl
      rw [this, List.take_of_length_le (by rw [this]; omega), show (k + 1) * 4 - 4 = k * 4 by omega]

theorem drain_kind (n : Nat) : ∀ d ∈ roundsL n 4, d.kind = 2 ∧ d.n = 0 := by
  intro d hd
  unfold roundsL at hd
  obtain ⟨l, hl, hd⟩ := List.mem_flatten.1 hd
  have e := List.eq_of_mem_replicate hl
  subst e
  unfold roundL at hd
  obtain ⟨a, _, hd⟩ := List.mem_flatMap.1 hd
  obtain ⟨b, _, hd⟩ := List.mem_flatMap.1 hd
  split at hd
  · cases hd
  · have e := List.eq_of_mem_replicate hd
    subst e
    exact ⟨rfl, rfl⟩
theorem drain_pays (n : Nat) : paysL (drainL n) = 0 := by
  have e : drainL n = [⟨3, 0, 0, 0⟩] ++ roundsL n 4 := rfl
  rw [e, pays_app, no_pays (fun d hd => (drain_kind n d hd).1)]
  rfl
theorem ends_plain (C : List Int) (h0 : ∀ c ∈ C, 0 ≤ c) (hn : 0 < C.length) (l : List Dd) (hl : l.length ≤ 10) :
    allDone (runF (newF C) (l ++ drainL C.length)) = true ∧ wsum (fun _ c => posum c) (runF (newF C) (l ++ drainL C.length)).ways = 0 := by
  obtain ⟨i0, m0⟩ := inv_new C h0
  have hp := paysL_le l
  obtain ⟨i1, m1⟩ := inv_run l i0 m0 (by omega)
  have hm := (run_more l i0 m0 (by omega)).2
  rw [run_app]
  refine drained i1 m1 (by omega) hn fun a b ha hb hab => ?_
  have h1 := hm a b ha hb hab
  have h2 : Mf (newF C) a b ≤ 1 := by
    unfold Mf
    have : (chan (newF C).ways a b).length = 0 := rfl
    split <;> omega
  omega
def stepL (a b : Nat) : List Dd := if a = b then [] else comes a b
def innerL (n a : Nat) : List Dd := (List.range n).flatMap (stepL a)
theorem rounds_succ (n r : Nat) : roundsL n (r + 1) = roundsL n r ++ (List.range n).flatMap (innerL n) := by
  have e : roundL n = (List.range n).flatMap (innerL n) := rfl
  unfold roundsL
  rw [List.replicate_succ', List.flatten_append, e]
  simp
theorem flat_succ {α : Type} (f : Nat → List α) (k : Nat) : (List.range (k + 1)).flatMap f = (List.range k).flatMap f ++ f k := by
  rw [List.range_succ, List.flatMap_append]
  simp
theorem own_apart {w : World} {base base' : Nat} {e e' : TypeId} {size size' n n' : Nat} {v v' : Value} {xs xs' : List Value} (h : w.ownsRow base e size v n xs) (h' : w.ownsRow base' e' size' v' n' xs') (hne : e ≠ e') (b : Nat) (hb : v.ownBlock = some b) : v'.ownBlock ≠ some b := by
  intro hb'
  rcases h.2 with ⟨rfl, _⟩ | ⟨g, cap, cur, rfl, _, hg, _⟩
  · simp [Value.ownBlock] at hb
  · rcases h'.2 with ⟨rfl, _⟩ | ⟨g', cap', cur', rfl, _, hg', _⟩
    · simp [Value.ownBlock] at hb'
    · simp [Value.ownBlock] at hb hb'
      subst hb hb'
      rw [hg] at hg'
      injection hg' with hg'
      injection hg' with _ hg'
      exact hne hg'
def RowD (w0 wr : World) (A1 : Option Addr) (n1 c1 : Nat) (C : List Int) (A : Option Addr) (N c : Nat) (row : List Dd) : Prop :=
  wr.ownsRow w0.heap.size 64 4 (.slice A N c) N (ddcs row) ∧ wr.ownsRow w0.heap.size 3 1 (.slice A1 n1 c1) n1 (nums C) ∧ Below w0.heap.size w0 wr
theorem RowD.app {w0 wr w' : World} {A1 : Option Addr} {n1 c1 : Nat} {C : List Int} {A A8 : Option Addr} {N c c8 : Nat} {row : List Dd} (h : RowD w0 wr A1 n1 c1 C A N c row) (o : Obj) (d : Dd) (hown : w'.ownsRow w0.heap.size 64 4 (.slice A8 (N + 1) c8) (N + 1) (ddcs row ++ ddc d)) (hg : (wr.alloc o).grownBy w' (Value.slice A N c).ownBlock) : RowD w0 w' A1 n1 c1 C A8 (N + 1) c8 (row ++ [d]) := by
  obtain ⟨h1, h2, h3⟩ := h
  refine ⟨by rw [ddcs_snoc]; exact hown, own_keep (h2.alloc o) fun b hb => hg.block b ((h2.alloc o).lt b hb).2 fun e => own_apart h2 h1 (by decide) b hb e.symm, (h3.alloc h3.size o).grown hg (by have := h3.size; simp; omega) fun b hb => (h1.lt b hb).1⟩

set_option maxRecDepth 100000 in
set_option maxHeartbeats 4000000 in
theorem markEnds_any (w : World) (A : Option Addr) (n c : Nat) (coins : List Int) (A2 : Option Addr) (m c2 : Nat) (l : List Four) (hn : n = coins.length) (hc : ∀ x ∈ coins, I64 x) (hnc : n ≤ c) (hcm : c ≤ maxLen) (hr : Reads w Any 1 A n (nums coins)) (hm : m = l.length) (hmc : m ≤ c2) (hc2 : c2 ≤ maxLen) (hrd : Reads w Any 4 A2 m (ddcs (l.map ddOf))) (hl : ∀ x ∈ l, I64F x) :
    Calls Try.prog 8 #[.slice A n c, .slice A2 m c2] w fun e w' => e = .returned (.bool true) ∧ Below w.heap.size w w' := by
  have HT := Lib.hid (towns_any w A n c coins A2 m c2 l hn hc hnc hcm hr hm hmc hc2 hrd hl)
  have hC := townC_len coins
  have hCb := townC_bd coins
  have hD := townD_len (townC coins).length l
  have hDb := townD_bd (townC coins).length l
  unfold TownsPost at HT
  generalize hCC : townC coins = C at *
  generalize hDD : townD C.length l = D at *
  obtain ⟨nC, hnC⟩ : ∃ nC, nC = C.length := ⟨_, rfl⟩
  obtain ⟨sum, hsC⟩ : ∃ s, s = C.sum := ⟨_, rfl⟩
  obtain ⟨nD, hnD⟩ : ∃ nD, nD = D.length := ⟨_, rfl⟩
  rw [← hnC] at HT hC
  rw [← hsC] at HT
  rw [← hnD] at HT hD
  have HnC := Lib.hid hnC
  have HnD := Lib.hid hnD
  have HCb := Lib.hid hCb
  have HDb := Lib.hid hDb
  clear hCC hDD hn hc hnc hcm hr hm hmc hc2 hrd hl hCb hDb hnC hsC hnD
  go_enter Try.func8, Try.ntmps8
  go_wp2_with (fail)
  refine HT.out.mono ?_
  rintro e w1 ⟨A1, c1, B1, d1, rfl, h1, h2, hb1⟩
  obtain ⟨hd1, hd2⟩ := own_caps h2
  have m1 : d1 ≤ 9223372036854775807 := by unfold maxLen at hd2; omega
  obtain ⟨k, hk⟩ : ∃ k, k = min nD 10 := ⟨_, rfl⟩
  have hk1 : k ≤ nD := by omega
  have hk2 : k ≤ 10 := by omega
  have hmin : ∀ (ts : Array TypeId) (t : TypeId) (W : World), (Builtin.min_ ts t #[.int .i64 (nD : Int), .int .i64 10]).run Try.prog W = .ok (.int .i64 (k : Int)) W := fun ts t W => by
    rw [run_min_int2]
    have : (if (10 : Int) < (nD : Int) then (10 : Int) else (nD : Int)) = (k : Int) := by split <;> omega
    rw [this]
  have hcut := slice_h (P := Try.prog) (A := B1) (n := nD) (c := d1) (size := 4) _ _ Try.underlying54 (by kernel_rfl) k (by omega) k rfl
  have h2' := own_cut h2 k hk1
  rw [ddcs_take] at h2'
  have H2 := Lib.hid h2'
  have H1 := Lib.hid h1
  have HB1 := Lib.hid hb1
  have Hk : Hid (k = (D.take k).length) := by unfold Hid; rw [List.length_take]; have := HnD.out; omega
  clear HT h1 h2 hb1 h2' hk
  go_wp2_with (at_builtin; refine app_deed _ rfl (.tmp 23) (.tmp 25) rfl (H2.out.alloc _) rfl (Reads.new (D := Any) _ [.int .i64 3, .int .i64 0, .int .i64 0, .int .i64 0] 4 1 _ trivial rfl) rfl (by simp [Value.oneCell']) (by omega) (by have := HB1.out.size; simp; omega) ?_; intro v2 w2 hown2 hg2 hat2; obtain ⟨A9, c9, rfl, _⟩ := own_form hown2)
  have HP : Hid (RowD w w2 A1 nC c1 C A9 (k + 1) c9 (D.take k ++ [⟨3, 0, 0, 0⟩])) := RowD.app (row := D.take k) ⟨H2.out, H1.out, HB1.out⟩ _ ⟨3, 0, 0, 0⟩ hown2 hg2
  clear hcut hmin hg2 hat2 hown2 hd1 hd2 m1 hD H1 H2 HB1
  obtain ⟨P0, hP0⟩ : ∃ P, P = D.take k ++ [(⟨3, 0, 0, 0⟩ : Dd)] := ⟨_, rfl⟩
  rw [← hP0] at HP
  have HP0 := Lib.hid hP0
  clear hP0
  go_loopw [6, 27] (fun v6 i wr => ∃ (r N : Nat) (A : Option Addr) (c : Nat) (row : List Dd), r ≤ 4 ∧ i = .int .i64 (r : Nat) ∧ v6 = .slice A N c ∧ N ≤ 11 + 80 * r ∧ Hid (row = P0 ++ roundsL nC r) ∧ Hid (RowD w wr A1 nC c1 C A N c row)) (fun _ i _ => 4 - (intOf i).toNat)
  case atStart => exact ⟨0, k + 1, A9, c9, P0, by omega, rfl, rfl, by omega, by simp [Hid, roundsL], HP⟩
  case round =>
    obtain ⟨r, N, B2, d2, row, hr, rfl, rfl, hN, HR, HW⟩ := hrel
    by_cases hr4 : r < 4
    · have hd4 : decide ((r : Int) < 4) = true := by simp; omega
      go_wp2_with (fail)
      try rw [hd4]
      go_loopw [6, 31] (fun v6 i wr => ∃ (a N' : Nat) (A : Option Addr) (c : Nat) (row' : List Dd), a ≤ nC ∧ i = .int .i64 (a : Nat) ∧ v6 = .slice A N' c ∧ N' ≤ N + 16 * a ∧ Hid (row' = row ++ (List.range a).flatMap (innerL nC)) ∧ Hid (RowD w wr A1 nC c1 C A N' c row')) (fun _ i _ => nC - (intOf i).toNat)
      case atStart => exact ⟨0, N, B2, d2, row, by omega, rfl, rfl, by omega, by simp [Hid], HW⟩
      case round =>
        obtain ⟨a, N2, B3, d3, row2, ha, rfl, rfl, hN2, HR2, HW2⟩ := hrel
        by_cases han : a < nC
        · go_wp2_with (fail)
          go_loopw [6, 36] (fun v6 i wr => ∃ (b N' : Nat) (A : Option Addr) (c : Nat) (row' : List Dd), b ≤ nC ∧ i = .int .i64 (b : Nat) ∧ v6 = .slice A N' c ∧ N' ≤ N2 + 4 * b ∧ (a < b → N' + 4 ≤ N2 + 4 * b) ∧ Hid (row' = row2 ++ (List.range b).flatMap (stepL a)) ∧ Hid (RowD w wr A1 nC c1 C A N' c row')) (fun _ i _ => nC - (intOf i).toNat)
          case atStart => exact ⟨0, N2, B3, d3, row2, by omega, rfl, rfl, by omega, by omega, by simp [Hid], HW2⟩
          case round =>
            obtain ⟨b, N3, B4, d4, row3, hb, rfl, rfl, hN3, hN3', HR3, HW3⟩ := hrel
            by_cases hbn : b < nC
            · by_cases hab : a = b
              · subst hab
                go_wp2_with (fail)
                refine ⟨⟨a + 1, N3, B4, d4, row3, by omega, by go_num, rfl, by omega, by omega, ?_, HW3⟩, by simp [intOf]; omega⟩
                unfold Hid
                rw [flat_succ, HR3.out, stepL, if_pos rfl, List.append_nil]
              · have hab' : ((a : Int) != (b : Int)) = true := by simpa using (by omega : ¬ (a : Int) = (b : Int))
                go_wp2_with (fail)
                go_loopw [6, 42] (fun v6 i wr => ∃ (q N' : Nat) (A : Option Addr) (c : Nat) (row' : List Dd), q ≤ 4 ∧ i = .int .i64 (q : Nat) ∧ v6 = .slice A N' c ∧ N' ≤ N3 + q ∧ Hid (row' = row3 ++ List.replicate q (comeD a b)) ∧ Hid (RowD w wr A1 nC c1 C A N' c row')) (fun _ i _ => 4 - (intOf i).toNat)
                case atStart => exact ⟨0, N3, B4, d4, row3, by omega, rfl, rfl, by omega, by simp [Hid], HW3⟩
                case round =>
                  obtain ⟨q, N4, B5, d5, row4, hq, rfl, rfl, hN4, HR4, HW4⟩ := hrel
                  by_cases hq4 : q < 4
                  · go_wp2_with (at_builtin; refine app_deed _ rfl (.tmp 44) (.tmp 48) rfl (HW4.out.1.alloc _) rfl (Reads.new (D := Any) _ [.int .i64 2, .int .i64 (a : Nat), .int .i64 (b : Nat), .int .i64 0] 4 1 _ trivial rfl) rfl (by simp [Value.oneCell']) (by omega) (by have := HW4.out.2.2.size; simp; omega) ?_; intro v2 w4 hown4 hg4 hat4; obtain ⟨A8, c8, rfl, _⟩ := own_form hown4)
                    refine ⟨⟨q + 1, N4 + 1, A8, c8, row4 ++ [comeD a b], by omega, by go_num, rfl, by omega, ?_, ?_⟩, by simp [intOf]; omega⟩
                    · unfold Hid
                      rw [HR4.out, List.replicate_succ', List.append_assoc]
                    · exact HW4.out.app _ (comeD a b) hown4 hg4
                  · obtain rfl : q = 4 := by omega
                    have HS := Lib.hid (show row4 = row2 ++ (List.range (b + 1)).flatMap (stepL a) by
                      rw [flat_succ, HR4.out, HR3.out, stepL, if_neg hab, List.append_assoc]; rfl)
                    clear HR4 hq4
                    go_wp2_with (fail)
                    exact ⟨⟨b + 1, N4, B5, d5, row4, by omega, by go_num, rfl, by omega, by omega, HS, HW4⟩, by simp [intOf]; omega⟩
            · obtain rfl : b = nC := by omega
              have HS := Lib.hid (show row3 = row ++ (List.range (a + 1)).flatMap (innerL b) by
                rw [flat_succ, HR3.out, HR2.out, List.append_assoc]; rfl)
              clear HR3 hbn
              go_wp2_with (fail)
              exact ⟨⟨a + 1, N3, B4, d4, row3, by omega, by go_num, rfl, by omega, HS, HW3⟩, by simp [intOf]; omega⟩
        · obtain rfl : a = nC := by omega
          have HS := Lib.hid (show row2 = P0 ++ roundsL a (r + 1) by rw [rounds_succ, HR2.out, HR.out, List.append_assoc])
          clear HR2 han
          go_wp2_with (fail)
          exact ⟨⟨r + 1, N2, B3, d3, row2, by omega, by go_num, rfl, by omega, HS, HW2⟩, by simp [intOf]; omega⟩
    · obtain rfl : r = 4 := by omega
      have hrow : row = D.take k ++ drainL C.length := by
        rw [HR.out, HP0.out, List.append_assoc, ← HnC.out]; rfl
      have hNr : N = row.length := by
        have h1 := HW.out.1.1
        rw [ddcs_len] at h1
        omega
      have hk10 : (D.take k).length ≤ 10 := by rw [← Hk.out]; exact hk2
      have hpl := ends_plain C (fun x hx => (HCb.out x hx).1) (by rw [← HnC.out]; exact hC.2) (D.take k) hk10
      rw [← hrow] at hpl
      have hdn : ∀ d ∈ row, d.n ≤ 1000000000000 ∧ -1000000000000 ≤ d.n := by
        intro d hd
        rw [hrow] at hd
        rcases List.mem_append.1 hd with hd | hd
        · exact HDb.out d (List.mem_of_mem_take hd)
        · have e : drainL C.length = ⟨3, 0, 0, 0⟩ :: roundsL C.length 4 := rfl
          rw [e] at hd
          rcases List.mem_cons.1 hd with rfl | hd
          · simp
          · rw [(drain_kind _ d hd).2]; omega
      have hp : paysL row < 200 := by
        rw [hrow, pays_app, drain_pays]
        have := paysL_le (D.take k)
        omega
      have RUN := Lib.hid (mrun_any wr A1 nC c1 C B2 N d2 row HnC.out (by omega) hC.2 HCb.out (reads_of_own (by omega) HW.out.2.1) hNr (by omega) (reads_of_own (by omega) HW.out.1) hdn hp)
      obtain ⟨x, hx⟩ : ∃ x, x = shotF (runF (newF C) row) := ⟨_, rfl⟩
      have hdone : x.done = true := by rw [hx]; exact hpl.1
      have hleft : x.left = 0 := by rw [hx]; exact hpl.2
      rw [← hx] at RUN
      have HB := Lib.hid HW.out.2.2
      clear hx hrow hNr hk10 hpl hdn hp HR HW HP0 Hk HP
      obtain ⟨dn, st, ws, nw, lf⟩ := x
      simp only at hdone hleft
      subst hdone hleft
      go_wp2_with (fail)
      refine RUN.out.mono ?_
      rintro e w2 ⟨cs, rfl, ⟨P1, p1, P2, p2, vss, P3, p3, rfl, ⟨i1, j1⟩, ⟨i2, j2⟩, ⟨i3, j3⟩, hr1, hr2, ha2, hr3⟩, hb2⟩
      simp only at i1 i2 i3 ⊢
      have HB2 := Lib.hid (HB.out.trans (hb2.mono HB.out.size))
      generalize st.length = ns at *
      generalize ws.length = nws at *
      generalize nw.length = nnw at *
      clear hr1 hr2 ha2 hr3 hb2 RUN HB
      go_wp2_with (fail)
      obtain ⟨W2, hW2⟩ : ∃ W, W = (w2.alloc (.cells #[.bool true, .slice P1 ns p1, .slice P2 nws p2, .slice P3 nnw p3, .int .i64 0] 59)) := ⟨_, rfl⟩
      rw [← hW2]
      have hS : Blk W2 w2.heap.size 59 [.bool true, .slice P1 ns p1, .slice P2 nws p2, .slice P3 nnw p3, .int .i64 0] := by rw [hW2]; exact Blk.new w2 _ _
      have hb2 : Below w2.heap.size w2 W2 := by rw [hW2]; exact (Below.refl _ _).alloc (Nat.le_refl _) _
      clear hW2
      refine (marked_any W2).mono ?_
      rintro e w3 ⟨rfl, hq3⟩
      have hw3 : Below w2.heap.size w2 w3 := hb2.trans (hq3.mono hb2.size)
      have hS3 := hS.below hq3 hS.lt
      have lS := hS3.lt
      generalize hB : w2.heap.size = B at hS3 lS ⊢
      have HF := Lib.hid (HB2.out.trans (hw3.mono HB2.out.size))
      have s0 := hS3.cell 0
      have s4 := hS3.cell 4
      simp only [List.getElem?_cons_zero, List.getElem?_cons_succ] at s0 s4
      clear hb2 hq3 hw3 hS3 hS HB2 hB
      go_wp2_with (fail)
      go_ret
      exact ⟨by simp, HF.out⟩
end Go.Proofs.Ytpnhmplinkakbaa
