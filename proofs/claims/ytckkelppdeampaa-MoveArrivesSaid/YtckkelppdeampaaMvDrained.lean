/- Contract of roadkeep5.drained: behind the deeds, twelve rounds in which all comes. -/
import Derived.Test.YtckkelppdeampaaHarbour
import Derived.Test.YtckkelppdeampaaMvLet
set_option linter.unusedVariables false
namespace Go.Mv
def dr3 (a b j : Nat) : List Dv := if a = b then [] else List.replicate j (cm a b)
def dr2 (a : Nat) : Nat → List Dv
  | 0 => []
  | b + 1 => dr2 a b ++ dr3 a (b + 1) 5
def dr1 (n : Nat) : Nat → List Dv
  | 0 => []
  | a + 1 => dr1 n a ++ dr2 (a + 1) n
def dr0 (n : Nat) : Nat → List Dv
  | 0 => []
  | r + 1 => dr0 n r ++ dr1 n n
theorem dr1_rd {n : Nat} (h : 1 ≤ n ∧ n ≤ 3) : dr1 n n = rd (pairs n) := by
  rcases (show n = 1 ∨ n = 2 ∨ n = 3 from by omega) with rfl | rfl | rfl <;> simp [dr1, dr2, dr3, rd, pairs, List.replicate]
theorem rounds_snoc (n : Nat) : ∀ m, rounds n (m + 1) = rounds n m ++ rd (pairs n)
  | 0 => by simp [rounds]
  | m + 1 => by
    show rd (pairs n) ++ rounds n (m + 1) = (rd (pairs n) ++ rounds n m) ++ rd (pairs n)
    rw [rounds_snoc n m, List.append_assoc]
theorem dr0_rounds {n : Nat} (h : 1 ≤ n ∧ n ≤ 3) : ∀ r, dr0 n r = rounds n r
  | 0 => rfl
  | r + 1 => by rw [dr0, dr0_rounds h r, dr1_rd h, rounds_snoc]
theorem dr3_len (a b j : Nat) : (dr3 a b j).length ≤ j := by unfold dr3; split <;> simp
theorem dr2_len (a : Nat) : ∀ b, (dr2 a b).length ≤ 5 * b
  | 0 => by simp [dr2]
  | b + 1 => by
    have := dr2_len a b
    have := dr3_len a (b + 1) 5
    rw [dr2, List.length_append]
    omega
theorem dr1_len (n : Nat) : ∀ a, (dr1 n a).length ≤ a * (5 * n)
  | 0 => by simp [dr1]
  | a + 1 => by
    have := dr1_len n a
    have := dr2_len (a + 1) n
    rw [dr1, List.length_append, Nat.add_mul]
    omega
theorem r30_len {n : Nat} (h : 1 ≤ n ∧ n ≤ 3) : (dr1 n n).length ≤ 30 := by
  rcases (show n = 1 ∨ n = 2 ∨ n = 3 from by omega) with rfl | rfl | rfl <;> decide
theorem dr0_len {n : Nat} (h : 1 ≤ n ∧ n ≤ 3) : ∀ r, (dr0 n r).length ≤ 30 * r
  | 0 => by simp [dr0]
  | r + 1 => by
    have := dr0_len h r
    have := r30_len h
    rw [dr0, List.length_append]
    omega
theorem dr3_next {a b : Nat} (h : a ≠ b) (j : Nat) : dr3 a b (j + 1) = dr3 a b j ++ [cm a b] := by
  unfold dr3
  rw [if_neg h, if_neg h, List.replicate_succ']
theorem dvcs_app (l k : List Dv) : Go.Proofs.Ytckkelppdeampaa.dvcs (l ++ k) = Go.Proofs.Ytckkelppdeampaa.dvcs l ++ Go.Proofs.Ytckkelppdeampaa.dvcs k := by simp [Go.Proofs.Ytckkelppdeampaa.dvcs]
end Go.Mv
namespace Go.Proofs.Ytckkelppdeampaa
open Go.RowKit Go.Mem Go.Mv Go.Maps
theorem dvcs_one (l : List Dv) : ∀ u ∈ dvcs l, u.oneCell' = true := by
  intro u hu
  obtain ⟨l', hl, hu⟩ := List.mem_flatten.1 hu
  obtain ⟨d, _, rfl⟩ := List.mem_map.1 hl
  simp only [dvc, List.mem_cons, List.not_mem_nil, or_false] at hu
  rcases hu with rfl | rfl | rfl | rfl | rfl <;> rfl
theorem grown_of_alloc' {w w2 : World} {o : Obj} {row : Option Nat} (h : (w.alloc o).grownBy w2 row) : w.grownBy w2 row :=
  ⟨h.os, h.tape, h.output, Nat.le_trans (by simp) h.size, fun k hk hne => (h.block k (by simp; omega) hne).trans (Below.heap_alloc w o k hk)⟩
/-- append of deeds onto a row of the call's own -/
theorem app_mdeed (w : World) {ops : Array Oper} {rest : List Oper} {o : Oper} {a : Act} {Q : Exit → Act → World → Prop} (hgd : o.guard = none) (s x : Operand)
    (ho : o.op = .call { callee := .builtin .append, args := #[s, x], argTypes := #[23, 23] })
    {base : Nat} {v : Value} {n : Nat} {xs : List Value} (hown : w.ownsRow base 35 5 v n xs) (hs : a.eval s = v)
    {D : Nat → Prop} {A : Option Addr} {m : Nat} {news : List Value} (hr : Reads w D 5 A m news) {c : Nat} (hx : a.eval x = .slice A m c) (h1 : ∀ u ∈ news, u.oneCell' = true)
    (h63 : n + m ≤ 1000000) (hbase : base ≤ w.heap.size)
    (h : ∀ v' w', w'.ownsRow base 35 5 v' (n + m) (xs ++ news) → w.grownBy w' v.ownBlock → (v'.ownBlock = v.ownBlock ∨ v'.ownBlock = some w.heap.size) → wpList Try.prog ops Q rest (a.put o.dst v') w') : wpList Try.prog ops Q (o :: rest) a w := by
  obtain ⟨i0, hi0, hz0, hz1, hz2⟩ := info_parts info_mdeed
  exact wpList_append_any w hgd s x _ ho base _ i0 _ 5 40 Try.underlying23 hi0 hz0 hz1 hz2 rfl (by omega) v n xs hs hown D A m c news hx hr h1 (by simp only [maxLen]; omega) (by omega) hbase h
theorem clone_deeds (A : Option Addr) (n c : Nat) (D : List Dv) (w : World) (hr : Reads w Any 5 A n (dvcs D)) (hn : n ≤ 400) :
    Calls Try.prog 13 #[.slice A n c] w fun e w' => ∃ A c, e = .returned (.slice A n c) ∧ w'.ownsRow w.heap.size 35 5 (.slice A n c) n (dvcs D) ∧ Below w.heap.size w w' := by
  have q : ∀ (w : World) (a : Option Addr) (n c : Nat), (binOp .eql 23 (.slice a n c) (.slice none 0 0)).run Try.prog w = .ok (.bool a.isNone) w := fun w a n c => Lib.run_eql_slice_nil w _ _ a n c 0 0 Try.underlying23
  rcases A with _ | ad
  · obtain rfl := hr.nil_len
    have HX := Lib.hid (show dvcs D = [] from List.eq_nil_of_length_eq_zero (by simpa using hr.1))
    clear hr
    go_enter Try.func13, Try.ntmps13
    go_wp2
    go_ret
    rw [HX.out]
    exact ⟨none, 0, rfl, World.ownsRow_nil _ _ _ _, Below.refl _ _⟩
  · have HR := Lib.hid hr
    clear hr
    go_enter Try.func13, Try.ntmps13
    go_wp2_with (at_builtin; refine app_mdeed _ rfl (.tmp 5) (.tmp 6) rfl (World.ownsRow_made w #[] 0 (Nat.le_refl _) (Nat.zero_le _) rfl) rfl (HR.out.keep (Same.alloc _ _ _)) rfl (dvcs_one D) (by omega) (by simp) ?_; intro v1 w1 hown1 hg1 hat1)
    go_ret
    simp only [Nat.zero_add, List.nil_append] at hown1
    obtain ⟨A1, c1, rfl, _⟩ := own_form hown1
    refine ⟨A1, c1, rfl, hown1, ((Below.refl _ _).alloc (Nat.le_refl _) _).grown hg1 (by simp) (by simp [Value.ownBlock])⟩
/-- the row so far -/
structure OutAt (w wr : World) (D : List Dv) (A : Option Addr) (n c : Nat) : Prop where
  len : n = D.length
  own : wr.ownsRow w.heap.size 35 5 (.slice A n c) n (dvcs D)
  be : Below w.heap.size w wr
set_option maxRecDepth 100000 in
set_option maxHeartbeats 4000000 in
theorem drained_any (nd : Nat) (hnd : 1 ≤ nd ∧ nd ≤ 3) (A : Option Addr) (n c : Nat) (D : List Dv) (w : World) (hr : Reads w Any 5 A n (dvcs D)) (hn : n = D.length) (hn8 : n ≤ 8) :
    Calls Try.prog 6 #[.int .i64 (nd : Nat), .slice A n c] w fun e w' => ∃ A' n' c', e = .returned (.slice A' n' c') ∧ OutAt w w' (D ++ rounds nd 12) A' n' c' := by
  have CC := Lib.hid (clone_deeds A n c D w hr (by omega))
  have HN := Lib.hid hn
  have HD := Lib.hid hnd
  obtain ⟨nd1, nd3⟩ := hnd
  clear hr hn
  go_enter Try.func6, Try.ntmps6
  go_wp2_with (go_at_call 13; refine CC.out.mono ?_; rintro e w1 ⟨A1, c1, rfl, ho1, hb1⟩; have H1 := Lib.hid (OutAt.mk HN.out ho1 hb1); clear ho1 hb1)
  clear CC
  go_loopw [5, 10] (fun v i wr => ∃ r A2 n2 c2, r ≤ 12 ∧ i = .int .i64 (r : Nat) ∧ v = .slice A2 n2 c2 ∧ n2 ≤ 8 + 30 * r ∧ Hid (OutAt w wr (D ++ dr0 nd r) A2 n2 c2)) (fun _ i _ => 12 - (intOf i).toNat)
  case atStart => exact ⟨0, A1, n, c1, by omega, rfl, rfl, by omega, by show OutAt _ _ _ _ _ _; simpa [dr0] using H1.out⟩
  case round =>
    obtain ⟨r, A2, n2, c2, hr12, rfl, rfl, hn2, HO⟩ := hrel
    rename World => wr
    by_cases hlt : r < 12
    · have tr : decide ((r : Int) < 12) = true := by simp; omega
      have tr' : decide (r < 12) = true := by simp; omega
      go_wp2_with (fail)
      try rw [tr]
      go_loopw [5, 6] (fun v i wq => ∃ a A3 n3 c3, a ≤ nd ∧ i = .int .i64 ((a : Int) + 1) ∧ v = .slice A3 n3 c3 ∧ n3 ≤ 8 + 30 * r + 15 * a ∧ Hid (OutAt w wq (D ++ dr0 nd r ++ dr1 nd a) A3 n3 c3)) (fun _ i _ => nd + 1 - (intOf i).toNat)
      case atStart => exact ⟨0, A2, n2, c2, Nat.zero_le _, rfl, rfl, by omega, by show OutAt _ _ _ _ _ _; simpa [dr1] using HO.out⟩
      case round =>
        obtain ⟨a, A3, n3, c3, ha, rfl, rfl, hn3, HO3⟩ := hrel
        rename World => wq
        by_cases hlta : a < nd
        · have ta : decide ((a : Int) + 1 ≤ (nd : Int)) = true := by simp; omega
          go_wp2_with (fail)
          go_loopw [5, 7] (fun v i wp => ∃ b A4 n4 c4, b ≤ nd ∧ i = .int .i64 ((b : Int) + 1) ∧ v = .slice A4 n4 c4 ∧ n4 ≤ 8 + 30 * r + 15 * a + 5 * b ∧ Hid (OutAt w wp (D ++ dr0 nd r ++ dr1 nd a ++ dr2 (a + 1) b) A4 n4 c4)) (fun _ i _ => nd + 1 - (intOf i).toNat)
          case atStart => exact ⟨0, A3, n3, c3, Nat.zero_le _, rfl, rfl, by omega, by show OutAt _ _ _ _ _ _; simpa [dr2] using HO3.out⟩
          case round =>
            obtain ⟨b, A4, n4, c4, hb, rfl, rfl, hn4, HO4⟩ := hrel
            rename World => wp
            by_cases hltb : b < nd
            · have tb : decide ((b : Int) + 1 ≤ (nd : Int)) = true := by simp; omega
              go_wp2_with (fail)
              go_loopw [5, 22] (fun v i wz => ∃ j A5 n5 c5, j ≤ 5 ∧ i = .int .i64 (j : Nat) ∧ v = .slice A5 n5 c5 ∧ n5 ≤ 8 + 30 * r + 15 * a + 5 * b + j ∧ Hid (OutAt w wz (D ++ dr0 nd r ++ dr1 nd a ++ dr2 (a + 1) b ++ dr3 (a + 1) (b + 1) j) A5 n5 c5)) (fun _ i _ => 5 - (intOf i).toNat)
              case atStart => exact ⟨0, A4, n4, c4, Nat.zero_le _, rfl, rfl, by omega, by show OutAt _ _ _ _ _ _; simpa [dr3] using HO4.out⟩
              case round =>
                obtain ⟨j, A5, n5, c5, hj, rfl, rfl, hn5, HO5⟩ := hrel
                rename World => wz
                by_cases hltj : j < 5
                · by_cases hab : a = b
                  · have e3 : ∀ k, dr3 (a + 1) (b + 1) k = [] := fun k => by unfold dr3; rw [if_pos (by omega)]
                    have tn : (((a : Int) + 1) != ((b : Int) + 1)) = false := by simp; omega
                    have E3 := Lib.hid e3
                    clear e3 hab
                    go_wp2_with (fail)
                    exact ⟨⟨j + 1, A5, n5, c5, by omega, by go_num, rfl, by omega, by have := HO5.out; rw [E3.out] at this ⊢; exact this⟩, by simp [intOf]; omega⟩
                  · have tn : (((a : Int) + 1) != ((b : Int) + 1)) = true := by simp; omega
                    have tl : decide ((n5 : Int) < 400) = true := by simp; omega
                    have tl' : decide (n5 < 400) = true := by simp; omega
                    have NX := Lib.hid (dr3_next (show a + 1 ≠ b + 1 by omega) j)
                    have hbs := HO5.out.be.size
                    have hco : IntKind.i64.wrap ((a : Int) + 1) = (a : Int) + 1 := IntWalk.i64_in _ (by omega)
                    clear hab
                    go_wp2_with (at_builtin; refine app_mdeed _ rfl (.tmp 32) (.tmp 36) rfl (HO5.out.own.alloc (.cells #[.int .i64 3, .int .i64 ((a : Int) + 1), .int .i64 ((b : Int) + 1), .int .i64 0, .int .i64 0] 35)) rfl (D := Any) (Reads.new (D := Any) wz [.int .i64 3, .int .i64 ((a : Int) + 1), .int .i64 ((b : Int) + 1), .int .i64 0, .int .i64 0] 5 1 35 trivial rfl) rfl (by simp [Value.oneCell']) (by omega) (by simp; omega) ?_; intro v1 w2 hown1 hg1 hat1; obtain ⟨A9, c9, rfl, _⟩ := own_form hown1)
                    have hgw := grown_of_alloc' hg1
                    have ed : ([.int .i64 3, .int .i64 ((a : Int) + 1), .int .i64 ((b : Int) + 1), .int .i64 0, .int .i64 0] : List Value) = dvcs [cm (a + 1) (b + 1)] := by simp [dvcs, dvc, cm]
                    rw [ed] at hown1
                    refine ⟨⟨j + 1, A9, n5 + 1, c9, by omega, by go_num, rfl, by omega, ?_⟩, by simp [intOf]; omega⟩
                    rw [NX.out]
                    show OutAt _ _ _ _ _ _
                    refine ⟨by rw [← List.append_assoc, List.length_append, ← HO5.out.len]; rfl, by rw [← List.append_assoc, dvcs_app]; exact hown1, HO5.out.be.grown hgw hbs (fun k hk => (HO5.out.own.lt k hk).1)⟩
                · obtain rfl : j = 5 := by omega
                  go_wp2_with (fail)
                  exact ⟨⟨b + 1, A5, n5, c5, by omega, by go_num, rfl, by omega, by have := HO5.out; rw [List.append_assoc] at this; exact this⟩, by simp [intOf]; omega⟩
            · obtain rfl : b = nd := by omega
              have tb : decide ((b : Int) + 1 ≤ (b : Int)) = false := by simp; omega
              go_wp2_with (fail)
              exact ⟨⟨a + 1, A4, n4, c4, by omega, by go_num, rfl, by omega, by have := HO4.out; rw [List.append_assoc] at this; exact this⟩, by simp [intOf]; omega⟩
        · obtain rfl : a = nd := by omega
          have ta : decide ((a : Int) + 1 ≤ (a : Int)) = false := by simp; omega
          have HO3' := Lib.hid (show OutAt w wq (D ++ dr0 a (r + 1)) A3 n3 c3 from by have := HO3.out; rw [List.append_assoc] at this; exact this)
          have hn3' : n3 ≤ 8 + 30 * (r + 1) := by
            have h1 := HO3'.out.len
            have h2 := dr0_len HD.out (r + 1)
            rw [List.length_append, ← HN.out] at h1
            omega
          go_wp2_with (fail)
          exact ⟨⟨r + 1, A3, n3, c3, by omega, by go_num, rfl, by omega, HO3'.out⟩, by simp [intOf]; omega⟩
    · obtain rfl : r = 12 := by omega
      go_wp2_with (fail)
      go_ret
      exact ⟨A2, n2, c2, rfl, by rw [← dr0_rounds HD.out]; exact HO.out⟩
end Go.Proofs.Ytckkelppdeampaa
