/- SolveHigh's walk. -/
import Derived.Test.YtijniccmgjokoaaSolveGood
import Derived.Test.YtijniccmgjokoaaSvSortI
set_option linter.unusedVariables false
namespace Go.Proofs.Ytijniccmgjokoaa
open Go.RowKit Go.Mem Go.Sv Go.Maps
theorem info_in : (Try.prog.info? 3).map (fun i => (i.zero, i.size, i.bytes)) = some (some (.int .i64 0), 1, 8) := by kernel_rfl
theorem app_in (w : World) {ops : Array Oper} {rest : List Oper} {o : Oper} {a : Act} {Q : Exit → Act → World → Prop} (hgd : o.guard = none) (s x : Operand)
    (ho : o.op = .call { callee := .builtin .append, args := #[s, x], argTypes := #[22, 22] })
    {base : Nat} {v : Value} {n : Nat} {xs : List Value} (hown : w.ownsRow base 3 1 v n xs) (hs : a.eval s = v)
    {D : Nat → Prop} {A : Option Addr} {m : Nat} {news : List Value} (hr : Reads w D 1 A m news) {c : Nat} (hx : a.eval x = .slice A m c) (h1 : ∀ u ∈ news, u.oneCell' = true)
    (h63 : n + m ≤ 1099511627776) (hbase : base ≤ w.heap.size)
    (h : ∀ v' w', w'.ownsRow base 3 1 v' (n + m) (xs ++ news) → w.grownBy w' v.ownBlock → (v'.ownBlock = v.ownBlock ∨ v'.ownBlock = some w.heap.size) → wpList Try.prog ops Q rest (a.put o.dst v') w') : wpList Try.prog ops Q (o :: rest) a w := by
  obtain ⟨i0, hi0, hz0, hz1, hz2⟩ := info_parts info_in
  exact wpList_append_any w hgd s x _ ho base _ i0 _ 1 8 Try.underlying22 hi0 hz0 hz1 hz2 rfl (by omega) v n xs hs hown D A m c news hx hr h1 (by simp only [maxLen]; omega) (by omega) hbase h
def ofN (l : List Nat) : List Int := l.map fun v : Nat => (v : Int)
/-- versions that rise -/
structure Vs (vs : List Nat) : Prop where
  ln : vs.length ≤ 20
  bd : ∀ v ∈ vs, 1 ≤ v ∧ v ≤ 120
  od : vs.Pairwise (· < ·)
theorem Vs.ok {vs : List Nat} (h : Vs vs) : MsOk (vs.map mdA) := by
  have ha : Letter [97] := ⟨97, rfl, by decide, by decide⟩
  refine ⟨fun m hm => ?_, fun m hm => ?_, fun m hm => ?_, ?_, by rw [List.length_map]; have := h.ln; omega⟩
  · obtain ⟨v, _, rfl⟩ := List.mem_map.1 hm
    exact ha
  · obtain ⟨v, hv, rfl⟩ := List.mem_map.1 hm
    have := h.bd v hv
    simp only [mdA]
    omega
  · obtain ⟨v, _, rfl⟩ := List.mem_map.1 hm
    exact ⟨by simp [mdA], by simp [mdA]⟩
  · rw [List.pairwise_map]
    exact h.od.imp fun hab => .inr ⟨rfl, hab⟩
/-- all raw numbers: sorted, each once -/
theorem vs_of {l : List Int} (hl : l.length ≤ 20) (hb : ∀ x ∈ l, 1 ≤ x ∧ x ≤ 120) : ∃ vs, Lib.compact (l.mergeSort intLe) = ofN vs ∧ Vs vs := by
  have hs : (l.mergeSort intLe).Pairwise (· ≤ ·) := (List.pairwise_mergeSort (le := intLe) (fun a b c h1 h2 => by simp only [intLe, decide_eq_true_eq] at *; omega) (fun a b => by simp only [intLe, Bool.or_eq_true, decide_eq_true_eq]; omega) l).imp fun h => by simpa [intLe] using h
  obtain ⟨h1, h2⟩ := compact_sorted hs
  have hp := List.mergeSort_perm l intLe
  have h3 : ∀ x ∈ Lib.compact (l.mergeSort intLe), 1 ≤ x ∧ x ≤ 120 := fun x hx => hb x (hp.mem_iff.1 (h2 x hx))
  have hle := compactI_le (l.mergeSort intLe)
  rw [hp.length_eq] at hle
  generalize Lib.compact (l.mergeSort intLe) = k at h1 h3 hle
  refine ⟨k.map Int.toNat, ?_, by rw [List.length_map]; omega, fun v hv => ?_, ?_⟩
  · unfold ofN
    rw [List.map_map]
    have : ∀ x ∈ k, ((fun v : Nat => (v : Int)) ∘ Int.toNat) x = x := fun x hx => by have := h3 x hx; simp; omega
    exact (List.map_id' k).symm.trans (List.map_congr_left fun x hx => (this x hx).symm)
  · obtain ⟨x, hx, rfl⟩ := List.mem_map.1 hv
    have := h3 x hx
    omega
  · rw [List.pairwise_map]
    exact h1.imp_of_mem fun {a b} ha hb' hab => by have := h3 a ha; have := h3 b hb'; omega
def mcs (vs : List Nat) : List Value := (vs.map fun v : Nat => [str [97], .int .i64 (v : Int), .slice none 0 0]).flatten
theorem mcs_snoc (vs : List Nat) (v : Nat) : mcs (vs ++ [v]) = mcs vs ++ [str [97], .int .i64 (v : Int), .slice none 0 0] := by simp [mcs]
theorem mds_vs {w : World} {base : Nat} {A : Option Addr} {n c : Nat} {vs : List Nat} (h : w.ownsRow base 45 3 (.slice A n c) n (mcs vs)) (hn : n = vs.length) : MdsAt w Any A n c (vs.map mdA) := by
  obtain ⟨q1, q2, q3⟩ := own_reads (by omega) h
  refine ⟨vs.map fun v : Nat => [str [97], .int .i64 (v : Int), .slice none 0 0], by rw [List.length_map]; exact hn, q1, q2, q3.imp (by omega) fun _ _ _ => trivial, by simp, fun i x y h1 h2 => ?_⟩
  rw [List.getElem?_map] at h1 h2
  obtain ⟨v, hv, rfl⟩ := Option.map_eq_some_iff.1 h1
  rw [hv] at h2
  injection h2 with h2
  subst h2
  exact ⟨none, 0, 0, rfl, rfl, Nat.le_refl _, Nat.zero_le _, Reads.empty⟩
set_option maxRecDepth 100000 in
set_option maxHeartbeats 2000000 in
theorem solveHigh_any (w : World) (A0 : Option Addr) (n0 c0 : Nat) (s0 : List Int) (a1 a2 : Int)
    (hn0 : n0 = s0.length) (hm0 : n0 ≤ maxLen) (hr0 : Reads w Any 1 A0 n0 (nums s0)) (hl0 : ∀ x ∈ s0, I64 x) (h1 : I64 a1) (h2 : I64 a2) :
    Calls Try.prog 5 #[.slice A0 n0 c0, .int .i64 a1, .int .i64 a2] w fun e w' => e = .returned (.bool true) ∧ Below w.heap.size w w' := by
  have Hn := Lib.hid hn0
  have Hl := Lib.hid hl0
  have HR := Lib.hid hr0
  have hn63 : n0 ≤ 9223372036854775807 := by unfold maxLen at hm0; omega
  have R1 := Lib.hid (fun W => rest_q a1 50 W ((rsN a1 50 : Nat) : Int) h1 (by omega) (by omega) (rsN_eq _ _ (by omega)))
  have R2 := Lib.hid (fun W => rest_q a2 50 W ((rsN a2 50 : Nat) : Int) h2 (by omega) (by omega) (rsN_eq _ _ (by omega)))
  have b1 := rsN_lt a1 50 (by omega)
  have b2 := rsN_lt a2 50 (by omega)
  generalize rsN a1 50 = q1 at R1 b1
  generalize rsN a2 50 = q2 at R2 b2
  have k1 : IntKind.i64.wrap (1 + (q1 : Int)) = 1 + (q1 : Int) := IntWalk.i64_in _ (by omega)
  have k2 : IntKind.i64.wrap (1 + (q1 : Int) + (q2 : Int)) = 1 + (q1 : Int) + (q2 : Int) := IntWalk.i64_in _ (by omega)
  clear hn0 hm0 hr0 hl0 h1 h2
  go_enter Try.func5, Try.ntmps5
  go_wp2_with (fail)
  refine (R1.out _).mono ?_
  rintro e w' ⟨rfl, rfl⟩
  go_wp2_with (fail)
  refine (R2.out _).mono ?_
  rintro e w' ⟨rfl, rfl⟩
  go_wp2_with (fail)
  go_loopw [9, 10, 11, 25] (fun v9 _ _ v wr => ∃ (j : Nat) (A5 : Option Addr) (c5 : Nat) (l : List Int), v9 = .slice A5 l.length c5 ∧ v = .int .i64 j ∧ j ≤ n0 ∧ l.length ≤ 20 ∧ l.length ≤ j ∧ Hid (wr.ownsRow w.heap.size 3 1 (.slice A5 l.length c5) l.length (nums l) ∧ Below w.heap.size w wr ∧ ∀ x ∈ l, 1 ≤ x ∧ x ≤ 120)) (fun _ _ _ v _ => n0 - (intOf v).toNat)
  case atStart => exact ⟨0, none, 0, [], rfl, rfl, Nat.zero_le _, by simp, by simp, World.ownsRow_nil _ _ _ _, Below.refl _ _, by simp⟩
  case round =>
    obtain ⟨j, A5, c5, l, rfl, rfl, hj, hl20, hlj, HI⟩ := hrel
    by_cases hlt : j < n0
    · have hjl : j < s0.length := by have := Hn.out; omega
      obtain ⟨b1', o1, u, rfl, _, hu, p0⟩ := (HR.out.keep (Same.any HI.out.2.1)).at_ hlt
      rw [nums_at s0 j hjl] at hu
      injection hu with hu
      subst hu
      have hx := Hl.out _ (List.getElem_mem hjl)
      generalize s0[j] = x at p0 hx
      by_cases h20 : j < 20
      · have R3 := Lib.hid (fun W => rest_q x 120 W ((rsN x 120 : Nat) : Int) hx (by omega) (by omega) (rsN_eq _ _ (by omega)))
        have b3 := rsN_lt x 120 (by omega)
        generalize rsN x 120 = q3 at R3 b3
        have k3 : IntKind.i64.wrap (1 + (q3 : Int)) = 1 + (q3 : Int) := IntWalk.i64_in _ (by omega)
        have hws := HI.out.2.1.size
        clear hx
        go_wp2_with (fail)
        refine (R3.out _).mono ?_
        rintro e w' ⟨rfl, rfl⟩
        go_wp2_with (at_builtin; refine app_in _ rfl (.tmp 32) (.tmp 36) rfl (HI.out.1.alloc (.cells [.int .i64 (1 + (q3 : Int))].toArray 3)) rfl (Reads.new wr [.int .i64 (1 + (q3 : Int))] 1 1 3 Any trivial rfl) rfl (by simp [Value.oneCell']) (by omega) (by simp; omega) ?_; intro v5 w5 hown5 hg5 hat5; obtain ⟨A6, c6, rfl, _⟩ := own_form hown5; have fin := Lib.hid (show w5.ownsRow w.heap.size 3 1 (.slice A6 (l.length + 1) c6) (l.length + 1) (nums (l ++ [1 + (q3 : Int)])) ∧ Below w.heap.size w w5 ∧ ∀ x ∈ l ++ [1 + (q3 : Int)], 1 ≤ x ∧ x ≤ 120 from ⟨by rw [nums_append]; exact hown5, HI.out.2.1.grown (grown_of_alloc hg5) hws (fun k hk => (HI.out.1.lt k hk).1), fun x hx => (List.mem_append.1 hx).elim (HI.out.2.2 x) fun e => (by rw [List.mem_singleton] at e; omega)⟩); clear hown5 hg5 hat5)
        exact ⟨⟨j + 1, A6, c6, l ++ [1 + (q3 : Int)], by rw [List.length_append, List.length_singleton], by go_num, by omega, by rw [List.length_append, List.length_singleton]; omega, by rw [List.length_append, List.length_singleton]; omega, by rw [List.length_append, List.length_singleton]; exact fin⟩, by simp [intOf]; omega⟩
      · clear hx
        go_wp2_with (fail)
        exact ⟨⟨j + 1, A5, c5, l, rfl, by go_num, by omega, hl20, by omega, HI.out⟩, by simp [intOf]; omega⟩
    · obtain ⟨vs, hvs, hV⟩ := vs_of hl20 HI.out.2.2
      have hfirst : ∀ k, (Value.slice A5 l.length c5).ownBlock = some k → w.heap.size ≤ k := fun k hk => (HI.out.1.lt k hk).1
      have ST := Lib.hid (sortI_any wr A5 l.length c5 l (IntsAt.of_own HI.out.1 rfl) (by omega))
      have HV := Lib.hid (And.intro hvs hV)
      have HFi := Lib.hid hfirst
      have HBr := Lib.hid HI.out.2.1
      clear hvs hV hfirst HI hj hlj
      go_wp2_with (fail)
      refine ST.out.mono ?_
      rintro e w4 ⟨rfl, hi4, hg4⟩
      have HB4 := Lib.hid (HBr.out.grown hg4 HBr.out.size HFi.out)
      have CP := compactI_any w4 A5 l.length c5 _ hi4 (by omega)
      rw [HV.out.1] at CP
      have hofl : (ofN vs).length = vs.length := by simp [ofN]
      rw [hofl] at CP
      have CP := Lib.hid CP
      clear hi4 hg4 hofl ST
      go_wp2_with (fail)
      refine CP.out.mono ?_
      rintro e w5 ⟨rfl, hr5, hg5⟩
      have HB5 := Lib.hid (HB4.out.grown hg5 HB4.out.size HFi.out)
      have HR5 := Lib.hid hr5
      clear hr5 hg5 CP
      go_wp2_with (fail)
      have hv20 := HV.out.2.ln
      clear hlt
      go_loopw [7, 8, 13, 44] (fun v7 v8 _ v wr => ∃ (j : Nat) (A7 : Option Addr) (c7 : Nat), v7 = .slice A7 j c7 ∧ v = .int .i64 j ∧ j ≤ vs.length ∧ v8 = .int .i64 (bestV (1 + q1) (1 + q1 + q2) (vs.take j) : Nat) ∧ Hid (wr.ownsRow w5.heap.size 45 3 (.slice A7 j c7) j (mcs (vs.take j)) ∧ Below w5.heap.size w5 wr)) (fun _ _ _ v _ => vs.length - (intOf v).toNat)
      case atStart => exact ⟨0, none, 0, rfl, rfl, Nat.zero_le _, rfl, World.ownsRow_nil _ _ _ _, Below.refl _ _⟩
      case round =>
        obtain ⟨j, A7, c7, rfl, rfl, hj, rfl, HI⟩ := hrel
        by_cases hlt : j < vs.length
        · obtain ⟨b1', o1, u, rfl, _, hu, p0⟩ := (HR5.out.keep (Same.any HI.out.2)).at_ hlt
          have hu2 : (nums (ofN vs))[j]? = some (.int .i64 (vs[j] : Nat)) := by simp [nums, ofN, hlt]
          rw [hu2] at hu
          injection hu with hu
          subst hu
          have hbd := HV.out.2.bd _ (List.getElem_mem hlt)
          have hnx := bestV_next (1 + q1) (1 + q1 + q2) vs j hlt
          have htk : vs.take (j + 1) = vs.take j ++ [vs[j]] := List.take_succ_eq_append_getElem hlt
          generalize vs[j] = v at p0 hbd hnx htk
          generalize bestV (1 + q1) (1 + q1 + q2) (vs.take j) = bv at hnx ⊢
          have HTk := Lib.hid htk
          have hws := HI.out.2.size
          clear htk hu2
          have hrng : ∀ b, inR (1 + q1) (1 + q1 + q2) v = b → True := fun _ _ => trivial
          rcases hin : inR (1 + q1) (1 + q1 + q2) v with _ | _
          all_goals
            rw [hin] at hnx
            have HNx := Lib.hid hnx
            clear hnx
            unfold inR at hin
          · rcases (show (1 + q1 ≤ v ∧ ¬ v ≤ 1 + q1 + q2) ∨ ¬ 1 + q1 ≤ v by simp at hin; omega) with ⟨g1, g2⟩ | g1
            all_goals
              clear hin
              go_wp2_with (at_builtin; refine app_md _ rfl (.tmp 48) (.tmp 51) rfl (HI.out.1.alloc (.cells [str [97], .int .i64 (v : Int), .slice none 0 0].toArray 45)) rfl (Reads.new wr [str [97], .int .i64 (v : Int), .slice none 0 0] 3 1 45 Any trivial rfl) rfl (by simp [Value.oneCell']) (by omega) (by simp; omega) ?_; intro v9 w9 hown9 hg9 hat9; obtain ⟨A9, c9, rfl, _⟩ := own_form hown9; have fin := Lib.hid (show w9.ownsRow w5.heap.size 45 3 (.slice A9 (j + 1) c9) (j + 1) (mcs (vs.take (j + 1))) ∧ Below w5.heap.size w5 w9 from ⟨by rw [HTk.out, mcs_snoc]; exact hown9, HI.out.2.grown (grown_of_alloc hg9) hws (fun k hk => (HI.out.1.lt k hk).1)⟩); clear hown9 hg9 hat9)
              exact ⟨⟨j + 1, A9, c9, rfl, by go_num, by omega, by rw [HNx.out]; rfl, fin⟩, by simp [intOf]; omega⟩
          · have g1 : 1 + q1 ≤ v := by simp at hin; omega
            have g2 : v ≤ 1 + q1 + q2 := by simp at hin; omega
            clear hin
            go_wp2_with (at_builtin; refine app_md _ rfl (.tmp 48) (.tmp 51) rfl (HI.out.1.alloc (.cells [str [97], .int .i64 (v : Int), .slice none 0 0].toArray 45)) rfl (Reads.new wr [str [97], .int .i64 (v : Int), .slice none 0 0] 3 1 45 Any trivial rfl) rfl (by simp [Value.oneCell']) (by omega) (by simp; omega) ?_; intro v9 w9 hown9 hg9 hat9; obtain ⟨A9, c9, rfl, _⟩ := own_form hown9; have fin := Lib.hid (show w9.ownsRow w5.heap.size 45 3 (.slice A9 (j + 1) c9) (j + 1) (mcs (vs.take (j + 1))) ∧ Below w5.heap.size w5 w9 from ⟨by rw [HTk.out, mcs_snoc]; exact hown9, HI.out.2.grown (grown_of_alloc hg9) hws (fun k hk => (HI.out.1.lt k hk).1)⟩); clear hown9 hg9 hat9)
            exact ⟨⟨j + 1, A9, c9, rfl, by go_num, by omega, by rw [HNx.out]; rfl, fin⟩, by simp [intOf]; omega⟩
        · obtain rfl : j = vs.length := by omega
          have hI := HI.out
          rw [List.take_length] at hI ⊢
          have HBr2 := Lib.hid (HB5.out.trans (hI.2.mono HB5.out.size))
          have HMd := Lib.hid (mds_vs hI.1 rfl)
          have hb1 := high_best vs (1 + q1) (1 + q1 + q2)
          have hbv : ∀ v, vs.reverse.find? (inR (1 + q1) (1 + q1 + q2)) = some v → 1 ≤ v ∧ v ≤ 120 := fun v hv => HV.out.2.bd v (List.mem_reverse.1 (List.mem_of_find?_eq_some hv))
          have hbe : bestV (1 + q1) (1 + q1 + q2) vs = (vs.reverse.find? (inR (1 + q1) (1 + q1 + q2))).getD 0 := rfl
          have BS := best_any (wr.alloc (.cells (usc ⟨[97], 1 + q1, 1 + q1 + q2⟩).toArray 47)) A7 vs.length c7 (vs.map mdA) (some ⟨wr.heap.size, 0, none⟩) 1 1 [⟨[97], 1 + q1, 1 + q1 + q2⟩] none 0 0 [] (HMd.out.keep (Same.alloc _ _ _)) HV.out.2.ok
            (Reads.new wr (usc ⟨[97], 1 + q1, 1 + q1 + q2⟩) 3 1 47 Any trivial rfl) rfl (Nat.le_refl _) (by unfold maxLen; omega) (by omega) (fun u hu => by
              rw [List.mem_singleton] at hu
              subst hu
              exact ⟨⟨97, rfl, by decide, by decide⟩, by simp only; omega, by simp only; omega, by simp only; omega⟩) Reads.empty rfl (by omega)
          rw [hb1] at BS
          rw [hbe]
          generalize vs.reverse.find? (inR (1 + q1) (1 + q1 + q2)) = F at BS hbv ⊢
          have BS := Lib.hid BS
          clear hI hb1 hbe HI hlt hj
          rcases F with _ | v
          · simp only [Option.getD_none]
            go_wp2_with (fail)
            refine BS.out.mono ?_
            unfold BestPost
            rintro e w6 ⟨hb6, hnone, _⟩
            have he := hnone rfl
            subst he
            have HB6 := Lib.hid (HBr2.out.trans (Below.mono ((Below.alloc (Below.refl _ _) (Nat.le_refl _) _).trans (hb6.mono (by simp))) HBr2.out.size))
            have SV := solved_any w6
            clear hb6 hnone hbv
            go_wp2_with (fail)
            refine SV.mono ?_
            rintro e w7 ⟨rfl, hb7⟩
            go_wp2_with (fail)
            go_ret
            exact ⟨rfl, HB6.out.trans (hb7.mono HB6.out.size)⟩
          · simp only [Option.getD_some]
            have hv1 := hbv v rfl
            have g9 : ((v : Int) == 0) = false := by simp; omega
            go_wp2_with (fail)
            refine BS.out.mono ?_
            unfold BestPost
            rintro e w6 ⟨hb6, _, hsome⟩
            obtain ⟨A8, c8, he, _, _, hx⟩ := hsome _ rfl
            subst he
            have HB6 := Lib.hid (HBr2.out.trans (Below.mono ((Below.alloc (Below.refl _ _) (Nat.le_refl _) _).trans (hb6.mono (by simp))) HBr2.out.size))
            have HX := Lib.hid (hx.imp (D' := Any) (by omega) fun _ _ _ => trivial)
            have SV := solved_any w6
            clear hb6 hsome hbv hx
            go_wp2_with (fail)
            refine SV.mono ?_
            rintro e w7 ⟨rfl, hb7⟩
            have HB7 := Lib.hid (HB6.out.trans (hb7.mono HB6.out.size))
            have EQ := Lib.hid (equal_pks A8 (some ⟨w7.heap.size, 0, none⟩) 1 c8 1 [([97], v)] (w7.alloc (.cells (pks [([97], v)]).toArray 27)) ((HX.out.keep (Same.any hb7)).keep (Same.alloc _ _ _)) (Reads.new w7 (pks [([97], v)]) 2 1 27 Any trivial rfl) (by omega) rfl)
            clear hb7
            go_wp2_with (fail)
            refine EQ.out.mono ?_
            rintro e w8 ⟨rfl, hb8⟩
            go_wp2_with (fail)
            go_ret
            exact ⟨rfl, HB7.out.trans (Below.mono ((Below.alloc (Below.refl _ _) (Nat.le_refl _) _).trans (hb8.mono (by simp))) HB7.out.size)⟩
end Go.Proofs.Ytijniccmgjokoaa
