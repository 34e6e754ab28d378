/- Contracts of slices.IndexFunc and slices.DeleteFunc at pieces, with LayoutWide's function: the breaks that must be are struck. -/
import Derived.Test.YtdbpgofabbpadaaLyPcs
import Derived.Test.YtdbpgofabbpadaaLyWide
import Derived.Test.YtdbpgofabbpadaaSeg
import Derived.Test.YtdbpgofabbpadaaSlice
import Derived.Lib.SliceRun
import Derived.Deep.DeepCutAuto
set_option linter.unusedVariables false
namespace Go.Ly
open Go.Mem Go.RowKit
def hardB (p : Pc) : Bool := p.kind == 4
theorem soft_next {d : List Pc} {k : Nat} (hk : k < d.length) : softD (d.take (k + 1)) = softD (d.take k) ++ (if d[k].kind = 4 then [] else [d[k]]) := by
  rw [List.take_succ_eq_append_getElem hk]
  unfold softD
  rw [List.filter_append]
  congr 1
  by_cases h : d[k].kind = 4
  · rw [if_pos h]; simp [h]
  · rw [if_neg h]; simp [h]
theorem soft_none {d : List Pc} (h : ∀ p ∈ d, p.kind ≠ 4) : softD d = d := by
  unfold softD
  rw [List.filter_eq_self]
  intro p hp
  have := h p hp
  simp [this]
theorem pcs_set (E : List Pc) (X : List Value) (i : Nat) (p : Pc) (hi : i < E.length) : (((pcs E ++ X).set (i * 3) (.int .i64 (p.kind : Nat))).set (i * 3 + 1) (.int .i64 (p.n : Nat))).set (i * 3 + 2) (.string ⟨p.s.toArray⟩) = pcs (E.set i p) ++ X := by
  have hl := pcs_len E
  have hl2 : (pcs (E.set i p)).length = E.length * 3 := by rw [pcs_len, List.length_set]
  apply List.ext_getElem?
  intro j
  by_cases h : j < E.length * 3
  · obtain ⟨m, c, hc, rfl⟩ : ∃ m c, c < 3 ∧ j = m * 3 + c := ⟨j / 3, j % 3, by omega, by omega⟩
    have hm : m < E.length := by omega
    rw [List.getElem?_append_left (by omega), pcs_at (E.set i p) m (by simpa using hm) c hc]
    by_cases e : m = i
    · subst e
      rw [List.getElem_set_self]
      rcases (show c = 0 ∨ c = 1 ∨ c = 2 from by omega) with rfl | rfl | rfl
      · rw [List.getElem?_set_ne (by omega), List.getElem?_set_ne (by omega), Nat.add_zero, List.getElem?_set_self (by simp; omega)]
        rfl
      · rw [List.getElem?_set_ne (by omega), List.getElem?_set_self (by simp; omega)]
        rfl
      · rw [List.getElem?_set_self (by simp; omega)]
        rfl
    · rw [List.getElem?_set_ne (by omega), List.getElem?_set_ne (by omega), List.getElem?_set_ne (by omega), List.getElem?_append_left (by omega), pcs_at E m hm c hc, List.getElem_set_ne (fun h => e h.symm)]
  · rw [List.getElem?_set_ne (by omega), List.getElem?_set_ne (by omega), List.getElem?_set_ne (by omega), List.getElem?_append_right (by omega), List.getElem?_append_right (by omega), hl, hl2]
end Go.Ly
namespace Go.Proofs.Ytdbpgofabbpadaa
open Go.RowKit Go.Mem Go.Ly
theorem zero_pc : ∀ w : World, (zeroValue 26).run Try.prog w = .ok (.agg #[.int .i64 0, .int .i64 0, .string ⟨#[]⟩]) w := fun _ => by kernel_rfl
theorem slice_pc (g n c i : Nat) (hi : i ≤ n) (W : World) : (Instr.slice 23 (.slice (some ⟨g, 0, none⟩) n c) (some (.int .i64 (i : Nat))) none none).run Try.prog W = .ok (.slice (if c = i then some ⟨g, 0, none⟩ else some ⟨g, i * 3, none⟩) (n - i) (c - i)) W := by
  obtain ⟨i0, hi0, hz0, hz1, hz2⟩ := info_of info_pc
  have he : Try.prog.elem 23 = 26 := by simp [Program.elem, Try.underlying23]
  rw [run_slice_l W 23 (some ⟨g, 0, none⟩) n c (by rw [he]; exact Try.underlying23) .i64 _ (by omega) (by omega)]
  simp [he, sizeOf, typeInfo, hi0, hz1, sliced, Addr.add_lit]
theorem clear_none (ty : TypeId) (a : Option Addr) (c : Nat) (w : World) : (Builtin.clear_ #[23] ty #[.slice a 0 c]).run Try.prog w = .ok (.tuple #[]) w := by
  cases a <;> simp [Builtin.clear_, run_underlying Try.underlying23]
theorem clear_pcs (w : World) (b o n c : Nat) (hc : ∀ j, j < n * 3 → (w.cell? ⟨b, o + j, none⟩).isSome = true) (hf : ∀ j, j < n * 3 → w.frozen? ⟨b, o + j, none⟩ = false) :
    ∃ zs : List Value, (∀ ty, (Builtin.clear_ #[23] ty #[.slice (some ⟨b, o, none⟩) n c]).run Try.prog w = .ok (.tuple #[]) (w.setCells b o zs)) ∧ zs.length = n * 3 := by
  cases n with
  | zero => exact ⟨[], fun ty => by simp [Builtin.clear_, run_underlying Try.underlying23, World.setCells], rfl⟩
  | succ m =>
    have hl : (Builtin.zeroCells (Value.agg #[.int .i64 0, .int .i64 0, .string ⟨#[]⟩]).cells (m + 1)).toList.length = (m + 1) * 3 := by
      simp [Builtin.zeroCells, Value.cells]
    have h1 : ∀ v ∈ (Builtin.zeroCells (Value.agg #[.int .i64 0, .int .i64 0, .string ⟨#[]⟩]).cells (m + 1)).toList, v.oneCell' = true := by
      intro v hv
      unfold Builtin.zeroCells at hv
      rw [Array.toList_map] at hv
      obtain ⟨i, _, rfl⟩ := List.mem_map.1 hv
      rcases (show i % 3 = 0 ∨ i % 3 = 1 ∨ i % 3 = 2 from by omega) with h | h | h
      all_goals
        show (#[Value.int .i64 0, .int .i64 0, .string ⟨#[]⟩][i % 3]!).oneCell' = true
        rw [h]
        rfl
    refine ⟨_, fun ty => ?_, hl⟩
    have hst := run_storeCells_cells (P := Try.prog) b o _ 0 w (by rw [hl]; simpa using hc) (by rw [hl]; simpa using hf) h1
    simp only [Nat.add_zero] at hst
    simp [Builtin.clear_, run_underlying Try.underlying23, hst]
set_option maxRecDepth 100000 in
theorem clo_any (p : Pc) (w : World) : Calls Try.prog 6 #[.agg #[.int .i64 (p.kind : Nat), .int .i64 (p.n : Nat), .string ⟨p.s.toArray⟩]] w fun e w' => e = .returned (.bool (hardB p)) ∧ Below w.heap.size w w' := by
  have e : hardB p = ((p.kind : Int) == 4) := by
    unfold hardB
    by_cases h : p.kind = 4
    · simp [h]
    · have h2 : (p.kind : Int) ≠ 4 := by omega
      rw [beq_false_of_ne h, beq_false_of_ne h2]
  rw [e]
  generalize p.s = s
  generalize p.n = m
  generalize p.kind = kd
  go_enter Try.func6, Try.ntmps6
  go_wp2_with (fail)
  go_ret
  exact ⟨rfl, (Below.refl _ _).alloc (Nat.le_refl _) _⟩
set_option maxRecDepth 100000 in
set_option maxHeartbeats 2000000 in
theorem index_any (A : Option Addr) (n c : Nat) (d : List Pc) (w : World) (hd : DocAt w Any A n c d) :
    Calls Try.prog 10 #[.slice A n c, .func (.func 6) #[] #[]] w fun e w' => ∃ i : Int, e = .returned (.int .i64 i) ∧ ((i = -1 ∧ ∀ p ∈ d, p.kind ≠ 4) ∨ ∃ (j : Nat) (h : j < d.length), i = j ∧ d[j].kind = 4 ∧ softD (d.take j) = d.take j) ∧ Below w.heap.size w w' := by
  have HD := Lib.hid hd
  have hn : n ≤ 100 := hd.2.2.2.1
  have CC := Lib.hid (fun p W => clo_any p W)
  clear hd
  go_enter Try.func10, Try.ntmps10
  go_wp2_with (fail)
  go_loopw [8] (fun v wr => ∃ j : Nat, j ≤ n ∧ v = .int .i64 j ∧ Hid ((∀ p ∈ d.take j, p.kind ≠ 4) ∧ Below w.heap.size w wr)) (fun v _ => n - (intOf v).toNat)
  case atStart => exact ⟨0, Nat.zero_le _, rfl, fun p hp => by simp at hp, Below.refl _ _⟩
  case round =>
    obtain ⟨j, hj, rfl, HJ⟩ := hrel
    by_cases hlt : j < n
    · have hjl : j < d.length := by have := HD.out.1; omega
      obtain ⟨b, off, rfl, _, c0, c1, c2⟩ := (HD.out.keep (Same.any HJ.out.2)).cells hlt hjl
      have lb := lt_of_cell c0
      have R1 := CC.out d[j] wr
      unfold sv at c2
      generalize hkd : d[j].kind = kd at c0 R1
      generalize d[j].n = nn at c1 R1
      generalize d[j].s = s at c2 R1
      have HR := Lib.hid R1
      have HKD := Lib.hid hkd
      generalize hq : hardB d[j] = q at HR
      have hq2 : q = decide (kd = 4) := by rw [← hq, ← hkd]; unfold hardB; rfl
      have HQ := Lib.hid hq2
      clear R1 hkd hq hq2
      cases q
      · go_wp2_with (go_at_call 6; refine HR.out.mono ?_; rintro e w2 ⟨rfl, hb2⟩)
        refine ⟨⟨j + 1, by omega, by go_num, ?_, HJ.out.2.trans (hb2.mono HJ.out.2.size)⟩, by simp [intOf]; omega⟩
        intro p hp
        rw [List.take_succ_eq_append_getElem hjl] at hp
        rcases List.mem_append.1 hp with hp | hp
        · exact HJ.out.1 p hp
        · rw [List.mem_singleton] at hp
          subst hp
          rw [HKD.out]
          have := HQ.out
          simpa using this
      · go_wp2_with (go_at_call 6; refine HR.out.mono ?_; rintro e w2 ⟨rfl, hb2⟩)
        go_ret
        exact ⟨j, rfl, .inr ⟨j, hjl, rfl, by rw [HKD.out]; have := HQ.out; simpa using this, soft_none HJ.out.1⟩, HJ.out.2.trans (hb2.mono HJ.out.2.size)⟩
    · have hall : d.take j = d := List.take_of_length_le (by have := HD.out.1; omega)
      go_wp2_with (fail)
      go_ret
      have h1 := HJ.out.1
      rw [hall] at h1
      exact ⟨-1, rfl, .inl ⟨rfl, h1⟩, HJ.out.2⟩
set_option maxRecDepth 100000 in
set_option maxHeartbeats 4000000 in
theorem delete_any (w0 w : World) (A : Option Addr) (n c : Nat) (d : List Pc) (hn : n = d.length) (hO : OwnD w0 w d A c) (hl : n ≤ 80) :
    Calls Try.prog 4 #[.slice A n c, .func (.func 6) #[] #[]] w fun e w' => ∃ A' c', e = .returned (.slice A' (softD d).length c') ∧ DocAt w' Any A' (softD d).length c' (softD d) ∧ Below w0.heap.size w0 w' := by
  have hdoc : DocAt w Any A n c d := by rw [hn]; exact (hO.doc (by omega)).imp fun _ _ _ => trivial
  have CI := Lib.hid (index_any A n c d w hdoc)
  have CC := Lib.hid (fun p W => clo_any p W)
  have HO := Lib.hid (And.intro hO hdoc)
  clear hO hdoc
  have HN := Lib.hid hn
  clear hn
  go_enter Try.func4, Try.ntmps4
  go_upto_region 2 with (go_at_call 10; refine CI.out.mono ?_; rintro e w1 ⟨i, rfl, hi, hb1⟩; have H1 := Lib.hid (And.intro hi hb1); clear hi hb1)
  rcases H1.out.1 with ⟨rfl, hno⟩ | ⟨j, hj, rfl, h4, hs⟩
  · have HS := Lib.hid (soft_none hno)
    clear hno
    go_wp2_with (fail)
    go_ret
    rw [HS.out]
    have h2 := HO.out.2.keep (Same.any H1.out.2)
    rw [← HN.out]
    exact ⟨A, c, rfl, h2, HO.out.1.2.trans (H1.out.2.mono HO.out.1.2.size)⟩
  · have hjn : j < n := by rw [HN.out]; exact hj
    have hrow := HO.out.1.1
    obtain ⟨g, cap, cur, e1, hbg, hg, hnc, hcm, hcs, htake⟩ : ∃ g cap cur, Value.slice A d.length c = .slice (some ⟨g, 0, none⟩) d.length cap ∧ w0.heap.size ≤ g ∧ w.heap[g]? = some (.cells cur 26 (0, 0)) ∧ d.length ≤ cap ∧ cap ≤ maxLen ∧ cur.size = cap * 3 ∧ cur.toList.take (d.length * 3) = pcs d := by
      rcases hrow.2 with ⟨_, h0⟩ | ⟨g, cap, cur, h⟩
      · omega
      · exact ⟨g, cap, cur, h⟩
    injection e1 with e1 _ e3
    subst e1 e3
    have hX : cur.toList = pcs d ++ cur.toList.drop (n * 3) := by
      rw [← htake, HN.out, List.take_append_drop]
    generalize cur.toList.drop (n * 3) = X at hX
    have f1 : Blk w1 g 26 (pcs d ++ X) := by
      rw [← hX]
      unfold Blk
      have : g < w.heap.size := (Array.getElem?_eq_some_iff.1 hg).1
      rw [H1.out.2.block g this, hg]
    have h0 : d.take j = softD (d.take (j + 1)) := by rw [soft_next hj, if_pos h4, List.append_nil, hs]
    have HB1 := Lib.hid (HO.out.1.2.trans (H1.out.2.mono HO.out.1.2.size))
    have HF := Lib.hid (And.intro f1 (And.intro h0 (And.intro hbg (And.intro hnc hcm))))
    have hns1 : ((j : Int) == -1) = false := by simp
    clear hrow hg hcs htake hX f1 h0 hs h4 hbg hnc hcm H1
    go_wp2_with (fail)
    go_loopw [5, 6] (fun s5 s6 wr => ∃ (k i : Nat) (E : List Pc), k ≤ n ∧ i < k ∧ s5 = .int .i64 (i : Nat) ∧ s6 = .int .i64 (k : Nat) ∧ E.length = n ∧ Hid (Blk wr g 26 (pcs E ++ X) ∧ Below w0.heap.size w0 wr ∧ E.take i = softD (d.take k) ∧ ∀ m, k ≤ m → E[m]? = d[m]?)) (fun _ s6 _ => n - (intOf s6).toNat)
    case atStart => exact ⟨j + 1, j, d, by omega, by omega, rfl, by go_num, HN.out.symm, HF.out.1, HB1.out, HF.out.2.1, fun _ _ => rfl⟩
    case round =>
      obtain ⟨k, i, E, hk, hik, rfl, rfl, hE, HK⟩ := hrel
      by_cases hlt : k < n
      · have hkE : k < E.length := by omega
        have hkl : k < d.length := by have := HN.out; omega
        have hiE : i < E.length := by omega
        have eE : E[k] = d[k] := by
          have h := HK.out.2.2.2 k (Nat.le_refl _)
          rw [List.getElem?_eq_getElem hkE, List.getElem?_eq_getElem hkl] at h
          injection h
        have fb := HK.out.1
        have hlE := pcs_len E
        have c0 := (fb.cell (k * 3)).trans ((List.getElem?_append_left (by omega)).trans (pcs_at E k hkE 0 (by omega)))
        have c1 := (fb.cell (k * 3 + 1)).trans ((List.getElem?_append_left (by omega)).trans (pcs_at E k hkE 1 (by omega)))
        have c2 := (fb.cell (k * 3 + 2)).trans ((List.getElem?_append_left (by omega)).trans (pcs_at E k hkE 2 (by omega)))
        rw [eE] at c0 c1 c2
        have lb := fb.lt
        have hsn := soft_next hkl
        have R1 := CC.out d[k]
        unfold hardB at R1
        have HP := Lib.hid (show (⟨d[k].kind, d[k].n, d[k].s⟩ : Pc) = d[k] from rfl)
        generalize hpk : d[k] = p at c0 c1 c2 hsn R1 HP
        obtain ⟨kd, nn, s⟩ := p
        simp only [pcell, List.getElem?_cons_zero, List.getElem?_cons_succ, sv] at c0 c1 c2 hsn R1
        have HR := Lib.hid R1
        have HSN := Lib.hid (And.intro hsn hpk)
        clear R1 hsn fb eE hpk
        go_upto_region 8 with (fail)
        obtain ⟨W, hW⟩ : ∃ W, W = wr.alloc (.cells #[.int .i64 (kd : Nat), .int .i64 (nn : Nat), .string ⟨s.toArray⟩] 26) := ⟨_, rfl⟩
        obtain ⟨PB, hPB⟩ : ∃ b, b = wr.heap.size := ⟨_, rfl⟩
        have fP : Blk W PB 26 [.int .i64 (kd : Nat), .int .i64 (nn : Nat), .string ⟨s.toArray⟩] := by rw [hW, hPB]; exact Blk.new _ _ _
        have hbW : Below wr.heap.size wr W := by rw [hW]; exact (Below.refl _ _).alloc (Nat.le_refl _) _
        rw [← hW, ← hPB]
        have HW := Lib.hid (And.intro hbW fP)
        have q0 := fP.cell 0
        have q1 := fP.cell 1
        have q2 := fP.cell 2
        have lP := fP.lt
        simp only [List.getElem?_cons_zero, List.getElem?_cons_succ] at q0 q1 q2
        clear hbW fP hW hPB c0 c1 c2 lb
        by_cases h4 : kd = 4
        · have hb4 : (kd == 4) = true := by simp [h4]
          rw [hb4] at HR
          rw [if_pos h4] at HSN
          clear hb4 h4
          go_wp2_with (go_at_call 6; (with_reducible refine (HR.out _).mono ?_); rintro e w5 ⟨rfl, hb5⟩)
          have hb6 := HW.out.1.trans (hb5.mono HW.out.1.size)
          refine ⟨⟨k + 1, i, E, by omega, by omega, rfl, by go_num, hE, HK.out.1.below hb6 HK.out.1.lt, HK.out.2.1.trans (hb6.mono HK.out.2.1.size), by rw [HSN.out.1, List.append_nil]; exact HK.out.2.2.1, fun m hm => HK.out.2.2.2 m (by omega)⟩, by simp [intOf]; omega⟩
        · have hb4 : (kd == 4) = false := by simp [h4]
          rw [hb4] at HR
          rw [if_neg h4] at HSN
          clear hb4 h4
          go_upto_region 9 with (go_at_call 6; (with_reducible refine (HR.out _).mono ?_); rintro e w5 ⟨rfl, hb5⟩)
          have hb6 := HW.out.1.trans (hb5.mono HW.out.1.size)
          have f6 := HK.out.1.below hb6 HK.out.1.lt
          have fP6 := HW.out.2.below hb5 lP
          clear q0 q1 q2 lP
          have q0 := fP6.cell 0
          have q1 := fP6.cell 1
          have q2 := fP6.cell 2
          have lP := fP6.lt
          simp only [List.getElem?_cons_zero, List.getElem?_cons_succ] at q0 q1 q2
          have c0 := (f6.cell (i * 3)).trans ((List.getElem?_append_left (by omega)).trans (pcs_at E i hiE 0 (by omega)))
          have c1 := (f6.cell (i * 3 + 1)).trans ((List.getElem?_append_left (by omega)).trans (pcs_at E i hiE 1 (by omega)))
          have c2 := (f6.cell (i * 3 + 2)).trans ((List.getElem?_append_left (by omega)).trans (pcs_at E i hiE 2 (by omega)))
          simp only [pcell, List.getElem?_cons_zero, List.getElem?_cons_succ, sv] at c0 c1 c2
          have z0 := f6.frozen (i * 3)
          have z1 := f6.frozen (i * 3 + 1)
          have z2 := f6.frozen (i * 3 + 2)
          have lg := f6.lt
          have hin : i < n := by omega
          have H6 := Lib.hid (And.intro f6 hb6)
          clear f6 fP6 hb5 hb6
          go_wp2_with (fail)
          refine ⟨⟨k + 1, i + 1, E.set i ⟨kd, nn, s⟩, by omega, by omega, by go_num, by go_num, by simpa using hE, ?_⟩, by simp [intOf]; omega⟩
          have f7 := ((H6.out.1.put (i * 3) (.int .i64 (kd : Nat))).put (i * 3 + 1) (.int .i64 (nn : Nat))).put (i * 3 + 2) (.string ⟨s.toArray⟩)
          rw [show ((((pcs E ++ X).set (i * 3) (.int .i64 (kd : Nat))).set (i * 3 + 1) (.int .i64 (nn : Nat))).set (i * 3 + 2) (.string ⟨s.toArray⟩)) = pcs (E.set i ⟨kd, nn, s⟩) ++ X from pcs_set E X i ⟨kd, nn, s⟩ hiE] at f7
          have hb7 := HK.out.2.1.trans (H6.out.2.mono HK.out.2.1.size)
          refine ⟨f7, ((hb7.setCell (p := ⟨g, i * 3, none⟩) HF.out.2.2.1 _).setCell (p := ⟨g, i * 3 + 1, none⟩) HF.out.2.2.1 _).setCell (p := ⟨g, i * 3 + 2, none⟩) HF.out.2.2.1 _, ?_, fun m hm => ?_⟩
          · rw [HSN.out.1, ← HK.out.2.2.1, List.take_succ_eq_append_getElem (by simpa using hiE), List.getElem_set_self, List.take_set_of_le (Nat.le_refl _)]
          · rw [List.getElem?_set_ne (by omega)]
            exact HK.out.2.2.2 m (by omega)
      · obtain rfl : k = n := by omega
        have hall : d.take k = d := List.take_of_length_le (by have := HN.out; omega)
        have fb := HK.out.1
        have hlE := pcs_len E
        have hts := HK.out.2.2.1
        rw [hall] at hts
        have hil : i = (softD d).length := by rw [← hts, List.length_take]; omega
        have hrd : Reads wr Any 3 (some ⟨g, 0, none⟩) k (pcs E) := ⟨by rw [hlE, hE], fun _ => ⟨g, 0, rfl, trivial, fun j u hu => by
          rw [Nat.zero_add, fb.cell, List.getElem?_append_left (by have := (List.getElem?_eq_some_iff.1 hu).1; omega)]
          exact hu⟩⟩
        have hkc : k ≤ c := by have := HF.out.2.2.2.1; have := HN.out; omega
        have hs1 := fun W => slice_pc g k c i (by omega) W
        have hs3 := (slice_h (P := Try.prog) 23 _ Try.underlying23 (by kernel_rfl) hrd hkc i (by omega) (i : Int) rfl).1
        have hpe : pcs E = pcs (softD d) ++ pcs (E.drop i) := by rw [← hts, ← pcs_app, List.take_append_drop]
        have hsl : (softD d).length ≤ 100 := by omega
        have hcm : c ≤ maxLen := HF.out.2.2.2.2
        have HE := Lib.hid (And.intro hpe (And.intro hil (And.intro hsl (And.intro hcm (show i ≤ c by omega)))))
        have fin : ∀ V cs, Blk V g 26 cs → (∀ j, j < i * 3 → cs[j]? = (pcs E ++ X)[j]?) → DocAt V Any (some ⟨g, 0, none⟩) (softD d).length c (softD d) := fun V cs hV hcs => ⟨rfl, by have := HE.out; omega, HE.out.2.2.2.1, HE.out.2.2.1, by rw [pcs_len], fun _ => ⟨g, 0, rfl, trivial, fun j u hu => by
          have hj := (List.getElem?_eq_some_iff.1 hu).1
          rw [pcs_len, ← HE.out.2.1] at hj
          rw [Nat.zero_add, hV.cell, hcs j hj, HE.out.1, List.append_assoc, List.getElem?_append_left (by rw [pcs_len, ← HE.out.2.1]; exact hj)]
          exact hu⟩⟩
        have FIN := Lib.hid fin
        by_cases hci : c = i
        · have hki : k - i = 0 := by omega
          have hs1' : ∀ W, (Instr.slice 23 (.slice (some ⟨g, 0, none⟩) k c) (some (.int .i64 (i : Nat))) none none).run Try.prog W = .ok (.slice (some ⟨g, 0, none⟩) 0 (c - i)) W := fun W => by rw [hs1 W, if_pos hci, hki]
          have hcl := fun ty (W : World) => clear_none ty (some ⟨g, 0, none⟩) (c - i) W
          have HFB := Lib.hid fb
          clear hs1 hpe hil hsl hcm fin hts hall fb hlE hrd hki hci
          go_wp2_with (fail)
          go_ret
          rw [← HE.out.2.1]
          have h := FIN.out _ _ HFB.out (fun _ _ => rfl)
          rw [← HE.out.2.1] at h
          exact ⟨some ⟨g, 0, none⟩, c, rfl, h, HK.out.2.1⟩
        · have hs1' : ∀ W, (Instr.slice 23 (.slice (some ⟨g, 0, none⟩) k c) (some (.int .i64 (i : Nat))) none none).run Try.prog W = .ok (.slice (some ⟨g, i * 3, none⟩) (k - i) (c - i)) W := fun W => by rw [hs1 W, if_neg hci]
          obtain ⟨zs, hzs, hzl⟩ := clear_pcs wr g (i * 3) (k - i) (c - i) (fun j hj => by
            rw [fb.cell, List.getElem?_eq_getElem (by rw [List.length_append, hlE]; omega)]
            rfl) (fun j hj => fb.frozen _)
          have f9 := fb.puts zs (i * 3)
          have hg9 := grownBy_setCells g zs (i * 3) wr
          have hsa : ∀ j, j < i * 3 → (sets (pcs E ++ X) (i * 3) zs)[j]? = (pcs E ++ X)[j]? := fun j hj => by
            rw [sets_at zs _ _ (by rw [List.length_append, hlE, hzl]; omega), if_neg (by omega)]
          have H9 := Lib.hid (And.intro f9 (And.intro hg9 hsa))
          clear hs1 hpe hil hsl hcm fin hts hall fb hlE hrd hci f9 hg9 hsa hzl
          go_wp2_with (fail)
          go_ret
          rw [← HE.out.2.1]
          have h := FIN.out _ _ H9.out.1 H9.out.2.2
          rw [← HE.out.2.1] at h
          exact ⟨some ⟨g, 0, none⟩, c, rfl, h, HK.out.2.1.grown H9.out.2.1 HK.out.2.1.size fun k hk => by injection hk with hk; rw [← hk]; exact HF.out.2.2.1⟩
end Go.Proofs.Ytdbpgofabbpadaa
