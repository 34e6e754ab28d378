/- Contract of version.Set at ranges that may be: the set of the versions in them. -/
import Derived.Test.YtcmohbeibnfpaaaDoorVerSort
import Derived.Test.YtcmohbeibnfpaaaDoorVerBoth
import Derived.StillTailTactics
set_option linter.unusedVariables false
namespace Go.Ver
theorem right.le {l : List Rg} (h : ∀ r ∈ l, right r) : Le l := fun r hr => by
  obtain ⟨h1, h2, h3⟩ := h r hr
  omega
theorem rgs_set (a : List Rg) (q0 q1 K : Nat) {M : Nat} (hK : a.length = K) : (rgs (a ++ [(q0, q1)])).set (K * 2 + 1) (.int .i64 (M : Nat)) = rgs (a ++ [(q0, M)]) := by
  subst hK
  rw [rgs_append, rgs_append, rgs_one, rgs_one, List.set_append_right _ _ (by rw [rgs_len]; omega), rgs_len, show a.length * 2 + 1 - a.length * 2 = 1 by omega]
  rfl
end Go.Ver
namespace Go.Proofs.YtcmohbeibnfpaaaDoor
open Go.RowKit Go.Mem Go.Ver
theorem OwnR.drewN {w0 w : World} {l : List Rg} {A : Option Addr} {c : Nat} (h : OwnR w0 w l A c) (k : Nat) : OwnR w0 (w.drewN k) l A c := ⟨h.1, ⟨h.2.os, h.2.tape, h.2.output, h.2.size, h.2.block⟩⟩
/-- the set of the versions in some ranges -/
def SetPost (w : World) (l : List Rg) : Ending → World → Prop := fun e w' => ∃ A c m, e = .returned (.tuple #[.slice A m.length c, .int .i64 0]) ∧ Ok m ∧ (∀ v, In m v ↔ In l v) ∧ m.length ≤ l.length ∧ Ver.Holds w' m A c ∧ Below w.heap.size w w'
theorem set1_any (r : Rg) (W : World) (hr : right r) : Calls Tryd.prog 20 #[.agg #[.int .i64 (r.1 : Nat), .int .i64 (r.2 : Nat)]] W fun e w' => e = .returned (.bool false) ∧ Below W.heap.size W w' := by
  have C := fun W => Lib.hid (right_any r W hr)
  have HB := Lib.hid ((Below.refl W.heap.size W).alloc (Nat.le_refl _) (.cells #[.int .i64 (r.1 : Nat), .int .i64 (r.2 : Nat)] 34))
  clear hr
  go_enter Tryd.func20, Tryd.ntmps20
  go_wp2_with (fail)
  refine (C _).out.mono ?_
  rintro e w2 ⟨rfl, hb2⟩
  go_wp2_with (fail)
  go_ret
  exact ⟨rfl, HB.out.trans (hb2.mono HB.out.size)⟩
set_option maxRecDepth 100000 in
set_option maxHeartbeats 2000000 in
theorem set_any (A : Option Addr) (n c : Nat) (l : List Rg) (w : World) (hr : Reads w Any 2 A n (rgs l)) (hn : n = l.length) (h : ∀ r ∈ l, right r) (h50 : n ≤ 50) :
    Calls Tryd.prog 11 #[.slice A n c] w (SetPost w l) := by
  have eg : ∀ args w, (callFunc 20 args).run Tryd.prog w = .ok (.enter 20 args) w := enters_of Tryd.func20 (by kernel_rfl) rfl
  have c1 := containsFunc_any A n c l (fun _ => false) 20 #[] w hr hn (by omega) eg fun r hr W _ => set1_any r W (h r hr)
  rw [show l.any (fun _ => false) = false by simp] at c1
  have C1 := Lib.hid c1
  have C2 := Lib.hid (fun w' (hb : Below w.heap.size w w') => clone_rgs A n c l Any w' (hr.keep (Same.any hb)) (by omega))
  have Hn := Lib.hid hn
  have H := Lib.hid h
  clear c1 eg hr hn h
  unfold SetPost
  go_enter Tryd.func11, Tryd.ntmps11
  go_wp2_with (fail)
  refine C1.out.mono ?_
  rintro e w1 ⟨rfl, hb1⟩
  have C3 := Lib.hid (C2.out w1 hb1)
  have HB1 := Lib.hid hb1
  clear C1 C2 hb1
  go_wp2_with (fail)
  refine C3.out.mono ?_
  rintro e w2 ⟨A2, c2, rfl, hown, hb2⟩
  have C4 := Lib.hid (sort_any w2 w1.heap.size A2 n c2 l hown Hn.out (right.le H.out) (by omega))
  have HB2 := Lib.hid (HB1.out.trans (hb2.mono HB1.out.size))
  have HO2 := Lib.hid hown
  have hB21 := hb2.size
  clear hown hb2
  go_wp2_with (fail)
  refine C4.out.mono ?_
  rintro e w3 ⟨rfl, s, hp, hs, hrd, hg⟩
  have HB3 := Lib.hid (HB2.out.grown hg HB2.out.size fun k hk => by have := (HO2.out.lt k hk).1; have := HB1.out.size; omega)
  have HR := Lib.hid hrd
  have Hs := Lib.hid hs
  have Hsl := Lib.hid (show n = s.length by rw [hp.length_eq]; exact Hn.out)
  have Hr := Lib.hid (show ∀ r ∈ s, right r from fun r hr => H.out r (hp.mem_iff.1 hr))
  have Hin := Lib.hid (fun v => in_perm hp v)
  clear C3 C4 hp hs hrd hg HB2 HO2 hB21 H
  go_wp2_with (fail)
  go_loopw [5, 17] (fun v5 v wr => ∃ (j k : Nat) (A1 : Option Addr) (c1 : Nat) (acc : List Rg), j ≤ n ∧ v = .int .i64 j ∧ v5 = .slice A1 k c1 ∧ k ≤ j ∧ Hid (k = acc.length ∧ MInv acc (s.take j) ∧ OwnR w3 wr acc A1 c1)) (fun _ v _ => n - (intOf v).toNat)
  case atStart => exact ⟨0, 0, none, 0, [], Nat.zero_le _, rfl, rfl, Nat.le_refl _, rfl, MInv.nil, OwnR.nil w3⟩
  case round =>
    obtain ⟨j, k, A1, c1, acc, hj, rfl, rfl, hk, HI⟩ := hrel
    by_cases hlt : j < n
    · obtain ⟨b1, o1, rfl, _, r0, r1⟩ := rgs_cells HR.out hlt Hsl.out
      have hl : j < s.length := by have := Hsl.out; omega
      have p0 := (Same.any (D := Any) HI.out.2.2.2).cell trivial r0
      have p1 := (Same.any (D := Any) HI.out.2.2.2).cell trivial r1
      have hx := Hr.out _ (List.getElem_mem hl)
      have hnext := HI.out.2.1.next hx fun x hx2 => by
        obtain ⟨i, hi, rfl⟩ := List.mem_take_iff_getElem.1 hx2
        exact List.pairwise_iff_getElem.1 Hs.out i j _ hl (by omega)
      rw [← List.take_succ_eq_append_getElem hl] at hnext
      generalize s[j] = x at p0 p1 hx hnext
      obtain ⟨x0, x1⟩ := x
      obtain ⟨q1, q2, q3⟩ := hx
      simp only at p0 p1 q1 q2 q3
      obtain ⟨W, hW⟩ : ∃ W, W = wr.alloc (.cells #[.int .i64 (x0 : Nat), .int .i64 (x1 : Nat)] 34) := ⟨_, rfl⟩
      have hO : OwnR w3 W acc A1 c1 := by rw [hW]; exact HI.out.2.2.alloc _
      have hBk : Blk W wr.heap.size 34 [.int .i64 (x0 : Nat), .int .i64 (x1 : Nat)] := by rw [hW]; exact Blk.new wr _ _
      have hne : (Value.slice A1 acc.length c1).ownBlock ≠ some wr.heap.size := fun e => by have := (HI.out.2.2.1.lt _ e).2; omega
      have hwr : w3.heap.size ≤ wr.heap.size := HI.out.2.2.2.size
      have HNX := Lib.hid hnext
      have HO := Lib.hid hO
      have HK := Lib.hid hBk
      have Hne := Lib.hid hne
      have hkl : k = acc.length := HI.out.1
      subst hkl
      have hq9 : ∀ q ∈ acc, q.1 ≤ 9999 ∧ q.2 ≤ 9999 := fun q hq => by have := HI.out.2.1.ok.1 q hq; unfold right at this; omega
      have Hq9 := Lib.hid hq9
      clear r0 r1 hnext hO hBk hne HI hq9
      go_upto_region 9 with (fail)
      rw [← hW]
      have lD := HK.out.lt
      have e0 : W.cell? ⟨wr.heap.size, 0, none⟩ = some (.int .i64 (x0 : Nat)) := HK.out.cell 0
      have e1 : W.cell? ⟨wr.heap.size, 1, none⟩ = some (.int .i64 (x1 : Nat)) := HK.out.cell 1
      have hWs : w3.heap.size ≤ W.heap.size := HO.out.2.size
      generalize wr.heap.size = D at HK Hne lD hwr e0 e1 ⊢
      clear hW
      rcases List.eq_nil_or_concat acc with rfl | ⟨a, q, rfl⟩
      · have hmrg := HNX.out
        rw [mrg_nil] at hmrg
        have HM := Lib.hid hmrg
        clear hmrg HNX
        simp only [List.length_nil] at HO Hne hk ⊢
        go_wp2_with (fail)
        go_quiet (fail)
        go_wp2_with (at_builtin; refine app_rg _ rfl (.tmp 49) (.tmp 51) rfl (n := 0) (xs := []) (HO.out.1.alloc _) rfl (Reads.new (D := Any) _ (rgc (x0, x1)) 2 1 34 trivial rfl) rfl (by simp [rgc, Value.oneCell']) (by omega) (by simp; omega) ?_; intro v2 w2 hown2 hg2 hat2; obtain ⟨A9, c9, rfl, _⟩ := own_form hown2)
        have h2 := ((HO.out.drewN _).alloc _).app (r := (x0, x1)) hown2 hg2
        exact ⟨⟨j + 1, 1, A9, c9, [(x0, x1)], by omega, by go_num, rfl, by omega, rfl, HM.out, h2⟩, by simp [intOf]; omega⟩
      · have hmrg := HNX.out
        rw [List.concat_eq_append] at hmrg HO Hne hk ⊢
        rw [mrg_snoc] at hmrg
        obtain ⟨q0, q1'⟩ := q
        have HM := Lib.hid hmrg
        clear hmrg HNX
        simp only [List.length_append, List.length_cons, List.length_nil, Nat.zero_add] at HO Hne hk ⊢
        obtain ⟨g, rfl, hgb⟩ : ∃ g, A1 = some ⟨g, 0, none⟩ ∧ g < W.heap.size := by
          have hO := HO.out.1
          rw [show (a ++ [(q0, q1')]).length = a.length + 1 by simp] at hO
          rcases hO.2 with ⟨e, _⟩ | ⟨g, cap, cur, e, _, hg, _⟩
          · cases e
          · injection e with e _ _
            exact ⟨g, e, (Array.getElem?_eq_some_iff.1 hg).1⟩
        have hO := HO.out.1
        rw [show (a ++ [(q0, q1')]).length = a.length + 1 by simp] at hO
        have y0 : W.cell? ⟨g, a.length * 2, none⟩ = some (.int .i64 (q0 : Nat)) := by
          rw [hO.cellAt _ (by omega)]
          have := rgs_at (a ++ [(q0, q1')]) a.length 0 (by simp) (by omega)
          simpa [rgc] using this
        have y1 : W.cell? ⟨g, a.length * 2 + 1, none⟩ = some (.int .i64 (q1' : Nat)) := by
          rw [hO.cellAt _ (by omega)]
          have := rgs_at (a ++ [(q0, q1')]) a.length 1 (by simp) (by omega)
          simpa [rgc] using this
        have yf := hO.frozenAt (a.length * 2 + 1)
        have hq : q0 ≤ 9999 ∧ q1' ≤ 9999 := Hq9.out (q0, q1') (by simp)
        have i1 : IntKind.i64.wrap ((a.length : Int) + 1 - 1) = (a.length : Int) := (IntWalk.i64_in _ (by omega)).trans (by omega)
        have i2 : IntKind.i64.wrap (a.length : Int) = (a.length : Int) := IntWalk.i64_in _ (by omega)
        have g1 : decide ((a.length : Int) ≥ 0) = true := decide_eq_true (by omega)
        have HO1 := Lib.hid hO
        clear hO
        generalize hK : a.length = K at *
        by_cases hc : x0 ≤ q1' + 1
        · have g2 : decide ((x0 : Int) ≤ (q1' : Int) + 1) = true := decide_eq_true (by omega)
          have hmx := fun W ts t => run_max_nat q1' x1 W ts t
          generalize hM : max q1' x1 = M at hmx
          have HMx := Lib.hid hM
          clear hM
          go_wp2_with (fail)
          go_quiet (fail)
          go_wp2_with (fail)
          rename_i nq
          obtain ⟨W1, hW1⟩ : ∃ W1, W1 = W.drewN nq := ⟨_, rfl⟩
          rw [← hW1]
          have z0 : W1.cell? ⟨D, 1, none⟩ = some (.int .i64 (x1 : Nat)) := by rw [hW1]; exact e1
          have z1 : W1.cell? ⟨g, K * 2 + 1, none⟩ = some (.int .i64 (q1' : Nat)) := by rw [hW1]; exact y1
          have zf : W1.frozen? ⟨g, K * 2 + 1, none⟩ = false := by rw [hW1]; exact yf
          have lD1 : D < W1.heap.size := by rw [hW1]; exact lD
          have lg1 : g < W1.heap.size := by rw [hW1]; exact hgb
          have hO1 : W1.ownsRow w3.heap.size 34 2 (.slice (some ⟨g, 0, none⟩) (K + 1) c1) (K + 1) (rgs (a ++ [(q0, q1')])) := by rw [hW1]; exact HO1.out
          have hB1 : Below w3.heap.size w3 W1 := by rw [hW1]; exact (HO.out.drewN nq).2
          have HO5 := Lib.hid (And.intro hO1 hB1)
          clear hW1 hO1 hB1 e0 e1 y0 y1 yf HO HO1
          go_region
          go_wp2_with (fail)
          have hm := HM.out
          rw [if_pos hc, HMx.out] at hm
          obtain ⟨s1, s2⟩ := World.ownsRow.stored HO5.out.1 (K * 2 + 1) (.int .i64 (M : Nat))
          have hB6 := HO5.out.2.grown s2 HO5.out.2.size fun k hk => by injection hk with hk; subst hk; exact (HO5.out.1.lt _ rfl).1
          refine ⟨⟨j + 1, K + 1, some ⟨g, 0, none⟩, c1, a ++ [(q0, M)], by omega, by go_num, rfl, by omega, by simp [hK], hm, ?_, ⟨hB6.os, hB6.tape, hB6.output, hB6.size, hB6.block⟩⟩, by simp [intOf]; omega⟩
          rw [rgs_set _ _ _ _ hK] at s1
          rw [show (a ++ [(q0, M)]).length = K + 1 by simp [hK]]
          exact s1.drew
        · have g2 : decide ((x0 : Int) ≤ (q1' : Int) + 1) = false := decide_eq_false (by omega)
          go_wp2_with (fail)
          go_quiet (fail)
          go_wp2_with (at_builtin; refine app_rg _ rfl (.tmp 49) (.tmp 51) rfl (n := K + 1) (xs := rgs (a ++ [(q0, q1')])) (HO1.out.alloc _) rfl (Reads.new (D := Any) _ (rgc (x0, x1)) 2 1 34 trivial rfl) rfl (by simp [rgc, Value.oneCell']) (by omega) (by simp; omega) ?_; intro v2 w2 hown2 hg2 hat2; obtain ⟨A9, c9, rfl, _⟩ := own_form hown2)
          have hm := HM.out
          rw [if_neg hc] at hm
          have hB2 := (HO.out.2.alloc HO.out.2.size (.cells #[.int .i64 (x0 : Nat), .int .i64 (x1 : Nat)] 34)).grown (w' := w2) (by exact ⟨hg2.os, hg2.tape, hg2.output, hg2.size, hg2.block⟩) (by have := HO.out.2.size; simp; omega) fun k hk => (HO1.out.lt k hk).1
          refine ⟨⟨j + 1, K + 2, A9, c9, a ++ [(q0, q1')] ++ [(x0, x1)], by omega, by go_num, rfl, by omega, by simp [hK], hm, ?_, hB2⟩, by simp [intOf]; omega⟩
          rw [rgs_append _ [(x0, x1)], rgs_one, show (a ++ [(q0, q1')] ++ [(x0, x1)]).length = K + 1 + 1 by simp [hK]]
          exact hown2
    · have hall : s.take j = s := List.take_of_length_le (by have := Hsl.out; omega)
      have h3 := HI.out.2.1
      rw [hall] at h3
      have H3 := Lib.hid h3
      clear hall h3
      go_wp2_with (fail)
      refine (limited_any A1 k c1 wr (by omega)).mono ?_
      rintro e w4 ⟨rfl, rfl⟩
      go_wp2_with (fail)
      go_ret2
      have hk := HI.out.1
      subst hk
      exact ⟨A1, c1, acc, rfl, H3.out.ok, fun v => (H3.out.mem v).trans (Hin.out v), by have := H3.out.len; have := Hsl.out; have := Hn.out; omega, HI.out.2.2.holds, HB3.out.trans (HI.out.2.2.2.mono HB3.out.size)⟩
end Go.Proofs.YtcmohbeibnfpaaaDoor
