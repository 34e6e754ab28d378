/- Contract of version.Both at two sets. -/
import Derived.Test.YtfndalfiojdhdaaVerNot
import Derived.Deep.CutBlock
set_option linter.unusedVariables false
namespace Go.Ver
theorem both_take (a b : List Rg) (k : Nat) (h : k < a.length) : bothF (a.take (k + 1)) b = bothF (a.take k) b ++ b.filterMap (cutR a[k]) := by
  unfold bothF
  rw [List.take_succ_eq_append_getElem h, List.flatMap_append, List.flatMap_cons, List.flatMap_nil, List.append_nil]
theorem both_len2 (a b : List Rg) : (bothF a b).length ≤ a.length * b.length := by
  induction a with
  | nil => simp [bothF]
  | cons x a ih =>
    have e : bothF (x :: a) b = b.filterMap (cutR x) ++ bothF a b := rfl
    have := List.length_filterMap_le (cutR x) b
    rw [e, List.length_append, List.length_cons, Nat.add_mul]
    omega
theorem acc_le {a b acc : List Rg} {x : Rg} {j i : Nat} (ha : a.length ≤ 50) (hb : b.length ≤ 50) (h : acc = bothF (a.take j) b ++ (b.take i).filterMap (cutR x)) : acc.length ≤ 3000 := by
  have h1 := both_len2 (a.take j) b
  have h2 := List.length_filterMap_le (cutR x) (b.take i)
  have h3 : (a.take j).length * b.length ≤ 50 * 50 := Nat.mul_le_mul (by rw [List.length_take]; omega) hb
  have h4 : (b.take i).length ≤ 50 := by rw [List.length_take]; omega
  rw [h, List.length_append]
  omega
theorem cut_take (x : Rg) (b : List Rg) (k : Nat) (h : k < b.length) : (b.take (k + 1)).filterMap (cutR x) = (b.take k).filterMap (cutR x) ++ (if max x.1 b[k].1 ≤ min x.2 b[k].2 then [(max x.1 b[k].1, min x.2 b[k].2)] else []) := by
  rw [List.take_succ_eq_append_getElem h, List.filterMap_append]
  congr 1
  unfold cutR
  simp only [List.filterMap_cons, List.filterMap_nil]
  split <;> rename_i h1
  · split at h1
    · cases h1
    · rename_i h2; rw [if_neg h2]
  · split at h1
    · rename_i h2
      injection h1 with h1
      rw [if_pos h2, h1]
    · cases h1
end Go.Ver
namespace Go.Proofs.Ytfndalfiojdhdaa
open Go.RowKit Go.Mem Go.Ver
theorem reads_new3 (w : World) (o p : Obj) (cs : List Value) (size n : Nat) (e : TypeId) (hl : cs.length = n * size) : Reads (((w.alloc o).alloc p).alloc (.cells cs.toArray e)) Any size (some ⟨w.heap.size + 1 + 1, 0, none⟩) n cs := by
  have := Reads.new (D := Any) ((w.alloc o).alloc p) cs size n e trivial hl
  simpa using this
theorem run_max_nat (x y : Nat) (W : World) (ts : Array TypeId) (t : TypeId) : (Builtin.max_ ts t #[.int .i64 (x : Nat), .int .i64 (y : Nat)]).run Try.prog W = .ok (.int .i64 ((max x y : Nat) : Int)) W := by
  rw [run_max_int2]
  congr 2
  split <;> omega
theorem run_min_nat (x y : Nat) (W : World) (ts : Array TypeId) (t : TypeId) : (Builtin.min_ ts t #[.int .i64 (x : Nat), .int .i64 (y : Nat)]).run Try.prog W = .ok (.int .i64 ((min x y : Nat) : Int)) W := by
  rw [run_min_int2]
  congr 2
  split <;> omega
set_option maxRecDepth 100000 in
set_option maxHeartbeats 2000000 in
theorem both_any (A B : Option Addr) (n c m d : Nat) (a b : List Rg) (w : World) (hr : Reads w Any 2 A n (rgs a)) (hn : n = a.length) (ha : Ok a) (hs : Reads w Any 2 B m (rgs b)) (hm : m = b.length) (hb : Ok b) (h50 : n + m ≤ 50) :
    Calls Try.prog 9 #[.slice A n c, .slice B m d] w (RgPost w (bothF a b)) := by
  have C1 := Lib.hid (checkBoth_any A B n c m d a b w hr hn ha hs hm hb (by omega) (by omega))
  have hlen : (bothF a b).length ≤ 50 := by have := both_len ha hb; omega
  have Hn := Lib.hid hn
  have Hm := Lib.hid hm
  have Ha := Lib.hid ha.le
  have Hb := Lib.hid hb.le
  have HR := Lib.hid hr
  have HS := Lib.hid hs
  have Hlen := Lib.hid hlen
  unfold RgPost
  clear hr hn ha hs hm hb hlen
  go_enter Try.func9, Try.ntmps9
  go_wp2_with (fail)
  refine C1.out.mono ?_
  rintro e w1 ⟨rfl, hb1⟩
  have HB1 := Lib.hid hb1
  clear hb1
  go_wp2_with (fail)
  go_loopw [7, 21] (fun v7 v wr => ∃ (j k : Nat) (A1 : Option Addr) (c1 : Nat) (acc : List Rg), j ≤ n ∧ v = .int .i64 j ∧ v7 = .slice A1 k c1 ∧ Hid (k = acc.length ∧ acc = bothF (a.take j) b ∧ OwnR w wr acc A1 c1)) (fun _ v _ => n - (intOf v).toNat)
  case atStart => exact ⟨0, 0, none, 0, [], Nat.zero_le _, rfl, rfl, rfl, by simp [bothF], World.ownsRow_nil _ _ _ _, HB1.out⟩
  case round =>
    obtain ⟨j, k, A1, c1, acc, hj, rfl, rfl, HI⟩ := hrel
    by_cases hlt : j < n
    · obtain ⟨b1, o1, rfl, _, r0, r1⟩ := rgs_cells HR.out hlt Hn.out
      have hl : j < a.length := by have := Hn.out; omega
      have p0 := (Same.any (D := Any) HI.out.2.2.2).cell trivial r0
      have p1 := (Same.any (D := Any) HI.out.2.2.2).cell trivial r1
      have hx := Ha.out _ (List.getElem_mem hl)
      have ht := both_take a b j hl
      generalize a[j] = x at p0 p1 ht hx
      obtain ⟨x0, x1⟩ := x
      obtain ⟨xb0, xb1⟩ := hx
      simp only at p0 p1 xb0 xb1
      obtain ⟨W, hW⟩ : ∃ W, W = wr.alloc (.cells #[.int .i64 (x0 : Nat), .int .i64 (x1 : Nat)] 34) := ⟨_, rfl⟩
      have hO : OwnR w W acc A1 c1 := by rw [hW]; exact HI.out.2.2.alloc _
      have hBk : Blk W wr.heap.size 34 [.int .i64 (x0 : Nat), .int .i64 (x1 : Nat)] := by rw [hW]; exact Blk.new wr _ _
      have hne : (Value.slice A1 acc.length c1).ownBlock ≠ some wr.heap.size := fun e => by have := (HI.out.2.2.1.lt _ e).2; omega
      have hwr : w.heap.size ≤ wr.heap.size := HI.out.2.2.2.size
      have HT := Lib.hid ht
      have HO := Lib.hid (show k = acc.length ∧ acc = bothF (a.take j) b ++ (b.take 0).filterMap (cutR (x0, x1)) ∧ OwnR w W acc A1 c1 ∧ Blk W wr.heap.size 34 [.int .i64 (x0 : Nat), .int .i64 (x1 : Nat)] ∧ (Value.slice A1 acc.length c1).ownBlock ≠ some wr.heap.size from ⟨HI.out.1, by simpa using HI.out.2.1, hO, hBk, hne⟩)
      clear r0 r1 ht hO hBk hne HI
      go_upto_region 8 with (fail)
      rw [← hW]
      have lD := HO.out.2.2.2.1.lt
      have hWs : w.heap.size ≤ W.heap.size := HO.out.2.2.1.2.size
      generalize wr.heap.size = D at HO lD hwr ⊢
      clear hW
      go_wp2_with (fail)
      go_loopw [7, 27] (fun v7 v wq => ∃ (i k : Nat) (A1 : Option Addr) (c1 : Nat) (acc : List Rg), i ≤ m ∧ v = .int .i64 i ∧ v7 = .slice A1 k c1 ∧ W.heap.size ≤ wq.heap.size ∧ Hid (k = acc.length ∧ acc = bothF (a.take j) b ++ (b.take i).filterMap (cutR (x0, x1)) ∧ OwnR w wq acc A1 c1 ∧ Blk wq D 34 [.int .i64 (x0 : Nat), .int .i64 (x1 : Nat)] ∧ (Value.slice A1 acc.length c1).ownBlock ≠ some D)) (fun _ v _ => m - (intOf v).toNat)
      case atStart => exact ⟨0, k, A1, c1, acc, Nat.zero_le _, rfl, rfl, Nat.le_refl _, HO.out⟩
      case round =>
        clear HO
        obtain ⟨i, k, A1, c1, acc, hi, rfl, rfl, hsz, HI⟩ := hrel
        by_cases hlt2 : i < m
        · obtain ⟨b2, o2, rfl, _, s0, s1⟩ := rgs_cells HS.out hlt2 Hm.out
          have hl2 : i < b.length := by have := Hm.out; omega
          have q0 := (Same.any (D := Any) HI.out.2.2.1.2).cell trivial s0
          have q1 := (Same.any (D := Any) HI.out.2.2.1.2).cell trivial s1
          have hy := Hb.out _ (List.getElem_mem hl2)
          have hct := cut_take (x0, x1) b i hl2
          generalize b[i] = y at q0 q1 hct hy
          obtain ⟨y0, y1⟩ := y
          obtain ⟨yb0, yb1⟩ := hy
          simp only at q0 q1 yb0 yb1 hct
          have e0 : wr.cell? ⟨D, 0, none⟩ = some (.int .i64 (x0 : Nat)) := HI.out.2.2.2.1.cell 0
          have e1 : wr.cell? ⟨D, 1, none⟩ = some (.int .i64 (x1 : Nat)) := HI.out.2.2.2.1.cell 1
          have lq := HI.out.2.2.2.1.lt
          have hmx := fun W ts t => run_max_nat x0 y0 W ts t
          have hmn := fun W ts t => run_min_nat x1 y1 W ts t
          generalize max x0 y0 = M at hmx hct
          generalize min x1 y1 = N at hmn hct
          have HCT := Lib.hid hct
          have hk1 : k = acc.length := HI.out.1
          subst hk1
          have Hne := Lib.hid HI.out.2.2.2.2
          have hO2 : OwnR w ((wr.alloc (.cells #[.int .i64 (y0 : Nat), .int .i64 (y1 : Nat)] 34)).alloc (.cells #[.int .i64 (M : Nat), .int .i64 (N : Nat)] 34)) acc A1 c1 := (HI.out.2.2.1.alloc _).alloc _
          have hB2 : Blk ((wr.alloc (.cells #[.int .i64 (y0 : Nat), .int .i64 (y1 : Nat)] 34)).alloc (.cells #[.int .i64 (M : Nat), .int .i64 (N : Nat)] 34)) D 34 [.int .i64 (x0 : Nat), .int .i64 (x1 : Nat)] := (HI.out.2.2.2.1.alloc _).alloc _
          have HO2 := Lib.hid hO2
          have HB2 := Lib.hid hB2
          have hacc : acc.length ≤ 3000 := acc_le (by have := Hn.out; omega) (by have := Hm.out; omega) HI.out.2.1
          clear s0 s1 hct hO2 hB2
          by_cases hc : M ≤ N
          · go_wp2_with (at_builtin; refine app_rg _ rfl (.tmp 47) (.tmp 49) rfl (HO2.out.1.alloc _) rfl (reads_new3 _ _ _ (rgc (M, N)) 2 1 34 rfl) rfl (by simp [rgc, Value.oneCell']) (by omega) (by have := HO2.out.2.size; simp at this ⊢; omega) ?_; intro v2 w2 hown2 hg2 hat2; obtain ⟨A9, c9, rfl, _⟩ := own_form hown2)
            have h2 := (HO2.out.alloc _).app (r := (M, N)) hown2 hg2
            have hbk := (HB2.out.alloc _).grown hg2 (fun e => Hne.out e.symm)
            refine ⟨⟨i + 1, acc.length + 1, A9, c9, acc ++ [(M, N)], by omega, by go_num, rfl, ?_, by simp, ?_, h2, hbk, ?_⟩, by simp [intOf]; omega⟩
            · have := hg2.size; simp at this; omega
            · rw [HCT.out, if_pos hc, ← List.append_assoc, ← HI.out.2.1]
            · rw [show (acc ++ [(M, N)]).length = acc.length + 1 by simp]
              rcases hat2 with h | h
              · rw [h]; exact Hne.out
              · rw [h]; intro e; injection e with e; simp at e; omega
          · go_wp2_with (fail)
            refine ⟨⟨i + 1, acc.length, A1, c1, acc, by omega, by go_num, rfl, ?_, rfl, ?_, HO2.out, HB2.out, Hne.out⟩, by simp [intOf]; omega⟩
            · simp; omega
            · rw [HCT.out, if_neg hc, List.append_nil, ← HI.out.2.1]
        · have hall : b.take i = b := List.take_of_length_le (by have := Hm.out; omega)
          go_wp2_with (fail)
          refine ⟨⟨j + 1, k, A1, c1, acc, by omega, by go_num, rfl, HI.out.1, ?_, HI.out.2.2.1⟩, by simp [intOf]; omega⟩
          have h3 := HI.out.2.1
          rw [hall] at h3
          rw [HT.out, h3]
    · have hall : a.take j = a := List.take_of_length_le (by have := Hn.out; omega)
      have h3 := HI.out.2.1
      rw [hall] at h3
      have H3 := Lib.hid h3
      have hk : k ≤ 50 := by have := Hlen.out; have := HI.out.1; rw [h3] at this; omega
      clear hall h3
      go_wp2_with (fail)
      refine (limited_any A1 k c1 wr hk).mono ?_
      rintro e w3 ⟨rfl, rfl⟩
      go_wp2_with (fail)
      go_ret2
      have hO := HI.out.2.2
      have hk := HI.out.1
      rw [H3.out] at hO hk
      exact ⟨A1, c1, by rw [hk]; rfl, hO.holds, hO.2⟩
end Go.Proofs.Ytfndalfiojdhdaa
