/- Contracts of copies.Value and copies.Each at values: a copy. -/
import Derived.Test.YtoddjdajjmcliaaShVf0
import Derived.Deep.DeepCutAuto
import Derived.Deep.LoopGhost
set_option linter.unusedVariables false
namespace Go.Proofs.Ytoddjdajjmcliaa
open Go.RowKit Go.Mem Go.Sh Go.Maps Go.Val
abbrev VsOwn' (d : Nat) (w : World) (base : Nat) (v : Value) (l : List V) : Prop := OwnList 47 4 (VCells d) w base v l
def CpTo (d : Nat) : Prop := ∀ (v : V) (A : Option Addr) (c : Nat) (w : World) (D : Nat → Prop), VCells d w D [.int .i64 v.kind, .int .i64 v.num, .string v.text, .slice A v.args.length c] v →
  Calls Try.prog 36 #[.agg #[.int .i64 v.kind, .int .i64 v.num, .string v.text, .slice A v.args.length c]] w (ValPost d w v)
def EachPost (d : Nat) (w : World) (n : Nat) (l : List V) (e : Ending) (w' : World) : Prop := (∃ A' c', e = .returned (.slice A' n c') ∧ VsOwn' d w' w.heap.size (.slice A' n c') l) ∧ Below w.heap.size w w'
set_option maxRecDepth 100000 in
set_option maxHeartbeats 2000000 in
theorem eachV_any (d : Nat) (hcp : CpTo d) (A : Option Addr) (n c : Nat) (l : List V) (vss : List (List Value)) (w : World) (D : Nat → Prop) (hn : n = l.length) (hn2 : n ≤ 4194304) (hr : Reads w D 4 A n vss.flatten) (ha : All2 (VCells d w D) vss l) :
    Calls Try.prog 59 #[.slice A n c, .func (.func 36) #[] #[]] w (EachPost d w n l) := by
  have Hn := Lib.hid hn
  have HC := Lib.hid hcp
  clear hn hcp
  go_enter Try.func59, Try.ntmps59
  go_wp2_with (fail)
  go_loopw [5, 10] (fun s i wr => ∃ j : Nat, j ≤ n ∧ i = .int .i64 j ∧ Hid (VsOwn' d wr w.heap.size s (l.take j)) ∧ Hid (Below w.heap.size w wr)) (fun _ i _ => n - (intOf i).toNat)
  case atStart => exact ⟨0, Nat.zero_le _, rfl, OwnList.nil _ _ _ _, Below.refl _ _⟩
  case round =>
    obtain ⟨j, hj, rfl, hown, hbe⟩ := hrel
    have hlen : (l.take j).length = j := by rw [List.length_take]; have := Hn.out; omega
    obtain ⟨A3, c3, hf, hjc, hcm⟩ := hown.out.form
    rw [hlen] at hf
    subst hf
    by_cases hlt : j < n
    · have hjl : j < l.length := by have := Hn.out; omega
      obtain ⟨b, off, cs, rfl, hD, hv, hcell⟩ := hr.elem (VCells.stable d) ha Hn.out hjl
      have hsame : Same Any w wr := Same.any hbe.out
      have hv2 := (hv.imp (D' := Any) fun _ _ _ => trivial).keep hsame
      have htk : Hid (l.take (j + 1) = l.take j ++ [l[j]]) := List.take_succ_eq_append_getElem hjl
      generalize hxx : l[j] = X at hv hv2 htk
      clear hxx
      obtain ⟨xk, xn, xt, xa⟩ := X
      obtain ⟨A4, c4, rfl⟩ := hv.form
      simp only [V.kind, V.num, V.text, V.args] at hcell hv hv2
      have g0 := hsame.cell trivial (hcell 0 _ rfl)
      have g1 := hsame.cell trivial (hcell 1 _ rfl)
      have g2 := hsame.cell trivial (hcell 2 _ rfl)
      have g3 := hsame.cell trivial (hcell 3 _ rfl)
      simp only [Nat.add_zero, ← Nat.add_assoc] at g0 g1 g2 g3
      have l4 := lt_of_cell g0
      clear hcell hv
      have C := Lib.hid (HC.out (V.mk xk xn xt xa) A4 c4 (wr.alloc (.cells #[.int .i64 xk, .int .i64 xn, .string xt, .slice A4 xa.length c4] 47)) Any (hv2.keep (Same.alloc _ _ _)))
      simp only [V.kind, V.num, V.text, V.args] at C
      have hown6 := Lib.hid (hown.out.keep (VCells.stable d) (Same.alloc _ wr (.cells #[.int .i64 xk, .int .i64 xn, .string xt, .slice A4 xa.length c4] 47)))
      have hbe6 := Lib.hid (hbe.out.alloc hbe.out.size (.cells #[.int .i64 xk, .int .i64 xn, .string xt, .slice A4 xa.length c4] 47))
      clear hown hbe hv2 hsame
      go_wp2_with (first | (go_at_call 36; refine C.out.mono ?_; unfold ValPost; rintro e w1 ⟨hb1, A5, c5, rfl, hv5⟩; have hb1' := hbe6.out.trans (hb1.mono hbe6.out.size); have hs1 := hb1'.size; have hs6 := hbe6.out.size; have hown1 := hown6.out.keep (VCells.stable d) (Same.of_below hb1 fun _ _ h => h); have hy : VCells d w1 (fun b => w.heap.size ≤ b ∧ (Value.slice A3 j c3).ownBlock ≠ some b) [.int .i64 xk, .int .i64 xn, .string xt, .slice A5 xa.length c5] (V.mk xk xn xt xa) := hv5.imp (fun b hb _ => ⟨by have hb' : (wr.alloc (.cells #[.int .i64 xk, .int .i64 xn, .string xt, .slice A4 xa.length c4] 47)).heap.size ≤ b := hb; omega, fun e => by have h1 := (hown6.out.lt b e).2; have hb' : (wr.alloc (.cells #[.int .i64 xk, .int .i64 xn, .string xt, .slice A4 xa.length c4] 47)).heap.size ≤ b := hb; omega⟩); obtain ⟨vs1, ho1, ha1⟩ := hown1; dsimp only [V.kind, V.num, V.text, V.args]) | (at_builtin; refine app_Vl _ rfl (.tmp 14) (.tmp 18) rfl (ho1.alloc _) rfl (Reads.new (D := Any) _ [.int .i64 xk, .int .i64 xn, .string xt, .slice A5 xa.length c5] 4 1 _ trivial rfl) rfl (by simp [Value.oneCell']) (by omega) (by simp; omega) ?_; intro v2 w2 hown2 hg2 hat2))
      refine ⟨⟨j + 1, by omega, by go_num, ?_, ?_⟩, by simp [intOf]; omega⟩
      · unfold Hid
        rw [htk.out]
        exact OwnList.push (VCells.stable d) ha1 hy hg2 hat2 hown2
      · exact (hb1'.alloc hs1 _).grown hg2 (by simp; omega) (fun k hk => (ho1.lt k hk).1)
    · obtain rfl : j = n := by omega
      have hO := hown
      rw [List.take_of_length_le (by have := Hn.out; omega)] at hO
      clear hown
      go_wp2_with (fail)
      go_ret
      exact ⟨⟨A3, c3, rfl, hO.out⟩, hbe.out⟩
set_option maxRecDepth 100000 in
set_option maxHeartbeats 2000000 in
theorem copyV_succ (d : Nat) (hcp : CpTo d) : CpTo (d + 1) := by
  intro v A c w D hv
  obtain ⟨vk, vn, vt, va⟩ := v
  obtain ⟨A', c', vss, e0, hk, hn, ht, hal, hac, hcm, hr, ha⟩ := hv
  simp only [V.kind, V.num, V.text, V.args] at e0 ⊢
  obtain ⟨rfl, rfl⟩ : A = A' ∧ c = c' := by
    simp at e0
    exact e0
  have HK := Lib.hid (And.intro hk (And.intro hn ht))
  obtain ⟨W2, hW2⟩ : ∃ W2, W2 = (w.alloc (.cells #[.int .i64 vk, .int .i64 vn, .string vt, .slice A va.length c] 47)).alloc (.cells #[.int .i64 0, .int .i64 0, .string ⟨#[]⟩, .slice none 0 0] 47) := ⟨_, rfl⟩
  have hb2 : Below w.heap.size w W2 := by rw [hW2]; exact ((Below.refl _ _).alloc (Nat.le_refl _) _).alloc (by simp) _
  have f1 : Blk W2 w.heap.size 47 [.int .i64 vk, .int .i64 vn, .string vt, .slice A va.length c] := by rw [hW2]; exact (Blk.new _ _ _).alloc _
  have f2 : Blk W2 (w.heap.size + 1) 47 [.int .i64 0, .int .i64 0, .string ⟨#[]⟩, .slice none 0 0] := by
    rw [hW2]
    have h := Blk.new (w.alloc (.cells #[.int .i64 vk, .int .i64 vn, .string vt, .slice A va.length c] 47)) 47 [.int .i64 0, .int .i64 0, .string ⟨#[]⟩, .slice none 0 0]
    rwa [show (w.alloc (.cells #[.int .i64 vk, .int .i64 vn, .string vt, .slice A va.length c] 47)).heap.size = w.heap.size + 1 by simp] at h
  have CE := Lib.hid (eachV_any d hcp A va.length c va vss W2 D rfl hal (hr.keep (Same.any hb2)) (ha.imp fun _ _ h => h.keep (Same.any hb2)))
  have HB := Lib.hid (And.intro hb2 (And.intro f1 f2))
  clear e0 hk hn ht hac hcm hr ha hb2 f1 f2
  go_enter Try.func36, Try.ntmps36
  go_upto_region 1 with (fail)
  rw [← hW2]
  clear hW2
  have c3 := HB.out.2.1.cell 3
  have l1 := HB.out.2.1.lt
  simp only [List.getElem?_cons_zero, List.getElem?_cons_succ] at c3
  go_upto_region 2 with (first | (go_at_call 59; refine CE.out.mono ?_; unfold EachPost; rintro e w3 ⟨⟨A3, c5, rfl, hown⟩, hb3⟩; have H3 := Lib.hid (And.intro hown hb3); have q3 := (HB.out.2.1.below hb3 HB.out.2.1.lt).frozen 3; have lq := (HB.out.2.1.below hb3 HB.out.2.1.lt).lt; have p3 := (HB.out.2.1.below hb3 HB.out.2.1.lt).cell 3; have p0 := (HB.out.2.1.below hb3 HB.out.2.1.lt).cell 0; simp only [List.getElem?_cons_zero, List.getElem?_cons_succ] at p3 p0; clear hown hb3))
  have g1 := (HB.out.2.1.below H3.out.2 HB.out.2.1.lt)
  have g2 := (HB.out.2.2.below H3.out.2 HB.out.2.2.lt)
  have k0 := g1.cell 0
  have k1 := g1.cell 1
  have k2 := g1.cell 2
  have z0 := g2.frozen 0
  have z1 := g2.frozen 1
  have z2 := g2.frozen 2
  have z3 := g2.frozen 3
  have y0 := g2.cell 0
  have y1 := g2.cell 1
  have y2 := g2.cell 2
  have y3 := g2.cell 3
  have lg := g2.lt
  have HG := Lib.hid (And.intro g1 g2)
  simp only [List.getElem?_cons_zero, List.getElem?_cons_succ] at k0 k1 k2 y0 y1 y2 y3
  clear g1 g2 c3 CE
  go_wp2_with (fail)
  obtain ⟨g1, g2⟩ := HG.out
  have g3 := g2.far (p := ⟨w.heap.size, 3, none⟩) (by show w.heap.size + 1 ≠ w.heap.size; omega) (.slice A3 va.length c5)
  have hB := (((g3.put 0 (.int .i64 vk)).put 1 (.int .i64 vn)).put 2 (.string vt)).put 3 (.slice A3 va.length c5)
  refine ret_blk rfl rfl hB Try.underlying47 (by kernel_rfl) rfl ?_
  have hle : w.heap.size ≤ w.heap.size + 1 := by omega
  have hbe : Below w.heap.size w w3 := HB.out.1.trans (H3.out.2.mono HB.out.1.size)
  have hs2 : w.heap.size + 1 < W2.heap.size := HB.out.2.2.lt
  have hf : ∀ b, W2.heap.size ≤ b → (((((w3.setCell ⟨w.heap.size, 3, none⟩ (.slice A3 va.length c5)).setCell ⟨w.heap.size + 1, 0, none⟩ (.int .i64 vk)).setCell ⟨w.heap.size + 1, 1, none⟩ (.int .i64 vn)).setCell ⟨w.heap.size + 1, 2, none⟩ (.string vt)).setCell ⟨w.heap.size + 1, 3, none⟩ (.slice A3 va.length c5)).heap[b]? = w3.heap[b]? := fun b hb => by
    have h1 : b ≠ w.heap.size := by omega
    have h2 : b ≠ w.heap.size + 1 := by omega
    rw [Below.heap_setCell _ _ _ _ h2, Below.heap_setCell _ _ _ _ h2, Below.heap_setCell _ _ _ _ h2, Below.heap_setCell _ _ _ _ h2, Below.heap_setCell _ _ _ _ h1]
  unfold ValPost
  refine ⟨((((hbe.setCell (p := ⟨w.heap.size, 3, none⟩) (Nat.le_refl _) _).setCell (p := ⟨w.heap.size + 1, 0, none⟩) hle _).setCell (p := ⟨w.heap.size + 1, 1, none⟩) hle _).setCell (p := ⟨w.heap.size + 1, 2, none⟩) hle _).setCell (p := ⟨w.heap.size + 1, 3, none⟩) hle _, A3, c5, by simp only [V.kind, V.num, V.text, V.args, List.set_cons_zero, List.set_cons_succ], ?_⟩
  obtain ⟨vss2, e1, h1, h2, hr2, ha2⟩ := H3.out.1.reads (VCells.stable d) (by omega)
  refine ⟨A3, c5, vss2, rfl, HK.out.1, HK.out.2.1, HK.out.2.2, hal, h1, h2, ?_, ?_⟩
  · exact (hr2.keep fun b hb _ => hf b hb).imp (by omega) fun b hb _ => by omega
  · exact ha2.imp fun x y hxy => (hxy.keep fun b hb _ => hf b hb).imp fun b hb _ => by omega
theorem copyV_any : ∀ d, CpTo d
  | 0 => fun v A c w D hv => hv.elim
  | d + 1 => copyV_succ d (copyV_any d)
end Go.Proofs.Ytoddjdajjmcliaa
