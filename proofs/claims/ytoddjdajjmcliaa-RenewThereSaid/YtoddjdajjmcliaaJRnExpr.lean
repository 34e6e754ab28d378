/- Contracts of copies.Type and copies.Each at types: a copy. · Contracts of copies.Expr at the empty expression, slices.Clone at strings. -/
import Derived.Test.YtoddjdajjmcliaaRnCopy
import Derived.Test.YtoddjdajjmcliaaShNum
set_option linter.unusedVariables false
namespace Go.Proofs.Ytoddjdajjmcliaa
open Go.RowKit Go.Mem Go.Sh Go.Maps Go.Val
/-- append of types onto a row of the call's own -/
theorem app_Ty (w : World) {ops : Array Oper} {rest : List Oper} {o : Oper} {a : Act} {Q : Exit → Act → World → Prop} (hgd : o.guard = none) (s x : Operand)
    (ho : o.op = .call { callee := .builtin .append, args := #[s, x], argTypes := #[32, 32] })
    {base : Nat} {v : Value} {n : Nat} {xs : List Value} (hown : w.ownsRow base 34 3 v n xs) (hs : a.eval s = v)
    {D : Nat → Prop} {A : Option Addr} {m : Nat} {news : List Value} (hr : Reads w D 3 A m news) {c : Nat} (hx : a.eval x = .slice A m c) (h1 : ∀ u ∈ news, u.oneCell' = true)
    (h63 : n + m ≤ 100000000) (hbase : base ≤ w.heap.size)
    (h : ∀ v' w', w'.ownsRow base 34 3 v' (n + m) (xs ++ news) → w.grownBy w' v.ownBlock → (v'.ownBlock = v.ownBlock ∨ v'.ownBlock = some w.heap.size) → wpList Try.prog ops Q rest (a.put o.dst v') w') : wpList Try.prog ops Q (o :: rest) a w := by
  obtain ⟨i0, hi0, hz0, hz1, hz2⟩ := info_parts' info_ty
  exact wpList_append_any w hgd s x _ ho base _ i0 _ 3 48 Try.underlying32 hi0 hz0 hz1 hz2 rfl (by omega) v n xs hs hown D A m c news hx hr h1 (by simp only [maxLen]; omega) (by omega) hbase h
abbrev TsOwn (d : Nat) (w : World) (base : Nat) (v : Value) (l : List Ty) : Prop := OwnList 34 3 (TCells d) w base v l
def TyPost (d : Nat) (w : World) (t : Ty) (e : Ending) (w' : World) : Prop := Below w.heap.size w w' ∧ ∃ A c, e = .returned (.agg #[.int .i64 (t.kind : Nat), str t.name, .slice A t.args.length c]) ∧ TCells d w' (fun b => w.heap.size ≤ b) [.int .i64 (t.kind : Nat), str t.name, .slice A t.args.length c] t
def CpT (d : Nat) : Prop := ∀ (t : Ty) (A : Option Addr) (c : Nat) (w : World) (D : Nat → Prop), TCells d w D [.int .i64 (t.kind : Nat), str t.name, .slice A t.args.length c] t →
  Calls Try.prog 78 #[.agg #[.int .i64 (t.kind : Nat), str t.name, .slice A t.args.length c]] w (TyPost d w t)
def EachTPost (d : Nat) (w : World) (n : Nat) (l : List Ty) (e : Ending) (w' : World) : Prop := (∃ A' c', e = .returned (.slice A' n c') ∧ TsOwn d w' w.heap.size (.slice A' n c') l) ∧ Below w.heap.size w w'
set_option maxRecDepth 100000 in
set_option maxHeartbeats 2000000 in
theorem eachT_any (d : Nat) (hcp : CpT d) (A : Option Addr) (n c : Nat) (l : List Ty) (vss : List (List Value)) (w : World) (D : Nat → Prop) (hn : n = l.length) (hn2 : n ≤ 1000) (hr : Reads w D 3 A n vss.flatten) (ha : All2 (TCells d w D) vss l) :
    Calls Try.prog 77 #[.slice A n c, .func (.func 78) #[] #[]] w (EachTPost d w n l) := by
  have Hn := Lib.hid hn
  have HC := Lib.hid hcp
  clear hn hcp
  go_enter Try.func77, Try.ntmps77
  go_wp2_with (fail)
  go_loopw [5, 10] (fun s i wr => ∃ j : Nat, j ≤ n ∧ i = .int .i64 j ∧ Hid (TsOwn d wr w.heap.size s (l.take j)) ∧ Hid (Below w.heap.size w wr)) (fun _ i _ => n - (intOf i).toNat)
  case atStart => exact ⟨0, Nat.zero_le _, rfl, OwnList.nil _ _ _ _, Below.refl _ _⟩
  case round =>
    obtain ⟨j, hj, rfl, hown, hbe⟩ := hrel
    have hlen : (l.take j).length = j := by rw [List.length_take]; have := Hn.out; omega
    obtain ⟨A3, c3, hf, hjc, hcm⟩ := hown.out.form
    rw [hlen] at hf
    subst hf
    by_cases hlt : j < n
    · have hjl : j < l.length := by have := Hn.out; omega
      obtain ⟨b, off, cs, rfl, hD, hv, hcell⟩ := hr.elem (TCells.stable d) ha Hn.out hjl
      have hsame : Same Any w wr := Same.any hbe.out
      have hv2 := (hv.imp (D' := Any) fun _ _ _ => trivial).keep hsame
      have htk : Hid (l.take (j + 1) = l.take j ++ [l[j]]) := List.take_succ_eq_append_getElem hjl
      generalize hxx : l[j] = X at hv hv2 htk
      clear hxx
      obtain ⟨xk, xn, xa⟩ := X
      obtain ⟨A4, c4, rfl⟩ := hv.form
      simp only [Ty.kind, Ty.name, Ty.args] at hcell hv hv2
      have g0 := hsame.cell trivial (hcell 0 _ rfl)
      have g1 := hsame.cell trivial (hcell 1 _ rfl)
      have g2 := hsame.cell trivial (hcell 2 _ rfl)
      simp only [Nat.add_zero, ← Nat.add_assoc] at g0 g1 g2
      have l4 := lt_of_cell g0
      clear hcell hv
      have C := Lib.hid (HC.out (Ty.mk xk xn xa) A4 c4 (wr.alloc (.cells #[.int .i64 (xk : Nat), str xn, .slice A4 xa.length c4] 34)) Any (hv2.keep (Same.alloc _ _ _)))
      simp only [Ty.kind, Ty.name, Ty.args] at C
      have hown6 := Lib.hid (hown.out.keep (TCells.stable d) (Same.alloc _ wr (.cells #[.int .i64 (xk : Nat), str xn, .slice A4 xa.length c4] 34)))
      have hbe6 := Lib.hid (hbe.out.alloc hbe.out.size (.cells #[.int .i64 (xk : Nat), str xn, .slice A4 xa.length c4] 34))
      clear hown hbe hv2 hsame
      go_wp2_with (first | (go_at_call 78; refine C.out.mono ?_; unfold TyPost; rintro e w1 ⟨hb1, A5, c5, rfl, hv5⟩; have hb1' := hbe6.out.trans (hb1.mono hbe6.out.size); have hs1 := hb1'.size; have hs6 := hbe6.out.size; have hown1 := hown6.out.keep (TCells.stable d) (Same.of_below hb1 fun _ _ h => h); have hy : TCells d w1 (fun b => w.heap.size ≤ b ∧ (Value.slice A3 j c3).ownBlock ≠ some b) [.int .i64 (xk : Nat), str xn, .slice A5 xa.length c5] (Ty.mk xk xn xa) := hv5.imp (fun b hb _ => ⟨by have hb' : (wr.alloc (.cells #[.int .i64 (xk : Nat), str xn, .slice A4 xa.length c4] 34)).heap.size ≤ b := hb; omega, fun e => by have h1 := (hown6.out.lt b e).2; have hb' : (wr.alloc (.cells #[.int .i64 (xk : Nat), str xn, .slice A4 xa.length c4] 34)).heap.size ≤ b := hb; omega⟩); obtain ⟨vs1, ho1, ha1⟩ := hown1; dsimp only [Ty.kind, Ty.name, Ty.args]) | (at_builtin; refine app_Ty _ rfl (.tmp 14) (.tmp 18) rfl (ho1.alloc _) rfl (Reads.new (D := Any) _ [.int .i64 (xk : Nat), str xn, .slice A5 xa.length c5] 3 1 _ trivial rfl) rfl (by simp [Value.oneCell']) (by omega) (by simp; omega) ?_; intro v2 w2 hown2 hg2 hat2))
      refine ⟨⟨j + 1, by omega, by go_num, ?_, ?_⟩, by simp [intOf]; omega⟩
      · unfold Hid
        rw [htk.out]
        exact OwnList.push (TCells.stable d) ha1 hy hg2 hat2 hown2
      · exact (hb1'.alloc hs1 _).grown hg2 (by simp; omega) (fun k hk => (ho1.lt k hk).1)
    · obtain rfl : j = n := by omega
      have hO := hown
      rw [List.take_of_length_le (by have := Hn.out; omega)] at hO
      clear hown
      go_wp2_with (fail)
      go_ret
      exact ⟨⟨A3, c3, rfl, hO.out⟩, hbe.out⟩
set_option maxRecDepth 100000 in
set_option maxHeartbeats 2000000 in
theorem copyT_succ (d : Nat) (hcp : CpT d) : CpT (d + 1) := by
  intro t A c w D hv
  obtain ⟨vk, vn, va⟩ := t
  obtain ⟨A', c', vss, e0, hk, hn, hal, hac, hcm, hr, ha⟩ := hv
  simp only [Ty.kind, Ty.name, Ty.args] at e0 ⊢
  obtain ⟨rfl, rfl⟩ : A = A' ∧ c = c' := by
    simp at e0
    exact e0
  have HK := Lib.hid (And.intro hk hn)
  obtain ⟨W2, hW2⟩ : ∃ W2, W2 = (w.alloc (.cells #[.int .i64 (vk : Nat), str vn, .slice A va.length c] 34)).alloc (.cells #[.int .i64 0, .string ⟨#[]⟩, .slice none 0 0] 34) := ⟨_, rfl⟩
  have hb2 : Below w.heap.size w W2 := by rw [hW2]; exact ((Below.refl _ _).alloc (Nat.le_refl _) _).alloc (by simp) _
  have f1 : Blk W2 w.heap.size 34 [.int .i64 (vk : Nat), str vn, .slice A va.length c] := by rw [hW2]; exact (Blk.new _ _ _).alloc _
  have f2 : Blk W2 (w.heap.size + 1) 34 [.int .i64 0, .string ⟨#[]⟩, .slice none 0 0] := by
    rw [hW2]
    have h := Blk.new (w.alloc (.cells #[.int .i64 (vk : Nat), str vn, .slice A va.length c] 34)) 34 [.int .i64 0, .string ⟨#[]⟩, .slice none 0 0]
    rwa [show (w.alloc (.cells #[.int .i64 (vk : Nat), str vn, .slice A va.length c] 34)).heap.size = w.heap.size + 1 by simp] at h
  have CE := Lib.hid (eachT_any d hcp A va.length c va vss W2 D rfl hal (hr.keep (Same.any hb2)) (ha.imp fun _ _ h => h.keep (Same.any hb2)))
  have HB := Lib.hid (And.intro hb2 (And.intro f1 f2))
  clear e0 hk hn hac hcm hr ha hb2 f1 f2
  go_enter Try.func78, Try.ntmps78
  go_upto_region 1 with (fail)
  rw [← hW2]
  clear hW2
  have c3 := HB.out.2.1.cell 2
  have l1 := HB.out.2.1.lt
  simp only [List.getElem?_cons_zero, List.getElem?_cons_succ] at c3
  go_upto_region 2 with (first | (go_at_call 77; refine CE.out.mono ?_; unfold EachTPost; rintro e w3 ⟨⟨A3, c5, rfl, hown⟩, hb3⟩; have H3 := Lib.hid (And.intro hown hb3); have q3 := (HB.out.2.1.below hb3 HB.out.2.1.lt).frozen 2; have lq := (HB.out.2.1.below hb3 HB.out.2.1.lt).lt; have p3 := (HB.out.2.1.below hb3 HB.out.2.1.lt).cell 2; have p0 := (HB.out.2.1.below hb3 HB.out.2.1.lt).cell 0; simp only [List.getElem?_cons_zero, List.getElem?_cons_succ] at p3 p0; clear hown hb3))
  have g1 := (HB.out.2.1.below H3.out.2 HB.out.2.1.lt)
  have g2 := (HB.out.2.2.below H3.out.2 HB.out.2.2.lt)
  have k0 := g1.cell 0
  have k1 := g1.cell 1
  have z0 := g2.frozen 0
  have z1 := g2.frozen 1
  have z2 := g2.frozen 2
  have y0 := g2.cell 0
  have y1 := g2.cell 1
  have y2 := g2.cell 2
  have lg := g2.lt
  have HG := Lib.hid (And.intro g1 g2)
  simp only [List.getElem?_cons_zero, List.getElem?_cons_succ] at k0 k1 y0 y1 y2
  clear g1 g2 c3 CE
  go_wp2_with (fail)
  obtain ⟨g1, g2⟩ := HG.out
  have g3 := g2.far (p := ⟨w.heap.size, 2, none⟩) (by show w.heap.size + 1 ≠ w.heap.size; omega) (.slice A3 va.length c5)
  have hB := ((g3.put 0 (.int .i64 (vk : Nat))).put 1 (str vn)).put 2 (.slice A3 va.length c5)
  refine ret_blk rfl rfl hB Try.underlying34 (by kernel_rfl) rfl ?_
  have hle : w.heap.size ≤ w.heap.size + 1 := by omega
  have hbe : Below w.heap.size w w3 := HB.out.1.trans (H3.out.2.mono HB.out.1.size)
  have hs2 : w.heap.size + 1 < W2.heap.size := HB.out.2.2.lt
  have hf : ∀ b, W2.heap.size ≤ b → ((((w3.setCell ⟨w.heap.size, 2, none⟩ (.slice A3 va.length c5)).setCell ⟨w.heap.size + 1, 0, none⟩ (.int .i64 (vk : Nat))).setCell ⟨w.heap.size + 1, 1, none⟩ (str vn)).setCell ⟨w.heap.size + 1, 2, none⟩ (.slice A3 va.length c5)).heap[b]? = w3.heap[b]? := fun b hb => by
    have h1 : b ≠ w.heap.size := by omega
    have h2 : b ≠ w.heap.size + 1 := by omega
    rw [Below.heap_setCell _ _ _ _ h2, Below.heap_setCell _ _ _ _ h2, Below.heap_setCell _ _ _ _ h2, Below.heap_setCell _ _ _ _ h1]
  unfold TyPost
  refine ⟨(((hbe.setCell (p := ⟨w.heap.size, 2, none⟩) (Nat.le_refl _) _).setCell (p := ⟨w.heap.size + 1, 0, none⟩) hle _).setCell (p := ⟨w.heap.size + 1, 1, none⟩) hle _).setCell (p := ⟨w.heap.size + 1, 2, none⟩) hle _, A3, c5, by simp only [Ty.kind, Ty.name, Ty.args, List.set_cons_zero, List.set_cons_succ], ?_⟩
  obtain ⟨vss2, e1, h1, h2, hr2, ha2⟩ := H3.out.1.reads (TCells.stable d) (by omega)
  refine ⟨A3, c5, vss2, rfl, HK.out.1, HK.out.2, hal, h1, h2, ?_, ?_⟩
  · exact (hr2.keep fun b hb _ => hf b hb).imp (by omega) fun b hb _ => by omega
  · exact ha2.imp fun x y hxy => (hxy.keep fun b hb _ => hf b hb).imp fun b hb _ => by omega
theorem copyT_any : ∀ d, CpT d
  | 0 => fun t A c w D hv => hv.elim
  | d + 1 => copyT_succ d (copyT_any d)
end Go.Proofs.Ytoddjdajjmcliaa
set_option linter.unusedVariables false
namespace Go.Proofs.Ytoddjdajjmcliaa
open Go.RowKit Go.Mem Go.Sh Go.Maps Go.Val
set_option maxRecDepth 100000 in
theorem eachT_nil (w : World) : Calls Try.prog 77 #[.slice none 0 0, .func (.func 78) #[] #[]] w fun e w' => e = .returned (.slice none 0 0) ∧ w' = w := by
  go_enter Try.func77, Try.ntmps77
  go_wp2_with (fail)
  go_loopw [5, 10] (fun s i wr => s = .slice none 0 0 ∧ i = .int .i64 0 ∧ wr = w) (fun _ _ _ => 0)
  case atStart => exact ⟨rfl, rfl, rfl⟩
  case round =>
    obtain ⟨rfl, rfl, rfl⟩ := hrel
    go_wp2_with (fail)
    go_ret
    exact ⟨rfl, rfl⟩
set_option maxRecDepth 100000 in
theorem eachX_nil (w : World) : Calls Try.prog 84 #[.slice none 0 0, .func (.func 79) #[] #[]] w fun e w' => e = .returned (.slice none 0 0) ∧ w' = w := by
  go_enter Try.func84, Try.ntmps84
  go_wp2_with (fail)
  go_loopw [5, 10] (fun s i wr => s = .slice none 0 0 ∧ i = .int .i64 0 ∧ wr = w) (fun _ _ _ => 0)
  case atStart => exact ⟨rfl, rfl, rfl⟩
  case round =>
    obtain ⟨rfl, rfl, rfl⟩ := hrel
    go_wp2_with (fail)
    go_ret
    exact ⟨rfl, rfl⟩
set_option maxRecDepth 100000 in
theorem eachA_nil (w : World) : Calls Try.prog 85 #[.slice none 0 0, .func (.func 86) #[] #[]] w fun e w' => e = .returned (.slice none 0 0) ∧ w' = w := by
  go_enter Try.func85, Try.ntmps85
  go_wp2_with (fail)
  go_loopw [5, 10] (fun s i wr => s = .slice none 0 0 ∧ i = .int .i64 0 ∧ wr = w) (fun _ _ _ => 0)
  case atStart => exact ⟨rfl, rfl, rfl⟩
  case round =>
    obtain ⟨rfl, rfl, rfl⟩ := hrel
    go_wp2_with (fail)
    go_ret
    exact ⟨rfl, rfl⟩
/-- append of strings onto a row of the call's own -/
theorem app_St (w : World) {ops : Array Oper} {rest : List Oper} {o : Oper} {a : Act} {Q : Exit → Act → World → Prop} (hgd : o.guard = none) (s x : Operand)
    (ho : o.op = .call { callee := .builtin .append, args := #[s, x], argTypes := #[31, 31] })
    {base : Nat} {v : Value} {n : Nat} {xs : List Value} (hown : w.ownsRow base 9 1 v n xs) (hs : a.eval s = v)
    {D : Nat → Prop} {A : Option Addr} {m : Nat} {news : List Value} (hr : Reads w D 1 A m news) {c : Nat} (hx : a.eval x = .slice A m c) (h1 : ∀ u ∈ news, u.oneCell' = true)
    (h63 : n + m ≤ 100000000) (hbase : base ≤ w.heap.size)
    (h : ∀ v' w', w'.ownsRow base 9 1 v' (n + m) (xs ++ news) → w.grownBy w' v.ownBlock → (v'.ownBlock = v.ownBlock ∨ v'.ownBlock = some w.heap.size) → wpList Try.prog ops Q rest (a.put o.dst v') w') : wpList Try.prog ops Q (o :: rest) a w := by
  obtain ⟨i0, hi0, hz0, hz1, hz2⟩ := info_parts' info_st
  exact wpList_append_any w hgd s x _ ho base _ i0 _ 1 16 Try.underlying31 hi0 hz0 hz1 hz2 rfl (by omega) v n xs hs hown D A m c news hx hr h1 (by simp only [maxLen]; omega) (by omega) hbase h
set_option maxRecDepth 100000 in
theorem cloneS_nil (w : World) : Calls Try.prog 76 #[.slice none 0 0] w fun e w' => e = .returned (.slice none 0 0) ∧ w' = w := by
  have q : ∀ (w : World) (a : Option Addr) (n c : Nat), (binOp .eql 31 (.slice a n c) (.slice none 0 0)).run Try.prog w = .ok (.bool a.isNone) w := fun w a n c => Lib.run_eql_slice_nil w _ _ a n c 0 0 Try.underlying31
  go_enter Try.func76, Try.ntmps76
  go_wp2_with (fail)
  go_ret
  exact ⟨rfl, rfl⟩
set_option maxRecDepth 100000 in
theorem cloneS_any (ad : Addr) (n c : Nat) (xs : List Value) (D : Nat → Prop) (w : World) (hr : Reads w D 1 (some ad) n xs) (h1 : ∀ u ∈ xs, u.oneCell' = true) (hn : n ≤ 1000) :
    Calls Try.prog 76 #[.slice (some ad) n c] w fun e w' => ∃ A c, e = .returned (.slice A n c) ∧ w'.ownsRow w.heap.size 9 1 (.slice A n c) n xs ∧ Below w.heap.size w w' := by
  have q : ∀ (w : World) (a : Option Addr) (n c : Nat), (binOp .eql 31 (.slice a n c) (.slice none 0 0)).run Try.prog w = .ok (.bool a.isNone) w := fun w a n c => Lib.run_eql_slice_nil w _ _ a n c 0 0 Try.underlying31
  have Hn := Lib.hid hn
  clear hn
  go_enter Try.func76, Try.ntmps76
  go_wp2_with (at_builtin; refine app_St _ rfl (.tmp 5) (.tmp 6) rfl (World.ownsRow_made w #[] 0 (Nat.le_refl _) (Nat.zero_le _) rfl) rfl (hr.keep (Same.alloc _ _ _)) rfl h1 (by have := Hn.out; omega) (by simp) ?_; intro v1 w1 hown1 hg1 hat1)
  go_ret
  simp only [Nat.zero_add, List.nil_append] at hown1
  obtain ⟨A1, c1, rfl, _⟩ := own_form hown1
  refine ⟨A1, c1, rfl, hown1, ((Below.refl _ _).alloc (Nat.le_refl _) _).grown hg1 (by simp) (by simp [Value.ownBlock])⟩
set_option maxRecDepth 100000 in
set_option maxHeartbeats 2000000 in
theorem exprE_any (w : World) : Calls Try.prog 79 #[.agg #[.int .i64 0, .int .i64 0, .string ⟨#[]⟩, .slice none 0 0, .slice none 0 0, .slice none 0 0, .slice none 0 0, .int .i64 0]] w fun e w' =>
    e = .returned (.agg #[.int .i64 0, .int .i64 0, .string ⟨#[]⟩, .slice none 0 0, .slice none 0 0, .slice none 0 0, .slice none 0 0, .int .i64 0]) ∧ Below w.heap.size w w' := by
  go_enter Try.func79, Try.ntmps79
  go_wp2_with (first
    | (go_at_call 76; refine (cloneS_nil _).mono ?_; rintro e w' ⟨rfl, rfl⟩)
    | (go_at_call 77; refine (eachT_nil _).mono ?_; rintro e w' ⟨rfl, rfl⟩)
    | (go_at_call 84; refine (eachX_nil _).mono ?_; rintro e w' ⟨rfl, rfl⟩)
    | (go_at_call 85; refine (eachA_nil _).mono ?_; rintro e w' ⟨rfl, rfl⟩))
  have hB := Blk.new (w.alloc (.cells #[.int .i64 0, .int .i64 0, .string ⟨#[]⟩, .slice none 0 0, .slice none 0 0, .slice none 0 0, .slice none 0 0, .int .i64 0] 38)) 38 [.int .i64 0, .int .i64 0, .string ⟨#[]⟩, .slice none 0 0, .slice none 0 0, .slice none 0 0, .slice none 0 0, .int .i64 0]
  rw [show (w.alloc (.cells #[.int .i64 0, .int .i64 0, .string ⟨#[]⟩, .slice none 0 0, .slice none 0 0, .slice none 0 0, .slice none 0 0, .int .i64 0] 38)).heap.size = w.heap.size + 1 by simp] at hB
  refine ret_blk rfl rfl hB Try.underlying38 (by kernel_rfl) rfl ⟨rfl, ?_⟩
  exact ((Below.refl _ _).alloc (Nat.le_refl _) _).alloc (by simp) _
end Go.Proofs.Ytoddjdajjmcliaa
