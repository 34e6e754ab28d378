/- Contracts of value.appendValue and wire.List at values: the encoding behind a row of the call's own. -/
import Derived.Test.YteojmmjanjilaaaPart7
import Derived.Test.YteojmmjanjilaaaValNext
set_option linter.unusedVariables false
namespace Go.Proofs.Yteojmmjanjilaaa
open Go.RowKit Go.Mem Go.Val

theorem Grew.alloc {w w1 : World} {base : Nat} {v v1 : Value} {xs : List Value} {a : List UInt8} (h : Grew w base v xs w1 v1 a) (o : Obj) : Grew w base v xs (w1.alloc o) v1 a :=
  ⟨h.1.alloc o, grownBy_alloc h.2.1 o, h.2.2⟩
theorem Grew.drewN {w w1 : World} {base : Nat} {v v1 : Value} {xs : List Value} {a : List UInt8} (h : Grew w base v xs w1 v1 a) (n : Nat) : Grew w base v xs (w1.drewN n) v1 a :=
  ⟨h.1, grownBy_drewN h.2.1 n, h.2.2⟩
/-- what is apart from the row is so behind its growth -/
theorem Grew.apart {w w1 : World} {base : Nat} {v v1 : Value} {xs : List Value} {a : List UInt8} (h : Grew w base v xs w1 v1 a) {d : Nat} {cs : List Value} {x : V} (hx : VCells d w (fun b => v.ownBlock ≠ some b) cs x) : VCells d w1 (fun b => v1.ownBlock ≠ some b) cs x := by
  have h1 : VCells d w (fun b => v.ownBlock ≠ some b ∧ b < w.heap.size) cs x := hx.imp fun b hb hl => ⟨hb, hl⟩
  refine (h1.keep (Same.of_grown h.2.1 fun b hb _ e => hb.1 e.symm)).imp fun b hb _ e => ?_
  rcases h.2.2 with h3 | h3
  · rw [h3] at e; exact hb.1 e
  · have := h3 b e; omega

theorem Grew.apartR {w w1 : World} {base : Nat} {v v1 : Value} {xs : List Value} {a : List UInt8} (h : Grew w base v xs w1 v1 a) {size n : Nat} {A : Option Addr} {ys : List Value} (hz : 0 < size) (hx : Reads w (fun b => v.ownBlock ≠ some b) size A n ys) : Reads w1 (fun b => v1.ownBlock ≠ some b) size A n ys := by
  have h1 : Reads w (fun b => v.ownBlock ≠ some b ∧ b < w.heap.size) size A n ys := hx.imp hz fun b hb hl => ⟨hb, hl⟩
  refine (h1.keep (Same.of_grown h.2.1 fun b hb _ e => hb.1 e.symm)).imp hz fun b hb _ e => ?_
  rcases h.2.2 with h3 | h3
  · rw [h3] at e; exact hb.1 e
  · have := h3 b e; omega
theorem Grew.drew {w w1 : World} {base : Nat} {v v1 : Value} {xs : List Value} {a : List UInt8} (h : Grew w base v xs w1 v1 a) : Grew w base v xs w1.drew v1 a :=
  ⟨h.1, grownBy_drew h.2.1, h.2.2⟩
theorem Grew.own {w w1 : World} {base : Nat} {v v1 : Value} {xs : List Value} {a : List UInt8} (h : Grew w base v xs w1 v1 a) : w1.ownsRow base 5 1 v1 (xs ++ u8s a).length (xs ++ u8s a) := by
  have e : (xs ++ u8s a).length = xs.length + a.length := by simp [u8s_length]
  rw [e]
  exact h.1

def AV (d : Nat) : Prop := ∀ (bv : Value) (x : V) (cs : List Value) (xs : List Value) (base : Nat) (w : World), w.ownsRow base 5 1 bv xs.length xs → base ≤ w.heap.size → VCells d w (fun b => bv.ownBlock ≠ some b) cs x → xs.length + (encV d x).length ≤ 1099511627776 →
  Calls Try.prog 78 #[bv, .agg cs.toArray] w (GrewPost w base bv xs (encV d x))

theorem flat_take {α : Type} (f : α → List UInt8) (l : List α) (k : Nat) (h : k < l.length) : (l.take (k + 1)).flatMap f = (l.take k).flatMap f ++ f l[k] := by
  rw [List.take_succ_eq_append_getElem h, List.flatMap_append]
  simp
theorem flat_take_le {α : Type} (f : α → List UInt8) (l : List α) (k : Nat) : ((l.take k).flatMap f).length ≤ (l.flatMap f).length := by
  have : l.flatMap f = (l.take k).flatMap f ++ (l.drop k).flatMap f := by rw [← List.flatMap_append, List.take_append_drop]
  rw [this, List.length_append]
  omega

set_option maxRecDepth 100000 in
set_option maxHeartbeats 1000000 in
theorem list_any (d : Nat) (hav : AV d) (bv : Value) (A : Option Addr) (n c : Nat) (l : List V) (vss : List (List Value)) (xs : List Value) (base : Nat) (w : World) (hown : w.ownsRow base 5 1 bv xs.length xs) (hb : base ≤ w.heap.size) (hn : n = l.length) (hn2 : n ≤ 4194304)
    (hr : Reads w (fun b => bv.ownBlock ≠ some b) 4 A n vss.flatten) (ha : All2 (VCells d w (fun b => bv.ownBlock ≠ some b)) vss l) (hx : xs.length + (listE (encV d) l).length ≤ 1099511627776) :
    Calls Try.prog 76 #[bv, .slice A n c, .func (.func 78) #[] #[]] w (GrewPost w base bv xs (listE (encV d) l)) := by
  have Hx := Lib.hid hx
  have Hn := Lib.hid hn
  have Hav := Lib.hid hav
  clear hx hn hav
  go_enter Try.func76, Try.ntmps76
  go_wp2_with (fail)
  refine (nat_any bv n xs base w (by omega) hown hb (by have := Hx.out; omega)).mono ?_
  rintro e w1 ⟨A1, c1, rfl, hg1⟩
  go_wp2_with (fail)
  go_loopw [0, 15] (fun v1 i wr => ∃ k : Nat, k ≤ n ∧ i = .int .i64 k ∧ Grew w base bv xs wr v1 (natE n ++ (l.take k).flatMap (encV d))) (fun _ i _ => n - (intOf i).toNat)
  case atStart => exact ⟨0, Nat.zero_le _, rfl, by simpa using hg1⟩
  case round =>
    obtain ⟨k, hk, rfl, hg⟩ := hrel
    by_cases hlt : k < n
    · have hkl : k < l.length := by have := Hn.out; omega
      obtain ⟨b, off, cs, rfl, hD, hv, hcell⟩ := hr.elem (VCells.stable d) ha Hn.out hkl
      have hv2 := hg.apart hv
      have hsame : Same (fun b => bv.ownBlock ≠ some b) w wr := Same.of_grown hg.2.1 fun b hb _ e => hb e.symm
      have hft := flat_take (encV d) l k hkl
      have hfl := flat_take_le (encV d) l (k + 1)
      have Hft := Lib.hid hft
      have Hfl := Lib.hid hfl
      clear hft hfl
      generalize hxx : l[k] = X at hv hv2
      have HX := Lib.hid hxx
      clear hxx
      obtain ⟨vk, vn, vt, va⟩ := X
      obtain ⟨A4, c4, rfl⟩ := hv.form
      simp only [V.kind, V.num, V.text, V.args] at hcell hv hv2
      have g0 := hsame.cell hD (hcell 0 _ rfl)
      have g1 := hsame.cell hD (hcell 1 _ rfl)
      have g2 := hsame.cell hD (hcell 2 _ rfl)
      have g3 := hsame.cell hD (hcell 3 _ rfl)
      simp only [Nat.add_zero, ← Nat.add_assoc] at g0 g1 g2 g3
      have l4 := lt_of_cell g0
      clear hcell
      go_wp2_with (fail)
      have hg' := hg.alloc (.cells #[.int .i64 vk, .int .i64 vn, .string vt, .slice A4 va.length c4] 53)
      have hlen : (xs ++ u8s (natE n ++ (l.take k).flatMap (encV d))).length + (encV d (V.mk vk vn vt va)).length ≤ 1099511627776 := by
        have h1 := Hfl.out
        have h2 := Hx.out
        rw [Hft.out, HX.out] at h1
        simp only [listE, List.length_append, u8s_length] at h1 h2 ⊢
        have := Hn.out
        subst this
        omega
      refine (Hav.out u0 (V.mk vk vn vt va) [.int .i64 vk, .int .i64 vn, .string vt, .slice A4 va.length c4] _ base _ hg'.own (by have := hg'.2.1.size; omega) (hv2.keep (Same.alloc _ _ _)) hlen).mono ?_
      rintro e w2 ⟨A2, c2, rfl, hg2⟩
      generalize Value.slice A2 ((xs ++ u8s (natE n ++ (l.take k).flatMap (encV d))).length + (encV d (V.mk vk vn vt va)).length) c2 = v2 at hg2 ⊢
      go_wp2_with (fail)
      refine ⟨⟨k + 1, by omega, by go_num, ?_⟩, by simp [intOf]; omega⟩
      rw [Hft.out, HX.out, ← List.append_assoc]
      exact hg'.trans hg2
    · go_wp2
      go_ret
      obtain rfl : k = n := by omega
      have e : (natE k ++ (l.take k).flatMap (encV d)) = listE (encV d) l := by
        have := Hn.out
        subst this
        rw [List.take_length, listE]
      rw [e] at hg
      obtain ⟨A2, c2, rfl⟩ := hg.form
      exact ⟨A2, c2, rfl, hg⟩

/-- append of bytes in a region that draws its order -/
theorem step_app_u8 (w : World) {ops : Array Oper} {o : Oper} {a : Act} {K : Act → World → Prop} {Q : Exit → Act → World → Prop} {E : Prop} (hgd : o.guard = none) (s x : Operand)
    (ho : o.op = .call { callee := .builtin .append, args := #[s, x], argTypes := #[62, 62] })
    {base : Nat} {v : Value} {n : Nat} {xs : List Value} (hown : w.ownsRow base 5 1 v n xs) (hs : a.eval s = v)
    {D : Nat → Prop} {A : Option Addr} {m : Nat} {news : List Value} (hr : Reads w D 1 A m news) {c : Nat} (hx : a.eval x = .slice A m c) (h1 : ∀ u ∈ news, u.oneCell' = true)
    (h63 : n + m ≤ 70368744177664) (hbase : base ≤ w.heap.size)
    (h : ∀ v' w', w'.ownsRow base 5 1 v' (n + m) (xs ++ news) → w.grownBy w' v.ownBlock → (v'.ownBlock = v.ownBlock ∨ v'.ownBlock = some w.heap.size) → K (a.put o.dst v') w') :
    if Region.wanted o (yielded ops a.tmps) = true then Oper.wp Try.prog o a w K Q else E := by
  obtain ⟨i0, hi0, hz0, hz1, hz2⟩ := info_parts info_u8
  exact step_append_any w hgd s x _ ho base _ i0 _ 1 1 Try.underlying62 hi0 hz0 hz1 hz2 rfl (by omega) v n xs hs hown D A m c news hx hr h1 (by simp only [maxLen]; omega) (by omega) hbase h
theorem enc_join {w w4 : World} {base : Nat} {bv v4 : Value} {xs : List Value} {d : Nat} {vk vn : Int} {vt : ByteArray} {va : List V} (h4 : Grew w base bv xs w4 v4 ((UInt8.ofNat vk.toNat :: intE vn) ++ textE vt ++ listE (encV d) va)) :
    Grew w base bv xs w4 v4 (encV (d + 1) (V.mk vk vn vt va)) := by
  rwa [show (UInt8.ofNat vk.toNat :: intE vn) ++ textE vt ++ listE (encV d) va = encV (d + 1) (V.mk vk vn vt va) by simp [encV]] at h4
theorem Grew.one {w W w2 : World} {base : Nat} {v v2 : Value} {xs : List Value} (hW : Below w.heap.size w W) {b : List UInt8} {m : Nat} (hm : m = b.length) {news : List Value} (hn : news = u8s b)
    (k1 : w2.ownsRow base 5 1 v2 (xs.length + m) (xs ++ news)) (k2 : W.grownBy w2 v.ownBlock) (k3 : v2.ownBlock = v.ownBlock ∨ v2.ownBlock = some W.heap.size) : Grew w base v xs w2 v2 b := by
  subst hm hn
  refine ⟨k1, ⟨k2.os.trans hW.os, k2.tape.trans hW.tape, k2.output.trans hW.output, Nat.le_trans hW.size k2.size, fun i hi hne => (k2.block i (Nat.lt_of_lt_of_le hi hW.size) hne).trans (hW.block i hi)⟩, ?_⟩
  rcases k3 with k3 | k3
  · exact .inl k3
  · exact .inr fun b hb => by rw [k3] at hb; simp at hb; have := hW.size; omega
theorem Grew.blk {w w1 : World} {base : Nat} {v v1 : Value} {xs : List Value} {a : List UInt8} (h : Grew w base v xs w1 v1 a) {g : Nat} {t : TypeId} {cs : List Value} (hb : Blk w g t cs) (hne : v.ownBlock ≠ some g) : Blk w1 g t cs :=
  hb.grown h.2.1 fun e => hne e.symm

set_option maxRecDepth 100000 in
set_option maxHeartbeats 1000000 in
theorem av_any : ∀ d, AV d
  | 0 => fun bv x cs xs base w hown hb hv hx => hv.elim
  | d + 1 => by
    intro bv x cs xs base w hown hb hv hx
    have ih := av_any d
    have IH := Lib.hid ih
    clear ih
    obtain ⟨vk, vn, vt, va⟩ := x
    have hv' := hv
    obtain ⟨A, c, vss, rfl, hk, hn, ht, hal, hac, hcm, hr, ha⟩ := hv
    have Hx := Lib.hid hx
    clear hx
    obtain ⟨hk1, hk2⟩ := hk
    have hnb : bv.ownBlock ≠ some w.heap.size := fun e => by have := (hown.lt _ e).2; omega
    have hbx := Blk.new w 53 [.int .i64 vk, .int .i64 vn, .string vt, .slice A va.length c]
    have HW0 := Lib.hid (fun (o1 o2 : Obj) => (((Below.refl w.heap.size w).alloc (Nat.le_refl _) o1).alloc (by simp) o2).drew)
    have Hby : Hid ([Value.int .u8 vk] = u8s [UInt8.ofNat vk.toNat]) := by
      unfold Hid
      simp only [u8s, List.map_cons, List.map_nil]
      rw [ofNat_toNat (by omega), Int.toNat_of_nonneg hk1]
    have hl1 : (xs ++ u8s [UInt8.ofNat vk.toNat]).length ≤ 1099511627776 := by
      have := Hx.out
      simp only [encV, List.length_append, List.length_cons, u8s_length, List.length_nil] at this ⊢
      omega
    have hwk : IntKind.u8.wrap vk = vk := IntWalk.u8_in _ (by omega)
    go_enter Try.func78, Try.ntmps78
    go_upto_region 1 with (fail)
    go_cut [0] (fun s0 wc => Grew w base bv xs wc s0 (UInt8.ofNat vk.toNat :: intE vn) ∧ Blk wc w.heap.size 53 [.int .i64 vk, .int .i64 vn, .string vt, .slice A va.length c] ∧ s0.ownBlock ≠ some w.heap.size)
    case first =>
      go_region_law (first
        | (rw [if_pos (by simp [Region.wanted])]; unfold Oper.wp; go_simp; go_at_call 67; refine (int_any v2 vn _ base _ hn hG1.own (by have := hG1.2.1.size; omega) hl1).mono ?_; rintro e w3 ⟨A3, c3, rfl, hg3⟩; generalize Value.slice A3 ((xs ++ u8s [UInt8.ofNat vk.toNat]).length + (intE vn).length) c3 = v3 at hg3 ⊢; dsimp only; have hb3 := hg3.blk hB1 hB2; have m1 := hb3.cell 1)
        | (refine step_app_u8 _ rfl (.tmp 5) (.tmp 9) (by rfl) ((hown.alloc _).alloc _) rfl (Reads.new_at (D := Any) _ [.int .u8 vk] 1 1 _ (w.heap.size + 1) (by simp) trivial rfl) rfl (by simp [Value.oneCell']) (by have := Hx.out; omega) (by simp; omega) ?_; intro v2 w2 hown2 hg2 hat2; have hG1 : Grew w base bv xs w2 v2 [UInt8.ofNat vk.toNat] := Grew.one (HW0.out _ _) rfl Hby.out hown2 hg2 hat2; have hB1 : Blk w2 w.heap.size 53 [.int .i64 vk, .int .i64 vn, .string vt, .slice A va.length c] := ((hbx.alloc _).drew.grown hg2 fun e => hnb e.symm); have hB2 : v2.ownBlock ≠ some w.heap.size := fun e => hat2.elim (fun h => hnb (h.symm.trans e)) (fun h => by rw [h] at e; simp at e; omega); have m1 := hB1.cell 1))
      all_goals go_wp2_with (fail)
      all_goals go_meet
      all_goals exact ⟨hG1.trans hg3, hb3, fun e => hg3.2.2.elim (fun h => hB2 (h.symm.trans e)) (fun h => by have h1 := h _ e; have h2 := hB1.lt; omega)⟩
    case rest =>
      obtain ⟨hG1, hB1, hBne⟩ := hcut
      have hGd := hG1.drew
      have t2 := hB1.cell 2
      have t3 := hB1.cell 3
      simp only [List.getElem?_cons_succ, List.getElem?_cons_zero] at t2 t3
      have hbounds : vt.size ≤ 1099511627776 ∧ (xs ++ u8s (UInt8.ofNat vk.toNat :: intE vn)).length ≤ 1099511627776 ∧ (xs ++ u8s ((UInt8.ofNat vk.toNat :: intE vn) ++ textE vt)).length + (listE (encV d) va).length ≤ 1099511627776 := by
        have := Hx.out
        have hl : vt.data.toList.length = vt.size := by rw [Array.length_toList]; rfl
        simp only [encV, textE, List.length_append, List.length_cons, u8s_length] at this ⊢
        omega
      obtain ⟨hb1, hb2, hb3⟩ := hbounds
      go_wp2_with (fail)
      go_region_law (first
        | (rw [if_pos (by simp [Region.wanted])]; unfold Oper.wp; go_simp; go_at_call 77; refine (wtext_any u0 vt _ base _ hb1 hGd.own (by have := hGd.2.1.size; omega) hb2).mono ?_; rintro e w3 ⟨A3, c3, rfl, hg3⟩; generalize Value.slice A3 ((xs ++ u8s (UInt8.ofNat vk.toNat :: intE vn)).length + (textE vt).length) c3 = v3 at hg3 ⊢; dsimp only; have hG2 := hGd.trans hg3; have hB3 : Blk w3 w.heap.size 53 [.int .i64 vk, .int .i64 vn, .string vt, .slice A va.length c] := hB1.drew.grown hg3.2.1 (fun e => hBne e.symm); have t3' := hB3.cell 3)
        | (rw [if_pos (by simp [Region.wanted])]; unfold Oper.wp; go_simp; go_at_call 76; refine (list_any d IH.out v3 A va.length c va vss _ base _ hG2.own (by have := hG2.2.1.size; omega) rfl hal (hG2.apartR (by omega) hr) (ha.imp fun _ _ h => hG2.apart h) hb3).mono ?_; rintro e w4 ⟨A4, c4, rfl, hg4⟩; generalize Value.slice A4 ((xs ++ u8s ((UInt8.ofNat vk.toNat :: intE vn) ++ textE vt)).length + (listE (encV d) va).length) c4 = v4 at hg4 ⊢; dsimp only))
      all_goals go_wp2_with (fail)
      all_goals go_ret
      all_goals have hG4 := enc_join (hG2.trans hg4)
      all_goals obtain ⟨A5, c5, rfl⟩ := hG4.form
      all_goals exact ⟨A5, c5, rfl, hG4⟩
end Go.Proofs.Yteojmmjanjilaaa
