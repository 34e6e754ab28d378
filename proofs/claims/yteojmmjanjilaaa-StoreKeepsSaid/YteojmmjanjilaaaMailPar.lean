/- Contract of parcelOf. (Printed by mailpar.py.) -/
import Derived.Test.YteojmmjanjilaaaMailPo
import Derived.Test.YteojmmjanjilaaaPart19
set_option linter.unusedVariables false
namespace Go.Mem
open Go.RowKit
theorem flat_len {size : Nat} : ∀ (rss : List (List Value)), (∀ c ∈ rss, c.length = size) → rss.flatten.length = rss.length * size
  | [], _ => by simp
  | a :: r, h => by
    have ha := h a (by simp)
    have := flat_len r fun c hc => h c (by simp [hc])
    simp only [List.flatten_cons, List.length_append, List.length_cons, this, ha, Nat.add_mul]
    omega
theorem flat_drop {size : Nat} : ∀ (rss : List (List Value)) (k : Nat), (∀ c ∈ rss, c.length = size) → rss.flatten.drop (k * size) = (rss.drop k).flatten
  | rss, 0, _ => by simp
  | [], k + 1, _ => by simp
  | a :: r, k + 1, h => by
    have ha := h a (by simp)
    rw [List.flatten_cons, List.drop_append, List.drop_of_length_le (by rw [ha, Nat.add_mul]; omega), List.nil_append, show (k + 1) * size - a.length = k * size by rw [ha, Nat.add_mul]; omega, flat_drop r k fun c hc => h c (by simp [hc])]
    rfl
theorem flat_take4 {size : Nat} : ∀ (rss : List (List Value)) (k : Nat), (∀ c ∈ rss, c.length = size) → rss.flatten.take (k * size) = (rss.take k).flatten
  | rss, 0, _ => by simp
  | [], k + 1, _ => by simp
  | a :: r, k + 1, h => by
    have ha := h a (by simp)
    rw [List.flatten_cons, List.take_append, List.take_of_length_le (by rw [ha, Nat.add_mul]; omega), show (k + 1) * size - a.length = k * size by rw [ha, Nat.add_mul]; omega, flat_take4 r k fun c hc => h c (by simp [hc])]
    simp
theorem All2.drop {α β : Type} {R : α → β → Prop} {xs : List α} {ys : List β} (h : All2 R xs ys) (k : Nat) : All2 R (xs.drop k) (ys.drop k) :=
  ⟨by simp [h.1], fun i a b h1 h2 => h.2 (k + i) a b (by simpa using h1) (by simpa using h2)⟩
end Go.Mem
namespace Go.Proofs.Yteojmmjanjilaaa
open Go.RowKit Go.Mem Go.Val

theorem step_app_In (w : World) {ops : Array Oper} {o : Oper} {a : Act} {K : Act → World → Prop} {Q : Exit → Act → World → Prop} {E : Prop} (hgd : o.guard = none) (s x : Operand)
    (ho : o.op = .call { callee := .builtin .append, args := #[s, x], argTypes := #[42, 42] })
    {base : Nat} {v : Value} {n : Nat} {xs : List Value} (hown : w.ownsRow base 83 5 v n xs) (hs : a.eval s = v)
    {D : Nat → Prop} {A : Option Addr} {m : Nat} {news : List Value} (hr : Reads w D 5 A m news) {c : Nat} (hx : a.eval x = .slice A m c) (h1 : ∀ u ∈ news, u.oneCell' = true)
    (h63 : n + m ≤ 1099511627776) (hbase : base ≤ w.heap.size)
    (h : ∀ v' w', w'.ownsRow base 83 5 v' (n + m) (xs ++ news) → w.grownBy w' v.ownBlock → (v'.ownBlock = v.ownBlock ∨ v'.ownBlock = some w.heap.size) → K (a.put o.dst v') w') :
    if Region.wanted o (yielded ops a.tmps) = true then Oper.wp Try.prog o a w K Q else E := by
  obtain ⟨i0, hi0, hz0, hz1, hz2⟩ := info_parts info_In
  exact step_append_any w hgd s x _ ho base _ i0 _ 5 _ (by kernel_rfl) hi0 hz0 hz1 hz2 rfl (by omega) v n xs hs hown D A m c news hx hr h1 (by simp only [maxLen]; omega) (by omega) hbase h

theorem step_app_Le (w : World) {ops : Array Oper} {o : Oper} {a : Act} {K : Act → World → Prop} {Q : Exit → Act → World → Prop} {E : Prop} (hgd : o.guard = none) (s x : Operand)
    (ho : o.op = .call { callee := .builtin .append, args := #[s, x], argTypes := #[45, 45] })
    {base : Nat} {v : Value} {n : Nat} {xs : List Value} (hown : w.ownsRow base 55 9 v n xs) (hs : a.eval s = v)
    {D : Nat → Prop} {A : Option Addr} {m : Nat} {news : List Value} (hr : Reads w D 9 A m news) {c : Nat} (hx : a.eval x = .slice A m c) (h1 : ∀ u ∈ news, u.oneCell' = true)
    (h63 : n + m ≤ 1099511627776) (hbase : base ≤ w.heap.size)
    (h : ∀ v' w', w'.ownsRow base 55 9 v' (n + m) (xs ++ news) → w.grownBy w' v.ownBlock → (v'.ownBlock = v.ownBlock ∨ v'.ownBlock = some w.heap.size) → K (a.put o.dst v') w') :
    if Region.wanted o (yielded ops a.tmps) = true then Oper.wp Try.prog o a w K Q else E := by
  obtain ⟨i0, hi0, hz0, hz1, hz2⟩ := info_parts info_Le
  exact step_append_any w hgd s x _ ho base _ i0 _ 9 _ (by kernel_rfl) hi0 hz0 hz1 hz2 rfl (by omega) v n xs hs hown D A m c news hx hr h1 (by simp only [maxLen]; omega) (by omega) hbase h

theorem step_app_Nu (w : World) {ops : Array Oper} {o : Oper} {a : Act} {K : Act → World → Prop} {Q : Exit → Act → World → Prop} {E : Prop} (hgd : o.guard = none) (s x : Operand)
    (ho : o.op = .call { callee := .builtin .append, args := #[s, x], argTypes := #[46, 46] })
    {base : Nat} {v : Value} {n : Nat} {xs : List Value} (hown : w.ownsRow base 3 1 v n xs) (hs : a.eval s = v)
    {D : Nat → Prop} {A : Option Addr} {m : Nat} {news : List Value} (hr : Reads w D 1 A m news) {c : Nat} (hx : a.eval x = .slice A m c) (h1 : ∀ u ∈ news, u.oneCell' = true)
    (h63 : n + m ≤ 1099511627776) (hbase : base ≤ w.heap.size)
    (h : ∀ v' w', w'.ownsRow base 3 1 v' (n + m) (xs ++ news) → w.grownBy w' v.ownBlock → (v'.ownBlock = v.ownBlock ∨ v'.ownBlock = some w.heap.size) → K (a.put o.dst v') w') :
    if Region.wanted o (yielded ops a.tmps) = true then Oper.wp Try.prog o a w K Q else E := by
  obtain ⟨i0, hi0, hz0, hz1, hz2⟩ := info_parts info_Nu
  exact step_append_any w hgd s x _ ho base _ i0 _ 1 _ (by kernel_rfl) hi0 hz0 hz1 hz2 rfl (by omega) v n xs hs hown D A m c news hx hr h1 (by simp only [maxLen]; omega) (by omega) hbase h

theorem grown_of_drew {w w' : World} {o : Obj} {r : Option Nat} (h : (w.drew.alloc o).grownBy w' r) : (w.alloc o).grownBy w' r := ⟨h.os, h.tape, h.output, h.size, h.block⟩
theorem below_of_drew {w w' : World} (h : Below w.drew.heap.size w.drew w') : Below w.heap.size w w' := ⟨h.os, h.tape, h.output, h.size, h.block⟩
/-- l[k:min(len(l), k+6)] -/
theorem sub_raws {l : List Raw} {A : Option Addr} {n c : Nat} {rss : List (List Value)} {w : World} (hn : n = l.length) (hnc : n ≤ c) (hcm : c ≤ maxLen) (hr : Reads w Any 4 A n rss.flatten) (ha : All2 (RawCells w Any) rss l) (k : Nat) (hk : k < n) (h : Int) (hh : h = ((min n (k + 6) : Nat) : Int)) :
    ∃ A' m rss', (∀ W : World, (Instr.slice 22 (.slice A n c) (some (.int .i64 (k : Int))) (some (.int .i64 h)) none).run Try.prog W = .ok (.slice A' m (c - k)) W) ∧ m = ((l.drop k).take 6).length ∧ m ≤ c - k ∧ Reads w Any 4 A' m rss'.flatten ∧ All2 (RawCells w Any) rss' ((l.drop k).take 6) := by
  have hl := ha.lens RawCells.stable
  obtain ⟨A', h1, h2⟩ := slice_lh 22 80 Try.underlying22 (by kernel_rfl) hr hnc k (min n (k + 6) - k) (by omega) (k : Int) h rfl (by rw [hh]; congr 1; omega)
  have e : (l.drop k).take (min n (k + 6) - k) = (l.drop k).take 6 := by
    rcases Nat.lt_or_ge n (k + 6) with h6 | h6
    · rw [List.take_of_length_le (by rw [List.length_drop]; omega), List.take_of_length_le (by rw [List.length_drop]; omega)]
    · congr 1; omega
  refine ⟨A', min n (k + 6) - k, (rss.drop k).take (min n (k + 6) - k), h1, by rw [← e, List.length_take, List.length_drop]; omega, by omega, ?_, ?_⟩
  · rw [flat_drop rss k hl, flat_take4 _ _ fun c hc => hl c (List.mem_of_mem_drop hc)] at h2
    exact h2
  · rw [← e]
    exact (ha.drop k).take _

theorem po_fin {w wr : World} {ref pt : Int} {ss : List V} {si : List In} {pb : List L} {pw pl : List Int} {k : Nat} {A1 A2 A3 A4 A5 : Option Addr} {c1 c2 c3 c4 c5 : Nat} {vs1 vs2 vs3 : List (List Value)} {rs : List RowD} (hrs : rs = [⟨53, 4, .slice A1 ss.length c1, ss.length, vs1.flatten⟩, ⟨83, 5, .slice A2 si.length c2, si.length, vs2.flatten⟩, ⟨55, 9, .slice A3 pb.length c3, pb.length, vs3.flatten⟩, ⟨3, 1, .slice A4 pw.length c4, pw.length, nums pw⟩, ⟨3, 1, .slice A5 pl.length c5, pl.length, nums pl⟩]) (hlen : PLen ⟨ref, ⟨⟨#[65]⟩, ss, si⟩, pb, pt, pw, pl⟩ k) (hk : k ≤ 8) (hrf : Fits64 ref)
    (hZ : Blk wr w.heap.size 48 [.int .i64 0, .string ⟨#[]⟩, .slice none 0 0, .slice none 0 0, .slice none 0 0, .int .i64 0, .slice none 0 0, .slice none 0 0]) (hR : RowsAt wr (w.heap.size + 2) rs) (a1 : All2 (VCells 41 wr (OffRows (w.heap.size + 2) rs)) vs1 ss) (a2 : All2 (InCells 41 wr (OffRows (w.heap.size + 2) rs)) vs2 si) (a3 : All2 (LCells 41 wr (OffRows (w.heap.size + 2) rs)) vs3 pb) (hbel : Below w.heap.size w wr) :
    PoPost w ⟨ref, ⟨⟨#[65]⟩, ss, si⟩, pb, pt, pw, pl⟩ (.returned (.agg ([.int .i64 ref, .string ⟨#[65]⟩, .slice A1 ss.length c1, .slice A2 si.length c2, .slice A3 pb.length c3, .int .i64 pt, .slice A4 pw.length c4, .slice A5 pl.length c5]).toArray)) (setRow wr w.heap.size 0 [.int .i64 ref, .string ⟨#[65]⟩, .slice A1 ss.length c1, .slice A2 si.length c2, .slice A3 pb.length c3, .int .i64 pt, .slice A4 pw.length c4, .slice A5 pl.length c5]) ∧ Blk (setRow wr w.heap.size 0 [.int .i64 ref, .string ⟨#[65]⟩, .slice A1 ss.length c1, .slice A2 si.length c2, .slice A3 pb.length c3, .int .i64 pt, .slice A4 pw.length c4, .slice A5 pl.length c5]) w.heap.size 48 [.int .i64 ref, .string ⟨#[65]⟩, .slice A1 ss.length c1, .slice A2 si.length c2, .slice A3 pb.length c3, .int .i64 pt, .slice A4 pw.length c4, .slice A5 pl.length c5] := by
  subst hrs
  obtain ⟨l1, l2, l3, l4, l5, l6, _⟩ := hlen
  simp only at l1 l2 l3 l4 l5 l6
  have o1 := own_reads (size := 4) (by omega) (hR.1 0 _ rfl)
  have o2 := own_reads (size := 5) (by omega) (hR.1 1 _ rfl)
  have o3 := own_reads (size := 9) (by omega) (hR.1 2 _ rfl)
  have o4 := own_reads (size := 1) (by omega) (hR.1 3 _ rfl)
  have o5 := own_reads (size := 1) (by omega) (hR.1 4 _ rfl)
  obtain ⟨p1, p2, r1⟩ := o1
  obtain ⟨p3, p4, r2⟩ := o2
  obtain ⟨p5, p6, r3⟩ := o3
  obtain ⟨p7, p8, r4⟩ := o4
  obtain ⟨p9, p10, r5⟩ := o5
  have hk1 : Same (fun b => w.heap.size + 2 ≤ b) wr (setRow wr w.heap.size 0 [.int .i64 ref, .string ⟨#[65]⟩, .slice A1 ss.length c1, .slice A2 si.length c2, .slice A3 pb.length c3, .int .i64 pt, .slice A4 pw.length c4, .slice A5 pl.length c5]) := setRow_same (by omega) _ _ _
  have hk2 : ∀ {rs : List RowD}, Same (OffRows (w.heap.size + 2) rs) wr (setRow wr w.heap.size 0 [.int .i64 ref, .string ⟨#[65]⟩, .slice A1 ss.length c1, .slice A2 si.length c2, .slice A3 pb.length c3, .int .i64 pt, .slice A4 pw.length c4, .slice A5 pl.length c5]) := fun b hb hl => hk1 b hb.1 hl
  have d1 : ∀ b, w.heap.size + 2 ≤ b → w.heap.size ≤ b := fun b hb => by omega
  have d2 : ∀ {rs : List RowD} b, OffRows (w.heap.size + 2) rs b → w.heap.size ≤ b := fun b hb => d1 b hb.1
  exact ⟨⟨_, rfl, ⟨[.string ⟨#[65]⟩, .slice A1 ss.length c1, .slice A2 si.length c2], A3, c3, vs3, A4, c4, A5, c5, rfl, hrf, l6, ⟨A1, c1, vs1, A2, c2, vs2, rfl, (by show (⟨#[65]⟩ : ByteArray).size ≤ _; decide), ⟨by simp only; omega, p1, p2⟩, ⟨by simp only; omega, p3, p4⟩, (r1.keep hk1).imp (by omega) fun b hb _ => d1 b hb, a1.imp fun _ _ h => (h.keep hk2).imp fun b hb _ => d2 b hb, (r2.keep hk1).imp (by omega) fun b hb _ => d1 b hb, a2.imp fun _ _ h => (InCells.stable 41).imp ((InCells.stable 41).keep h hk2) fun b hb _ => d2 b hb⟩,
    ⟨by simp only; omega, p5, p6⟩, ⟨by simp only; omega, p7, p8⟩, ⟨by simp only; omega, p9, p10⟩, (r3.keep hk1).imp (by omega) fun b hb _ => d1 b hb, a3.imp fun _ _ h => (LCells.stable 41).imp ((LCells.stable 41).keep h hk2) fun b hb _ => d2 b hb, (r4.keep hk1).imp (by omega) fun b hb _ => d1 b hb, (r5.keep hk1).imp (by omega) fun b hb _ => d1 b hb⟩, setRow_below (Nat.le_refl _) _ _ _ hbel⟩, setRow_blk hZ _ rfl⟩

theorem po_ticks {w w1 : World} {n t : Int} {p : Pc} {v1 v2 v3 v4 v5 : Value} {vs1 vs2 vs3 : List (List Value)} (hB : Blk w1 (w.heap.size + 1) 48 [.int .i64 n, .string ⟨#[65]⟩, v1, v2, v3, .int .i64 p.ticks, v4, v5]) (hZ : Blk w1 w.heap.size 48 [.int .i64 0, .string ⟨#[]⟩, .slice none 0 0, .slice none 0 0, .slice none 0 0, .int .i64 0, .slice none 0 0, .slice none 0 0]) (hR : RowsAt w1 (w.heap.size + 2) [⟨53, 4, v1, p.saved.state.length, vs1.flatten⟩, ⟨83, 5, v2, p.saved.inputs.length, vs2.flatten⟩, ⟨55, 9, v3, p.box.length, vs3.flatten⟩, ⟨3, 1, v4, p.watches.length, nums p.watches⟩, ⟨3, 1, v5, p.links.length, nums p.links⟩]) (a1 : All2 (VCells 41 w1 (OffRows (w.heap.size + 2) [⟨53, 4, v1, p.saved.state.length, vs1.flatten⟩, ⟨83, 5, v2, p.saved.inputs.length, vs2.flatten⟩, ⟨55, 9, v3, p.box.length, vs3.flatten⟩, ⟨3, 1, v4, p.watches.length, nums p.watches⟩, ⟨3, 1, v5, p.links.length, nums p.links⟩])) vs1 p.saved.state) (a2 : All2 (InCells 41 w1 (OffRows (w.heap.size + 2) [⟨53, 4, v1, p.saved.state.length, vs1.flatten⟩, ⟨83, 5, v2, p.saved.inputs.length, vs2.flatten⟩, ⟨55, 9, v3, p.box.length, vs3.flatten⟩, ⟨3, 1, v4, p.watches.length, nums p.watches⟩, ⟨3, 1, v5, p.links.length, nums p.links⟩])) vs2 p.saved.inputs) (a3 : All2 (LCells 41 w1 (OffRows (w.heap.size + 2) [⟨53, 4, v1, p.saved.state.length, vs1.flatten⟩, ⟨83, 5, v2, p.saved.inputs.length, vs2.flatten⟩, ⟨55, 9, v3, p.box.length, vs3.flatten⟩, ⟨3, 1, v4, p.watches.length, nums p.watches⟩, ⟨3, 1, v5, p.links.length, nums p.links⟩])) vs3 p.box) (hbel : Below w.heap.size w w1) :
    PoRel w n ⟨p.ref, p.saved, p.box, t, p.watches, p.links⟩ (w1.setCell ⟨w.heap.size + 1, 5, none⟩ (.int .i64 t)) := by
  have hk : Same (fun b => w.heap.size + 2 ≤ b) w1 (w1.setCell ⟨w.heap.size + 1, 5, none⟩ (.int .i64 t)) := grown_put (by omega) _ _
  have hk' : ∀ {rs : List RowD}, Same (OffRows (w.heap.size + 2) rs) w1 (w1.setCell ⟨w.heap.size + 1, 5, none⟩ (.int .i64 t)) := fun b hb hl => hk b hb.1 hl
  exact ⟨v1, v2, v3, v4, v5, vs1, vs2, vs3, hB.put 5 _, hZ.far (by simp) _, hR.keep hk, a1.imp fun _ _ h => h.keep hk', a2.imp fun _ _ h => (InCells.stable 41).keep h hk', a3.imp fun _ _ h => (LCells.stable 41).keep h hk', hbel.setCell (by simp) _⟩

set_option maxRecDepth 100000 in
set_option maxHeartbeats 8000000 in
/-- parcelOf: the parcel that raw ones say -/
theorem parcelOf_any (l : List Raw) (ref : Int) (A : Option Addr) (n c : Nat) (rss : List (List Value)) (w : World) (hrf : Fits64 ref) (hn : n = l.length) (hnc : n ≤ c) (hcm : c ≤ maxLen) (hr : Reads w Any 4 A n rss.flatten) (ha : All2 (RawCells w Any) rss l) :
    Calls Try.prog 12 #[.int .i64 ref, .slice A n c] w (PoPost w (parF l ref)) := by
  have Hn := Lib.hid hn
  have hcm' : c ≤ 9223372036854775807 := by unfold maxLen at hcm; omega
  clear hn
  obtain ⟨W, hW⟩ : ∃ W, W = (w.alloc (.cells #[.int .i64 0, .string ⟨#[]⟩, .slice none 0 0, .slice none 0 0, .slice none 0 0, .int .i64 0, .slice none 0 0, .slice none 0 0] 48)).alloc (.cells #[.int .i64 ref, .string ⟨#[65]⟩, .slice none 0 0, .slice none 0 0, .slice none 0 0, .int .i64 (-1), .slice none 0 0, .slice none 0 0] 48) := ⟨_, rfl⟩
  have hP0 : PoRel w ref (parU l ref 0) W := by
    obtain ⟨x1, x2, x3, _⟩ := blks2 w 48 48 [.int .i64 0, .string ⟨#[]⟩, .slice none 0 0, .slice none 0 0, .slice none 0 0, .int .i64 0, .slice none 0 0, .slice none 0 0] [.int .i64 ref, .string ⟨#[65]⟩, .slice none 0 0, .slice none 0 0, .slice none 0 0, .int .i64 (-1), .slice none 0 0, .slice none 0 0] W hW
    exact ⟨_, _, _, _, _, [], [], [], x2, x1, RowsAt.nil5 _ _ _ (fun i r h => by
      rcases i with _ | _ | _ | _ | _ | i <;> simp at h
      all_goals (subst h; exact ⟨rfl, rfl, rfl⟩)), All2.nil, All2.nil, All2.nil, x3⟩
  have HW := Lib.hid hW
  clear hW
  go_enter Try.func12, Try.ntmps12
  go_upto_region 2 with (fail)
  rw [← HW.out]
  clear HW
  go_wp2_with (fail)
  go_loopw [12] (fun v wr => ∃ k : Nat, k ≤ n ∧ k ≤ 8 ∧ v = .int .i64 k ∧ PoRel w ref (parU l ref k) wr) (fun v _ => n - (intOf v).toNat)
  case atStart => exact ⟨0, Nat.zero_le _, Nat.zero_le _, rfl, hP0⟩
  case round =>
    obtain ⟨k, hk, hk8, rfl, hP⟩ := hrel
    have hsz := hP.size
    obtain ⟨v1, v2, v3, v4, v5, vs1, vs2, vs3, hB, hZ, hR, a1, a2, a3, hbel⟩ := hP
    obtain ⟨hlen, href⟩ := parU_len l ref k
    have HU0 : Hid (parU l ref (k + 1) = parStep l k (parU l ref k)) := rfl
    have HF : Hid (k = min 8 l.length → parF l ref = parU l ref k) := by
      unfold Hid parF
      intro h
      rw [← h]
    generalize hp : parU l ref k = p at hB hZ hR a1 a2 a3 hlen href HU0 HF
    clear hp
    obtain ⟨pr, ⟨sa, ss, si⟩, pb, pt, pw, pl⟩ := p
    have hsa : sa = ⟨#[65]⟩ := hlen.2.2.2.2.2.2
    have href' : pr = ref := href
    subst hsa href'
    have f0 := own_form (hR.1 0 _ rfl)
    simp only at f0
    obtain ⟨A1, c1, rfl, _⟩ := f0
    have f1 := own_form (hR.1 1 _ rfl)
    simp only at f1
    obtain ⟨A2, c2, rfl, _⟩ := f1
    have f2 := own_form (hR.1 2 _ rfl)
    simp only at f2
    obtain ⟨A3, c3, rfl, _⟩ := f2
    have f3 := own_form (hR.1 3 _ rfl)
    simp only at f3
    obtain ⟨A4, c4, rfl, _⟩ := f3
    have f4 := own_form (hR.1 4 _ rfl)
    simp only at f4
    obtain ⟨A5, c5, rfl, _⟩ := f4
    simp only at hB hR a1 a2 a3
    have hpsz : w.heap.size + 2 ≤ wr.heap.size := hsz
    have L := Lib.hid hlen
    obtain ⟨l1, l2, l3, l4, l5, _, _⟩ := hlen
    simp only at l1 l2 l3 l4 l5
    clear href
    by_cases hlt : k < n ∧ k < 8
    · obtain ⟨hlt, hlt8⟩ := hlt
      have hkl : k < l.length := by have := Hn.out; omega
      obtain ⟨b, off, cs, rfl, hD, hv, hcell⟩ := hr.elem RawCells.stable ha Hn.out hkl
      have hget : l[k]? = some l[k] := List.getElem?_eq_getElem hkl
      generalize l[k] = r at hv hget
      have Hget := Lib.hid hget
      clear hget
      obtain ⟨rk, ra, rb, rt⟩ := r
      obtain ⟨rfl, hfk, hfa, hfb, hft⟩ := hv
      simp only at hfk hfa
      have hA1 : I64 ra := hfa
      have hK1 : I64 rk := hfk
      have hsame : Same Any w wr := Same.any hbel
      have g0 := hsame.cell hD (hcell 0 _ rfl)
      have g1 := hsame.cell hD (hcell 1 _ rfl)
      simp only [Nat.add_zero, ← Nat.add_assoc] at g0 g1
      clear hcell hsame
      have q1 := restI_bd rk 6 (by omega)
      obtain ⟨q1a, q1b⟩ := q1
      generalize hq : restI rk 6 = q at q1a q1b
      have Hq := Lib.hid hq
      have HU1 : Hid (parU l pr (k + 1) = if q = 0 then (if ss.length < 6 then ⟨pr, ⟨⟨#[65]⟩, ss ++ [valF ((l.drop k).take 6)], si⟩, pb, pt, pw, pl⟩ else ⟨pr, ⟨⟨#[65]⟩, ss, si⟩, pb, pt, pw, pl⟩)
          else if q = 1 then ⟨pr, ⟨⟨#[65]⟩, ss, si ++ [⟨2, valF ((l.drop k).take 6)⟩, ⟨3, zeroV⟩]⟩, pb, pt, pw, pl⟩
          else if q = 2 then ⟨pr, ⟨⟨#[65]⟩, ss, si⟩, pb ++ [letF ((l.drop k).take 6)], pt, pw, pl⟩
          else if q = 3 then ⟨pr, ⟨⟨#[65]⟩, ss, si⟩, pb, restN ra 100, pw, pl⟩
          else if q = 4 then ⟨pr, ⟨⟨#[65]⟩, ss, si⟩, pb, pt, pw ++ [1 + restN ra 5000], pl⟩
          else ⟨pr, ⟨⟨#[65]⟩, ss, si⟩, pb, pt, pw, pl ++ [1 + restN ra 5000]⟩) := by
        unfold Hid
        rw [HU0.out]
        unfold parStep
        rw [Hget.out]
        have e : restN rk 6 = q := hq
        simp only [e]
      clear hq HU0 Hget HF
      have d8 : decide ((8 : Int) ≤ (k : Int)) = false := by simp; omega
      have hw6 : IntKind.i64.wrap ((k : Int) + 6) = (k : Int) + 6 := IntWalk.i64_in _ (by omega)
      have q5 := restI_bd ra 5000 (by omega)
      obtain ⟨q5a, q5b⟩ := q5
      have q6 := restI_bd ra 100 (by omega)
      obtain ⟨q6a, q6b⟩ := q6
      have VO0 : ∀ (A' : Option Addr) (m c' : Nat) (rss' : List (List Value)), m = ((l.drop k).take 6).length → m ≤ c' → c' ≤ maxLen → Reads w Any 4 A' m rss'.flatten → All2 (RawCells w Any) rss' ((l.drop k).take 6) → Hid (∀ W : World, W.heap = wr.heap → Calls Try.prog 27 #[.slice A' m c'] W fun e w' => ∃ A' c', e = .returned (vagg (valF ((l.drop k).take 6)) A' c') ∧ VCells 21 w' (fun b => W.heap.size ≤ b) (vcells (valF ((l.drop k).take 6)) A' c') (valF ((l.drop k).take 6)) ∧ Below W.heap.size W w') := fun A' m c' rss' e1 e2 e3 e4 e5 W hW => valueOf_any _ A' m c' rss' W e1 e2 e3 ((e4.keep (Same.any hbel)).keep (Same.of_heap hW)) (e5.imp fun _ _ h => h)
      have LO0 : ∀ (A' : Option Addr) (m c' : Nat) (rss' : List (List Value)), m = ((l.drop k).take 6).length → m ≤ c' → c' ≤ maxLen → Reads w Any 4 A' m rss'.flatten → All2 (RawCells w Any) rss' ((l.drop k).take 6) → Hid (∀ W : World, W.heap = wr.heap → Calls Try.prog 13 #[.slice A' m c'] W (LoPost W (letF ((l.drop k).take 6)))) := fun A' m c' rss' e1 e2 e3 e4 e5 W hW => letterOf_any _ A' m c' rss' W e1 e2 e3 ((e4.keep (Same.any hbel)).keep (Same.of_heap hW)) (e5.imp fun _ _ h => h)
      have S0 := fun (h : Int) hh => sub_raws Hn.out hnc hcm hr ha k hlt h hh
      have HVO := Lib.hid VO0
      have HLO := Lib.hid LO0
      have HS0 := Lib.hid S0
      clear VO0 LO0 S0 hr ha hP0
      have cq : Hid (∀ W : World, Calls Try.prog 11 #[.int .i64 rk, .int .i64 6] W fun e w' => e = .returned (.int .i64 q) ∧ W = w') := fun W => rest_q rk 6 W q hK1 (by omega) (by omega) Hq.out
      have m2 := hB.cell 2
      have m3 := hB.cell 3
      have m4 := hB.cell 4
      have m5 := hB.cell 5
      have m6 := hB.cell 6
      have m7 := hB.cell 7
      simp only [List.getElem?_cons_succ, List.getElem?_cons_zero] at m2 m3 m4 m5 m6 m7
      have f5 := hB.frozen 5
      have lb5 := hB.lt
      obtain rfl | rfl | rfl | rfl | rfl | rfl : q = 0 ∨ q = 1 ∨ q = 2 ∨ q = 3 ∨ q = 4 ∨ q = 5 := by omega
      · by_cases hs6 : ss.length < 6
        · have hs6' : decide ((ss.length : Int) < 6) = true := by simp; omega
          have HU : Hid (parU l pr (k + 1) = ⟨pr, ⟨⟨#[65]⟩, ss ++ [valF ((l.drop k).take 6)], si⟩, pb, pt, pw, pl⟩) := by unfold Hid; rw [HU1.out, if_pos rfl, if_pos hs6]
          clear HU1
          by_cases h6 : k + 6 < n
          · obtain ⟨A', m, rss', hsl, hm, hmc, hr', ha'⟩ := HS0.out ((k : Int) + 6) (by rw [Nat.min_eq_right (by omega)]; push_cast; rfl)
            have VO := HVO.out A' m (c - k) rss' hm hmc (by omega) hr' ha'
            clear hm hr' ha' HVO HLO HS0
            have h6' : (k : Int) + 6 < (n : Int) := by omega
            have h6'' : decide ((k : Int) + 6 < (n : Int)) = true := by simp; omega
            go_upto_region 10 with (go_at_call 11; refine (cq.out _).mono ?_; rintro e w' ⟨rfl, rfl⟩)
            refine wp_region_any (by kernel_rfl) ?_
            change wpAny _ _ _ _ _ _ _ (World.drew _)
            repeat (first | (refine wpAny_take (i := 0) (v := .pointer (some ⟨w.heap.size + 1, 1, none⟩)) rfl ?_ ?_ ?_ (fun _ _ _ h => h) (Or.inl ⟨by rfl, ?_⟩) ?_; (· decide +kernel); (· decide +kernel); (· decide +kernel); (· (intro w; go_simp))) | (refine wpAny_take (i := 1) (v := .pointer (some ⟨w.heap.size + 1, 2, none⟩)) rfl ?_ ?_ ?_ (fun _ _ _ h => h) (Or.inl ⟨by rfl, ?_⟩) ?_; (· decide +kernel); (· decide +kernel); (· decide +kernel); (· (intro w; go_simp))) | (refine wpAny_take (i := 3) (v := .slice (some ⟨b, off, none⟩) n c) rfl ?_ ?_ ?_ (fun _ _ _ h => h) (Or.inl ⟨by rfl, ?_⟩) ?_; (· decide +kernel); (· decide +kernel); (· decide +kernel); (· (intro w; go_simp))) | (refine wpAny_take (i := 4) (v := .int .i64 k) rfl ?_ ?_ ?_ (fun _ _ _ h => h) (Or.inl ⟨by rfl, ?_⟩) ?_; (· decide +kernel); (· decide +kernel); (· decide +kernel); (· (intro w; go_simp))) | (refine wpAny_take (i := 5) (v := .slice (some ⟨b, off, none⟩) n c) rfl ?_ ?_ ?_ (fun _ _ _ h => h) (Or.inl ⟨by rfl, ?_⟩) ?_; (· decide +kernel); (· decide +kernel); (· decide +kernel); (· (intro w; go_simp))) | (refine wpAny_take (i := 6) (v := .int .i64 n) rfl ?_ ?_ ?_ (fun _ _ _ h => h) (Or.inl ⟨by rfl, ?_⟩) ?_; (· decide +kernel); (· decide +kernel); (· decide +kernel); (· (intro w; go_simp))) | (refine wpAny_take (i := 7) (v := .int .i64 k) rfl ?_ ?_ ?_ (fun _ _ _ h => h) (Or.inl ⟨by rfl, ?_⟩) ?_; (· decide +kernel); (· decide +kernel); (· decide +kernel); (· (intro w; go_simp))) | (refine wpAny_take (i := 8) (v := .int .i64 (k + 6)) rfl ?_ ?_ ?_ (fun _ _ _ h => h) (Or.inl ⟨by rfl, ?_⟩) ?_; (· decide +kernel); (· decide +kernel); (· decide +kernel); (· (intro w; go_simp))) | (refine wpAny_take (i := 9) (v := .int .i64 ((k : Int) + 6)) rfl ?_ ?_ ?_ (fun _ _ _ h => h) (Or.inl ⟨by rfl, ?_⟩) ?_; (· decide +kernel); (· decide +kernel); (· decide +kernel); (· (intro w; go_simp))) | (refine wpAny_take (i := 10) (v := .slice A' m (c - k)) rfl ?_ ?_ ?_ (fun _ _ _ h => h) (Or.inl ⟨by rfl, ?_⟩) ?_; (· decide +kernel); (· decide +kernel); (· decide +kernel); (· (intro w; go_simp))))
            refine wpAny_ready (rs := [2, 11]) (by decide +kernel) (by simp) ?_
            refine AllReady.cons rfl (fun K hK => ?_) (AllReady.cons rfl (fun K hK => ?_) AllReady.nil)
            · go_simp
              refine hK _ _ ?_
              clear hK K
              refine wpAny_ready (rs := [11]) (by decide +kernel) (by simp) ?_
              refine AllReady.cons rfl (fun K hK => ?_) AllReady.nil
              (rw [if_pos (by simp [Region.wanted])]; unfold Oper.wp; go_simp; go_at_call 27; refine (VO.out wr.drew rfl).mono ?_; rintro e w1 ⟨A9, c9, rfl, hv9, hb1⟩; dsimp only; generalize hvv : valF ((l.drop k).take 6) = vv at hv9 HU ⊢; clear hvv; obtain ⟨vk, vn, vt, va⟩ := vv; simp only [vagg, vcells, V.kind, V.num, V.text, V.args] at hv9 ⊢; have hv9 := VCells.le (show 21 ≤ 41 by omega) hv9; have hb1' : Below wr.heap.size wr w1 := below_of_drew hb1; have hB1 := hB.below hb1' hB.lt; have hZ1 := hZ.below hb1' hZ.lt; have hR1 := hR.keep (Same.any hb1'); have b1 := a1.imp fun _ _ h => h.keep (Same.any hb1'); have b2 := a2.imp fun _ _ h => (InCells.stable 41).keep h (Same.any hb1'); have b3 := a3.imp fun _ _ h => (LCells.stable 41).keep h (Same.any hb1'); have hbel1 := hbel.trans (hb1'.mono hbel.size); have k1 := hB1.cell 2; have k1a := fun o => (hB1.alloc o).cell 2; simp only [List.getElem?_cons_succ, List.getElem?_cons_zero] at k1 k1a; have hs1 : wr.heap.size ≤ w1.heap.size := hb1'.size; have ho1 := hR1.1 0 _ rfl; simp only at ho1)
              refine hK _ _ ?_
              clear hK K
              refine wpAny_ready (rs := [12]) (by decide +kernel) (by simp) ?_
              refine AllReady.cons rfl (fun K hK => ?_) AllReady.nil
              go_simp
              refine hK _ _ ?_
              clear hK K
              refine wpAny_ready (rs := [13]) (by decide +kernel) (by simp) ?_
              refine AllReady.cons rfl (fun K hK => ?_) AllReady.nil
              refine step_app_val _ rfl (.tmp 44) (.tmp 54) (by rfl) (ho1.alloc _) rfl (Reads.new (D := Any) _ [.int .i64 vk, .int .i64 vn, .string vt, .slice A9 va.length c9] 4 1 _ trivial rfl) rfl (by simp [Value.oneCell']) (by omega) (by simp; omega) ?_
              intro v2 w2 hown2 hg2 hat2
              obtain ⟨A8, c8, rfl, hn8⟩ := own_form hown2
              have hB2 := (hB1.alloc (.cells #[.int .i64 vk, .int .i64 vn, .string vt, .slice A9 va.length c9] 53)).grown hg2 (fun e => by have := (ho1.lt _ e.symm).1; omega)
              have k2 := hB2.cell 2
              simp only [List.getElem?_cons_succ, List.getElem?_cons_zero] at k2
              have f2 := hB2.frozen 2
              have l2 := hB2.lt
              refine hK _ _ ?_
              clear hK K
              repeat (first | (refine wpAny_take (i := 14) (v := .pointer (some ⟨w.heap.size + 1, 1, none⟩)) rfl ?_ ?_ ?_ (fun _ _ _ h => h) (Or.inl ⟨by rfl, ?_⟩) ?_; (· decide +kernel); (· decide +kernel); (· decide +kernel); (· (intro w; go_simp))) | (refine wpAny_take (i := 15) (v := .pointer (some ⟨w.heap.size + 1, 2, none⟩)) rfl ?_ ?_ ?_ (fun _ _ _ h => h) (Or.inl ⟨by rfl, ?_⟩) ?_; (· decide +kernel); (· decide +kernel); (· decide +kernel); (· (intro w; go_simp))))
              refine wpAny_ready (rs := [16]) (by decide +kernel) (by simp) ?_
              refine AllReady.cons rfl (fun K hK => ?_) AllReady.nil
              go_simp
              refine hK _ _ ?_
              clear hK K
              refine wpAny_done (by decide +kernel) ?_ _
              go_wp2_with (fail)
              exact ⟨⟨k + 1, by omega, by omega, by go_num, by rw [HU.out]; exact po_state (p := ⟨pr, ⟨⟨#[65]⟩, ss, si⟩, pb, pt, pw, pl⟩) hB1 hZ1 hR1 b1 b2 b3 hbel1 (All2.cons_mk (hv9.imp fun b hb _ => hR.fresh (Nat.le_refl _) hpsz (by exact hb)) All2.nil) hg2 hat2 hown2⟩, by simp [intOf]; omega⟩
            · (rw [if_pos (by simp [Region.wanted])]; unfold Oper.wp; go_simp; go_at_call 27; refine (VO.out wr.drew rfl).mono ?_; rintro e w1 ⟨A9, c9, rfl, hv9, hb1⟩; dsimp only; generalize hvv : valF ((l.drop k).take 6) = vv at hv9 HU ⊢; clear hvv; obtain ⟨vk, vn, vt, va⟩ := vv; simp only [vagg, vcells, V.kind, V.num, V.text, V.args] at hv9 ⊢; have hv9 := VCells.le (show 21 ≤ 41 by omega) hv9; have hb1' : Below wr.heap.size wr w1 := below_of_drew hb1; have hB1 := hB.below hb1' hB.lt; have hZ1 := hZ.below hb1' hZ.lt; have hR1 := hR.keep (Same.any hb1'); have b1 := a1.imp fun _ _ h => h.keep (Same.any hb1'); have b2 := a2.imp fun _ _ h => (InCells.stable 41).keep h (Same.any hb1'); have b3 := a3.imp fun _ _ h => (LCells.stable 41).keep h (Same.any hb1'); have hbel1 := hbel.trans (hb1'.mono hbel.size); have k1 := hB1.cell 2; have k1a := fun o => (hB1.alloc o).cell 2; simp only [List.getElem?_cons_succ, List.getElem?_cons_zero] at k1 k1a; have hs1 : wr.heap.size ≤ w1.heap.size := hb1'.size; have ho1 := hR1.1 0 _ rfl; simp only at ho1)
              refine hK _ _ ?_
              clear hK K
              refine wpAny_ready (rs := [2, 12]) (by decide +kernel) (by simp) ?_
              refine AllReady.cons rfl (fun K hK => ?_) (AllReady.cons rfl (fun K hK => ?_) AllReady.nil)
              · go_simp
                refine hK _ _ ?_
                clear hK K
                refine wpAny_ready (rs := [12]) (by decide +kernel) (by simp) ?_
                refine AllReady.cons rfl (fun K hK => ?_) AllReady.nil
                go_simp
                refine hK _ _ ?_
                clear hK K
                refine wpAny_ready (rs := [13]) (by decide +kernel) (by simp) ?_
                refine AllReady.cons rfl (fun K hK => ?_) AllReady.nil
                refine step_app_val _ rfl (.tmp 44) (.tmp 54) (by rfl) (ho1.alloc _) rfl (Reads.new (D := Any) _ [.int .i64 vk, .int .i64 vn, .string vt, .slice A9 va.length c9] 4 1 _ trivial rfl) rfl (by simp [Value.oneCell']) (by omega) (by simp; omega) ?_
                intro v2 w2 hown2 hg2 hat2
                obtain ⟨A8, c8, rfl, hn8⟩ := own_form hown2
                have hB2 := (hB1.alloc (.cells #[.int .i64 vk, .int .i64 vn, .string vt, .slice A9 va.length c9] 53)).grown hg2 (fun e => by have := (ho1.lt _ e.symm).1; omega)
                have k2 := hB2.cell 2
                simp only [List.getElem?_cons_succ, List.getElem?_cons_zero] at k2
                have f2 := hB2.frozen 2
                have l2 := hB2.lt
                refine hK _ _ ?_
                clear hK K
                repeat (first | (refine wpAny_take (i := 14) (v := .pointer (some ⟨w.heap.size + 1, 1, none⟩)) rfl ?_ ?_ ?_ (fun _ _ _ h => h) (Or.inl ⟨by rfl, ?_⟩) ?_; (· decide +kernel); (· decide +kernel); (· decide +kernel); (· (intro w; go_simp))) | (refine wpAny_take (i := 15) (v := .pointer (some ⟨w.heap.size + 1, 2, none⟩)) rfl ?_ ?_ ?_ (fun _ _ _ h => h) (Or.inl ⟨by rfl, ?_⟩) ?_; (· decide +kernel); (· decide +kernel); (· decide +kernel); (· (intro w; go_simp))))
                refine wpAny_ready (rs := [16]) (by decide +kernel) (by simp) ?_
                refine AllReady.cons rfl (fun K hK => ?_) AllReady.nil
                go_simp
                refine hK _ _ ?_
                clear hK K
                refine wpAny_done (by decide +kernel) ?_ _
                go_wp2_with (fail)
                exact ⟨⟨k + 1, by omega, by omega, by go_num, by rw [HU.out]; exact po_state (p := ⟨pr, ⟨⟨#[65]⟩, ss, si⟩, pb, pt, pw, pl⟩) hB1 hZ1 hR1 b1 b2 b3 hbel1 (All2.cons_mk (hv9.imp fun b hb _ => hR.fresh (Nat.le_refl _) hpsz (by exact hb)) All2.nil) hg2 hat2 hown2⟩, by simp [intOf]; omega⟩
              · go_simp
                refine hK _ _ ?_
                clear hK K
                refine wpAny_ready (rs := [2]) (by decide +kernel) (by simp) ?_
                refine AllReady.cons rfl (fun K hK => ?_) AllReady.nil
                go_simp
                refine hK _ _ ?_
                clear hK K
                refine wpAny_ready (rs := [13]) (by decide +kernel) (by simp) ?_
                refine AllReady.cons rfl (fun K hK => ?_) AllReady.nil
                refine step_app_val _ rfl (.tmp 44) (.tmp 54) (by rfl) (ho1.alloc _) rfl (Reads.new (D := Any) _ [.int .i64 vk, .int .i64 vn, .string vt, .slice A9 va.length c9] 4 1 _ trivial rfl) rfl (by simp [Value.oneCell']) (by omega) (by simp; omega) ?_
                intro v2 w2 hown2 hg2 hat2
                obtain ⟨A8, c8, rfl, hn8⟩ := own_form hown2
                have hB2 := (hB1.alloc (.cells #[.int .i64 vk, .int .i64 vn, .string vt, .slice A9 va.length c9] 53)).grown hg2 (fun e => by have := (ho1.lt _ e.symm).1; omega)
                have k2 := hB2.cell 2
                simp only [List.getElem?_cons_succ, List.getElem?_cons_zero] at k2
                have f2 := hB2.frozen 2
                have l2 := hB2.lt
                refine hK _ _ ?_
                clear hK K
                repeat (first | (refine wpAny_take (i := 14) (v := .pointer (some ⟨w.heap.size + 1, 1, none⟩)) rfl ?_ ?_ ?_ (fun _ _ _ h => h) (Or.inl ⟨by rfl, ?_⟩) ?_; (· decide +kernel); (· decide +kernel); (· decide +kernel); (· (intro w; go_simp))) | (refine wpAny_take (i := 15) (v := .pointer (some ⟨w.heap.size + 1, 2, none⟩)) rfl ?_ ?_ ?_ (fun _ _ _ h => h) (Or.inl ⟨by rfl, ?_⟩) ?_; (· decide +kernel); (· decide +kernel); (· decide +kernel); (· (intro w; go_simp))))
                refine wpAny_ready (rs := [16]) (by decide +kernel) (by simp) ?_
                refine AllReady.cons rfl (fun K hK => ?_) AllReady.nil
                go_simp
                refine hK _ _ ?_
                clear hK K
                refine wpAny_done (by decide +kernel) ?_ _
                go_wp2_with (fail)
                exact ⟨⟨k + 1, by omega, by omega, by go_num, by rw [HU.out]; exact po_state (p := ⟨pr, ⟨⟨#[65]⟩, ss, si⟩, pb, pt, pw, pl⟩) hB1 hZ1 hR1 b1 b2 b3 hbel1 (All2.cons_mk (hv9.imp fun b hb _ => hR.fresh (Nat.le_refl _) hpsz (by exact hb)) All2.nil) hg2 hat2 hown2⟩, by simp [intOf]; omega⟩
          · obtain ⟨A', m, rss', hsl, hm, hmc, hr', ha'⟩ := HS0.out (n : Int) (by rw [Nat.min_eq_left (by omega)])
            have VO := HVO.out A' m (c - k) rss' hm hmc (by omega) hr' ha'
            clear hm hr' ha' HVO HLO HS0
            have h6' : ((k : Int) + 6 < (n : Int)) = False := by simp; omega
            have h6'' : decide ((k : Int) + 6 < (n : Int)) = false := by simp; omega
            go_upto_region 10 with (go_at_call 11; refine (cq.out _).mono ?_; rintro e w' ⟨rfl, rfl⟩)
            refine wp_region_any (by kernel_rfl) ?_
            change wpAny _ _ _ _ _ _ _ (World.drew _)
            repeat (first | (refine wpAny_take (i := 0) (v := .pointer (some ⟨w.heap.size + 1, 1, none⟩)) rfl ?_ ?_ ?_ (fun _ _ _ h => h) (Or.inl ⟨by rfl, ?_⟩) ?_; (· decide +kernel); (· decide +kernel); (· decide +kernel); (· (intro w; go_simp))) | (refine wpAny_take (i := 1) (v := .pointer (some ⟨w.heap.size + 1, 2, none⟩)) rfl ?_ ?_ ?_ (fun _ _ _ h => h) (Or.inl ⟨by rfl, ?_⟩) ?_; (· decide +kernel); (· decide +kernel); (· decide +kernel); (· (intro w; go_simp))) | (refine wpAny_take (i := 3) (v := .slice (some ⟨b, off, none⟩) n c) rfl ?_ ?_ ?_ (fun _ _ _ h => h) (Or.inl ⟨by rfl, ?_⟩) ?_; (· decide +kernel); (· decide +kernel); (· decide +kernel); (· (intro w; go_simp))) | (refine wpAny_take (i := 4) (v := .int .i64 k) rfl ?_ ?_ ?_ (fun _ _ _ h => h) (Or.inl ⟨by rfl, ?_⟩) ?_; (· decide +kernel); (· decide +kernel); (· decide +kernel); (· (intro w; go_simp))) | (refine wpAny_take (i := 5) (v := .slice (some ⟨b, off, none⟩) n c) rfl ?_ ?_ ?_ (fun _ _ _ h => h) (Or.inl ⟨by rfl, ?_⟩) ?_; (· decide +kernel); (· decide +kernel); (· decide +kernel); (· (intro w; go_simp))) | (refine wpAny_take (i := 6) (v := .int .i64 n) rfl ?_ ?_ ?_ (fun _ _ _ h => h) (Or.inl ⟨by rfl, ?_⟩) ?_; (· decide +kernel); (· decide +kernel); (· decide +kernel); (· (intro w; go_simp))) | (refine wpAny_take (i := 7) (v := .int .i64 k) rfl ?_ ?_ ?_ (fun _ _ _ h => h) (Or.inl ⟨by rfl, ?_⟩) ?_; (· decide +kernel); (· decide +kernel); (· decide +kernel); (· (intro w; go_simp))) | (refine wpAny_take (i := 8) (v := .int .i64 (k + 6)) rfl ?_ ?_ ?_ (fun _ _ _ h => h) (Or.inl ⟨by rfl, ?_⟩) ?_; (· decide +kernel); (· decide +kernel); (· decide +kernel); (· (intro w; go_simp))) | (refine wpAny_take (i := 9) (v := .int .i64 (n : Int)) rfl ?_ ?_ ?_ (fun _ _ _ h => h) (Or.inl ⟨by rfl, ?_⟩) ?_; (· decide +kernel); (· decide +kernel); (· decide +kernel); (· (intro w; go_simp))) | (refine wpAny_take (i := 10) (v := .slice A' m (c - k)) rfl ?_ ?_ ?_ (fun _ _ _ h => h) (Or.inl ⟨by rfl, ?_⟩) ?_; (· decide +kernel); (· decide +kernel); (· decide +kernel); (· (intro w; go_simp))))
            refine wpAny_ready (rs := [2, 11]) (by decide +kernel) (by simp) ?_
            refine AllReady.cons rfl (fun K hK => ?_) (AllReady.cons rfl (fun K hK => ?_) AllReady.nil)
            · go_simp
              refine hK _ _ ?_
              clear hK K
              refine wpAny_ready (rs := [11]) (by decide +kernel) (by simp) ?_
              refine AllReady.cons rfl (fun K hK => ?_) AllReady.nil
              (rw [if_pos (by simp [Region.wanted])]; unfold Oper.wp; go_simp; go_at_call 27; refine (VO.out wr.drew rfl).mono ?_; rintro e w1 ⟨A9, c9, rfl, hv9, hb1⟩; dsimp only; generalize hvv : valF ((l.drop k).take 6) = vv at hv9 HU ⊢; clear hvv; obtain ⟨vk, vn, vt, va⟩ := vv; simp only [vagg, vcells, V.kind, V.num, V.text, V.args] at hv9 ⊢; have hv9 := VCells.le (show 21 ≤ 41 by omega) hv9; have hb1' : Below wr.heap.size wr w1 := below_of_drew hb1; have hB1 := hB.below hb1' hB.lt; have hZ1 := hZ.below hb1' hZ.lt; have hR1 := hR.keep (Same.any hb1'); have b1 := a1.imp fun _ _ h => h.keep (Same.any hb1'); have b2 := a2.imp fun _ _ h => (InCells.stable 41).keep h (Same.any hb1'); have b3 := a3.imp fun _ _ h => (LCells.stable 41).keep h (Same.any hb1'); have hbel1 := hbel.trans (hb1'.mono hbel.size); have k1 := hB1.cell 2; have k1a := fun o => (hB1.alloc o).cell 2; simp only [List.getElem?_cons_succ, List.getElem?_cons_zero] at k1 k1a; have hs1 : wr.heap.size ≤ w1.heap.size := hb1'.size; have ho1 := hR1.1 0 _ rfl; simp only at ho1)
              refine hK _ _ ?_
              clear hK K
              refine wpAny_ready (rs := [12]) (by decide +kernel) (by simp) ?_
              refine AllReady.cons rfl (fun K hK => ?_) AllReady.nil
              go_simp
              refine hK _ _ ?_
              clear hK K
              refine wpAny_ready (rs := [13]) (by decide +kernel) (by simp) ?_
              refine AllReady.cons rfl (fun K hK => ?_) AllReady.nil
              refine step_app_val _ rfl (.tmp 44) (.tmp 54) (by rfl) (ho1.alloc _) rfl (Reads.new (D := Any) _ [.int .i64 vk, .int .i64 vn, .string vt, .slice A9 va.length c9] 4 1 _ trivial rfl) rfl (by simp [Value.oneCell']) (by omega) (by simp; omega) ?_
              intro v2 w2 hown2 hg2 hat2
              obtain ⟨A8, c8, rfl, hn8⟩ := own_form hown2
              have hB2 := (hB1.alloc (.cells #[.int .i64 vk, .int .i64 vn, .string vt, .slice A9 va.length c9] 53)).grown hg2 (fun e => by have := (ho1.lt _ e.symm).1; omega)
              have k2 := hB2.cell 2
              simp only [List.getElem?_cons_succ, List.getElem?_cons_zero] at k2
              have f2 := hB2.frozen 2
              have l2 := hB2.lt
              refine hK _ _ ?_
              clear hK K
              repeat (first | (refine wpAny_take (i := 14) (v := .pointer (some ⟨w.heap.size + 1, 1, none⟩)) rfl ?_ ?_ ?_ (fun _ _ _ h => h) (Or.inl ⟨by rfl, ?_⟩) ?_; (· decide +kernel); (· decide +kernel); (· decide +kernel); (· (intro w; go_simp))) | (refine wpAny_take (i := 15) (v := .pointer (some ⟨w.heap.size + 1, 2, none⟩)) rfl ?_ ?_ ?_ (fun _ _ _ h => h) (Or.inl ⟨by rfl, ?_⟩) ?_; (· decide +kernel); (· decide +kernel); (· decide +kernel); (· (intro w; go_simp))))
              refine wpAny_ready (rs := [16]) (by decide +kernel) (by simp) ?_
              refine AllReady.cons rfl (fun K hK => ?_) AllReady.nil
              go_simp
              refine hK _ _ ?_
              clear hK K
              refine wpAny_done (by decide +kernel) ?_ _
              go_wp2_with (fail)
              exact ⟨⟨k + 1, by omega, by omega, by go_num, by rw [HU.out]; exact po_state (p := ⟨pr, ⟨⟨#[65]⟩, ss, si⟩, pb, pt, pw, pl⟩) hB1 hZ1 hR1 b1 b2 b3 hbel1 (All2.cons_mk (hv9.imp fun b hb _ => hR.fresh (Nat.le_refl _) hpsz (by exact hb)) All2.nil) hg2 hat2 hown2⟩, by simp [intOf]; omega⟩
            · (rw [if_pos (by simp [Region.wanted])]; unfold Oper.wp; go_simp; go_at_call 27; refine (VO.out wr.drew rfl).mono ?_; rintro e w1 ⟨A9, c9, rfl, hv9, hb1⟩; dsimp only; generalize hvv : valF ((l.drop k).take 6) = vv at hv9 HU ⊢; clear hvv; obtain ⟨vk, vn, vt, va⟩ := vv; simp only [vagg, vcells, V.kind, V.num, V.text, V.args] at hv9 ⊢; have hv9 := VCells.le (show 21 ≤ 41 by omega) hv9; have hb1' : Below wr.heap.size wr w1 := below_of_drew hb1; have hB1 := hB.below hb1' hB.lt; have hZ1 := hZ.below hb1' hZ.lt; have hR1 := hR.keep (Same.any hb1'); have b1 := a1.imp fun _ _ h => h.keep (Same.any hb1'); have b2 := a2.imp fun _ _ h => (InCells.stable 41).keep h (Same.any hb1'); have b3 := a3.imp fun _ _ h => (LCells.stable 41).keep h (Same.any hb1'); have hbel1 := hbel.trans (hb1'.mono hbel.size); have k1 := hB1.cell 2; have k1a := fun o => (hB1.alloc o).cell 2; simp only [List.getElem?_cons_succ, List.getElem?_cons_zero] at k1 k1a; have hs1 : wr.heap.size ≤ w1.heap.size := hb1'.size; have ho1 := hR1.1 0 _ rfl; simp only at ho1)
              refine hK _ _ ?_
              clear hK K
              refine wpAny_ready (rs := [2, 12]) (by decide +kernel) (by simp) ?_
              refine AllReady.cons rfl (fun K hK => ?_) (AllReady.cons rfl (fun K hK => ?_) AllReady.nil)
              · go_simp
                refine hK _ _ ?_
                clear hK K
                refine wpAny_ready (rs := [12]) (by decide +kernel) (by simp) ?_
                refine AllReady.cons rfl (fun K hK => ?_) AllReady.nil
                go_simp
                refine hK _ _ ?_
                clear hK K
                refine wpAny_ready (rs := [13]) (by decide +kernel) (by simp) ?_
                refine AllReady.cons rfl (fun K hK => ?_) AllReady.nil
                refine step_app_val _ rfl (.tmp 44) (.tmp 54) (by rfl) (ho1.alloc _) rfl (Reads.new (D := Any) _ [.int .i64 vk, .int .i64 vn, .string vt, .slice A9 va.length c9] 4 1 _ trivial rfl) rfl (by simp [Value.oneCell']) (by omega) (by simp; omega) ?_
                intro v2 w2 hown2 hg2 hat2
                obtain ⟨A8, c8, rfl, hn8⟩ := own_form hown2
                have hB2 := (hB1.alloc (.cells #[.int .i64 vk, .int .i64 vn, .string vt, .slice A9 va.length c9] 53)).grown hg2 (fun e => by have := (ho1.lt _ e.symm).1; omega)
                have k2 := hB2.cell 2
                simp only [List.getElem?_cons_succ, List.getElem?_cons_zero] at k2
                have f2 := hB2.frozen 2
                have l2 := hB2.lt
                refine hK _ _ ?_
                clear hK K
                repeat (first | (refine wpAny_take (i := 14) (v := .pointer (some ⟨w.heap.size + 1, 1, none⟩)) rfl ?_ ?_ ?_ (fun _ _ _ h => h) (Or.inl ⟨by rfl, ?_⟩) ?_; (· decide +kernel); (· decide +kernel); (· decide +kernel); (· (intro w; go_simp))) | (refine wpAny_take (i := 15) (v := .pointer (some ⟨w.heap.size + 1, 2, none⟩)) rfl ?_ ?_ ?_ (fun _ _ _ h => h) (Or.inl ⟨by rfl, ?_⟩) ?_; (· decide +kernel); (· decide +kernel); (· decide +kernel); (· (intro w; go_simp))))
                refine wpAny_ready (rs := [16]) (by decide +kernel) (by simp) ?_
                refine AllReady.cons rfl (fun K hK => ?_) AllReady.nil
                go_simp
                refine hK _ _ ?_
                clear hK K
                refine wpAny_done (by decide +kernel) ?_ _
                go_wp2_with (fail)
                exact ⟨⟨k + 1, by omega, by omega, by go_num, by rw [HU.out]; exact po_state (p := ⟨pr, ⟨⟨#[65]⟩, ss, si⟩, pb, pt, pw, pl⟩) hB1 hZ1 hR1 b1 b2 b3 hbel1 (All2.cons_mk (hv9.imp fun b hb _ => hR.fresh (Nat.le_refl _) hpsz (by exact hb)) All2.nil) hg2 hat2 hown2⟩, by simp [intOf]; omega⟩
              · go_simp
                refine hK _ _ ?_
                clear hK K
                refine wpAny_ready (rs := [2]) (by decide +kernel) (by simp) ?_
                refine AllReady.cons rfl (fun K hK => ?_) AllReady.nil
                go_simp
                refine hK _ _ ?_
                clear hK K
                refine wpAny_ready (rs := [13]) (by decide +kernel) (by simp) ?_
                refine AllReady.cons rfl (fun K hK => ?_) AllReady.nil
                refine step_app_val _ rfl (.tmp 44) (.tmp 54) (by rfl) (ho1.alloc _) rfl (Reads.new (D := Any) _ [.int .i64 vk, .int .i64 vn, .string vt, .slice A9 va.length c9] 4 1 _ trivial rfl) rfl (by simp [Value.oneCell']) (by omega) (by simp; omega) ?_
                intro v2 w2 hown2 hg2 hat2
                obtain ⟨A8, c8, rfl, hn8⟩ := own_form hown2
                have hB2 := (hB1.alloc (.cells #[.int .i64 vk, .int .i64 vn, .string vt, .slice A9 va.length c9] 53)).grown hg2 (fun e => by have := (ho1.lt _ e.symm).1; omega)
                have k2 := hB2.cell 2
                simp only [List.getElem?_cons_succ, List.getElem?_cons_zero] at k2
                have f2 := hB2.frozen 2
                have l2 := hB2.lt
                refine hK _ _ ?_
                clear hK K
                repeat (first | (refine wpAny_take (i := 14) (v := .pointer (some ⟨w.heap.size + 1, 1, none⟩)) rfl ?_ ?_ ?_ (fun _ _ _ h => h) (Or.inl ⟨by rfl, ?_⟩) ?_; (· decide +kernel); (· decide +kernel); (· decide +kernel); (· (intro w; go_simp))) | (refine wpAny_take (i := 15) (v := .pointer (some ⟨w.heap.size + 1, 2, none⟩)) rfl ?_ ?_ ?_ (fun _ _ _ h => h) (Or.inl ⟨by rfl, ?_⟩) ?_; (· decide +kernel); (· decide +kernel); (· decide +kernel); (· (intro w; go_simp))))
                refine wpAny_ready (rs := [16]) (by decide +kernel) (by simp) ?_
                refine AllReady.cons rfl (fun K hK => ?_) AllReady.nil
                go_simp
                refine hK _ _ ?_
                clear hK K
                refine wpAny_done (by decide +kernel) ?_ _
                go_wp2_with (fail)
                exact ⟨⟨k + 1, by omega, by omega, by go_num, by rw [HU.out]; exact po_state (p := ⟨pr, ⟨⟨#[65]⟩, ss, si⟩, pb, pt, pw, pl⟩) hB1 hZ1 hR1 b1 b2 b3 hbel1 (All2.cons_mk (hv9.imp fun b hb _ => hR.fresh (Nat.le_refl _) hpsz (by exact hb)) All2.nil) hg2 hat2 hown2⟩, by simp [intOf]; omega⟩
        · have hs6' : decide ((ss.length : Int) < 6) = false := by simp; omega
          have HU : Hid (parU l pr (k + 1) = ⟨pr, ⟨⟨#[65]⟩, ss, si⟩, pb, pt, pw, pl⟩) := by unfold Hid; rw [HU1.out, if_pos rfl, if_neg hs6]
          clear HU1 HVO HLO HS0
          go_wp2_with (first | (go_at_call 11; refine (cq.out _).mono ?_; rintro e w' ⟨rfl, rfl⟩) | (go_at_call 11; refine (rest_any _ _ _ hA1 (by omega) (by omega)).mono ?_; rintro e w' ⟨rfl, rfl⟩))
          exact ⟨⟨k + 1, by omega, by omega, by go_num, by rw [HU.out]; exact ⟨_, _, _, _, _, vs1, vs2, vs3, hB, hZ, hR, a1, a2, a3, hbel⟩⟩, by simp [intOf]; omega⟩
      · skip
        · have HU : Hid (parU l pr (k + 1) = ⟨pr, ⟨⟨#[65]⟩, ss, si ++ [⟨2, valF ((l.drop k).take 6)⟩, ⟨3, zeroV⟩]⟩, pb, pt, pw, pl⟩) := by unfold Hid; rw [HU1.out]; simp
          clear HU1
          by_cases h6 : k + 6 < n
          · obtain ⟨A', m, rss', hsl, hm, hmc, hr', ha'⟩ := HS0.out ((k : Int) + 6) (by rw [Nat.min_eq_right (by omega)]; push_cast; rfl)
            have VO := HVO.out A' m (c - k) rss' hm hmc (by omega) hr' ha'
            clear hm hr' ha' HVO HLO HS0
            have h6' : (k : Int) + 6 < (n : Int) := by omega
            have h6'' : decide ((k : Int) + 6 < (n : Int)) = true := by simp; omega
            go_upto_region 12 with (go_at_call 11; refine (cq.out _).mono ?_; rintro e w' ⟨rfl, rfl⟩)
            refine wp_region_any (by kernel_rfl) ?_
            change wpAny _ _ _ _ _ _ _ (World.drew _)
            repeat (first | (refine wpAny_take (i := 0) (v := .pointer (some ⟨w.heap.size + 1, 1, none⟩)) rfl ?_ ?_ ?_ (fun _ _ _ h => h) (Or.inl ⟨by rfl, ?_⟩) ?_; (· decide +kernel); (· decide +kernel); (· decide +kernel); (· (intro w; go_simp))) | (refine wpAny_take (i := 1) (v := .pointer (some ⟨w.heap.size + 1, 3, none⟩)) rfl ?_ ?_ ?_ (fun _ _ _ h => h) (Or.inl ⟨by rfl, ?_⟩) ?_; (· decide +kernel); (· decide +kernel); (· decide +kernel); (· (intro w; go_simp))) | (refine wpAny_take (i := 3) (v := .slice (some ⟨b, off, none⟩) n c) rfl ?_ ?_ ?_ (fun _ _ _ h => h) (Or.inl ⟨by rfl, ?_⟩) ?_; (· decide +kernel); (· decide +kernel); (· decide +kernel); (· (intro w; go_simp))) | (refine wpAny_take (i := 4) (v := .int .i64 k) rfl ?_ ?_ ?_ (fun _ _ _ h => h) (Or.inl ⟨by rfl, ?_⟩) ?_; (· decide +kernel); (· decide +kernel); (· decide +kernel); (· (intro w; go_simp))) | (refine wpAny_take (i := 5) (v := .slice (some ⟨b, off, none⟩) n c) rfl ?_ ?_ ?_ (fun _ _ _ h => h) (Or.inl ⟨by rfl, ?_⟩) ?_; (· decide +kernel); (· decide +kernel); (· decide +kernel); (· (intro w; go_simp))) | (refine wpAny_take (i := 6) (v := .int .i64 n) rfl ?_ ?_ ?_ (fun _ _ _ h => h) (Or.inl ⟨by rfl, ?_⟩) ?_; (· decide +kernel); (· decide +kernel); (· decide +kernel); (· (intro w; go_simp))) | (refine wpAny_take (i := 7) (v := .int .i64 k) rfl ?_ ?_ ?_ (fun _ _ _ h => h) (Or.inl ⟨by rfl, ?_⟩) ?_; (· decide +kernel); (· decide +kernel); (· decide +kernel); (· (intro w; go_simp))) | (refine wpAny_take (i := 8) (v := .int .i64 (k + 6)) rfl ?_ ?_ ?_ (fun _ _ _ h => h) (Or.inl ⟨by rfl, ?_⟩) ?_; (· decide +kernel); (· decide +kernel); (· decide +kernel); (· (intro w; go_simp))) | (refine wpAny_take (i := 9) (v := .int .i64 ((k : Int) + 6)) rfl ?_ ?_ ?_ (fun _ _ _ h => h) (Or.inl ⟨by rfl, ?_⟩) ?_; (· decide +kernel); (· decide +kernel); (· decide +kernel); (· (intro w; go_simp))) | (refine wpAny_take (i := 10) (v := .slice A' m (c - k)) rfl ?_ ?_ ?_ (fun _ _ _ h => h) (Or.inl ⟨by rfl, ?_⟩) ?_; (· decide +kernel); (· decide +kernel); (· decide +kernel); (· (intro w; go_simp))) | (refine wpAny_take (i := 13) (v := .agg #[.int .i64 3, .int .i64 0, .int .i64 0, .string ⟨#[]⟩, .slice none 0 0]) rfl ?_ ?_ ?_ (fun _ _ _ h => h) (Or.inl ⟨by rfl, ?_⟩) ?_; (· decide +kernel); (· decide +kernel); (· decide +kernel); (· (intro w; go_simp))))
            refine wpAny_ready (rs := [2, 11]) (by decide +kernel) (by simp) ?_
            refine AllReady.cons rfl (fun K hK => ?_) (AllReady.cons rfl (fun K hK => ?_) AllReady.nil)
            · go_simp
              refine hK _ _ ?_
              clear hK K
              refine wpAny_ready (rs := [11]) (by decide +kernel) (by simp) ?_
              refine AllReady.cons rfl (fun K hK => ?_) AllReady.nil
              (rw [if_pos (by simp [Region.wanted])]; unfold Oper.wp; go_simp; go_at_call 27; refine (VO.out wr.drew rfl).mono ?_; rintro e w1 ⟨A9, c9, rfl, hv9, hb1⟩; dsimp only; generalize hvv : valF ((l.drop k).take 6) = vv at hv9 HU ⊢; clear hvv; obtain ⟨vk, vn, vt, va⟩ := vv; simp only [vagg, vcells, V.kind, V.num, V.text, V.args] at hv9 ⊢; have hv9 := VCells.le (show 21 ≤ 41 by omega) hv9; have hb1' : Below wr.heap.size wr w1 := below_of_drew hb1; have hB1 := hB.below hb1' hB.lt; have hZ1 := hZ.below hb1' hZ.lt; have hR1 := hR.keep (Same.any hb1'); have b1 := a1.imp fun _ _ h => h.keep (Same.any hb1'); have b2 := a2.imp fun _ _ h => (InCells.stable 41).keep h (Same.any hb1'); have b3 := a3.imp fun _ _ h => (LCells.stable 41).keep h (Same.any hb1'); have hbel1 := hbel.trans (hb1'.mono hbel.size); have k1 := hB1.cell 3; have k1a := fun o => (hB1.alloc o).cell 3; simp only [List.getElem?_cons_succ, List.getElem?_cons_zero] at k1 k1a; have hs1 : wr.heap.size ≤ w1.heap.size := hb1'.size; have ho1 := hR1.1 1 _ rfl; simp only at ho1)
              refine hK _ _ ?_
              clear hK K
              repeat (first | (refine wpAny_take (i := 12) (v := .agg #[.int .i64 2, .int .i64 vk, .int .i64 vn, .string vt, .slice A9 va.length c9]) rfl ?_ ?_ ?_ (fun _ _ _ h => h) (Or.inl ⟨by rfl, ?_⟩) ?_; (· decide +kernel); (· decide +kernel); (· decide +kernel); (· (intro w; go_simp))))
              refine wpAny_ready (rs := [14]) (by decide +kernel) (by simp) ?_
              refine AllReady.cons rfl (fun K hK => ?_) AllReady.nil
              go_simp
              refine hK _ _ ?_
              clear hK K
              refine wpAny_ready (rs := [15]) (by decide +kernel) (by simp) ?_
              refine AllReady.cons rfl (fun K hK => ?_) AllReady.nil
              refine step_app_In _ rfl (.tmp 62) (.tmp 74) (by rfl) (ho1.alloc _) rfl (Reads.new (D := Any) _ [.int .i64 2, .int .i64 vk, .int .i64 vn, .string vt, .slice A9 va.length c9, .int .i64 3, .int .i64 0, .int .i64 0, .string ⟨#[]⟩, .slice none 0 0] 5 2 _ trivial rfl) rfl (by simp [Value.oneCell']) (by omega) (by simp; omega) ?_
              intro v2 w2 hown2 hg2 hat2
              obtain ⟨A8, c8, rfl, hn8⟩ := own_form hown2
              have hB2 := (hB1.alloc (.cells #[.int .i64 2, .int .i64 vk, .int .i64 vn, .string vt, .slice A9 va.length c9, .int .i64 3, .int .i64 0, .int .i64 0, .string ⟨#[]⟩, .slice none 0 0] 83)).grown hg2 (fun e => by have := (ho1.lt _ e.symm).1; omega)
              have k2 := hB2.cell 3
              simp only [List.getElem?_cons_succ, List.getElem?_cons_zero] at k2
              have f2 := hB2.frozen 3
              have l2 := hB2.lt
              refine hK _ _ ?_
              clear hK K
              repeat (first | (refine wpAny_take (i := 16) (v := .pointer (some ⟨w.heap.size + 1, 1, none⟩)) rfl ?_ ?_ ?_ (fun _ _ _ h => h) (Or.inl ⟨by rfl, ?_⟩) ?_; (· decide +kernel); (· decide +kernel); (· decide +kernel); (· (intro w; go_simp))) | (refine wpAny_take (i := 17) (v := .pointer (some ⟨w.heap.size + 1, 3, none⟩)) rfl ?_ ?_ ?_ (fun _ _ _ h => h) (Or.inl ⟨by rfl, ?_⟩) ?_; (· decide +kernel); (· decide +kernel); (· decide +kernel); (· (intro w; go_simp))))
              refine wpAny_ready (rs := [18]) (by decide +kernel) (by simp) ?_
              refine AllReady.cons rfl (fun K hK => ?_) AllReady.nil
              go_simp
              refine hK _ _ ?_
              clear hK K
              refine wpAny_done (by decide +kernel) ?_ _
              go_wp2_with (fail)
              exact ⟨⟨k + 1, by omega, by omega, by go_num, by rw [HU.out]; exact po_inputs (uss := [[.int .i64 2, .int .i64 vk, .int .i64 vn, .string vt, .slice A9 va.length c9], [.int .i64 3, .int .i64 0, .int .i64 0, .string ⟨#[]⟩, .slice none 0 0]]) (ys := [⟨2, V.mk vk vn vt va⟩, ⟨3, zeroV⟩]) (p := ⟨pr, ⟨⟨#[65]⟩, ss, si⟩, pb, pt, pw, pl⟩) hB1 hZ1 hR1 b1 b2 b3 hbel1 (All2.cons_mk ⟨_, rfl, ⟨by simp only; omega, by simp only; omega⟩, hv9.imp fun b hb _ => hR.fresh (Nat.le_refl _) hpsz (by exact hb)⟩ (All2.cons_mk ⟨_, rfl, ⟨by simp only; omega, by simp only; omega⟩, VCells.zero 40 _ _⟩ All2.nil)) hg2 hat2 hown2⟩, by simp [intOf]; omega⟩
            · (rw [if_pos (by simp [Region.wanted])]; unfold Oper.wp; go_simp; go_at_call 27; refine (VO.out wr.drew rfl).mono ?_; rintro e w1 ⟨A9, c9, rfl, hv9, hb1⟩; dsimp only; generalize hvv : valF ((l.drop k).take 6) = vv at hv9 HU ⊢; clear hvv; obtain ⟨vk, vn, vt, va⟩ := vv; simp only [vagg, vcells, V.kind, V.num, V.text, V.args] at hv9 ⊢; have hv9 := VCells.le (show 21 ≤ 41 by omega) hv9; have hb1' : Below wr.heap.size wr w1 := below_of_drew hb1; have hB1 := hB.below hb1' hB.lt; have hZ1 := hZ.below hb1' hZ.lt; have hR1 := hR.keep (Same.any hb1'); have b1 := a1.imp fun _ _ h => h.keep (Same.any hb1'); have b2 := a2.imp fun _ _ h => (InCells.stable 41).keep h (Same.any hb1'); have b3 := a3.imp fun _ _ h => (LCells.stable 41).keep h (Same.any hb1'); have hbel1 := hbel.trans (hb1'.mono hbel.size); have k1 := hB1.cell 3; have k1a := fun o => (hB1.alloc o).cell 3; simp only [List.getElem?_cons_succ, List.getElem?_cons_zero] at k1 k1a; have hs1 : wr.heap.size ≤ w1.heap.size := hb1'.size; have ho1 := hR1.1 1 _ rfl; simp only at ho1)
              refine hK _ _ ?_
              clear hK K
              repeat (first | (refine wpAny_take (i := 12) (v := .agg #[.int .i64 2, .int .i64 vk, .int .i64 vn, .string vt, .slice A9 va.length c9]) rfl ?_ ?_ ?_ (fun _ _ _ h => h) (Or.inl ⟨by rfl, ?_⟩) ?_; (· decide +kernel); (· decide +kernel); (· decide +kernel); (· (intro w; go_simp))))
              refine wpAny_ready (rs := [2, 14]) (by decide +kernel) (by simp) ?_
              refine AllReady.cons rfl (fun K hK => ?_) (AllReady.cons rfl (fun K hK => ?_) AllReady.nil)
              · go_simp
                refine hK _ _ ?_
                clear hK K
                refine wpAny_ready (rs := [14]) (by decide +kernel) (by simp) ?_
                refine AllReady.cons rfl (fun K hK => ?_) AllReady.nil
                go_simp
                refine hK _ _ ?_
                clear hK K
                refine wpAny_ready (rs := [15]) (by decide +kernel) (by simp) ?_
                refine AllReady.cons rfl (fun K hK => ?_) AllReady.nil
                refine step_app_In _ rfl (.tmp 62) (.tmp 74) (by rfl) (ho1.alloc _) rfl (Reads.new (D := Any) _ [.int .i64 2, .int .i64 vk, .int .i64 vn, .string vt, .slice A9 va.length c9, .int .i64 3, .int .i64 0, .int .i64 0, .string ⟨#[]⟩, .slice none 0 0] 5 2 _ trivial rfl) rfl (by simp [Value.oneCell']) (by omega) (by simp; omega) ?_
                intro v2 w2 hown2 hg2 hat2
                obtain ⟨A8, c8, rfl, hn8⟩ := own_form hown2
                have hB2 := (hB1.alloc (.cells #[.int .i64 2, .int .i64 vk, .int .i64 vn, .string vt, .slice A9 va.length c9, .int .i64 3, .int .i64 0, .int .i64 0, .string ⟨#[]⟩, .slice none 0 0] 83)).grown hg2 (fun e => by have := (ho1.lt _ e.symm).1; omega)
                have k2 := hB2.cell 3
                simp only [List.getElem?_cons_succ, List.getElem?_cons_zero] at k2
                have f2 := hB2.frozen 3
                have l2 := hB2.lt
                refine hK _ _ ?_
                clear hK K
                repeat (first | (refine wpAny_take (i := 16) (v := .pointer (some ⟨w.heap.size + 1, 1, none⟩)) rfl ?_ ?_ ?_ (fun _ _ _ h => h) (Or.inl ⟨by rfl, ?_⟩) ?_; (· decide +kernel); (· decide +kernel); (· decide +kernel); (· (intro w; go_simp))) | (refine wpAny_take (i := 17) (v := .pointer (some ⟨w.heap.size + 1, 3, none⟩)) rfl ?_ ?_ ?_ (fun _ _ _ h => h) (Or.inl ⟨by rfl, ?_⟩) ?_; (· decide +kernel); (· decide +kernel); (· decide +kernel); (· (intro w; go_simp))))
                refine wpAny_ready (rs := [18]) (by decide +kernel) (by simp) ?_
                refine AllReady.cons rfl (fun K hK => ?_) AllReady.nil
                go_simp
                refine hK _ _ ?_
                clear hK K
                refine wpAny_done (by decide +kernel) ?_ _
                go_wp2_with (fail)
                exact ⟨⟨k + 1, by omega, by omega, by go_num, by rw [HU.out]; exact po_inputs (uss := [[.int .i64 2, .int .i64 vk, .int .i64 vn, .string vt, .slice A9 va.length c9], [.int .i64 3, .int .i64 0, .int .i64 0, .string ⟨#[]⟩, .slice none 0 0]]) (ys := [⟨2, V.mk vk vn vt va⟩, ⟨3, zeroV⟩]) (p := ⟨pr, ⟨⟨#[65]⟩, ss, si⟩, pb, pt, pw, pl⟩) hB1 hZ1 hR1 b1 b2 b3 hbel1 (All2.cons_mk ⟨_, rfl, ⟨by simp only; omega, by simp only; omega⟩, hv9.imp fun b hb _ => hR.fresh (Nat.le_refl _) hpsz (by exact hb)⟩ (All2.cons_mk ⟨_, rfl, ⟨by simp only; omega, by simp only; omega⟩, VCells.zero 40 _ _⟩ All2.nil)) hg2 hat2 hown2⟩, by simp [intOf]; omega⟩
              · go_simp
                refine hK _ _ ?_
                clear hK K
                refine wpAny_ready (rs := [2]) (by decide +kernel) (by simp) ?_
                refine AllReady.cons rfl (fun K hK => ?_) AllReady.nil
                go_simp
                refine hK _ _ ?_
                clear hK K
                refine wpAny_ready (rs := [15]) (by decide +kernel) (by simp) ?_
                refine AllReady.cons rfl (fun K hK => ?_) AllReady.nil
                refine step_app_In _ rfl (.tmp 62) (.tmp 74) (by rfl) (ho1.alloc _) rfl (Reads.new (D := Any) _ [.int .i64 2, .int .i64 vk, .int .i64 vn, .string vt, .slice A9 va.length c9, .int .i64 3, .int .i64 0, .int .i64 0, .string ⟨#[]⟩, .slice none 0 0] 5 2 _ trivial rfl) rfl (by simp [Value.oneCell']) (by omega) (by simp; omega) ?_
                intro v2 w2 hown2 hg2 hat2
                obtain ⟨A8, c8, rfl, hn8⟩ := own_form hown2
                have hB2 := (hB1.alloc (.cells #[.int .i64 2, .int .i64 vk, .int .i64 vn, .string vt, .slice A9 va.length c9, .int .i64 3, .int .i64 0, .int .i64 0, .string ⟨#[]⟩, .slice none 0 0] 83)).grown hg2 (fun e => by have := (ho1.lt _ e.symm).1; omega)
                have k2 := hB2.cell 3
                simp only [List.getElem?_cons_succ, List.getElem?_cons_zero] at k2
                have f2 := hB2.frozen 3
                have l2 := hB2.lt
                refine hK _ _ ?_
                clear hK K
                repeat (first | (refine wpAny_take (i := 16) (v := .pointer (some ⟨w.heap.size + 1, 1, none⟩)) rfl ?_ ?_ ?_ (fun _ _ _ h => h) (Or.inl ⟨by rfl, ?_⟩) ?_; (· decide +kernel); (· decide +kernel); (· decide +kernel); (· (intro w; go_simp))) | (refine wpAny_take (i := 17) (v := .pointer (some ⟨w.heap.size + 1, 3, none⟩)) rfl ?_ ?_ ?_ (fun _ _ _ h => h) (Or.inl ⟨by rfl, ?_⟩) ?_; (· decide +kernel); (· decide +kernel); (· decide +kernel); (· (intro w; go_simp))))
                refine wpAny_ready (rs := [18]) (by decide +kernel) (by simp) ?_
                refine AllReady.cons rfl (fun K hK => ?_) AllReady.nil
                go_simp
                refine hK _ _ ?_
                clear hK K
                refine wpAny_done (by decide +kernel) ?_ _
                go_wp2_with (fail)
                exact ⟨⟨k + 1, by omega, by omega, by go_num, by rw [HU.out]; exact po_inputs (uss := [[.int .i64 2, .int .i64 vk, .int .i64 vn, .string vt, .slice A9 va.length c9], [.int .i64 3, .int .i64 0, .int .i64 0, .string ⟨#[]⟩, .slice none 0 0]]) (ys := [⟨2, V.mk vk vn vt va⟩, ⟨3, zeroV⟩]) (p := ⟨pr, ⟨⟨#[65]⟩, ss, si⟩, pb, pt, pw, pl⟩) hB1 hZ1 hR1 b1 b2 b3 hbel1 (All2.cons_mk ⟨_, rfl, ⟨by simp only; omega, by simp only; omega⟩, hv9.imp fun b hb _ => hR.fresh (Nat.le_refl _) hpsz (by exact hb)⟩ (All2.cons_mk ⟨_, rfl, ⟨by simp only; omega, by simp only; omega⟩, VCells.zero 40 _ _⟩ All2.nil)) hg2 hat2 hown2⟩, by simp [intOf]; omega⟩
          · obtain ⟨A', m, rss', hsl, hm, hmc, hr', ha'⟩ := HS0.out (n : Int) (by rw [Nat.min_eq_left (by omega)])
            have VO := HVO.out A' m (c - k) rss' hm hmc (by omega) hr' ha'
            clear hm hr' ha' HVO HLO HS0
            have h6' : ((k : Int) + 6 < (n : Int)) = False := by simp; omega
            have h6'' : decide ((k : Int) + 6 < (n : Int)) = false := by simp; omega
            go_upto_region 12 with (go_at_call 11; refine (cq.out _).mono ?_; rintro e w' ⟨rfl, rfl⟩)
            refine wp_region_any (by kernel_rfl) ?_
            change wpAny _ _ _ _ _ _ _ (World.drew _)
            repeat (first | (refine wpAny_take (i := 0) (v := .pointer (some ⟨w.heap.size + 1, 1, none⟩)) rfl ?_ ?_ ?_ (fun _ _ _ h => h) (Or.inl ⟨by rfl, ?_⟩) ?_; (· decide +kernel); (· decide +kernel); (· decide +kernel); (· (intro w; go_simp))) | (refine wpAny_take (i := 1) (v := .pointer (some ⟨w.heap.size + 1, 3, none⟩)) rfl ?_ ?_ ?_ (fun _ _ _ h => h) (Or.inl ⟨by rfl, ?_⟩) ?_; (· decide +kernel); (· decide +kernel); (· decide +kernel); (· (intro w; go_simp))) | (refine wpAny_take (i := 3) (v := .slice (some ⟨b, off, none⟩) n c) rfl ?_ ?_ ?_ (fun _ _ _ h => h) (Or.inl ⟨by rfl, ?_⟩) ?_; (· decide +kernel); (· decide +kernel); (· decide +kernel); (· (intro w; go_simp))) | (refine wpAny_take (i := 4) (v := .int .i64 k) rfl ?_ ?_ ?_ (fun _ _ _ h => h) (Or.inl ⟨by rfl, ?_⟩) ?_; (· decide +kernel); (· decide +kernel); (· decide +kernel); (· (intro w; go_simp))) | (refine wpAny_take (i := 5) (v := .slice (some ⟨b, off, none⟩) n c) rfl ?_ ?_ ?_ (fun _ _ _ h => h) (Or.inl ⟨by rfl, ?_⟩) ?_; (· decide +kernel); (· decide +kernel); (· decide +kernel); (· (intro w; go_simp))) | (refine wpAny_take (i := 6) (v := .int .i64 n) rfl ?_ ?_ ?_ (fun _ _ _ h => h) (Or.inl ⟨by rfl, ?_⟩) ?_; (· decide +kernel); (· decide +kernel); (· decide +kernel); (· (intro w; go_simp))) | (refine wpAny_take (i := 7) (v := .int .i64 k) rfl ?_ ?_ ?_ (fun _ _ _ h => h) (Or.inl ⟨by rfl, ?_⟩) ?_; (· decide +kernel); (· decide +kernel); (· decide +kernel); (· (intro w; go_simp))) | (refine wpAny_take (i := 8) (v := .int .i64 (k + 6)) rfl ?_ ?_ ?_ (fun _ _ _ h => h) (Or.inl ⟨by rfl, ?_⟩) ?_; (· decide +kernel); (· decide +kernel); (· decide +kernel); (· (intro w; go_simp))) | (refine wpAny_take (i := 9) (v := .int .i64 (n : Int)) rfl ?_ ?_ ?_ (fun _ _ _ h => h) (Or.inl ⟨by rfl, ?_⟩) ?_; (· decide +kernel); (· decide +kernel); (· decide +kernel); (· (intro w; go_simp))) | (refine wpAny_take (i := 10) (v := .slice A' m (c - k)) rfl ?_ ?_ ?_ (fun _ _ _ h => h) (Or.inl ⟨by rfl, ?_⟩) ?_; (· decide +kernel); (· decide +kernel); (· decide +kernel); (· (intro w; go_simp))) | (refine wpAny_take (i := 13) (v := .agg #[.int .i64 3, .int .i64 0, .int .i64 0, .string ⟨#[]⟩, .slice none 0 0]) rfl ?_ ?_ ?_ (fun _ _ _ h => h) (Or.inl ⟨by rfl, ?_⟩) ?_; (· decide +kernel); (· decide +kernel); (· decide +kernel); (· (intro w; go_simp))))
            refine wpAny_ready (rs := [2, 11]) (by decide +kernel) (by simp) ?_
            refine AllReady.cons rfl (fun K hK => ?_) (AllReady.cons rfl (fun K hK => ?_) AllReady.nil)
            · go_simp
              refine hK _ _ ?_
              clear hK K
              refine wpAny_ready (rs := [11]) (by decide +kernel) (by simp) ?_
              refine AllReady.cons rfl (fun K hK => ?_) AllReady.nil
              (rw [if_pos (by simp [Region.wanted])]; unfold Oper.wp; go_simp; go_at_call 27; refine (VO.out wr.drew rfl).mono ?_; rintro e w1 ⟨A9, c9, rfl, hv9, hb1⟩; dsimp only; generalize hvv : valF ((l.drop k).take 6) = vv at hv9 HU ⊢; clear hvv; obtain ⟨vk, vn, vt, va⟩ := vv; simp only [vagg, vcells, V.kind, V.num, V.text, V.args] at hv9 ⊢; have hv9 := VCells.le (show 21 ≤ 41 by omega) hv9; have hb1' : Below wr.heap.size wr w1 := below_of_drew hb1; have hB1 := hB.below hb1' hB.lt; have hZ1 := hZ.below hb1' hZ.lt; have hR1 := hR.keep (Same.any hb1'); have b1 := a1.imp fun _ _ h => h.keep (Same.any hb1'); have b2 := a2.imp fun _ _ h => (InCells.stable 41).keep h (Same.any hb1'); have b3 := a3.imp fun _ _ h => (LCells.stable 41).keep h (Same.any hb1'); have hbel1 := hbel.trans (hb1'.mono hbel.size); have k1 := hB1.cell 3; have k1a := fun o => (hB1.alloc o).cell 3; simp only [List.getElem?_cons_succ, List.getElem?_cons_zero] at k1 k1a; have hs1 : wr.heap.size ≤ w1.heap.size := hb1'.size; have ho1 := hR1.1 1 _ rfl; simp only at ho1)
              refine hK _ _ ?_
              clear hK K
              repeat (first | (refine wpAny_take (i := 12) (v := .agg #[.int .i64 2, .int .i64 vk, .int .i64 vn, .string vt, .slice A9 va.length c9]) rfl ?_ ?_ ?_ (fun _ _ _ h => h) (Or.inl ⟨by rfl, ?_⟩) ?_; (· decide +kernel); (· decide +kernel); (· decide +kernel); (· (intro w; go_simp))))
              refine wpAny_ready (rs := [14]) (by decide +kernel) (by simp) ?_
              refine AllReady.cons rfl (fun K hK => ?_) AllReady.nil
              go_simp
              refine hK _ _ ?_
              clear hK K
              refine wpAny_ready (rs := [15]) (by decide +kernel) (by simp) ?_
              refine AllReady.cons rfl (fun K hK => ?_) AllReady.nil
              refine step_app_In _ rfl (.tmp 62) (.tmp 74) (by rfl) (ho1.alloc _) rfl (Reads.new (D := Any) _ [.int .i64 2, .int .i64 vk, .int .i64 vn, .string vt, .slice A9 va.length c9, .int .i64 3, .int .i64 0, .int .i64 0, .string ⟨#[]⟩, .slice none 0 0] 5 2 _ trivial rfl) rfl (by simp [Value.oneCell']) (by omega) (by simp; omega) ?_
              intro v2 w2 hown2 hg2 hat2
              obtain ⟨A8, c8, rfl, hn8⟩ := own_form hown2
              have hB2 := (hB1.alloc (.cells #[.int .i64 2, .int .i64 vk, .int .i64 vn, .string vt, .slice A9 va.length c9, .int .i64 3, .int .i64 0, .int .i64 0, .string ⟨#[]⟩, .slice none 0 0] 83)).grown hg2 (fun e => by have := (ho1.lt _ e.symm).1; omega)
              have k2 := hB2.cell 3
              simp only [List.getElem?_cons_succ, List.getElem?_cons_zero] at k2
              have f2 := hB2.frozen 3
              have l2 := hB2.lt
              refine hK _ _ ?_
              clear hK K
              repeat (first | (refine wpAny_take (i := 16) (v := .pointer (some ⟨w.heap.size + 1, 1, none⟩)) rfl ?_ ?_ ?_ (fun _ _ _ h => h) (Or.inl ⟨by rfl, ?_⟩) ?_; (· decide +kernel); (· decide +kernel); (· decide +kernel); (· (intro w; go_simp))) | (refine wpAny_take (i := 17) (v := .pointer (some ⟨w.heap.size + 1, 3, none⟩)) rfl ?_ ?_ ?_ (fun _ _ _ h => h) (Or.inl ⟨by rfl, ?_⟩) ?_; (· decide +kernel); (· decide +kernel); (· decide +kernel); (· (intro w; go_simp))))
              refine wpAny_ready (rs := [18]) (by decide +kernel) (by simp) ?_
              refine AllReady.cons rfl (fun K hK => ?_) AllReady.nil
              go_simp
              refine hK _ _ ?_
              clear hK K
              refine wpAny_done (by decide +kernel) ?_ _
              go_wp2_with (fail)
              exact ⟨⟨k + 1, by omega, by omega, by go_num, by rw [HU.out]; exact po_inputs (uss := [[.int .i64 2, .int .i64 vk, .int .i64 vn, .string vt, .slice A9 va.length c9], [.int .i64 3, .int .i64 0, .int .i64 0, .string ⟨#[]⟩, .slice none 0 0]]) (ys := [⟨2, V.mk vk vn vt va⟩, ⟨3, zeroV⟩]) (p := ⟨pr, ⟨⟨#[65]⟩, ss, si⟩, pb, pt, pw, pl⟩) hB1 hZ1 hR1 b1 b2 b3 hbel1 (All2.cons_mk ⟨_, rfl, ⟨by simp only; omega, by simp only; omega⟩, hv9.imp fun b hb _ => hR.fresh (Nat.le_refl _) hpsz (by exact hb)⟩ (All2.cons_mk ⟨_, rfl, ⟨by simp only; omega, by simp only; omega⟩, VCells.zero 40 _ _⟩ All2.nil)) hg2 hat2 hown2⟩, by simp [intOf]; omega⟩
            · (rw [if_pos (by simp [Region.wanted])]; unfold Oper.wp; go_simp; go_at_call 27; refine (VO.out wr.drew rfl).mono ?_; rintro e w1 ⟨A9, c9, rfl, hv9, hb1⟩; dsimp only; generalize hvv : valF ((l.drop k).take 6) = vv at hv9 HU ⊢; clear hvv; obtain ⟨vk, vn, vt, va⟩ := vv; simp only [vagg, vcells, V.kind, V.num, V.text, V.args] at hv9 ⊢; have hv9 := VCells.le (show 21 ≤ 41 by omega) hv9; have hb1' : Below wr.heap.size wr w1 := below_of_drew hb1; have hB1 := hB.below hb1' hB.lt; have hZ1 := hZ.below hb1' hZ.lt; have hR1 := hR.keep (Same.any hb1'); have b1 := a1.imp fun _ _ h => h.keep (Same.any hb1'); have b2 := a2.imp fun _ _ h => (InCells.stable 41).keep h (Same.any hb1'); have b3 := a3.imp fun _ _ h => (LCells.stable 41).keep h (Same.any hb1'); have hbel1 := hbel.trans (hb1'.mono hbel.size); have k1 := hB1.cell 3; have k1a := fun o => (hB1.alloc o).cell 3; simp only [List.getElem?_cons_succ, List.getElem?_cons_zero] at k1 k1a; have hs1 : wr.heap.size ≤ w1.heap.size := hb1'.size; have ho1 := hR1.1 1 _ rfl; simp only at ho1)
              refine hK _ _ ?_
              clear hK K
              repeat (first | (refine wpAny_take (i := 12) (v := .agg #[.int .i64 2, .int .i64 vk, .int .i64 vn, .string vt, .slice A9 va.length c9]) rfl ?_ ?_ ?_ (fun _ _ _ h => h) (Or.inl ⟨by rfl, ?_⟩) ?_; (· decide +kernel); (· decide +kernel); (· decide +kernel); (· (intro w; go_simp))))
              refine wpAny_ready (rs := [2, 14]) (by decide +kernel) (by simp) ?_
              refine AllReady.cons rfl (fun K hK => ?_) (AllReady.cons rfl (fun K hK => ?_) AllReady.nil)
              · go_simp
                refine hK _ _ ?_
                clear hK K
                refine wpAny_ready (rs := [14]) (by decide +kernel) (by simp) ?_
                refine AllReady.cons rfl (fun K hK => ?_) AllReady.nil
                go_simp
                refine hK _ _ ?_
                clear hK K
                refine wpAny_ready (rs := [15]) (by decide +kernel) (by simp) ?_
                refine AllReady.cons rfl (fun K hK => ?_) AllReady.nil
                refine step_app_In _ rfl (.tmp 62) (.tmp 74) (by rfl) (ho1.alloc _) rfl (Reads.new (D := Any) _ [.int .i64 2, .int .i64 vk, .int .i64 vn, .string vt, .slice A9 va.length c9, .int .i64 3, .int .i64 0, .int .i64 0, .string ⟨#[]⟩, .slice none 0 0] 5 2 _ trivial rfl) rfl (by simp [Value.oneCell']) (by omega) (by simp; omega) ?_
                intro v2 w2 hown2 hg2 hat2
                obtain ⟨A8, c8, rfl, hn8⟩ := own_form hown2
                have hB2 := (hB1.alloc (.cells #[.int .i64 2, .int .i64 vk, .int .i64 vn, .string vt, .slice A9 va.length c9, .int .i64 3, .int .i64 0, .int .i64 0, .string ⟨#[]⟩, .slice none 0 0] 83)).grown hg2 (fun e => by have := (ho1.lt _ e.symm).1; omega)
                have k2 := hB2.cell 3
                simp only [List.getElem?_cons_succ, List.getElem?_cons_zero] at k2
                have f2 := hB2.frozen 3
                have l2 := hB2.lt
                refine hK _ _ ?_
                clear hK K
                repeat (first | (refine wpAny_take (i := 16) (v := .pointer (some ⟨w.heap.size + 1, 1, none⟩)) rfl ?_ ?_ ?_ (fun _ _ _ h => h) (Or.inl ⟨by rfl, ?_⟩) ?_; (· decide +kernel); (· decide +kernel); (· decide +kernel); (· (intro w; go_simp))) | (refine wpAny_take (i := 17) (v := .pointer (some ⟨w.heap.size + 1, 3, none⟩)) rfl ?_ ?_ ?_ (fun _ _ _ h => h) (Or.inl ⟨by rfl, ?_⟩) ?_; (· decide +kernel); (· decide +kernel); (· decide +kernel); (· (intro w; go_simp))))
                refine wpAny_ready (rs := [18]) (by decide +kernel) (by simp) ?_
                refine AllReady.cons rfl (fun K hK => ?_) AllReady.nil
                go_simp
                refine hK _ _ ?_
                clear hK K
                refine wpAny_done (by decide +kernel) ?_ _
                go_wp2_with (fail)
                exact ⟨⟨k + 1, by omega, by omega, by go_num, by rw [HU.out]; exact po_inputs (uss := [[.int .i64 2, .int .i64 vk, .int .i64 vn, .string vt, .slice A9 va.length c9], [.int .i64 3, .int .i64 0, .int .i64 0, .string ⟨#[]⟩, .slice none 0 0]]) (ys := [⟨2, V.mk vk vn vt va⟩, ⟨3, zeroV⟩]) (p := ⟨pr, ⟨⟨#[65]⟩, ss, si⟩, pb, pt, pw, pl⟩) hB1 hZ1 hR1 b1 b2 b3 hbel1 (All2.cons_mk ⟨_, rfl, ⟨by simp only; omega, by simp only; omega⟩, hv9.imp fun b hb _ => hR.fresh (Nat.le_refl _) hpsz (by exact hb)⟩ (All2.cons_mk ⟨_, rfl, ⟨by simp only; omega, by simp only; omega⟩, VCells.zero 40 _ _⟩ All2.nil)) hg2 hat2 hown2⟩, by simp [intOf]; omega⟩
              · go_simp
                refine hK _ _ ?_
                clear hK K
                refine wpAny_ready (rs := [2]) (by decide +kernel) (by simp) ?_
                refine AllReady.cons rfl (fun K hK => ?_) AllReady.nil
                go_simp
                refine hK _ _ ?_
                clear hK K
                refine wpAny_ready (rs := [15]) (by decide +kernel) (by simp) ?_
                refine AllReady.cons rfl (fun K hK => ?_) AllReady.nil
                refine step_app_In _ rfl (.tmp 62) (.tmp 74) (by rfl) (ho1.alloc _) rfl (Reads.new (D := Any) _ [.int .i64 2, .int .i64 vk, .int .i64 vn, .string vt, .slice A9 va.length c9, .int .i64 3, .int .i64 0, .int .i64 0, .string ⟨#[]⟩, .slice none 0 0] 5 2 _ trivial rfl) rfl (by simp [Value.oneCell']) (by omega) (by simp; omega) ?_
                intro v2 w2 hown2 hg2 hat2
                obtain ⟨A8, c8, rfl, hn8⟩ := own_form hown2
                have hB2 := (hB1.alloc (.cells #[.int .i64 2, .int .i64 vk, .int .i64 vn, .string vt, .slice A9 va.length c9, .int .i64 3, .int .i64 0, .int .i64 0, .string ⟨#[]⟩, .slice none 0 0] 83)).grown hg2 (fun e => by have := (ho1.lt _ e.symm).1; omega)
                have k2 := hB2.cell 3
                simp only [List.getElem?_cons_succ, List.getElem?_cons_zero] at k2
                have f2 := hB2.frozen 3
                have l2 := hB2.lt
                refine hK _ _ ?_
                clear hK K
                repeat (first | (refine wpAny_take (i := 16) (v := .pointer (some ⟨w.heap.size + 1, 1, none⟩)) rfl ?_ ?_ ?_ (fun _ _ _ h => h) (Or.inl ⟨by rfl, ?_⟩) ?_; (· decide +kernel); (· decide +kernel); (· decide +kernel); (· (intro w; go_simp))) | (refine wpAny_take (i := 17) (v := .pointer (some ⟨w.heap.size + 1, 3, none⟩)) rfl ?_ ?_ ?_ (fun _ _ _ h => h) (Or.inl ⟨by rfl, ?_⟩) ?_; (· decide +kernel); (· decide +kernel); (· decide +kernel); (· (intro w; go_simp))))
                refine wpAny_ready (rs := [18]) (by decide +kernel) (by simp) ?_
                refine AllReady.cons rfl (fun K hK => ?_) AllReady.nil
                go_simp
                refine hK _ _ ?_
                clear hK K
                refine wpAny_done (by decide +kernel) ?_ _
                go_wp2_with (fail)
                exact ⟨⟨k + 1, by omega, by omega, by go_num, by rw [HU.out]; exact po_inputs (uss := [[.int .i64 2, .int .i64 vk, .int .i64 vn, .string vt, .slice A9 va.length c9], [.int .i64 3, .int .i64 0, .int .i64 0, .string ⟨#[]⟩, .slice none 0 0]]) (ys := [⟨2, V.mk vk vn vt va⟩, ⟨3, zeroV⟩]) (p := ⟨pr, ⟨⟨#[65]⟩, ss, si⟩, pb, pt, pw, pl⟩) hB1 hZ1 hR1 b1 b2 b3 hbel1 (All2.cons_mk ⟨_, rfl, ⟨by simp only; omega, by simp only; omega⟩, hv9.imp fun b hb _ => hR.fresh (Nat.le_refl _) hpsz (by exact hb)⟩ (All2.cons_mk ⟨_, rfl, ⟨by simp only; omega, by simp only; omega⟩, VCells.zero 40 _ _⟩ All2.nil)) hg2 hat2 hown2⟩, by simp [intOf]; omega⟩
      · skip
        · have HU : Hid (parU l pr (k + 1) = ⟨pr, ⟨⟨#[65]⟩, ss, si⟩, pb ++ [letF ((l.drop k).take 6)], pt, pw, pl⟩) := by unfold Hid; rw [HU1.out]; simp
          clear HU1
          by_cases h6 : k + 6 < n
          · obtain ⟨A', m, rss', hsl, hm, hmc, hr', ha'⟩ := HS0.out ((k : Int) + 6) (by rw [Nat.min_eq_right (by omega)]; push_cast; rfl)
            have LO := HLO.out A' m (c - k) rss' hm hmc (by omega) hr' ha'
            clear hm hr' ha' HVO HLO HS0
            have h6' : (k : Int) + 6 < (n : Int) := by omega
            have h6'' : decide ((k : Int) + 6 < (n : Int)) = true := by simp; omega
            go_upto_region 14 with (go_at_call 11; refine (cq.out _).mono ?_; rintro e w' ⟨rfl, rfl⟩)
            refine wp_region_any (by kernel_rfl) ?_
            change wpAny _ _ _ _ _ _ _ (World.drew _)
            repeat (first | (refine wpAny_take (i := 0) (v := .pointer (some ⟨w.heap.size + 1, 4, none⟩)) rfl ?_ ?_ ?_ (fun _ _ _ h => h) (Or.inl ⟨by rfl, ?_⟩) ?_; (· decide +kernel); (· decide +kernel); (· decide +kernel); (· (intro w; go_simp))) | (refine wpAny_take (i := 2) (v := .slice (some ⟨b, off, none⟩) n c) rfl ?_ ?_ ?_ (fun _ _ _ h => h) (Or.inl ⟨by rfl, ?_⟩) ?_; (· decide +kernel); (· decide +kernel); (· decide +kernel); (· (intro w; go_simp))) | (refine wpAny_take (i := 3) (v := .int .i64 k) rfl ?_ ?_ ?_ (fun _ _ _ h => h) (Or.inl ⟨by rfl, ?_⟩) ?_; (· decide +kernel); (· decide +kernel); (· decide +kernel); (· (intro w; go_simp))) | (refine wpAny_take (i := 4) (v := .slice (some ⟨b, off, none⟩) n c) rfl ?_ ?_ ?_ (fun _ _ _ h => h) (Or.inl ⟨by rfl, ?_⟩) ?_; (· decide +kernel); (· decide +kernel); (· decide +kernel); (· (intro w; go_simp))) | (refine wpAny_take (i := 5) (v := .int .i64 n) rfl ?_ ?_ ?_ (fun _ _ _ h => h) (Or.inl ⟨by rfl, ?_⟩) ?_; (· decide +kernel); (· decide +kernel); (· decide +kernel); (· (intro w; go_simp))) | (refine wpAny_take (i := 6) (v := .int .i64 k) rfl ?_ ?_ ?_ (fun _ _ _ h => h) (Or.inl ⟨by rfl, ?_⟩) ?_; (· decide +kernel); (· decide +kernel); (· decide +kernel); (· (intro w; go_simp))) | (refine wpAny_take (i := 7) (v := .int .i64 (k + 6)) rfl ?_ ?_ ?_ (fun _ _ _ h => h) (Or.inl ⟨by rfl, ?_⟩) ?_; (· decide +kernel); (· decide +kernel); (· decide +kernel); (· (intro w; go_simp))) | (refine wpAny_take (i := 8) (v := .int .i64 ((k : Int) + 6)) rfl ?_ ?_ ?_ (fun _ _ _ h => h) (Or.inl ⟨by rfl, ?_⟩) ?_; (· decide +kernel); (· decide +kernel); (· decide +kernel); (· (intro w; go_simp))) | (refine wpAny_take (i := 9) (v := .slice A' m (c - k)) rfl ?_ ?_ ?_ (fun _ _ _ h => h) (Or.inl ⟨by rfl, ?_⟩) ?_; (· decide +kernel); (· decide +kernel); (· decide +kernel); (· (intro w; go_simp))))
            refine wpAny_ready (rs := [1, 10]) (by decide +kernel) (by simp) ?_
            refine AllReady.cons rfl (fun K hK => ?_) (AllReady.cons rfl (fun K hK => ?_) AllReady.nil)
            · go_simp
              refine hK _ _ ?_
              clear hK K
              refine wpAny_ready (rs := [10]) (by decide +kernel) (by simp) ?_
              refine AllReady.cons rfl (fun K hK => ?_) AllReady.nil
              (rw [if_pos (by simp [Region.wanted])]; unfold Oper.wp; go_simp; go_at_call 13; refine (LO.out wr.drew rfl).mono ?_; rintro e w1 ⟨cs9, rfl, hv9, hb1⟩; dsimp only; generalize hvv : letF ((l.drop k).take 6) = vv at hv9 HU; clear hvv; obtain ⟨lk, lf, lt, ln, ls, X⟩ := vv; obtain ⟨vs9, rfl, _, hvv⟩ := id hv9; obtain ⟨A9, c9, rfl⟩ := hvv.form; obtain ⟨vk, vn, vt, va⟩ := X; simp only [V.kind, V.num, V.text, V.args] at hv9 ⊢; clear hvv; have hb1' : Below wr.heap.size wr w1 := below_of_drew hb1; have hB1 := hB.below hb1' hB.lt; have hZ1 := hZ.below hb1' hZ.lt; have hR1 := hR.keep (Same.any hb1'); have b1 := a1.imp fun _ _ h => h.keep (Same.any hb1'); have b2 := a2.imp fun _ _ h => (InCells.stable 41).keep h (Same.any hb1'); have b3 := a3.imp fun _ _ h => (LCells.stable 41).keep h (Same.any hb1'); have hbel1 := hbel.trans (hb1'.mono hbel.size); have k1 := hB1.cell 4; have k1a := fun o => (hB1.alloc o).cell 4; simp only [List.getElem?_cons_succ, List.getElem?_cons_zero] at k1 k1a; have hs1 : wr.heap.size ≤ w1.heap.size := hb1'.size; have ho1 := hR1.1 2 _ rfl; simp only at ho1)
              refine hK _ _ ?_
              clear hK K
              refine wpAny_ready (rs := [11]) (by decide +kernel) (by simp) ?_
              refine AllReady.cons rfl (fun K hK => ?_) AllReady.nil
              go_simp
              refine hK _ _ ?_
              clear hK K
              refine wpAny_ready (rs := [12]) (by decide +kernel) (by simp) ?_
              refine AllReady.cons rfl (fun K hK => ?_) AllReady.nil
              refine step_app_Le _ rfl (.tmp 81) (.tmp 91) (by rfl) (ho1.alloc _) rfl (Reads.new (D := Any) _ [.int .i64 lk, .int .i64 lf, .int .i64 lt, .int .i64 ln, .string ls, .int .i64 vk, .int .i64 vn, .string vt, .slice A9 va.length c9] 9 1 _ trivial rfl) rfl (by simp [Value.oneCell']) (by omega) (by simp; omega) ?_
              intro v2 w2 hown2 hg2 hat2
              obtain ⟨A8, c8, rfl, hn8⟩ := own_form hown2
              have hB2 := (hB1.alloc (.cells #[.int .i64 lk, .int .i64 lf, .int .i64 lt, .int .i64 ln, .string ls, .int .i64 vk, .int .i64 vn, .string vt, .slice A9 va.length c9] 55)).grown hg2 (fun e => by have := (ho1.lt _ e.symm).1; omega)
              have k2 := hB2.cell 4
              simp only [List.getElem?_cons_succ, List.getElem?_cons_zero] at k2
              have f2 := hB2.frozen 4
              have l2 := hB2.lt
              refine hK _ _ ?_
              clear hK K
              repeat (first | (refine wpAny_take (i := 13) (v := .pointer (some ⟨w.heap.size + 1, 4, none⟩)) rfl ?_ ?_ ?_ (fun _ _ _ h => h) (Or.inl ⟨by rfl, ?_⟩) ?_; (· decide +kernel); (· decide +kernel); (· decide +kernel); (· (intro w; go_simp))))
              refine wpAny_ready (rs := [14]) (by decide +kernel) (by simp) ?_
              refine AllReady.cons rfl (fun K hK => ?_) AllReady.nil
              go_simp
              refine hK _ _ ?_
              clear hK K
              refine wpAny_done (by decide +kernel) ?_ _
              go_wp2_with (fail)
              exact ⟨⟨k + 1, by omega, by omega, by go_num, by rw [HU.out]; exact po_box (ys := [⟨lk, lf, lt, ln, ls, V.mk vk vn vt va⟩]) (p := ⟨pr, ⟨⟨#[65]⟩, ss, si⟩, pb, pt, pw, pl⟩) hB1 hZ1 hR1 b1 b2 b3 hbel1 (All2.cons_mk ((LCells.stable 41).imp hv9 fun b hb _ => hR.fresh (Nat.le_refl _) hpsz (by exact hb)) All2.nil) hg2 hat2 hown2⟩, by simp [intOf]; omega⟩
            · (rw [if_pos (by simp [Region.wanted])]; unfold Oper.wp; go_simp; go_at_call 13; refine (LO.out wr.drew rfl).mono ?_; rintro e w1 ⟨cs9, rfl, hv9, hb1⟩; dsimp only; generalize hvv : letF ((l.drop k).take 6) = vv at hv9 HU; clear hvv; obtain ⟨lk, lf, lt, ln, ls, X⟩ := vv; obtain ⟨vs9, rfl, _, hvv⟩ := id hv9; obtain ⟨A9, c9, rfl⟩ := hvv.form; obtain ⟨vk, vn, vt, va⟩ := X; simp only [V.kind, V.num, V.text, V.args] at hv9 ⊢; clear hvv; have hb1' : Below wr.heap.size wr w1 := below_of_drew hb1; have hB1 := hB.below hb1' hB.lt; have hZ1 := hZ.below hb1' hZ.lt; have hR1 := hR.keep (Same.any hb1'); have b1 := a1.imp fun _ _ h => h.keep (Same.any hb1'); have b2 := a2.imp fun _ _ h => (InCells.stable 41).keep h (Same.any hb1'); have b3 := a3.imp fun _ _ h => (LCells.stable 41).keep h (Same.any hb1'); have hbel1 := hbel.trans (hb1'.mono hbel.size); have k1 := hB1.cell 4; have k1a := fun o => (hB1.alloc o).cell 4; simp only [List.getElem?_cons_succ, List.getElem?_cons_zero] at k1 k1a; have hs1 : wr.heap.size ≤ w1.heap.size := hb1'.size; have ho1 := hR1.1 2 _ rfl; simp only at ho1)
              refine hK _ _ ?_
              clear hK K
              refine wpAny_ready (rs := [1, 11]) (by decide +kernel) (by simp) ?_
              refine AllReady.cons rfl (fun K hK => ?_) (AllReady.cons rfl (fun K hK => ?_) AllReady.nil)
              · go_simp
                refine hK _ _ ?_
                clear hK K
                refine wpAny_ready (rs := [11]) (by decide +kernel) (by simp) ?_
                refine AllReady.cons rfl (fun K hK => ?_) AllReady.nil
                go_simp
                refine hK _ _ ?_
                clear hK K
                refine wpAny_ready (rs := [12]) (by decide +kernel) (by simp) ?_
                refine AllReady.cons rfl (fun K hK => ?_) AllReady.nil
                refine step_app_Le _ rfl (.tmp 81) (.tmp 91) (by rfl) (ho1.alloc _) rfl (Reads.new (D := Any) _ [.int .i64 lk, .int .i64 lf, .int .i64 lt, .int .i64 ln, .string ls, .int .i64 vk, .int .i64 vn, .string vt, .slice A9 va.length c9] 9 1 _ trivial rfl) rfl (by simp [Value.oneCell']) (by omega) (by simp; omega) ?_
                intro v2 w2 hown2 hg2 hat2
                obtain ⟨A8, c8, rfl, hn8⟩ := own_form hown2
                have hB2 := (hB1.alloc (.cells #[.int .i64 lk, .int .i64 lf, .int .i64 lt, .int .i64 ln, .string ls, .int .i64 vk, .int .i64 vn, .string vt, .slice A9 va.length c9] 55)).grown hg2 (fun e => by have := (ho1.lt _ e.symm).1; omega)
                have k2 := hB2.cell 4
                simp only [List.getElem?_cons_succ, List.getElem?_cons_zero] at k2
                have f2 := hB2.frozen 4
                have l2 := hB2.lt
                refine hK _ _ ?_
                clear hK K
                repeat (first | (refine wpAny_take (i := 13) (v := .pointer (some ⟨w.heap.size + 1, 4, none⟩)) rfl ?_ ?_ ?_ (fun _ _ _ h => h) (Or.inl ⟨by rfl, ?_⟩) ?_; (· decide +kernel); (· decide +kernel); (· decide +kernel); (· (intro w; go_simp))))
                refine wpAny_ready (rs := [14]) (by decide +kernel) (by simp) ?_
                refine AllReady.cons rfl (fun K hK => ?_) AllReady.nil
                go_simp
                refine hK _ _ ?_
                clear hK K
                refine wpAny_done (by decide +kernel) ?_ _
                go_wp2_with (fail)
                exact ⟨⟨k + 1, by omega, by omega, by go_num, by rw [HU.out]; exact po_box (ys := [⟨lk, lf, lt, ln, ls, V.mk vk vn vt va⟩]) (p := ⟨pr, ⟨⟨#[65]⟩, ss, si⟩, pb, pt, pw, pl⟩) hB1 hZ1 hR1 b1 b2 b3 hbel1 (All2.cons_mk ((LCells.stable 41).imp hv9 fun b hb _ => hR.fresh (Nat.le_refl _) hpsz (by exact hb)) All2.nil) hg2 hat2 hown2⟩, by simp [intOf]; omega⟩
              · go_simp
                refine hK _ _ ?_
                clear hK K
                refine wpAny_ready (rs := [1]) (by decide +kernel) (by simp) ?_
                refine AllReady.cons rfl (fun K hK => ?_) AllReady.nil
                go_simp
                refine hK _ _ ?_
                clear hK K
                refine wpAny_ready (rs := [12]) (by decide +kernel) (by simp) ?_
                refine AllReady.cons rfl (fun K hK => ?_) AllReady.nil
                refine step_app_Le _ rfl (.tmp 81) (.tmp 91) (by rfl) (ho1.alloc _) rfl (Reads.new (D := Any) _ [.int .i64 lk, .int .i64 lf, .int .i64 lt, .int .i64 ln, .string ls, .int .i64 vk, .int .i64 vn, .string vt, .slice A9 va.length c9] 9 1 _ trivial rfl) rfl (by simp [Value.oneCell']) (by omega) (by simp; omega) ?_
                intro v2 w2 hown2 hg2 hat2
                obtain ⟨A8, c8, rfl, hn8⟩ := own_form hown2
                have hB2 := (hB1.alloc (.cells #[.int .i64 lk, .int .i64 lf, .int .i64 lt, .int .i64 ln, .string ls, .int .i64 vk, .int .i64 vn, .string vt, .slice A9 va.length c9] 55)).grown hg2 (fun e => by have := (ho1.lt _ e.symm).1; omega)
                have k2 := hB2.cell 4
                simp only [List.getElem?_cons_succ, List.getElem?_cons_zero] at k2
                have f2 := hB2.frozen 4
                have l2 := hB2.lt
                refine hK _ _ ?_
                clear hK K
                repeat (first | (refine wpAny_take (i := 13) (v := .pointer (some ⟨w.heap.size + 1, 4, none⟩)) rfl ?_ ?_ ?_ (fun _ _ _ h => h) (Or.inl ⟨by rfl, ?_⟩) ?_; (· decide +kernel); (· decide +kernel); (· decide +kernel); (· (intro w; go_simp))))
                refine wpAny_ready (rs := [14]) (by decide +kernel) (by simp) ?_
                refine AllReady.cons rfl (fun K hK => ?_) AllReady.nil
                go_simp
                refine hK _ _ ?_
                clear hK K
                refine wpAny_done (by decide +kernel) ?_ _
                go_wp2_with (fail)
                exact ⟨⟨k + 1, by omega, by omega, by go_num, by rw [HU.out]; exact po_box (ys := [⟨lk, lf, lt, ln, ls, V.mk vk vn vt va⟩]) (p := ⟨pr, ⟨⟨#[65]⟩, ss, si⟩, pb, pt, pw, pl⟩) hB1 hZ1 hR1 b1 b2 b3 hbel1 (All2.cons_mk ((LCells.stable 41).imp hv9 fun b hb _ => hR.fresh (Nat.le_refl _) hpsz (by exact hb)) All2.nil) hg2 hat2 hown2⟩, by simp [intOf]; omega⟩
          · obtain ⟨A', m, rss', hsl, hm, hmc, hr', ha'⟩ := HS0.out (n : Int) (by rw [Nat.min_eq_left (by omega)])
            have LO := HLO.out A' m (c - k) rss' hm hmc (by omega) hr' ha'
            clear hm hr' ha' HVO HLO HS0
            have h6' : ((k : Int) + 6 < (n : Int)) = False := by simp; omega
            have h6'' : decide ((k : Int) + 6 < (n : Int)) = false := by simp; omega
            go_upto_region 14 with (go_at_call 11; refine (cq.out _).mono ?_; rintro e w' ⟨rfl, rfl⟩)
            refine wp_region_any (by kernel_rfl) ?_
            change wpAny _ _ _ _ _ _ _ (World.drew _)
            repeat (first | (refine wpAny_take (i := 0) (v := .pointer (some ⟨w.heap.size + 1, 4, none⟩)) rfl ?_ ?_ ?_ (fun _ _ _ h => h) (Or.inl ⟨by rfl, ?_⟩) ?_; (· decide +kernel); (· decide +kernel); (· decide +kernel); (· (intro w; go_simp))) | (refine wpAny_take (i := 2) (v := .slice (some ⟨b, off, none⟩) n c) rfl ?_ ?_ ?_ (fun _ _ _ h => h) (Or.inl ⟨by rfl, ?_⟩) ?_; (· decide +kernel); (· decide +kernel); (· decide +kernel); (· (intro w; go_simp))) | (refine wpAny_take (i := 3) (v := .int .i64 k) rfl ?_ ?_ ?_ (fun _ _ _ h => h) (Or.inl ⟨by rfl, ?_⟩) ?_; (· decide +kernel); (· decide +kernel); (· decide +kernel); (· (intro w; go_simp))) | (refine wpAny_take (i := 4) (v := .slice (some ⟨b, off, none⟩) n c) rfl ?_ ?_ ?_ (fun _ _ _ h => h) (Or.inl ⟨by rfl, ?_⟩) ?_; (· decide +kernel); (· decide +kernel); (· decide +kernel); (· (intro w; go_simp))) | (refine wpAny_take (i := 5) (v := .int .i64 n) rfl ?_ ?_ ?_ (fun _ _ _ h => h) (Or.inl ⟨by rfl, ?_⟩) ?_; (· decide +kernel); (· decide +kernel); (· decide +kernel); (· (intro w; go_simp))) | (refine wpAny_take (i := 6) (v := .int .i64 k) rfl ?_ ?_ ?_ (fun _ _ _ h => h) (Or.inl ⟨by rfl, ?_⟩) ?_; (· decide +kernel); (· decide +kernel); (· decide +kernel); (· (intro w; go_simp))) | (refine wpAny_take (i := 7) (v := .int .i64 (k + 6)) rfl ?_ ?_ ?_ (fun _ _ _ h => h) (Or.inl ⟨by rfl, ?_⟩) ?_; (· decide +kernel); (· decide +kernel); (· decide +kernel); (· (intro w; go_simp))) | (refine wpAny_take (i := 8) (v := .int .i64 (n : Int)) rfl ?_ ?_ ?_ (fun _ _ _ h => h) (Or.inl ⟨by rfl, ?_⟩) ?_; (· decide +kernel); (· decide +kernel); (· decide +kernel); (· (intro w; go_simp))) | (refine wpAny_take (i := 9) (v := .slice A' m (c - k)) rfl ?_ ?_ ?_ (fun _ _ _ h => h) (Or.inl ⟨by rfl, ?_⟩) ?_; (· decide +kernel); (· decide +kernel); (· decide +kernel); (· (intro w; go_simp))))
            refine wpAny_ready (rs := [1, 10]) (by decide +kernel) (by simp) ?_
            refine AllReady.cons rfl (fun K hK => ?_) (AllReady.cons rfl (fun K hK => ?_) AllReady.nil)
            · go_simp
              refine hK _ _ ?_
              clear hK K
              refine wpAny_ready (rs := [10]) (by decide +kernel) (by simp) ?_
              refine AllReady.cons rfl (fun K hK => ?_) AllReady.nil
              (rw [if_pos (by simp [Region.wanted])]; unfold Oper.wp; go_simp; go_at_call 13; refine (LO.out wr.drew rfl).mono ?_; rintro e w1 ⟨cs9, rfl, hv9, hb1⟩; dsimp only; generalize hvv : letF ((l.drop k).take 6) = vv at hv9 HU; clear hvv; obtain ⟨lk, lf, lt, ln, ls, X⟩ := vv; obtain ⟨vs9, rfl, _, hvv⟩ := id hv9; obtain ⟨A9, c9, rfl⟩ := hvv.form; obtain ⟨vk, vn, vt, va⟩ := X; simp only [V.kind, V.num, V.text, V.args] at hv9 ⊢; clear hvv; have hb1' : Below wr.heap.size wr w1 := below_of_drew hb1; have hB1 := hB.below hb1' hB.lt; have hZ1 := hZ.below hb1' hZ.lt; have hR1 := hR.keep (Same.any hb1'); have b1 := a1.imp fun _ _ h => h.keep (Same.any hb1'); have b2 := a2.imp fun _ _ h => (InCells.stable 41).keep h (Same.any hb1'); have b3 := a3.imp fun _ _ h => (LCells.stable 41).keep h (Same.any hb1'); have hbel1 := hbel.trans (hb1'.mono hbel.size); have k1 := hB1.cell 4; have k1a := fun o => (hB1.alloc o).cell 4; simp only [List.getElem?_cons_succ, List.getElem?_cons_zero] at k1 k1a; have hs1 : wr.heap.size ≤ w1.heap.size := hb1'.size; have ho1 := hR1.1 2 _ rfl; simp only at ho1)
              refine hK _ _ ?_
              clear hK K
              refine wpAny_ready (rs := [11]) (by decide +kernel) (by simp) ?_
              refine AllReady.cons rfl (fun K hK => ?_) AllReady.nil
              go_simp
              refine hK _ _ ?_
              clear hK K
              refine wpAny_ready (rs := [12]) (by decide +kernel) (by simp) ?_
              refine AllReady.cons rfl (fun K hK => ?_) AllReady.nil
              refine step_app_Le _ rfl (.tmp 81) (.tmp 91) (by rfl) (ho1.alloc _) rfl (Reads.new (D := Any) _ [.int .i64 lk, .int .i64 lf, .int .i64 lt, .int .i64 ln, .string ls, .int .i64 vk, .int .i64 vn, .string vt, .slice A9 va.length c9] 9 1 _ trivial rfl) rfl (by simp [Value.oneCell']) (by omega) (by simp; omega) ?_
              intro v2 w2 hown2 hg2 hat2
              obtain ⟨A8, c8, rfl, hn8⟩ := own_form hown2
              have hB2 := (hB1.alloc (.cells #[.int .i64 lk, .int .i64 lf, .int .i64 lt, .int .i64 ln, .string ls, .int .i64 vk, .int .i64 vn, .string vt, .slice A9 va.length c9] 55)).grown hg2 (fun e => by have := (ho1.lt _ e.symm).1; omega)
              have k2 := hB2.cell 4
              simp only [List.getElem?_cons_succ, List.getElem?_cons_zero] at k2
              have f2 := hB2.frozen 4
              have l2 := hB2.lt
              refine hK _ _ ?_
              clear hK K
              repeat (first | (refine wpAny_take (i := 13) (v := .pointer (some ⟨w.heap.size + 1, 4, none⟩)) rfl ?_ ?_ ?_ (fun _ _ _ h => h) (Or.inl ⟨by rfl, ?_⟩) ?_; (· decide +kernel); (· decide +kernel); (· decide +kernel); (· (intro w; go_simp))))
              refine wpAny_ready (rs := [14]) (by decide +kernel) (by simp) ?_
              refine AllReady.cons rfl (fun K hK => ?_) AllReady.nil
              go_simp
              refine hK _ _ ?_
              clear hK K
              refine wpAny_done (by decide +kernel) ?_ _
              go_wp2_with (fail)
              exact ⟨⟨k + 1, by omega, by omega, by go_num, by rw [HU.out]; exact po_box (ys := [⟨lk, lf, lt, ln, ls, V.mk vk vn vt va⟩]) (p := ⟨pr, ⟨⟨#[65]⟩, ss, si⟩, pb, pt, pw, pl⟩) hB1 hZ1 hR1 b1 b2 b3 hbel1 (All2.cons_mk ((LCells.stable 41).imp hv9 fun b hb _ => hR.fresh (Nat.le_refl _) hpsz (by exact hb)) All2.nil) hg2 hat2 hown2⟩, by simp [intOf]; omega⟩
            · (rw [if_pos (by simp [Region.wanted])]; unfold Oper.wp; go_simp; go_at_call 13; refine (LO.out wr.drew rfl).mono ?_; rintro e w1 ⟨cs9, rfl, hv9, hb1⟩; dsimp only; generalize hvv : letF ((l.drop k).take 6) = vv at hv9 HU; clear hvv; obtain ⟨lk, lf, lt, ln, ls, X⟩ := vv; obtain ⟨vs9, rfl, _, hvv⟩ := id hv9; obtain ⟨A9, c9, rfl⟩ := hvv.form; obtain ⟨vk, vn, vt, va⟩ := X; simp only [V.kind, V.num, V.text, V.args] at hv9 ⊢; clear hvv; have hb1' : Below wr.heap.size wr w1 := below_of_drew hb1; have hB1 := hB.below hb1' hB.lt; have hZ1 := hZ.below hb1' hZ.lt; have hR1 := hR.keep (Same.any hb1'); have b1 := a1.imp fun _ _ h => h.keep (Same.any hb1'); have b2 := a2.imp fun _ _ h => (InCells.stable 41).keep h (Same.any hb1'); have b3 := a3.imp fun _ _ h => (LCells.stable 41).keep h (Same.any hb1'); have hbel1 := hbel.trans (hb1'.mono hbel.size); have k1 := hB1.cell 4; have k1a := fun o => (hB1.alloc o).cell 4; simp only [List.getElem?_cons_succ, List.getElem?_cons_zero] at k1 k1a; have hs1 : wr.heap.size ≤ w1.heap.size := hb1'.size; have ho1 := hR1.1 2 _ rfl; simp only at ho1)
              refine hK _ _ ?_
              clear hK K
              refine wpAny_ready (rs := [1, 11]) (by decide +kernel) (by simp) ?_
              refine AllReady.cons rfl (fun K hK => ?_) (AllReady.cons rfl (fun K hK => ?_) AllReady.nil)
              · go_simp
                refine hK _ _ ?_
                clear hK K
                refine wpAny_ready (rs := [11]) (by decide +kernel) (by simp) ?_
                refine AllReady.cons rfl (fun K hK => ?_) AllReady.nil
                go_simp
                refine hK _ _ ?_
                clear hK K
                refine wpAny_ready (rs := [12]) (by decide +kernel) (by simp) ?_
                refine AllReady.cons rfl (fun K hK => ?_) AllReady.nil
                refine step_app_Le _ rfl (.tmp 81) (.tmp 91) (by rfl) (ho1.alloc _) rfl (Reads.new (D := Any) _ [.int .i64 lk, .int .i64 lf, .int .i64 lt, .int .i64 ln, .string ls, .int .i64 vk, .int .i64 vn, .string vt, .slice A9 va.length c9] 9 1 _ trivial rfl) rfl (by simp [Value.oneCell']) (by omega) (by simp; omega) ?_
                intro v2 w2 hown2 hg2 hat2
                obtain ⟨A8, c8, rfl, hn8⟩ := own_form hown2
                have hB2 := (hB1.alloc (.cells #[.int .i64 lk, .int .i64 lf, .int .i64 lt, .int .i64 ln, .string ls, .int .i64 vk, .int .i64 vn, .string vt, .slice A9 va.length c9] 55)).grown hg2 (fun e => by have := (ho1.lt _ e.symm).1; omega)
                have k2 := hB2.cell 4
                simp only [List.getElem?_cons_succ, List.getElem?_cons_zero] at k2
                have f2 := hB2.frozen 4
                have l2 := hB2.lt
                refine hK _ _ ?_
                clear hK K
                repeat (first | (refine wpAny_take (i := 13) (v := .pointer (some ⟨w.heap.size + 1, 4, none⟩)) rfl ?_ ?_ ?_ (fun _ _ _ h => h) (Or.inl ⟨by rfl, ?_⟩) ?_; (· decide +kernel); (· decide +kernel); (· decide +kernel); (· (intro w; go_simp))))
                refine wpAny_ready (rs := [14]) (by decide +kernel) (by simp) ?_
                refine AllReady.cons rfl (fun K hK => ?_) AllReady.nil
                go_simp
                refine hK _ _ ?_
                clear hK K
                refine wpAny_done (by decide +kernel) ?_ _
                go_wp2_with (fail)
                exact ⟨⟨k + 1, by omega, by omega, by go_num, by rw [HU.out]; exact po_box (ys := [⟨lk, lf, lt, ln, ls, V.mk vk vn vt va⟩]) (p := ⟨pr, ⟨⟨#[65]⟩, ss, si⟩, pb, pt, pw, pl⟩) hB1 hZ1 hR1 b1 b2 b3 hbel1 (All2.cons_mk ((LCells.stable 41).imp hv9 fun b hb _ => hR.fresh (Nat.le_refl _) hpsz (by exact hb)) All2.nil) hg2 hat2 hown2⟩, by simp [intOf]; omega⟩
              · go_simp
                refine hK _ _ ?_
                clear hK K
                refine wpAny_ready (rs := [1]) (by decide +kernel) (by simp) ?_
                refine AllReady.cons rfl (fun K hK => ?_) AllReady.nil
                go_simp
                refine hK _ _ ?_
                clear hK K
                refine wpAny_ready (rs := [12]) (by decide +kernel) (by simp) ?_
                refine AllReady.cons rfl (fun K hK => ?_) AllReady.nil
                refine step_app_Le _ rfl (.tmp 81) (.tmp 91) (by rfl) (ho1.alloc _) rfl (Reads.new (D := Any) _ [.int .i64 lk, .int .i64 lf, .int .i64 lt, .int .i64 ln, .string ls, .int .i64 vk, .int .i64 vn, .string vt, .slice A9 va.length c9] 9 1 _ trivial rfl) rfl (by simp [Value.oneCell']) (by omega) (by simp; omega) ?_
                intro v2 w2 hown2 hg2 hat2
                obtain ⟨A8, c8, rfl, hn8⟩ := own_form hown2
                have hB2 := (hB1.alloc (.cells #[.int .i64 lk, .int .i64 lf, .int .i64 lt, .int .i64 ln, .string ls, .int .i64 vk, .int .i64 vn, .string vt, .slice A9 va.length c9] 55)).grown hg2 (fun e => by have := (ho1.lt _ e.symm).1; omega)
                have k2 := hB2.cell 4
                simp only [List.getElem?_cons_succ, List.getElem?_cons_zero] at k2
                have f2 := hB2.frozen 4
                have l2 := hB2.lt
                refine hK _ _ ?_
                clear hK K
                repeat (first | (refine wpAny_take (i := 13) (v := .pointer (some ⟨w.heap.size + 1, 4, none⟩)) rfl ?_ ?_ ?_ (fun _ _ _ h => h) (Or.inl ⟨by rfl, ?_⟩) ?_; (· decide +kernel); (· decide +kernel); (· decide +kernel); (· (intro w; go_simp))))
                refine wpAny_ready (rs := [14]) (by decide +kernel) (by simp) ?_
                refine AllReady.cons rfl (fun K hK => ?_) AllReady.nil
                go_simp
                refine hK _ _ ?_
                clear hK K
                refine wpAny_done (by decide +kernel) ?_ _
                go_wp2_with (fail)
                exact ⟨⟨k + 1, by omega, by omega, by go_num, by rw [HU.out]; exact po_box (ys := [⟨lk, lf, lt, ln, ls, V.mk vk vn vt va⟩]) (p := ⟨pr, ⟨⟨#[65]⟩, ss, si⟩, pb, pt, pw, pl⟩) hB1 hZ1 hR1 b1 b2 b3 hbel1 (All2.cons_mk ((LCells.stable 41).imp hv9 fun b hb _ => hR.fresh (Nat.le_refl _) hpsz (by exact hb)) All2.nil) hg2 hat2 hown2⟩, by simp [intOf]; omega⟩
      · skip
        · have HU : Hid (parU l pr (k + 1) = ⟨pr, ⟨⟨#[65]⟩, ss, si⟩, pb, restN ra 100, pw, pl⟩) := by unfold Hid; rw [HU1.out]; simp
          clear HU1
          clear HVO HLO HS0
          go_upto_region 8 with (go_at_call 11; refine (cq.out _).mono ?_; rintro e w' ⟨rfl, rfl⟩)
          go_wp2_with (go_at_call 11; refine (rest_any _ _ _ hA1 (by omega) (by omega)).mono ?_; rintro e w' ⟨rfl, rfl⟩)
          exact ⟨⟨k + 1, by omega, by omega, by go_num, by rw [HU.out]; exact po_ticks (p := ⟨pr, ⟨⟨#[65]⟩, ss, si⟩, pb, pt, pw, pl⟩) (t := restN ra 100) hB hZ hR a1 a2 a3 hbel⟩, by simp [intOf]; omega⟩
      · skip
        · have HU : Hid (parU l pr (k + 1) = ⟨pr, ⟨⟨#[65]⟩, ss, si⟩, pb, pt, pw ++ [1 + restN ra 5000], pl⟩) := by unfold Hid; rw [HU1.out]; simp
          clear HU1
          have hor := hR.1 3 _ rfl
          simp only at hor
          have HR := Lib.hid hor
          have hw5 : IntKind.i64.wrap (1 + restI ra 5000) = 1 + restI ra 5000 := IntWalk.i64_in _ (by omega)
          clear hor HVO HLO HS0
          skip
          go_upto_region 18 with (first | (go_at_call 11; refine (cq.out _).mono ?_; rintro e w' ⟨rfl, rfl⟩) | (go_at_call 11; refine (rest_any _ _ _ hA1 (by omega) (by omega)).mono ?_; rintro e w' ⟨rfl, rfl⟩))
          go_region_law (first
            | (rw [if_pos (by simp [Region.wanted])]; unfold Oper.wp; go_simp; go_at_call 11; refine (rest_any _ _ _ hA1 (by omega) (by omega)).mono ?_; rintro e w' ⟨rfl, rfl⟩; dsimp only)
            | (refine step_app_Nu _ rfl (.tmp 106) (.tmp 114) (by rfl) (by exact HR.out.alloc _) rfl (by exact Reads.new (D := Any) wr [.int .i64 (1 + restI ra 5000)] 1 1 _ trivial rfl) rfl (by simp [Value.oneCell']) (by omega) (by simp; omega) ?_; intro v2 w2 hown2 hg2 hat2; obtain ⟨A8, c8, rfl, hn8⟩ := own_form hown2; have hB2 : Blk w2 (w.heap.size + 1) 48 [.int .i64 pr, .string ⟨#[65]⟩, .slice A1 ss.length c1, .slice A2 si.length c2, .slice A3 pb.length c3, .int .i64 pt, .slice A4 pw.length c4, .slice A5 pl.length c5] := Blk.grown (by exact hB.alloc (.cells #[.int .i64 (1 + restI ra 5000)] 3)) hg2 (fun e => by have := (HR.out.lt _ e.symm).1; omega); have k2 := hB2.cell 6; simp only [List.getElem?_cons_succ, List.getElem?_cons_zero] at k2; have f2 := hB2.frozen 6; have l2 := hB2.lt))
          all_goals go_wp2_with (fail)
          all_goals exact ⟨⟨k + 1, by omega, by omega, by go_num, by rw [HU.out]; exact po_watches (p := ⟨pr, ⟨⟨#[65]⟩, ss, si⟩, pb, pt, pw, pl⟩) (ys := [1 + restN ra 5000]) hB hZ hR a1 a2 a3 hbel (grown_of_drew hg2) hat2 hown2⟩, by simp [intOf]; omega⟩
      · skip
        · have HU : Hid (parU l pr (k + 1) = ⟨pr, ⟨⟨#[65]⟩, ss, si⟩, pb, pt, pw, pl ++ [1 + restN ra 5000]⟩) := by unfold Hid; rw [HU1.out]; simp
          clear HU1
          have hor := hR.1 4 _ rfl
          simp only at hor
          have HR := Lib.hid hor
          have hw5 : IntKind.i64.wrap (1 + restI ra 5000) = 1 + restI ra 5000 := IntWalk.i64_in _ (by omega)
          clear hor HVO HLO HS0
          skip
          go_upto_region 7 with (first | (go_at_call 11; refine (cq.out _).mono ?_; rintro e w' ⟨rfl, rfl⟩) | (go_at_call 11; refine (rest_any _ _ _ hA1 (by omega) (by omega)).mono ?_; rintro e w' ⟨rfl, rfl⟩))
          go_region_law (first
            | (rw [if_pos (by simp [Region.wanted])]; unfold Oper.wp; go_simp; go_at_call 11; refine (rest_any _ _ _ hA1 (by omega) (by omega)).mono ?_; rintro e w' ⟨rfl, rfl⟩; dsimp only)
            | (refine step_app_Nu _ rfl (.tmp 24) (.tmp 32) (by rfl) (by exact HR.out.alloc _) rfl (by exact Reads.new (D := Any) wr [.int .i64 (1 + restI ra 5000)] 1 1 _ trivial rfl) rfl (by simp [Value.oneCell']) (by omega) (by simp; omega) ?_; intro v2 w2 hown2 hg2 hat2; obtain ⟨A8, c8, rfl, hn8⟩ := own_form hown2; have hB2 : Blk w2 (w.heap.size + 1) 48 [.int .i64 pr, .string ⟨#[65]⟩, .slice A1 ss.length c1, .slice A2 si.length c2, .slice A3 pb.length c3, .int .i64 pt, .slice A4 pw.length c4, .slice A5 pl.length c5] := Blk.grown (by exact hB.alloc (.cells #[.int .i64 (1 + restI ra 5000)] 3)) hg2 (fun e => by have := (HR.out.lt _ e.symm).1; omega); have k2 := hB2.cell 7; simp only [List.getElem?_cons_succ, List.getElem?_cons_zero] at k2; have f2 := hB2.frozen 7; have l2 := hB2.lt))
          all_goals go_wp2_with (fail)
          all_goals exact ⟨⟨k + 1, by omega, by omega, by go_num, by rw [HU.out]; exact po_links (p := ⟨pr, ⟨⟨#[65]⟩, ss, si⟩, pb, pt, pw, pl⟩) (ys := [1 + restN ra 5000]) hB hZ hR a1 a2 a3 hbel (grown_of_drew hg2) hat2 hown2⟩, by simp [intOf]; omega⟩
    · have hkk : k = min 8 l.length := by have := Hn.out; omega
      have HF' := Lib.hid (HF.out hkk)
      have hfin := po_fin rfl L.out hk8 hrf hZ hR a1 a2 a3 hbel
      simp only [setRow, Nat.reduceAdd] at hfin
      have Hfin := Lib.hid hfin
      have m0 := hB.cell 0
      have m1 := hB.cell 1
      have m2 := hB.cell 2
      have m3 := hB.cell 3
      have m4 := hB.cell 4
      have m5 := hB.cell 5
      have m6 := hB.cell 6
      have m7 := hB.cell 7
      simp only [List.getElem?_cons_succ, List.getElem?_cons_zero] at m0 m1 m2 m3 m4 m5 m6 m7
      have p0 := hZ.cell 0
      have p1 := hZ.cell 1
      have p2 := hZ.cell 2
      have p3 := hZ.cell 3
      have p4 := hZ.cell 4
      have p5 := hZ.cell 5
      have p6 := hZ.cell 6
      have p7 := hZ.cell 7
      have u0 := hZ.frozen 0
      have u1 := hZ.frozen 1
      have u2 := hZ.frozen 2
      have u3 := hZ.frozen 3
      have u4 := hZ.frozen 4
      have u5 := hZ.frozen 5
      have u6 := hZ.frozen 6
      have u7 := hZ.frozen 7
      simp only [List.getElem?_cons_succ, List.getElem?_cons_zero] at p0 p1 p2 p3 p4 p5 p6 p7
      have lz := hZ.lt
      have lb := hB.lt
      clear hfin hB hZ hR a1 a2 a3 hbel HF hr ha hP0 L HU0 hkk
      by_cases hln : k < n
      · have d8 : decide ((8 : Int) ≤ (k : Int)) = true := by simp; omega
        go_wp2_with (fail)
        refine ret_blk rfl rfl Hfin.out.2 Try.underlying48 (by kernel_rfl) rfl ?_
        rw [HF'.out]
        exact Hfin.out.1
      · go_wp2_with (fail)
        refine ret_blk rfl rfl Hfin.out.2 Try.underlying48 (by kernel_rfl) rfl ?_
        rw [HF'.out]
        exact Hfin.out.1
end Go.Proofs.Yteojmmjanjilaaa
