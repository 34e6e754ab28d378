/- Contract of layout.measure. -/
import Derived.Test.YtdbpgofabbpadaaDoorLyCheck
import Derived.Test.YtdbpgofabbpadaaDoorLyPcs
import Derived.Test.YtdbpgofabbpadaaDoorSlice
import Derived.Test.YtdbpgofabbpadaaDoorMap
import Derived.Laws.MakeOwn
import Derived.StillTailTactics
import Derived.Deep.RegionHeldLaw
set_option linter.unusedVariables false
namespace Go.Ly
open Go.Mem Go.RowKit
def tcs (d : List Pc) (k : Nat) : List Value := (List.range (d.length + 1)).map fun j => .int .i64 ((if k ≤ j then tailF (d.drop j) else 0 : Nat) : Int)
theorem tcs_len (d : List Pc) (k : Nat) : (tcs d k).length = d.length + 1 := by simp [tcs]
theorem tcs_at (d : List Pc) (k j : Nat) (h : j ≤ d.length) : (tcs d k)[j]? = some (.int .i64 ((if k ≤ j then tailF (d.drop j) else 0 : Nat) : Int)) := by
  unfold tcs
  rw [List.getElem?_map, List.getElem?_range (by omega)]
  rfl
theorem tcs_start (d : List Pc) : List.replicate (d.length + 1) (Value.int .i64 0) = tcs d d.length := by
  apply List.ext_getElem?
  intro j
  by_cases h : j ≤ d.length
  · rw [tcs_at d _ j h, List.getElem?_replicate, if_pos (by omega)]
    split
    · rename_i h2
      obtain rfl : j = d.length := by omega
      rw [List.drop_length]
      rfl
    · rfl
  · rw [List.getElem?_eq_none (by simp; omega), List.getElem?_eq_none (by rw [tcs_len]; omega)]
theorem tcs_set (d : List Pc) (k : Nat) (hk : k < d.length) : (tcs d (k + 1)).set k (.int .i64 ((tailF (d.drop k) : Nat) : Int)) = tcs d k := by
  apply List.ext_getElem?
  intro j
  by_cases h : j ≤ d.length
  · by_cases e : j = k
    · subst e
      rw [List.getElem?_set_self (by rw [tcs_len]; omega), tcs_at d j j h, if_pos (Nat.le_refl _)]
    · rw [List.getElem?_set_ne (Ne.symm e), tcs_at d _ j h, tcs_at d _ j h]
      congr 3
      by_cases h1 : k ≤ j
      · rw [if_pos h1, if_pos (by omega)]
      · rw [if_neg h1, if_neg (by omega)]
  · rw [List.getElem?_eq_none (by rw [List.length_set, tcs_len]; omega), List.getElem?_eq_none (by rw [tcs_len]; omega)]
theorem tcs_same (d : List Pc) (k : Nat) (hk : k < d.length) (h0 : tailF (d.drop k) = 0) : tcs d (k + 1) = tcs d k := by
  rw [← tcs_set d k hk, h0]
  apply List.ext_getElem?
  intro j
  by_cases e : j = k
  · subst e
    rw [List.getElem?_set_self (by rw [tcs_len]; omega), tcs_at d _ j (by omega), if_neg (by omega)]
  · rw [List.getElem?_set_ne (Ne.symm e)]
theorem tail_drop {d : List Pc} {k : Nat} (hk : k < d.length) : tailF (d.drop k) = if d[k].kind = 2 ∨ d[k].kind = 3 ∨ d[k].kind = 4 then 0 else d[k].s.length + tailF (d.drop (k + 1)) := by
  rw [List.drop_eq_getElem_cons hk, tailF]
def gval (g : Grp) : Value := .agg #[.int .i64 (g.width : Nat), .int .i64 (g.tail : Nat), .bool g.hard, .bool g.broken, .int .i64 (g.indent : Nat)]
def gcell (g : Grp) : List Value := [.int .i64 (g.width : Nat), .int .i64 (g.tail : Nat), .bool g.hard, .bool g.broken, .int .i64 (g.indent : Nat)]
def scell (s : Sg) : List Value := [.int .i64 (s.at_ : Nat), .int .i64 (s.width : Nat), .int .i64 (s.hards : Nat)]
def scs (l : List Sg) : List Value := (l.map scell).flatten
theorem scs_app (a b : List Sg) : scs (a ++ b) = scs a ++ scs b := by simp [scs]
theorem scs_len (l : List Sg) : (scs l).length = l.length * 3 := by
  induction l with
  | nil => rfl
  | cons p r ih =>
    unfold scs at ih ⊢
    rw [List.map_cons, List.flatten_cons, List.length_append, ih]
    simp [scell]
    omega
theorem scs_at (l : List Sg) (k : Nat) (hk : k < l.length) (j : Nat) (hj : j < 3) : (scs l)[k * 3 + j]? = (scell l[k])[j]? := by
  unfold scs
  refine flatten_at (size := 3) ?_ (k := k) (c := scell l[k]) ?_ j hj
  · intro c hc
    obtain ⟨p, _, rfl⟩ := List.mem_map.1 hc
    rfl
  · rw [List.getElem?_map, List.getElem?_eq_getElem hk]
    rfl
theorem scs_drop (l : List Sg) : (scs l).take ((l.length - 1) * 3) = scs l.dropLast := by
  rcases List.eq_nil_or_concat l with rfl | ⟨r, x, rfl⟩
  · rfl
  · rw [List.concat_eq_append, scs_app, List.length_append, List.length_singleton, Nat.add_sub_cancel, List.dropLast_concat]
    rw [List.take_append_of_le_length (by rw [scs_len]; exact Nat.le_refl _), List.take_of_length_le (by rw [scs_len]; exact Nat.le_refl _)]
theorem lastS_at {l : List Sg} (h : 0 < l.length) : l[l.length - 1]'(by omega) = lastS l := by
  unfold lastS
  have : l ≠ [] := by intro e; rw [e] at h; simp at h
  rw [List.getLast?_eq_some_getLast this, List.getLast_eq_getElem]
  rfl
end Go.Ly
namespace Go.Proofs.YtdbpgofabbpadaaDoor
open Go.RowKit Go.Mem Go.Ly Go.Maps
def encN (n : Nat) : Value := .int .i64 (n : Nat)
def okN (n : Nat) : Prop := n ≤ 1000000000
theorem enc_N : Enc Tryd.prog 3 encN okN where
  keyed := int_keyed Tryd.underlying3
  inj := fun a b h => by unfold encN at h; injection h with _ h; omega
  key := fun a h => ⟨_, keyOf_int_mk Tryd.underlying3 (by unfold okN at h; exact WalkArith.wf_i64 (by omega))⟩
theorem zero_gr : ∀ w : World, (zeroValue 42).run Tryd.prog w = .ok (gval zeroG) w := fun _ => by kernel_rfl
theorem info_int : (Tryd.prog.info? 3).map (fun i => (i.zero, i.size, i.bytes)) = some (some (.int .i64 0), 1, 8) := by kernel_rfl
theorem info_sg : (Tryd.prog.info? 59).map (fun i => (i.zero, i.size, i.bytes)) = some (some (.agg #[.int .i64 0, .int .i64 0, .int .i64 0]), 3, 24) := by kernel_rfl
theorem zeros_made (n : Nat) : madeCells #[Value.int .i64 0] n = (List.replicate n (Value.int .i64 0)).toArray := by
  apply Array.ext'
  simp [madeCells, Nat.mod_one]
  apply List.ext_getElem <;> simp
theorem make_ints (n : Nat) (hn : n ≤ 1000) (w : World) : (Instr.makeSlice 22 (.int .i64 ((n : Int) + 1)) (.int .i64 ((n : Int) + 1))).run Tryd.prog w = .ok (.slice (some ⟨w.heap.size, 0, none⟩) (n + 1) (n + 1)) (w.alloc (.cells (List.replicate (n + 1) (Value.int .i64 0)).toArray 3)) := by
  obtain ⟨i0, hi0, hz0, hz1, hz2⟩ := info_of info_int
  have := run_make (P := Tryd.prog) w 22 3 i0 _ Tryd.underlying22 hi0 hz0 .i64 .i64 ((n : Int) + 1) ((n : Int) + 1) (by omega) (by omega) (by rw [hz2]; omega) (by omega)
  rw [this, hz1]
  have e : ((n : Int) + 1).toNat = n + 1 := by omega
  simp [Value.cells, zeros_made, e]
/-- append of starts onto a row of the call's own -/
theorem app_sg (w : World) {ops : Array Oper} {rest : List Oper} {o : Oper} {a : Act} {Q : Exit → Act → World → Prop} (hgd : o.guard = none) (s x : Operand)
    (ho : o.op = .call { callee := .builtin .append, args := #[s, x], argTypes := #[57, 57] })
    {base : Nat} {v : Value} {n : Nat} {xs : List Value} (hown : w.ownsRow base 59 3 v n xs) (hs : a.eval s = v)
    {D : Nat → Prop} {A : Option Addr} {m : Nat} {news : List Value} (hr : Reads w D 3 A m news) {c : Nat} (hx : a.eval x = .slice A m c) (h1 : ∀ u ∈ news, u.oneCell' = true)
    (h63 : n + m ≤ 1000000) (hbase : base ≤ w.heap.size)
    (h : ∀ v' w', w'.ownsRow base 59 3 v' (n + m) (xs ++ news) → w.grownBy w' v.ownBlock → (v'.ownBlock = v.ownBlock ∨ v'.ownBlock = some w.heap.size) → wpList Tryd.prog ops Q rest (a.put o.dst v') w') : wpList Tryd.prog ops Q (o :: rest) a w := by
  obtain ⟨i0, hi0, hz0, hz1, hz2⟩ := info_of info_sg
  exact wpList_append_any w hgd s x _ ho base _ i0 _ 3 24 Tryd.underlying57 hi0 hz0 hz1 hz2 rfl (by omega) v n xs hs hown D A m c news hx hr h1 (by simp only [maxLen]; omega) (by omega) hbase h
theorem own_cut {w : World} {base : Nat} {e : TypeId} {size n c : Nat} {A : Option Addr} {xs : List Value} (h : w.ownsRow base e size (.slice A n c) n xs) (k : Nat) (hk : k ≤ n) : w.ownsRow base e size (.slice A k c) k (xs.take (k * size)) := by
  have hks : k * size ≤ n * size := Nat.mul_le_mul_right _ hk
  refine ⟨by rw [List.length_take, h.1]; omega, ?_⟩
  rcases h.2 with ⟨e1, rfl⟩ | ⟨g, cap, cur, e1, hb, hg, hnc, hcm, hcs, htake⟩
  · injection e1 with e1 e2 e3
    obtain rfl : k = 0 := by omega
    exact .inl ⟨by rw [e1, e3], rfl⟩
  · injection e1 with e1 e2 e3
    refine .inr ⟨g, cap, cur, by rw [e1, e3], hb, hg, by omega, hcm, hcs, ?_⟩
    rw [← htake, List.take_take, Nat.min_eq_left hks]
theorem own_ne {w : World} {base : Nat} {e t : TypeId} {size n : Nat} {v : Value} {xs cs : List Value} {g : Nat} (h : w.ownsRow base e size v n xs) (hb : Blk w g t cs) (ht : t ≠ e) : some g ≠ v.ownBlock := by
  intro he
  rcases h.2 with ⟨rfl, _⟩ | ⟨g', cap, cur, rfl, _, hg, _⟩
  · simp [Value.ownBlock] at he
  · simp only [Value.ownBlock, Option.some.injEq] at he
    subst he
    unfold Blk at hb
    rw [hb] at hg
    simp only [Option.some.injEq, Obj.cells.injEq] at hg
    exact ht hg.2.1
/-- while groups are measured -/
structure MsAt (w wr : World) (B TB M : Nat) (d : List Pc) (A6 : Option Addr) (c6 : Nat) (m : Ms) : Prop where
  own : wr.ownsRow B 59 3 (.slice A6 m.stack.length c6) m.stack.length (scs m.stack)
  mp : MapOf encN okN wr M (m.out.map fun p => (p.1, gval p.2))
  tb : Blk wr TB 3 (tcs d 0)
  lt : TB < B ∧ M < B ∧ B ≤ wr.heap.size ∧ w.heap.size ≤ TB ∧ w.heap.size ≤ M
  be : Below w.heap.size w wr
theorem MsAt.below {w wr W : World} {B TB M : Nat} {d : List Pc} {A6 : Option Addr} {c6 : Nat} {m : Ms} (h : MsAt w wr B TB M d A6 c6 m) (hb : Below wr.heap.size wr W) : MsAt w W B TB M d A6 c6 m :=
  ⟨own_below h.own hb, h.mp.below hb, h.tb.below hb h.tb.lt, ⟨h.lt.1, h.lt.2.1, Nat.le_trans h.lt.2.2.1 hb.size, h.lt.2.2.2⟩, h.be.trans (hb.mono h.be.size)⟩
theorem MsAt.re {w wr : World} {B TB M : Nat} {d : List Pc} {A6 : Option Addr} {c6 : Nat} {m : Ms} (h : MsAt w wr B TB M d A6 c6 m) (wd hr : Nat) : MsAt w wr B TB M d A6 c6 ⟨m.out, m.stack, wd, hr⟩ := ⟨h.own, h.mp, h.tb, h.lt, h.be⟩
theorem MsAt.app {w wr W : World} {B TB M : Nat} {d : List Pc} {A6 A9 : Option Addr} {c6 c9 : Nat} {m : Ms} {s : Sg} (h : MsAt w wr B TB M d A6 c6 m) (wd hr : Nat)
    (hown : W.ownsRow B 59 3 (.slice A9 (m.stack.length + 1) c9) (m.stack.length + 1) (scs m.stack ++ scell s)) (hg : wr.grownBy W (Value.slice A6 m.stack.length c6).ownBlock) : MsAt w W B TB M d A9 c9 ⟨m.out, m.stack ++ [s], wd, hr⟩ := by
  have hne : ∀ b, b < B → some b ≠ (Value.slice A6 m.stack.length c6).ownBlock := fun b hb e => by have := (h.own.lt b e.symm).1; omega
  refine ⟨?_, h.mp.grown hg (hne M h.lt.2.1), h.tb.grown hg (hne TB h.lt.1), ⟨h.lt.1, h.lt.2.1, Nat.le_trans h.lt.2.2.1 hg.size, h.lt.2.2.2⟩, h.be.grown hg h.be.size fun k hk => by have := (h.own.lt k hk).1; have := h.lt; omega⟩
  rw [scs_app, show scs [s] = scell s from by simp [scs]]
  simpa using hown
theorem MsAt.cut {w wr W : World} {B TB M : Nat} {d : List Pc} {A6 : Option Addr} {c6 : Nat} {out : List (Nat × Grp)} {r : List Sg} {s : Sg} {wd hr : Nat} (h : MsAt w wr B TB M d A6 c6 ⟨out, r ++ [s], wd, hr⟩) (k : Nat) (g : Grp) (wd' hr' : Nat)
    (hm : MapOf encN okN W M (mput (out.map fun p => (p.1, gval p.2)) k (gval g))) (hg : wr.grownBy W (some M)) : MsAt w W B TB M d A6 c6 ⟨mput out k g, r, wd', hr'⟩ := by
  have h1 := own_cut h.own r.length (by simp)
  simp only at h1
  rw [scs_app, List.take_append_of_le_length (by rw [scs_len]; exact Nat.le_refl _), List.take_of_length_le (by rw [scs_len]; exact Nat.le_refl _)] at h1
  have hne : (Value.slice A6 r.length c6).ownBlock ≠ some M := fun e => by have := (h1.lt M e).1; have := h.lt; omega
  refine ⟨h1.kept hg (.inr hne), ?_, h.tb.grown hg (fun e => ?_), ⟨h.lt.1, h.lt.2.1, Nat.le_trans h.lt.2.2.1 hg.size, h.lt.2.2.2⟩, h.be.grown hg h.be.size fun k hk => ?_⟩
  · rw [put_map (f := gval)]; exact hm
  · injection e with e
    obtain ⟨es, clock, hs, _⟩ := h.mp
    have ht := h.tb
    unfold Blk at ht
    rw [e] at ht
    rw [ht] at hs
    cases hs
  · injection hk with hk
    have := h.lt
    omega
set_option maxRecDepth 100000 in
set_option maxHeartbeats 8000000 in
theorem measure_any (A : Option Addr) (n c : Nat) (d : List Pc) (w : World) (hd : DocAt w Any A n c d) (ho : Ok d) :
    Calls Tryd.prog 10 #[.slice A n c] w fun e w' => ∃ M, e = .returned (.map (some M)) ∧ w.heap.size ≤ M ∧ MapOf encN okN w' M ((msAt d d.length).out.map fun p => (p.1, gval p.2)) ∧ Below w.heap.size w w' := by
  have HD := Lib.hid (And.intro hd ho)
  have hn : n ≤ 100 := hd.2.2.2.1
  have mk := fun W => make_ints n (by omega) W
  have hmm := @run_makeMap Tryd.prog
  have hwn : IntKind.i64.wrap ((n : Int) + 1) = (n : Int) + 1 := IntWalk.i64_in _ (by omega)
  clear hd ho
  go_enter Tryd.func10, Tryd.ntmps10
  go_upto_region 2 with (fail)
  obtain ⟨W1, hW1⟩ : ∃ W1, W1 = w.alloc (.cells (Array.replicate (n + 1) (Value.int .i64 0)) 3) := ⟨_, rfl⟩
  obtain ⟨TB, hTB⟩ : ∃ TB, TB = w.heap.size := ⟨_, rfl⟩
  have fT : Blk W1 TB 3 (tcs d n) := by
    have e : Array.replicate (n + 1) (Value.int .i64 0) = (List.replicate (n + 1) (Value.int .i64 0)).toArray := by simp
    rw [hW1, hTB, e, HD.out.1.1, tcs_start]
    exact Blk.new _ _ _
  have hb1 : Below w.heap.size w W1 := by rw [hW1]; exact (Below.refl _ _).alloc (Nat.le_refl _) _
  rw [← hW1, ← hTB]
  have HT := Lib.hid (And.intro fT (And.intro hb1 hTB))
  clear fT hb1 hW1 hTB mk
  go_wp2_with (fail)
  go_loopw [4] (fun v wr => ∃ (k : Nat) (z : Int), k ≤ n ∧ v = .int .i64 z ∧ z + 1 = (k : Int) ∧ Hid (Blk wr TB 3 (tcs d k) ∧ Below w.heap.size w wr)) (fun v _ => (intOf v + 1).toNat)
  case atStart => exact ⟨n, (n : Int) - 1, Nat.le_refl _, by go_num, by omega, HT.out.1, HT.out.2.1⟩
  case round =>
    obtain ⟨k, z, hk, rfl, hz, HK⟩ := hrel
    by_cases hk0 : k = 0
    · subst hk0
      obtain rfl : z = -1 := by omega
      have HK1 := Lib.hid (And.intro HK.out.1 HK.out.2)
      clear HK hz hk hwn
      go_upto_region 11 with (fail)
      obtain ⟨W2, hW2⟩ : ∃ W2, W2 = wr.alloc (.map #[] 0) := ⟨_, rfl⟩
      obtain ⟨M, hM⟩ : ∃ M, M = wr.heap.size := ⟨_, rfl⟩
      have mM : MapOf encN okN W2 M ([] : List (Nat × Value)) := by rw [hW2, hM]; exact MapOf.new wr
      have hb2 : Below wr.heap.size wr W2 := by rw [hW2]; exact (Below.refl _ _).alloc (Nat.le_refl _) _
      have hs2 : W2.heap.size = wr.heap.size + 1 := by rw [hW2]; simp
      rw [← hW2, ← hM]
      have hT0 : TB < wr.heap.size := HK1.out.1.lt
      have HS := Lib.hid (show MsAt w W2 W2.heap.size TB M d none 0 (msAt d 0) from ⟨World.ownsRow_nil _ _ _ _, mM, HK1.out.1.below hb2 hT0, ⟨by omega, by omega, Nat.le_refl _, Nat.le_of_eq HT.out.2.2.symm, by rw [hM]; exact HK1.out.2.size⟩, HK1.out.2.trans (hb2.mono HK1.out.2.size)⟩)
      clear hW2 hM mM hb2 hs2 hT0 HK1 HT hmm
      generalize W2.heap.size = B at HS
      go_wp2_with (fail)
      go_loopw [6, 7, 8, 50] (fun s6 s7 s8 i wr => ∃ k A6 c6, k ≤ n ∧ i = .int .i64 (k : Nat) ∧ s6 = .slice A6 (msAt d k).stack.length c6 ∧ s7 = .int .i64 ((msAt d k).width : Nat) ∧ s8 = .int .i64 ((msAt d k).hards : Nat) ∧ Hid (MsAt w wr B TB M d A6 c6 (msAt d k))) (fun _ _ _ i _ => n - (intOf i).toNat)
      case atStart => exact ⟨0, none, 0, Nat.zero_le _, rfl, rfl, rfl, rfl, HS.out⟩
      case round =>
        obtain ⟨k, A6, c6, hk, rfl, rfl, rfl, rfl, HK⟩ := hrel
        by_cases hlt : k < n
        · have hkl : k < d.length := by have := HD.out.1.1; omega
          obtain ⟨b, off, rfl, _, c0, c1, c2⟩ := (HD.out.1.keep (Same.any HK.out.be)).cells hlt hkl
          have lb := lt_of_cell c0
          have hp := HD.out.2.pc _ (List.getElem_mem hkl)
          have hms := ms_ok HD.out.2 k (by omega)
          have hnx := msAt_next hkl
          have hop := HD.out.2.close hkl
          have hle := lenF_le hp
          have hta := tcs_at d 0 (k + 1) (by omega)
          rw [if_pos (Nat.zero_le _)] at hta
          have htl := tailF_le (d.drop (k + 1)) fun q hq => HD.out.2.pc q (List.mem_of_mem_drop hq)
          rw [List.length_drop] at htl
          have hdl : d.length ≤ 100 := HD.out.2.len
          have CL := Lib.hid (fun W => length_any d[k] W)
          generalize d[k] = p at c0 c1 c2 hp hnx hop hle CL
          obtain ⟨m1, m2, m3, m4, _⟩ := hms
          generalize msAt d k = m at HK hnx m1 m2 m3 m4 ⊢
          obtain ⟨out, st, wd, hr⟩ := m
          simp only at m1 m2 m3 m4 ⊢
          obtain ⟨⟨p1, p2⟩, _⟩ := hp
          obtain ⟨kd, nn, s⟩ := p
          simp only at c0 c1 c2 p1 p2 hop CL
          generalize hlnn : lenF ⟨kd, nn, s⟩ = ln at hle CL
          generalize htt : tailF (d.drop (k + 1)) = t1 at hta htl
          have HNX := Lib.hid (And.intro hnx (And.intro hlnn htt))
          have HOP := Lib.hid (And.intro hop m1)
          have H4 := Lib.hid m4
          have HTA := Lib.hid hta
          unfold sv at c2
          clear hnx hlnn htt hop m1 m4 hta
          have HDK := Lib.hid (HD.out.2.depthLe k (by omega))
          generalize depAt d k = dk at HOP HDK
          generalize depAt d (k + 1) = dk1 at HOP
          go_upto_region 16 with (fail)
          obtain ⟨W, hW⟩ : ∃ W, W = wr.alloc (.cells #[.int .i64 (kd : Nat), .int .i64 (nn : Nat), .string ⟨s.toArray⟩] 30) := ⟨_, rfl⟩
          obtain ⟨PB, hPB⟩ : ∃ b, b = wr.heap.size := ⟨_, rfl⟩
          have fP : Blk W PB 30 [.int .i64 (kd : Nat), .int .i64 (nn : Nat), .string ⟨s.toArray⟩] := by rw [hW, hPB]; exact Blk.new _ _ _
          have hbW : Below wr.heap.size wr W := by rw [hW]; exact (Below.refl _ _).alloc (Nat.le_refl _) _
          rw [← hW, ← hPB]
          have HW := Lib.hid (HK.out.below hbW)
          have HP := Lib.hid fP
          have HB := Lib.hid (HW.out.lt.2.2.1)
          have PBB : B ≤ PB := by rw [hPB]; exact HK.out.lt.2.2.1
          have q0 := fP.cell 0
          have q1 := fP.cell 1
          have q2 := fP.cell 2
          have lP := fP.lt
          simp only [List.getElem?_cons_zero, List.getElem?_cons_succ] at q0 q1 q2
          have hW0 := hW
          clear hbW fP c0 c1 c2 lb hW hPB hW0 HK
          have hdk : dk ≤ 100 := by have := HOP.out.2; have := HDK.out; omega
          have hsl : st.length ≤ 100 := by rw [HOP.out.2]; exact hdk
          have hTe : (30 : TypeId) ≠ 59 := by decide
          rcases (show (kd ≠ 5 ∧ kd ≠ 6 ∧ kd ≠ 4) ∨ kd = 4 ∨ kd = 5 ∨ kd = 6 from by omega) with hkd | hkd | hkd | hkd
          · have hN : msAt d (k + 1) = ⟨out, st, wd + ln, hr⟩ := by
              rw [HNX.out.1, ← HNX.out.2.1]
              unfold msF
              rw [if_neg (by simp only; omega), if_neg (by simp only; omega), if_neg (by simp only; omega)]
            have HN := Lib.hid hN
            have e5 : ((kd : Int) == 5) = false := by simp; omega
            have e6 : ((kd : Int) == 6) = false := by simp; omega
            have e4 : ((kd : Int) == 4) = false := by simp; omega
            clear hN HNX HOP H4 HTA hkd p1 p2
            go_wp2_with (go_at_call 20; (with_reducible refine (CL.out _).mono ?_); rintro e w5 ⟨rfl, hb5⟩)
            refine ⟨⟨k + 1, A6, c6, by omega, by go_num, by rw [HN.out], (by rw [HN.out]; exact congrArg (Value.int .i64) (by simp)), by rw [HN.out], ?_⟩, by simp [intOf]; omega⟩
            rw [HN.out]
            exact (HW.out.below hb5).re _ _
          · have hN : msAt d (k + 1) = ⟨out, st, wd + ln, hr + 1⟩ := by
              rw [HNX.out.1, ← HNX.out.2.1]
              unfold msF
              rw [if_neg (by simp only; omega), if_neg (by simp only; omega), if_pos (by simp only; omega)]
            have HN := Lib.hid hN
            have e5 : ((kd : Int) == 5) = false := by simp; omega
            have e6 : ((kd : Int) == 6) = false := by simp; omega
            have e4 : ((kd : Int) == 4) = true := by simp; omega
            clear hN HNX HOP H4 HTA hkd p1 p2
            go_wp2_with (go_at_call 20; (with_reducible refine (CL.out _).mono ?_); rintro e w5 ⟨rfl, hb5⟩)
            refine ⟨⟨k + 1, A6, c6, by omega, by go_num, by rw [HN.out], (by rw [HN.out]; exact congrArg (Value.int .i64) (by simp)), (by rw [HN.out]; exact congrArg (Value.int .i64) (by simp)), ?_⟩, by simp [intOf]; omega⟩
            rw [HN.out]
            exact (HW.out.below hb5).re _ _
          · have hN : msAt d (k + 1) = ⟨out, st ++ [⟨k, wd, hr⟩], wd + ln, hr⟩ := by
              rw [HNX.out.1, ← HNX.out.2.1]
              unfold msF
              rw [if_pos (by simp only; omega)]
            have HN := Lib.hid hN
            have e5 : ((kd : Int) == 5) = true := by simp; omega
            have HO := Lib.hid (show W.ownsRow B 59 3 (.slice A6 st.length c6) st.length (scs st) from HW.out.own)
            clear hN HNX HOP H4 HTA hkd p1 p2
            go_wp2_with (first | (go_at_call 20; (with_reducible refine (CL.out _).mono ?_); rintro e w5 ⟨rfl, hb5⟩) | (at_builtin; go_loud (refine app_sg _ rfl (.tmp 59) (.tmp 64) rfl (HO.out.alloc _) rfl (Reads.new (D := Any) _ [.int .i64 (k : Nat), .int .i64 (wd : Nat), .int .i64 (hr : Nat)] 3 1 _ trivial rfl) rfl (by simp [Value.oneCell']) (by omega) (by have := HB.out; simp; omega) ?_; intro v2 w2 hown2 hg2 hat2; obtain ⟨A9, c9, rfl, _⟩ := own_form hown2; have hH := HW.out.below ((Below.refl _ _).alloc (Nat.le_refl _) (.cells #[.int .i64 (k : Nat), .int .i64 (wd : Nat), .int .i64 (hr : Nat)] 59)); have H2 := Lib.hid (hH.app (s := ⟨k, wd, hr⟩) (wd + ln) hr hown2 hg2); have f2 := (HP.out.alloc (.cells #[.int .i64 (k : Nat), .int .i64 (wd : Nat), .int .i64 (hr : Nat)] 59)).grown hg2 (own_ne (HO.out.alloc (.cells #[.int .i64 (k : Nat), .int .i64 (wd : Nat), .int .i64 (hr : Nat)] 59)) (HP.out.alloc (.cells #[.int .i64 (k : Nat), .int .i64 (wd : Nat), .int .i64 (hr : Nat)] 59)) hTe); have y0 := f2.cell 0; have y1 := f2.cell 1; have y2 := f2.cell 2; have ly := f2.lt; simp only [List.getElem?_cons_zero, List.getElem?_cons_succ] at y0 y1 y2; clear f2 q0 q1 q2 lP hH hown2 hg2 hat2)))
            refine ⟨⟨k + 1, A9, c9, by omega, by go_num, (by rw [HN.out]; simp), (by rw [HN.out]; exact congrArg (Value.int .i64) (by simp)), by rw [HN.out], ?_⟩, by simp [intOf]; omega⟩
            rw [HN.out]
            exact H2.out.below hb5
          · obtain ⟨r, sg, rfl⟩ : ∃ r sg, st = r ++ [sg] := by
              have h1 : 0 < st.length := by rw [HOP.out.2]; have := HOP.out.1 hkd; omega
              rcases List.eq_nil_or_concat st with rfl | ⟨r, x, rfl⟩
              · simp at h1
              · exact ⟨r, x, by rw [List.concat_eq_append]⟩
            have hsg := H4.out sg (by simp)
            obtain ⟨sa, sw, sh⟩ := sg
            simp only at hsg
            have hN : msAt d (k + 1) = ⟨mput out sa ⟨wd - sw, t1, decide (sh < hr), false, 0⟩, r, wd + ln, hr⟩ := by
              rw [HNX.out.1, ← HNX.out.2.1, ← HNX.out.2.2]
              unfold msF
              rw [if_neg (by simp only; omega), if_pos (by simp only; omega)]
              simp [lastS]
            have HN := Lib.hid hN
            have e5 : ((kd : Int) == 5) = false := by simp; omega
            have e6 : ((kd : Int) == 6) = true := by simp; omega
            have hown := (show W.ownsRow B 59 3 (.slice A6 (r ++ [(⟨sa, sw, sh⟩ : Sg)]).length c6) (r ++ [(⟨sa, sw, sh⟩ : Sg)]).length (scs (r ++ [(⟨sa, sw, sh⟩ : Sg)])) from HW.out.own)
            obtain ⟨o1, o2, o3⟩ := own_reads (by omega) hown
            have hlr : (r ++ [(⟨sa, sw, sh⟩ : Sg)]).length = r.length + 1 := by simp
            obtain ⟨b6, f6, rfl, _, hc6⟩ := o3.2 (by omega)
            have z0 := hc6 (r.length * 3 + 0) _ (scs_at (r ++ [(⟨sa, sw, sh⟩ : Sg)]) r.length (by omega) 0 (by omega))
            have z1 := hc6 (r.length * 3 + 1) _ (scs_at (r ++ [(⟨sa, sw, sh⟩ : Sg)]) r.length (by omega) 1 (by omega))
            have z2 := hc6 (r.length * 3 + 2) _ (scs_at (r ++ [(⟨sa, sw, sh⟩ : Sg)]) r.length (by omega) 2 (by omega))
            simp only [List.getElem_concat_length, Nat.add_zero] at z0 z1 z2
            have hcut := (slice_h (P := Tryd.prog) (D := fun b => B ≤ b) (A := some ⟨b6, f6, none⟩) (n := r.length + 1) (c := c6) (size := 3) 57 _ Tryd.underlying57 (by kernel_rfl) (by rw [← hlr]; exact o3) (by omega) r.length (by omega) (r.length : Int) rfl).1
            rw [hlr] at hsl hown ⊢
            have HQ := Lib.hid (And.intro hlr hsg)
            have l6 := lt_of_cell z0
            clear hlr hN HNX HOP H4 hkd p1 p2 hown o1 o2 o3 hc6 hsg
            rw [← Nat.add_assoc] at z1 z2
            generalize hrq : r.length = q at z0 z1 z2 hcut hsl HQ ⊢
            have HRQ := Lib.hid hrq
            clear hrq
            have hPM : PB ≠ M := by have := HW.out.lt; omega
            go_upto_region 21 with (fail)
            obtain ⟨V, hV⟩ : ∃ V, V = W.alloc (.cells #[.int .i64 (sa : Nat), .int .i64 (sw : Nat), .int .i64 (sh : Nat)] 59) := ⟨_, rfl⟩
            obtain ⟨SB, hSB⟩ : ∃ b, b = W.heap.size := ⟨_, rfl⟩
            have fS : Blk V SB 59 [.int .i64 (sa : Nat), .int .i64 (sw : Nat), .int .i64 (sh : Nat)] := by rw [hV, hSB]; exact Blk.new _ _ _
            have hbV : Below W.heap.size W V := by rw [hV]; exact (Below.refl _ _).alloc (Nat.le_refl _) _
            rw [← hV, ← hSB]
            have HV := Lib.hid (HW.out.below hbV)
            have HPV := Lib.hid (HP.out.below hbV HP.out.lt)
            have x0 := fS.cell 0
            have x1 := fS.cell 1
            have x2 := fS.cell 2
            have lS := fS.lt
            simp only [List.getElem?_cons_zero, List.getElem?_cons_succ] at x0 x1 x2
            have sT := HV.out.tb.cell (k + 1)
            rw [HTA.out] at sT
            have lT := HV.out.tb.lt
            clear hbV hV hSB fS z0 z1 z2 l6 q0 q1 q2 lP
            go_upto_region 22 with (fail)
            have wk : IntKind.i64.wrap ((k : Int) + 1) = (k : Int) + 1 := IntWalk.i64_in _ (by omega)
            have ww : IntKind.i64.wrap ((wd : Int) - (sw : Int)) = ((wd - sw : Nat) : Int) := (IntWalk.i64_in _ (by have := HQ.out.2; omega)).trans (by have := HQ.out.2; omega)
            have i1 : (k : Int) + 1 < (n : Int) + 1 := by omega
            have i2 : (0 : Int) ≤ (k : Int) + 1 := by omega
            have hsa : sa ≤ 1000000000 := by have := HQ.out.2; omega
            go_still_tail 17, (by kernel_rfl)
            change wpList _ _ _ _ _ (World.drew V)
            go_wp2_with (first | (go_at_call 20; (with_reducible refine (CL.out _).mono ?_); rintro e w5 ⟨rfl, hb5⟩) | (refine wpList_mupdate _ rfl (.tmp 79) (.tmp 81) (.tmp 95) _ rfl enc_N Tryd.underlying35 (b := M) (key := sa) rfl (by exact HV.out.mp.same rfl) rfl hsa ?_; intro w2 hm2 hg2; have hm3 : MapOf encN okN w2 M (mput (out.map fun p => (p.1, gval p.2)) sa (.agg #[.int .i64 ((wd - sw : Nat) : Int), .int .i64 (t1 : Nat), .bool (decide (sh < hr)), .bool false, .int .i64 0])) := (by exact hm2); have hgV : V.grownBy w2 (some M) := ⟨hg2.os, hg2.tape, hg2.output, hg2.size, hg2.block⟩; have f2 := HPV.out.grown hgV (fun e => hPM (by injection e)); have H2 := Lib.hid (HV.out.cut sa ⟨wd - sw, t1, decide (sh < hr), false, 0⟩ (wd + ln) hr hm3 hgV); have y0 := f2.cell 0; have y1 := f2.cell 1; have y2 := f2.cell 2; have ly := f2.lt; simp only [List.getElem?_cons_zero, List.getElem?_cons_succ] at y0 y1 y2; clear f2 hm2 hm3 hg2 hgV x0 x1 x2 lS sT lT))
            refine ⟨⟨k + 1, some ⟨b6, f6, none⟩, c6, by omega, by go_num, (by rw [HN.out, ← HRQ.out]), (by rw [HN.out]; exact congrArg (Value.int .i64) (by simp)), by rw [HN.out], ?_⟩, by simp [intOf]; omega⟩
            rw [HN.out]
            exact H2.out.below hb5
        · obtain rfl : k = n := by omega
          go_wp2_with (fail)
          go_ret
          have hh := HK.out
          rw [HD.out.1.1] at hh
          exact ⟨M, rfl, hh.lt.2.2.2.2, hh.mp, hh.be⟩
    · obtain ⟨m, rfl⟩ : ∃ m, k = m + 1 := ⟨k - 1, by omega⟩
      obtain rfl : z = (m : Int) := by omega
      have hml : m < d.length := by have := HD.out.1.1; omega
      have hmn : m < n := by omega
      obtain ⟨b, off, rfl, _, c0, c1, c2⟩ := (HD.out.1.keep (Same.any HK.out.2)).cells hmn hml
      have lb := lt_of_cell c0
      have hp := HD.out.2.pc _ (List.getElem_mem hml)
      have htd := tail_drop hml
      have htl := tailF_le (d.drop (m + 1)) fun q hq => HD.out.2.pc q (List.mem_of_mem_drop hq)
      rw [List.length_drop] at htl
      have hts := tcs_set d m hml
      have hse := tcs_same d m hml
      have ta := tcs_at d (m + 1) (m + 1) (by omega)
      rw [if_pos (Nat.le_refl _)] at ta
      generalize d[m] = p at c0 c1 c2 hp htd
      obtain ⟨kd, nn, s⟩ := p
      simp only at c0 c1 c2 htd
      unfold sv at c2
      obtain ⟨⟨p1, p2⟩, p3, p4, _⟩ := hp
      simp only at p1 p2 p3 p4
      have es := sv_len s
      have hdl : d.length ≤ 100 := HD.out.2.len
      generalize tailF (d.drop (m + 1)) = t1 at htd htl ta
      generalize htF : tailF (d.drop m) = t0 at htd hts hse
      have HTF := Lib.hid (And.intro htF (And.intro hts hse))
      have fT := HK.out.1
      have g1 := (fT.cell (m + 1)).trans ta
      have lT := fT.lt
      have zT := fT.frozen m
      have cT := fT.cell m
      rw [tcs_at d (m + 1) m (by omega), if_neg (by omega)] at cT
      clear htF hts hse hz ta
      have dm : ((m : Int) ≥ 0) := by omega
      rcases (show kd = 2 ∨ kd = 3 ∨ kd = 4 ∨ (kd = 1 ∨ kd = 5 ∨ kd = 6) from by omega) with rfl | rfl | rfl | hkd
      · rw [if_pos (by omega)] at htd
        subst htd
        go_wp2_with (fail)
        refine ⟨⟨m, (m : Int) - 1, by omega, rfl, by omega, ?_⟩, by first | (simp [intOf]; done) | (simp [intOf]; omega)⟩
        rw [← HTF.out.2.2 rfl]
        exact HK.out
      · rw [if_pos (by omega)] at htd
        subst htd
        go_wp2_with (fail)
        refine ⟨⟨m, (m : Int) - 1, by omega, rfl, by omega, ?_⟩, by first | (simp [intOf]; done) | (simp [intOf]; omega)⟩
        rw [← HTF.out.2.2 rfl]
        exact HK.out
      · rw [if_pos (by omega)] at htd
        subst htd
        go_wp2_with (fail)
        refine ⟨⟨m, (m : Int) - 1, by omega, rfl, by omega, ?_⟩, by first | (simp [intOf]; done) | (simp [intOf]; omega)⟩
        rw [← HTF.out.2.2 rfl]
        exact HK.out
      · rw [if_neg (by omega)] at htd
        have HHT := Lib.hid htd
        have wm : IntKind.i64.wrap ((m : Int) + 1) = (m : Int) + 1 := IntWalk.i64_in _ (by omega)
        have ws : IntKind.i64.wrap ((s.length : Int) + (t1 : Int)) = ((t0 : Nat) : Int) := (IntWalk.i64_in _ (by omega)).trans (by omega)
        have i1 : (m : Int) + 1 < (n : Int) + 1 := by omega
        have i2 : (0 : Int) ≤ (m : Int) + 1 := by omega
        have i3 : (m : Int) < (n : Int) + 1 := by omega
        have i4 : (0 : Int) ≤ (m : Int) := by omega
        have i5 : m < n + 1 := by omega
        clear htd
        rcases hkd with rfl | rfl | rfl
        all_goals
          go_upto_region 6 with (fail)
          go_still_tail 15, (by kernel_rfl)
          change wpList _ _ _ _ _ (World.drew wr)
          go_wp2_with (fail)
          refine ⟨⟨m, (m : Int) - 1, by omega, rfl, by omega, ?_⟩, by first | (simp [intOf]; done) | (simp [intOf]; omega)⟩
          rw [← HTF.out.2.1]
          exact ⟨(HK.out.1.put m _).drew, (HK.out.2.setCell (p := ⟨TB, m, none⟩) (Nat.le_of_eq HT.out.2.2.symm) _).drew⟩
end Go.Proofs.YtdbpgofabbpadaaDoor
