/- Contracts of the writing of letters, saved actors and parcels that are right. (Printed by mailio.py.) -/
import Derived.Test.YtgcpclbkjplipaaMailChkP
set_option linter.unusedVariables false
namespace Go.Mem
open Go.RowKit
theorem own_lower {w : World} {base base' : Nat} {e : TypeId} {size n : Nat} {v : Value} {xs : List Value} (hb : base' ≤ base) (h : w.ownsRow base e size v n xs) : w.ownsRow base' e size v n xs := by
  refine ⟨h.1, ?_⟩
  rcases h.2 with h | ⟨g, cap, cur, h1, h2, h3⟩
  · exact .inl h
  · exact .inr ⟨g, cap, cur, h1, by omega, h3⟩
end Go.Mem
namespace Go.Proofs.Ytgcpclbkjplipaa
open Go.RowKit Go.Mem Go.Val

/-- bytes were written: they lie in a row of the call's own -/
def WrPost (w : World) (bs : List UInt8) (e : Ending) (w' : World) : Prop := ∃ A c, e = .returned (.tuple #[.slice A bs.length c, .int .i64 0]) ∧ w'.ownsRow w.heap.size 5 1 (.slice A bs.length c) bs.length (u8s bs) ∧ Below w.heap.size w w'

set_option maxRecDepth 100000 in
set_option maxHeartbeats 1000000 in
theorem writtenL_any (d : Nat) (x : L) (cs : List Value) (w : World) (hd : d ≤ 900) (hv : LCells d w Any cs x) (hg : GoodL d x) (hok : okL d x) (hx : (encL d x).length ≤ 1099511627776) :
    Calls Try.prog 63 #[.agg cs.toArray, .func (.func 64) #[] #[], .func (.func 65) #[] #[]] w (WrPost w (encL d x)) := by
  have Hg := Lib.hid hg
  have Hok := Lib.hid hok
  have Hx := Lib.hid hx
  clear hg hok hx
  obtain ⟨lk, lf, lt, ln, ls, X⟩ := x
  obtain ⟨vs, rfl, hfit, hvv⟩ := id hv
  obtain ⟨A4, c4, rfl⟩ := hvv.form
  obtain ⟨vk, vn, vt, va⟩ := X
  simp only [V.kind, V.num, V.text, V.args] at hv ⊢
  clear hvv hfit
  have hb1 := Blk.new w 61 [.int .i64 lk, .int .i64 lf, .int .i64 lt, .int .i64 ln, .string ls, .int .i64 vk, .int .i64 vn, .string vt, .slice A4 va.length c4]
  have hbel : Below w.heap.size w (w.alloc (.cells #[.int .i64 lk, .int .i64 lf, .int .i64 lt, .int .i64 ln, .string ls, .int .i64 vk, .int .i64 vn, .string vt, .slice A4 va.length c4] 61)) := (Below.refl _ _).alloc (Nat.le_refl _) _
  go_enter Try.func63, Try.ntmps63
  go_wp2_with (fail)
  generalize w.alloc (.cells #[.int .i64 lk, .int .i64 lf, .int .i64 lt, .int .i64 ln, .string ls, .int .i64 vk, .int .i64 vn, .string vt, .slice A4 va.length c4] 61) = W at hb1 hbel ⊢
  refine (checkL_any d ⟨lk, lf, lt, ln, ls, V.mk vk vn vt va⟩ [.int .i64 lk, .int .i64 lf, .int .i64 lt, .int .i64 ln, .string ls, .int .i64 vk, .int .i64 vn, .string vt, .slice A4 va.length c4] W hd ((LCells.stable d).keep hv (Same.any hbel)) Hg.out).mono ?_
  rintro e w1 ⟨rfl, hb2⟩
  have hw1 : Below w.heap.size w w1 := hbel.trans (hb2.mono hbel.size)
  have hbv := hb1.below hb2 hb1.lt
  have t0 := hbv.cell 0
  have t1 := hbv.cell 1
  have t2 := hbv.cell 2
  have t3 := hbv.cell 3
  have t4 := hbv.cell 4
  have t5 := hbv.cell 5
  have t6 := hbv.cell 6
  have t7 := hbv.cell 7
  have t8 := hbv.cell 8
  simp only [List.getElem?_cons_succ, List.getElem?_cons_zero] at t0 t1 t2 t3 t4 t5 t6 t7 t8
  have lbv := hbv.lt
  clear hb1 hbv hb2
  go_wp2_with (fail)
  refine (al_any d (.slice none 0 0) ⟨lk, lf, lt, ln, ls, V.mk vk vn vt va⟩ [.int .i64 lk, .int .i64 lf, .int .i64 lt, .int .i64 ln, .string ls, .int .i64 vk, .int .i64 vn, .string vt, .slice A4 va.length c4] [] w.heap.size w1 (World.ownsRow_nil _ _ _ _) hw1.size ((LCells.stable d).imp ((LCells.stable d).keep hv (Same.any hw1)) fun _ _ _ => by simp [Value.ownBlock]) Hok.out.1 Hok.out.2.1 Hok.out.2.2.1 Hok.out.2.2.2.1 (by have := Hx.out; simpa using this)).mono ?_
  rintro e w2 ⟨A9, c9, rfl, hg2⟩
  generalize hL : (encL d ⟨lk, lf, lt, ln, ls, V.mk vk vn vt va⟩) = Y at hg2 ⊢
  have HY := Lib.hid hL
  clear hL
  go_wp2_with (fail)
  go_ret2
  have hg3 : Below w.heap.size w w2 := hw1.grown hg2.2.1 hw1.size (by simp [Value.ownBlock])
  have e9 := HY.out
  subst e9
  exact ⟨A9, c9, by simp, by simpa using hg2.1, hg3⟩

set_option maxRecDepth 100000 in
set_option maxHeartbeats 1000000 in
theorem bytesL_any (d : Nat) (x : L) (cs : List Value) (w : World) (hd : d ≤ 900) (hv : LCells d w Any cs x) (hg : GoodL d x) (hok : okL d x) (hx : (encL d x).length ≤ 1099511627776) :
    Calls Try.prog 33 #[.agg cs.toArray] w (WrPost w (encL d x)) := by
  have Hg := Lib.hid hg
  have Hok := Lib.hid hok
  have Hx := Lib.hid hx
  clear hg hok hx
  obtain ⟨lk, lf, lt, ln, ls, X⟩ := x
  obtain ⟨vs, rfl, hfit, hvv⟩ := id hv
  obtain ⟨A4, c4, rfl⟩ := hvv.form
  obtain ⟨vk, vn, vt, va⟩ := X
  simp only [V.kind, V.num, V.text, V.args] at hv ⊢
  clear hvv hfit
  have hbel : Below w.heap.size w (w.alloc (.cells #[.int .i64 lk, .int .i64 lf, .int .i64 lt, .int .i64 ln, .string ls, .int .i64 vk, .int .i64 vn, .string vt, .slice A4 va.length c4] 61)) := (Below.refl _ _).alloc (Nat.le_refl _) _
  go_enter Try.func33, Try.ntmps33
  go_wp2_with (fail)
  generalize w.alloc (.cells #[.int .i64 lk, .int .i64 lf, .int .i64 lt, .int .i64 ln, .string ls, .int .i64 vk, .int .i64 vn, .string vt, .slice A4 va.length c4] 61) = W at hbel ⊢
  refine (writtenL_any d ⟨lk, lf, lt, ln, ls, V.mk vk vn vt va⟩ [.int .i64 lk, .int .i64 lf, .int .i64 lt, .int .i64 ln, .string ls, .int .i64 vk, .int .i64 vn, .string vt, .slice A4 va.length c4] W hd ((LCells.stable d).keep hv (Same.any hbel)) Hg.out Hok.out Hx.out).mono ?_
  rintro e w1 ⟨A9, c9, rfl, ho, hb1⟩
  generalize hL : (encL d ⟨lk, lf, lt, ln, ls, V.mk vk vn vt va⟩) = Y at ho ⊢
  have HY := Lib.hid hL
  clear hL
  have hw1 : Below w.heap.size w w1 := hbel.trans (hb1.mono hbel.size)
  have hsz := hbel.size
  go_wp2_with (fail)
  go_ret2
  have e9 := HY.out
  subst e9
  exact ⟨A9, c9, rfl, own_lower hsz ho, hw1⟩

set_option maxRecDepth 100000 in
set_option maxHeartbeats 1000000 in
theorem writtenS_any (d : Nat) (x : Sv) (cs : List Value) (w : World) (hd : d ≤ 900) (hv : SvCells d w Any cs x) (hg : GoodS d x) (hok : okSv d x) (hx : (encS d x).length ≤ 1099511627776) :
    Calls Try.prog 73 #[.agg cs.toArray, .func (.func 74) #[] #[], .func (.func 75) #[] #[]] w (WrPost w (encS d x)) := by
  have Hg := Lib.hid hg
  have Hok := Lib.hid hok
  have Hx := Lib.hid hx
  clear hg hok hx
  obtain ⟨sa, ss, si⟩ := x
  obtain ⟨A1, c1, vs1, A2, c2, vs2, rfl, _⟩ := id hv
  simp only at hv ⊢
  have hb1 := Blk.new w 65 [.string sa, .slice A1 ss.length c1, .slice A2 si.length c2]
  have hbel : Below w.heap.size w (w.alloc (.cells #[.string sa, .slice A1 ss.length c1, .slice A2 si.length c2] 65)) := (Below.refl _ _).alloc (Nat.le_refl _) _
  go_enter Try.func73, Try.ntmps73
  go_wp2_with (fail)
  generalize w.alloc (.cells #[.string sa, .slice A1 ss.length c1, .slice A2 si.length c2] 65) = W at hb1 hbel ⊢
  refine (checkS_any d ⟨sa, ss, si⟩ [.string sa, .slice A1 ss.length c1, .slice A2 si.length c2] W hd ((SvCells.stable d).keep hv (Same.any hbel)) Hg.out).mono ?_
  rintro e w1 ⟨rfl, hb2⟩
  have hw1 : Below w.heap.size w w1 := hbel.trans (hb2.mono hbel.size)
  have hbv := hb1.below hb2 hb1.lt
  have t0 := hbv.cell 0
  have t1 := hbv.cell 1
  have t2 := hbv.cell 2
  simp only [List.getElem?_cons_succ, List.getElem?_cons_zero] at t0 t1 t2
  have lbv := hbv.lt
  clear hb1 hbv hb2
  go_wp2_with (fail)
  refine (as_any d (.slice none 0 0) ⟨sa, ss, si⟩ [.string sa, .slice A1 ss.length c1, .slice A2 si.length c2] [] w.heap.size w1 (World.ownsRow_nil _ _ _ _) hw1.size ((SvCells.stable d).imp ((SvCells.stable d).keep hv (Same.any hw1)) fun _ _ _ => by simp [Value.ownBlock]) (fun x hx => (Hok.out.2.2.2 x hx).1) (by have := Hx.out; simpa using this)).mono ?_
  rintro e w2 ⟨A9, c9, rfl, hg2⟩
  generalize hL : (encS d ⟨sa, ss, si⟩) = Y at hg2 ⊢
  have HY := Lib.hid hL
  clear hL
  go_wp2_with (fail)
  go_ret2
  have hg3 : Below w.heap.size w w2 := hw1.grown hg2.2.1 hw1.size (by simp [Value.ownBlock])
  have e9 := HY.out
  subst e9
  exact ⟨A9, c9, by simp, by simpa using hg2.1, hg3⟩

set_option maxRecDepth 100000 in
set_option maxHeartbeats 1000000 in
theorem bytesS_any (d : Nat) (x : Sv) (cs : List Value) (w : World) (hd : d ≤ 900) (hv : SvCells d w Any cs x) (hg : GoodS d x) (hok : okSv d x) (hx : (encS d x).length ≤ 1099511627776) :
    Calls Try.prog 37 #[.agg cs.toArray] w (WrPost w (encS d x)) := by
  have Hg := Lib.hid hg
  have Hok := Lib.hid hok
  have Hx := Lib.hid hx
  clear hg hok hx
  obtain ⟨sa, ss, si⟩ := x
  obtain ⟨A1, c1, vs1, A2, c2, vs2, rfl, _⟩ := id hv
  simp only at hv ⊢
  have hbel : Below w.heap.size w (w.alloc (.cells #[.string sa, .slice A1 ss.length c1, .slice A2 si.length c2] 65)) := (Below.refl _ _).alloc (Nat.le_refl _) _
  go_enter Try.func37, Try.ntmps37
  go_wp2_with (fail)
  generalize w.alloc (.cells #[.string sa, .slice A1 ss.length c1, .slice A2 si.length c2] 65) = W at hbel ⊢
  refine (writtenS_any d ⟨sa, ss, si⟩ [.string sa, .slice A1 ss.length c1, .slice A2 si.length c2] W hd ((SvCells.stable d).keep hv (Same.any hbel)) Hg.out Hok.out Hx.out).mono ?_
  rintro e w1 ⟨A9, c9, rfl, ho, hb1⟩
  generalize hL : (encS d ⟨sa, ss, si⟩) = Y at ho ⊢
  have HY := Lib.hid hL
  clear hL
  have hw1 : Below w.heap.size w w1 := hbel.trans (hb1.mono hbel.size)
  have hsz := hbel.size
  go_wp2_with (fail)
  go_ret2
  have e9 := HY.out
  subst e9
  exact ⟨A9, c9, rfl, own_lower hsz ho, hw1⟩

set_option maxRecDepth 100000 in
set_option maxHeartbeats 1000000 in
theorem writtenP_any (d : Nat) (x : Pc) (cs : List Value) (w : World) (hd : d ≤ 900) (hv : PcCells d w Any cs x) (hg : GoodP d x) (hok : okP d x) (hx : (encP d x).length ≤ 1099511627776) :
    Calls Try.prog 68 #[.agg cs.toArray, .func (.func 69) #[] #[], .func (.func 70) #[] #[]] w (WrPost w (encP d x)) := by
  have Hg := Lib.hid hg
  have Hok := Lib.hid hok
  have Hx := Lib.hid hx
  clear hg hok hx
  obtain ⟨pr, ⟨sa, ss, si⟩, pb, pt, pw, pl⟩ := x
  obtain ⟨sv, A3, c3, vs3, A4, c4, A5, c5, rfl, _, _, hsv, _⟩ := id hv
  obtain ⟨A1, c1, vs1, A2, c2, vs2, rfl, _⟩ := id hsv
  simp only [List.cons_append, List.nil_append] at hv ⊢
  clear hsv
  have hb1 := Blk.new w 68 [.int .i64 pr, .string sa, .slice A1 ss.length c1, .slice A2 si.length c2, .slice A3 pb.length c3, .int .i64 pt, .slice A4 pw.length c4, .slice A5 pl.length c5]
  have hbel : Below w.heap.size w (w.alloc (.cells #[.int .i64 pr, .string sa, .slice A1 ss.length c1, .slice A2 si.length c2, .slice A3 pb.length c3, .int .i64 pt, .slice A4 pw.length c4, .slice A5 pl.length c5] 68)) := (Below.refl _ _).alloc (Nat.le_refl _) _
  go_enter Try.func68, Try.ntmps68
  go_wp2_with (fail)
  generalize w.alloc (.cells #[.int .i64 pr, .string sa, .slice A1 ss.length c1, .slice A2 si.length c2, .slice A3 pb.length c3, .int .i64 pt, .slice A4 pw.length c4, .slice A5 pl.length c5] 68) = W at hb1 hbel ⊢
  refine (checkP_any d ⟨pr, ⟨sa, ss, si⟩, pb, pt, pw, pl⟩ [.int .i64 pr, .string sa, .slice A1 ss.length c1, .slice A2 si.length c2, .slice A3 pb.length c3, .int .i64 pt, .slice A4 pw.length c4, .slice A5 pl.length c5] W hd ((PcCells.stable d).keep hv (Same.any hbel)) Hg.out).mono ?_
  rintro e w1 ⟨rfl, hb2⟩
  have hw1 : Below w.heap.size w w1 := hbel.trans (hb2.mono hbel.size)
  have hbv := hb1.below hb2 hb1.lt
  have t0 := hbv.cell 0
  have t1 := hbv.cell 1
  have t2 := hbv.cell 2
  have t3 := hbv.cell 3
  have t4 := hbv.cell 4
  have t5 := hbv.cell 5
  have t6 := hbv.cell 6
  have t7 := hbv.cell 7
  simp only [List.getElem?_cons_succ, List.getElem?_cons_zero] at t0 t1 t2 t3 t4 t5 t6 t7
  have lbv := hbv.lt
  clear hb1 hbv hb2
  go_wp2_with (fail)
  refine (ap_any d (.slice none 0 0) ⟨pr, ⟨sa, ss, si⟩, pb, pt, pw, pl⟩ [.int .i64 pr, .string sa, .slice A1 ss.length c1, .slice A2 si.length c2, .slice A3 pb.length c3, .int .i64 pt, .slice A4 pw.length c4, .slice A5 pl.length c5] [] w.heap.size w1 (World.ownsRow_nil _ _ _ _) hw1.size ((PcCells.stable d).imp ((PcCells.stable d).keep hv (Same.any hw1)) fun _ _ _ => by simp [Value.ownBlock]) Hok.out.1 (fun x hx => (Hok.out.2.1.2.2.2 x hx).1) (fun x hx => ⟨(Hok.out.2.2.1.2 x hx).1, (Hok.out.2.2.1.2 x hx).2.1, (Hok.out.2.2.1.2 x hx).2.2.1, (Hok.out.2.2.1.2 x hx).2.2.2.1⟩) Hok.out.2.2.2.2.1.2 Hok.out.2.2.2.2.2.2 (by have := Hx.out; simpa using this)).mono ?_
  rintro e w2 ⟨A9, c9, rfl, hg2⟩
  generalize hL : (encP d ⟨pr, ⟨sa, ss, si⟩, pb, pt, pw, pl⟩) = Y at hg2 ⊢
  have HY := Lib.hid hL
  clear hL
  go_wp2_with (fail)
  go_ret2
  have hg3 : Below w.heap.size w w2 := hw1.grown hg2.2.1 hw1.size (by simp [Value.ownBlock])
  have e9 := HY.out
  subst e9
  exact ⟨A9, c9, by simp, by simpa using hg2.1, hg3⟩

set_option maxRecDepth 100000 in
set_option maxHeartbeats 1000000 in
theorem bytesP_any (d : Nat) (x : Pc) (cs : List Value) (w : World) (hd : d ≤ 900) (hv : PcCells d w Any cs x) (hg : GoodP d x) (hok : okP d x) (hx : (encP d x).length ≤ 1099511627776) :
    Calls Try.prog 35 #[.agg cs.toArray] w (WrPost w (encP d x)) := by
  have Hg := Lib.hid hg
  have Hok := Lib.hid hok
  have Hx := Lib.hid hx
  clear hg hok hx
  obtain ⟨pr, ⟨sa, ss, si⟩, pb, pt, pw, pl⟩ := x
  obtain ⟨sv, A3, c3, vs3, A4, c4, A5, c5, rfl, _, _, hsv, _⟩ := id hv
  obtain ⟨A1, c1, vs1, A2, c2, vs2, rfl, _⟩ := id hsv
  simp only [List.cons_append, List.nil_append] at hv ⊢
  clear hsv
  have hbel : Below w.heap.size w (w.alloc (.cells #[.int .i64 pr, .string sa, .slice A1 ss.length c1, .slice A2 si.length c2, .slice A3 pb.length c3, .int .i64 pt, .slice A4 pw.length c4, .slice A5 pl.length c5] 68)) := (Below.refl _ _).alloc (Nat.le_refl _) _
  go_enter Try.func35, Try.ntmps35
  go_wp2_with (fail)
  generalize w.alloc (.cells #[.int .i64 pr, .string sa, .slice A1 ss.length c1, .slice A2 si.length c2, .slice A3 pb.length c3, .int .i64 pt, .slice A4 pw.length c4, .slice A5 pl.length c5] 68) = W at hbel ⊢
  refine (writtenP_any d ⟨pr, ⟨sa, ss, si⟩, pb, pt, pw, pl⟩ [.int .i64 pr, .string sa, .slice A1 ss.length c1, .slice A2 si.length c2, .slice A3 pb.length c3, .int .i64 pt, .slice A4 pw.length c4, .slice A5 pl.length c5] W hd ((PcCells.stable d).keep hv (Same.any hbel)) Hg.out Hok.out Hx.out).mono ?_
  rintro e w1 ⟨A9, c9, rfl, ho, hb1⟩
  generalize hL : (encP d ⟨pr, ⟨sa, ss, si⟩, pb, pt, pw, pl⟩) = Y at ho ⊢
  have HY := Lib.hid hL
  clear hL
  have hw1 : Below w.heap.size w w1 := hbel.trans (hb1.mono hbel.size)
  have hsz := hbel.size
  go_wp2_with (fail)
  go_ret2
  have e9 := HY.out
  subst e9
  exact ⟨A9, c9, rfl, own_lower hsz ho, hw1⟩
end Go.Proofs.Ytgcpclbkjplipaa
