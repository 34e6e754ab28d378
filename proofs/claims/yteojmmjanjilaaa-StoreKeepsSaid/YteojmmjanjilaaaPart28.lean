/- Contract of chunk.Pack at short byte strings: it returns their packed form. · Contracts of the writing of letters, saved actors and parcels that are right. (Printed by mailio.py.) -/
import Derived.Test.YteojmmjanjilaaaPart5
import Derived.Test.YteojmmjanjilaaaPart24
set_option linter.unusedVariables false
namespace Go.Proofs.Yteojmmjanjilaaa
open Go.RowKit Go.Mem Go.Chunk

theorem packF_take_succ (l : List (List UInt8)) (k : Nat) (h : k < l.length) : packF (l.take (k + 1)) = packF (l.take k) ++ ([hi8 l[k].length, lo8 l[k].length] ++ l[k]) := by
  rw [List.take_succ_eq_append_getElem h, packF_append]
  simp [packF]
theorem packF_take_le (l : List (List UInt8)) (k : Nat) : (packF (l.take k)).length ≤ (packF l).length := by
  have := packF_append (l.take k) (l.drop k)
  rw [List.take_append_drop] at this
  rw [this, List.length_append]
  omega

theorem pack_step (l : List (List UInt8)) (k n1 : Nat) (hkl : k < l.length) (hn : n1 = l[k].length) (hsm : n1 ≤ 65535) {w : World} {base : Nat} {v : Value} 
    (h : w.ownsRow base 5 1 v ((packF (l.take k)).length + 2 + n1) (u8s (packF (l.take k)) ++ [.int .u8 ((n1 : Int) / 256), .int .u8 ((n1 : Int) % 256)] ++ u8s l[k])) :
    w.ownsRow base 5 1 v (packF (l.take (k + 1))).length (u8s (packF (l.take (k + 1)))) := by
  rw [packF_take_succ l k hkl]
  subst hn
  have e : u8s (packF (l.take k) ++ ([hi8 l[k].length, lo8 l[k].length] ++ l[k])) = u8s (packF (l.take k)) ++ [.int .u8 ((l[k].length : Int) / 256), .int .u8 ((l[k].length : Int) % 256)] ++ u8s l[k] := by
    simp [u8s, hi8, lo8]
    omega
  rw [e]
  have e2 : (packF (l.take k) ++ ([hi8 l[k].length, lo8 l[k].length] ++ l[k])).length = (packF (l.take k)).length + 2 + l[k].length := by simp; omega
  rw [e2]
  exact h

set_option maxRecDepth 100000 in
set_option maxHeartbeats 1000000 in
theorem pack_any (v : Value) (l : List (List UInt8)) (w : World) (hv : ListAt 1 BytesCell w Any v l)
    (hs : ∀ p ∈ l, p.length ≤ 65535) (ht : (packF l).length ≤ 65536) (hn : l.length ≤ 65536) :
    Calls Try.prog 52 #[v] w fun e w' => ∃ A c, e = .returned (.tuple #[.slice A (packF l).length c, .int .i64 0]) ∧ w'.ownsRow w.heap.size 5 1 (.slice A (packF l).length c) (packF l).length (u8s (packF l)) ∧ Below w.heap.size w w' := by
  obtain ⟨A, c, vss, rfl, _, _, hr, hl⟩ := hv
  obtain ⟨n, hnl⟩ : ∃ n, n = l.length := ⟨_, rfl⟩
  rw [← hnl] at hr hn ⊢
  have Hnl := Lib.hid hnl
  have HT := Lib.hid ht
  clear hnl ht
  go_enter Try.func52, Try.ntmps52
  go_wp2
  go_loopw [4, 9] (fun v i wr => ∃ k : Nat, k ≤ n ∧ i = .int .i64 k ∧ wr.ownsRow w.heap.size 5 1 v (packF (l.take k)).length (u8s (packF (l.take k))) ∧ Below w.heap.size w wr) (fun _ i _ => n - (intOf i).toNat)
  case atStart => exact ⟨0, Nat.zero_le _, rfl, World.ownsRow_nil _ _ _ _, Below.refl _ _⟩
  case round =>
    obtain ⟨k, hk, rfl, hown, hb⟩ := hrel
    by_cases hlt : k < n
    · have hkl : k < l.length := by have := Hnl.out; omega
      obtain ⟨b, off, cs, rfl, _, ⟨u, rfl, A1, n1, c1, rfl, hn1, hc1, hr1⟩, hc⟩ := hr.elem BytesCell.stable hl Hnl.out hkl
      have hc0 : wr.cell? ⟨b, off + k, none⟩ = some (.slice A1 n1 c1) := (Same.any (D := Any) hb).cell trivial (by simpa using hc 0 _ rfl)
      have hlen : n1 = l[k].length := by have := hr1.len; rwa [u8s_length] at this
      have hle := hs l[k] (List.getElem_mem hkl)
      have hsm : n1 ≤ 65535 := by omega
      have Hlen := Lib.hid hlen
      clear hlen hle hc
      have hpt := Lib.hid (packF_take_succ l k hkl)
      have hpl : (packF (l.take k)).length + n1 + 2 ≤ 65536 := by
        have h1 := packF_take_le l (k + 1)
        have h2 := HT.out
        have h3 := Hlen.out
        rw [hpt.out] at h1
        simp at h1
        omega
      go_wp2_with (first
        | (at_builtin; refine app_u8 _ rfl (.tmp 16) (.tmp 24) rfl (hown.alloc _) rfl (Reads.new (D := Any) _ [.int .u8 ((n1 : Int) / 256), .int .u8 ((n1 : Int) % 256)] 1 2 _ trivial rfl) rfl (by simp [Value.oneCell']) (by omega) (by have := hb.size; simp; omega) ?_; intro v1 w1 hown1 hg1 hat1; have hb1 : Below w.heap.size w w1 := (hb.alloc hb.size _).grown hg1 (by have := hb.size; simp; omega) (fun k hk => (hown.lt k hk).1))
        | (at_builtin; refine app_u8 _ rfl (.tmp 26) (.tmp 27) rfl hown1 rfl (hr1.keep (Same.any hb1)) rfl (u8s_one _) (by omega) (by have := hb1.size; omega) ?_; intro v2 w2 hown2 hg2 hat2))
      refine ⟨⟨k + 1, by omega, by go_num, pack_step l k n1 hkl Hlen.out hsm hown2, hb1.grown hg2 hb1.size (fun k hk => (hown1.lt k hk).1)⟩, by simp [intOf]; omega⟩
    · have hkn : k = l.length := by have := Hnl.out; omega
      have Hk := Lib.hid hkn
      clear hkn
      go_wp2
      go_ret2
      have := Hk.out
      subst this
      rw [List.take_length] at hown
      obtain ⟨A1, c1, rfl, _⟩ := own_form hown
      exact ⟨A1, c1, rfl, hown, hb⟩
end Go.Proofs.Yteojmmjanjilaaa
set_option linter.unusedVariables false
namespace Go.Mem
open Go.RowKit
theorem own_lower {w : World} {base base' : Nat} {e : TypeId} {size n : Nat} {v : Value} {xs : List Value} (hb : base' ≤ base) (h : w.ownsRow base e size v n xs) : w.ownsRow base' e size v n xs := by
  refine ⟨h.1, ?_⟩
  rcases h.2 with h | ⟨g, cap, cur, h1, h2, h3⟩
  · exact .inl h
  · exact .inr ⟨g, cap, cur, h1, by omega, h3⟩
end Go.Mem
namespace Go.Proofs.Yteojmmjanjilaaa
open Go.RowKit Go.Mem Go.Val

/-- bytes were written: they lie in a row of the call's own -/
def WrPost (w : World) (bs : List UInt8) (e : Ending) (w' : World) : Prop := ∃ A c, e = .returned (.tuple #[.slice A bs.length c, .int .i64 0]) ∧ w'.ownsRow w.heap.size 5 1 (.slice A bs.length c) bs.length (u8s bs) ∧ Below w.heap.size w w'

set_option maxRecDepth 100000 in
set_option maxHeartbeats 1000000 in
theorem writtenL_any (d : Nat) (x : L) (cs : List Value) (w : World) (hd : d ≤ 900) (hv : LCells d w Any cs x) (hg : GoodL d x) (hok : okL d x) (hx : (encL d x).length ≤ 1099511627776) :
    Calls Try.prog 68 #[.agg cs.toArray, .func (.func 48) #[] #[], .func (.func 65) #[] #[]] w (WrPost w (encL d x)) := by
  have Hg := Lib.hid hg
  have Hok := Lib.hid hok
  have Hx := Lib.hid hx
  clear hg hok hx
  obtain ⟨lk, lf, lt, ln, ls, X⟩ := x
  obtain ⟨vs, rfl, hfit, hvv⟩ := id hv
  obtain ⟨A4, c4, rfl⟩ := hvv.form
  obtain ⟨vk, vn, vt, va⟩ := X
  simp only [V.kind, V.num, V.text, V.args] at hv ⊢
  clear hvv hfit
  have hb1 := Blk.new w 55 [.int .i64 lk, .int .i64 lf, .int .i64 lt, .int .i64 ln, .string ls, .int .i64 vk, .int .i64 vn, .string vt, .slice A4 va.length c4]
  have hbel : Below w.heap.size w (w.alloc (.cells #[.int .i64 lk, .int .i64 lf, .int .i64 lt, .int .i64 ln, .string ls, .int .i64 vk, .int .i64 vn, .string vt, .slice A4 va.length c4] 55)) := (Below.refl _ _).alloc (Nat.le_refl _) _
  go_enter Try.func68, Try.ntmps68
  go_wp2_with (fail)
  generalize w.alloc (.cells #[.int .i64 lk, .int .i64 lf, .int .i64 lt, .int .i64 ln, .string ls, .int .i64 vk, .int .i64 vn, .string vt, .slice A4 va.length c4] 55) = W at hb1 hbel ⊢
  refine (checkL_any d ⟨lk, lf, lt, ln, ls, V.mk vk vn vt va⟩ [.int .i64 lk, .int .i64 lf, .int .i64 lt, .int .i64 ln, .string ls, .int .i64 vk, .int .i64 vn, .string vt, .slice A4 va.length c4] W hd ((LCells.stable d).keep hv (Same.any hbel)) Hg.out).mono ?_
  rintro e w1 ⟨rfl, hb2⟩
  have hw1 : Below w.heap.size w w1 := hbel.trans (hb2.mono hbel.size)
  have hbv := hb1.below hb2 hb1.lt
  have t0 := hbv.cell 0
  have t1 := hbv.cell 1
  have t2 := hbv.cell 2
  have t3 := hbv.cell 3
  have t4 := hbv.cell 4
  have t5 := hbv.cell 5
  have t6 := hbv.cell 6
  have t7 := hbv.cell 7
  have t8 := hbv.cell 8
  simp only [List.getElem?_cons_succ, List.getElem?_cons_zero] at t0 t1 t2 t3 t4 t5 t6 t7 t8
  have lbv := hbv.lt
  clear hb1 hbv hb2
  go_wp2_with (fail)
  refine (al_any d (.slice none 0 0) ⟨lk, lf, lt, ln, ls, V.mk vk vn vt va⟩ [.int .i64 lk, .int .i64 lf, .int .i64 lt, .int .i64 ln, .string ls, .int .i64 vk, .int .i64 vn, .string vt, .slice A4 va.length c4] [] w.heap.size w1 (World.ownsRow_nil _ _ _ _) hw1.size ((LCells.stable d).imp ((LCells.stable d).keep hv (Same.any hw1)) fun _ _ _ => by simp [Value.ownBlock]) Hok.out.1 Hok.out.2.1 Hok.out.2.2.1 Hok.out.2.2.2.1 (by have := Hx.out; simpa using this)).mono ?_
  rintro e w2 ⟨A9, c9, rfl, hg2⟩
  generalize hL : (encL d ⟨lk, lf, lt, ln, ls, V.mk vk vn vt va⟩) = Y at hg2 ⊢
  have HY := Lib.hid hL
  clear hL
  go_wp2_with (fail)
  go_ret2
  have hg3 : Below w.heap.size w w2 := hw1.grown hg2.2.1 hw1.size (by simp [Value.ownBlock])
  have e9 := HY.out
  subst e9
  exact ⟨A9, c9, by simp, by simpa using hg2.1, hg3⟩

set_option maxRecDepth 100000 in
set_option maxHeartbeats 1000000 in
theorem bytesL_any (d : Nat) (x : L) (cs : List Value) (w : World) (hd : d ≤ 900) (hv : LCells d w Any cs x) (hg : GoodL d x) (hok : okL d x) (hx : (encL d x).length ≤ 1099511627776) :
    Calls Try.prog 51 #[.agg cs.toArray] w (WrPost w (encL d x)) := by
  have Hg := Lib.hid hg
  have Hok := Lib.hid hok
  have Hx := Lib.hid hx
  clear hg hok hx
  obtain ⟨lk, lf, lt, ln, ls, X⟩ := x
  obtain ⟨vs, rfl, hfit, hvv⟩ := id hv
  obtain ⟨A4, c4, rfl⟩ := hvv.form
  obtain ⟨vk, vn, vt, va⟩ := X
  simp only [V.kind, V.num, V.text, V.args] at hv ⊢
  clear hvv hfit
  have hbel : Below w.heap.size w (w.alloc (.cells #[.int .i64 lk, .int .i64 lf, .int .i64 lt, .int .i64 ln, .string ls, .int .i64 vk, .int .i64 vn, .string vt, .slice A4 va.length c4] 55)) := (Below.refl _ _).alloc (Nat.le_refl _) _
  go_enter Try.func51, Try.ntmps51
  go_wp2_with (fail)
  generalize w.alloc (.cells #[.int .i64 lk, .int .i64 lf, .int .i64 lt, .int .i64 ln, .string ls, .int .i64 vk, .int .i64 vn, .string vt, .slice A4 va.length c4] 55) = W at hbel ⊢
  refine (writtenL_any d ⟨lk, lf, lt, ln, ls, V.mk vk vn vt va⟩ [.int .i64 lk, .int .i64 lf, .int .i64 lt, .int .i64 ln, .string ls, .int .i64 vk, .int .i64 vn, .string vt, .slice A4 va.length c4] W hd ((LCells.stable d).keep hv (Same.any hbel)) Hg.out Hok.out Hx.out).mono ?_
  rintro e w1 ⟨A9, c9, rfl, ho, hb1⟩
  generalize hL : (encL d ⟨lk, lf, lt, ln, ls, V.mk vk vn vt va⟩) = Y at ho ⊢
  have HY := Lib.hid hL
  clear hL
  have hw1 : Below w.heap.size w w1 := hbel.trans (hb1.mono hbel.size)
  have hsz := hbel.size
  go_wp2_with (fail)
  go_ret2
  have e9 := HY.out
  subst e9
  exact ⟨A9, c9, rfl, own_lower hsz ho, hw1⟩

set_option maxRecDepth 100000 in
set_option maxHeartbeats 1000000 in
theorem writtenP_any (d : Nat) (x : Pc) (cs : List Value) (w : World) (hd : d ≤ 900) (hv : PcCells d w Any cs x) (hg : GoodP d x) (hok : okP d x) (hx : (encP d x).length ≤ 1099511627776) :
    Calls Try.prog 49 #[.agg cs.toArray, .func (.func 45) #[] #[], .func (.func 50) #[] #[]] w (WrPost w (encP d x)) := by
  have Hg := Lib.hid hg
  have Hok := Lib.hid hok
  have Hx := Lib.hid hx
  clear hg hok hx
  obtain ⟨pr, ⟨sa, ss, si⟩, pb, pt, pw, pl⟩ := x
  obtain ⟨sv, A3, c3, vs3, A4, c4, A5, c5, rfl, _, _, hsv, _⟩ := id hv
  obtain ⟨A1, c1, vs1, A2, c2, vs2, rfl, _⟩ := id hsv
  simp only [List.cons_append, List.nil_append] at hv ⊢
  clear hsv
  have hb1 := Blk.new w 48 [.int .i64 pr, .string sa, .slice A1 ss.length c1, .slice A2 si.length c2, .slice A3 pb.length c3, .int .i64 pt, .slice A4 pw.length c4, .slice A5 pl.length c5]
  have hbel : Below w.heap.size w (w.alloc (.cells #[.int .i64 pr, .string sa, .slice A1 ss.length c1, .slice A2 si.length c2, .slice A3 pb.length c3, .int .i64 pt, .slice A4 pw.length c4, .slice A5 pl.length c5] 48)) := (Below.refl _ _).alloc (Nat.le_refl _) _
  go_enter Try.func49, Try.ntmps49
  go_wp2_with (fail)
  generalize w.alloc (.cells #[.int .i64 pr, .string sa, .slice A1 ss.length c1, .slice A2 si.length c2, .slice A3 pb.length c3, .int .i64 pt, .slice A4 pw.length c4, .slice A5 pl.length c5] 48) = W at hb1 hbel ⊢
  refine (checkP_any d ⟨pr, ⟨sa, ss, si⟩, pb, pt, pw, pl⟩ [.int .i64 pr, .string sa, .slice A1 ss.length c1, .slice A2 si.length c2, .slice A3 pb.length c3, .int .i64 pt, .slice A4 pw.length c4, .slice A5 pl.length c5] W hd ((PcCells.stable d).keep hv (Same.any hbel)) Hg.out).mono ?_
  rintro e w1 ⟨rfl, hb2⟩
  have hw1 : Below w.heap.size w w1 := hbel.trans (hb2.mono hbel.size)
  have hbv := hb1.below hb2 hb1.lt
  have t0 := hbv.cell 0
  have t1 := hbv.cell 1
  have t2 := hbv.cell 2
  have t3 := hbv.cell 3
  have t4 := hbv.cell 4
  have t5 := hbv.cell 5
  have t6 := hbv.cell 6
  have t7 := hbv.cell 7
  simp only [List.getElem?_cons_succ, List.getElem?_cons_zero] at t0 t1 t2 t3 t4 t5 t6 t7
  have lbv := hbv.lt
  clear hb1 hbv hb2
  go_wp2_with (fail)
  refine (ap_any d (.slice none 0 0) ⟨pr, ⟨sa, ss, si⟩, pb, pt, pw, pl⟩ [.int .i64 pr, .string sa, .slice A1 ss.length c1, .slice A2 si.length c2, .slice A3 pb.length c3, .int .i64 pt, .slice A4 pw.length c4, .slice A5 pl.length c5] [] w.heap.size w1 (World.ownsRow_nil _ _ _ _) hw1.size ((PcCells.stable d).imp ((PcCells.stable d).keep hv (Same.any hw1)) fun _ _ _ => by simp [Value.ownBlock]) Hok.out.1 (fun x hx => (Hok.out.2.1.2.2.2 x hx).1) (fun x hx => ⟨(Hok.out.2.2.1.2 x hx).1, (Hok.out.2.2.1.2 x hx).2.1, (Hok.out.2.2.1.2 x hx).2.2.1, (Hok.out.2.2.1.2 x hx).2.2.2.1⟩) Hok.out.2.2.2.2.1.2 Hok.out.2.2.2.2.2.2 (by have := Hx.out; simpa using this)).mono ?_
  rintro e w2 ⟨A9, c9, rfl, hg2⟩
  generalize hL : (encP d ⟨pr, ⟨sa, ss, si⟩, pb, pt, pw, pl⟩) = Y at hg2 ⊢
  have HY := Lib.hid hL
  clear hL
  go_wp2_with (fail)
  go_ret2
  have hg3 : Below w.heap.size w w2 := hw1.grown hg2.2.1 hw1.size (by simp [Value.ownBlock])
  have e9 := HY.out
  subst e9
  exact ⟨A9, c9, by simp, by simpa using hg2.1, hg3⟩

set_option maxRecDepth 100000 in
set_option maxHeartbeats 1000000 in
theorem bytesP_any (d : Nat) (x : Pc) (cs : List Value) (w : World) (hd : d ≤ 900) (hv : PcCells d w Any cs x) (hg : GoodP d x) (hok : okP d x) (hx : (encP d x).length ≤ 1099511627776) :
    Calls Try.prog 31 #[.agg cs.toArray] w (WrPost w (encP d x)) := by
  have Hg := Lib.hid hg
  have Hok := Lib.hid hok
  have Hx := Lib.hid hx
  clear hg hok hx
  obtain ⟨pr, ⟨sa, ss, si⟩, pb, pt, pw, pl⟩ := x
  obtain ⟨sv, A3, c3, vs3, A4, c4, A5, c5, rfl, _, _, hsv, _⟩ := id hv
  obtain ⟨A1, c1, vs1, A2, c2, vs2, rfl, _⟩ := id hsv
  simp only [List.cons_append, List.nil_append] at hv ⊢
  clear hsv
  have hbel : Below w.heap.size w (w.alloc (.cells #[.int .i64 pr, .string sa, .slice A1 ss.length c1, .slice A2 si.length c2, .slice A3 pb.length c3, .int .i64 pt, .slice A4 pw.length c4, .slice A5 pl.length c5] 48)) := (Below.refl _ _).alloc (Nat.le_refl _) _
  go_enter Try.func31, Try.ntmps31
  go_wp2_with (fail)
  generalize w.alloc (.cells #[.int .i64 pr, .string sa, .slice A1 ss.length c1, .slice A2 si.length c2, .slice A3 pb.length c3, .int .i64 pt, .slice A4 pw.length c4, .slice A5 pl.length c5] 48) = W at hbel ⊢
  refine (writtenP_any d ⟨pr, ⟨sa, ss, si⟩, pb, pt, pw, pl⟩ [.int .i64 pr, .string sa, .slice A1 ss.length c1, .slice A2 si.length c2, .slice A3 pb.length c3, .int .i64 pt, .slice A4 pw.length c4, .slice A5 pl.length c5] W hd ((PcCells.stable d).keep hv (Same.any hbel)) Hg.out Hok.out Hx.out).mono ?_
  rintro e w1 ⟨A9, c9, rfl, ho, hb1⟩
  generalize hL : (encP d ⟨pr, ⟨sa, ss, si⟩, pb, pt, pw, pl⟩) = Y at ho ⊢
  have HY := Lib.hid hL
  clear hL
  have hw1 : Below w.heap.size w w1 := hbel.trans (hb1.mono hbel.size)
  have hsz := hbel.size
  go_wp2_with (fail)
  go_ret2
  have e9 := HY.out
  subst e9
  exact ⟨A9, c9, rfl, own_lower hsz ho, hw1⟩
end Go.Proofs.Yteojmmjanjilaaa
