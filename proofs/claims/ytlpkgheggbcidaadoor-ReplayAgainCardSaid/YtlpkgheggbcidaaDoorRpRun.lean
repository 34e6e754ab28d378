/- Contract of the toys' Run. -/
import Derived.Test.YtlpkgheggbcidaaDoorRpToy
set_option linter.unusedVariables false
namespace Go.Rp
open Go.Mem Go.RowKit
def outC (o : Ot) (la : Value) : List Value := [.int .i64 o.kd, .int .i64 o.nm, bst o.tx, .int .i64 o.vl.kd, .int .i64 o.vl.nm, .string ⟨#[]⟩, .slice none 0 0, la]
theorem sets_all (cs vs : List Value) (h : cs.length = vs.length) : sets cs 0 vs = vs := by
  apply List.ext_getElem?
  intro j
  rw [sets_at vs cs 0 (by omega) j]
  by_cases hj : j < vs.length
  · rw [if_pos ⟨Nat.zero_le _, by omega⟩]
    rfl
  · rw [if_neg (by omega), List.getElem?_eq_none (by omega), List.getElem?_eq_none (by omega)]
theorem blk_fars {g R : Nat} {t : TypeId} {cs : List Value} (hne : g ≠ R) : ∀ (vs : List Value) (o : Nat) {w : World}, Blk w g t cs → Blk (w.setCells R o vs) g t cs
  | [], o, w, h => h
  | v :: r, o, w, h => blk_fars hne r (o + 1) (h.far (p := ⟨R, o, none⟩) hne v)
end Go.Rp
namespace Go.Proofs.YtlpkgheggbcidaaDoor
open Go.RowKit Go.Mem Go.Rp
/-- what Run hands back, and leaves -/
def RunPost (w : World) (B T : Nat) (t' : Ty) (o : Ot) (e : Ending) (w' : World) : Prop :=
  ∃ la, e = .returned (outV o la) ∧ ToyAt w' B T t' ∧ w.grownBy w' (some T) ∧ (∃ LA ln lc, la = .slice LA ln lc) ∧ (o.kd = 4 → ∃ g v, la = .slice (some ⟨g, 0, none⟩) 1 1 ∧ o.ar = [v] ∧ w.heap.size ≤ g ∧ Blk w' g 56 (vlC v))
theorem run_ret {w w1 W : World} {a : Act} {B T R c : Nat} {A LA : Option Addr} {ln lc : Nat} {t' : Ty} {o : Ot} {os : List Value}
    (hp : a.tmps.getD 4 undef = .pointer (some ⟨R, 0, none⟩)) (hd : a.defers = []) (hW : W = w1.setCells R 0 (outC o (.slice LA ln lc)))
    (hb : ∃ LA' ln' lc', Blk w1 T 168 (tyC A c t' (.slice LA' ln' lc'))) (hR : Blk w1 R 101 os) (hos : os.length = 8) (hg : w.grownBy w1 (some T)) (hs : ScAt w B A c t'.sc) (hT : B ≤ T) (hlt : T < w.heap.size) (hRw : w.heap.size ≤ R)
    (h4 : t'.waits = true → t'.last.kd ≠ 4) (ho : o.kd = 4 → ∃ g v, (Value.slice LA ln lc) = .slice (some ⟨g, 0, none⟩) 1 1 ∧ o.ar = [v] ∧ w.heap.size ≤ g ∧ Blk w1 g 56 (vlC v)) :
    bodyPost Tryd.prog Tryd.f107 (RunPost w B T t' o) .ret a W := by
  subst hW
  obtain ⟨LA', ln', lc', hb⟩ := hb
  have hg2 := grownBy_setCells R (outC o (.slice LA ln lc)) 0 w1
  have hgw : w.grownBy (w1.setCells R 0 (outC o (.slice LA ln lc))) (some T) := grownBy_far hg hg2 fun i hi => by injection hi; omega
  have hne : T ≠ R := by omega
  have hRb := hR.puts (outC o (.slice LA ln lc)) 0
  rw [sets_all os (outC o (.slice LA ln lc)) (by rw [hos]; rfl)] at hRb
  refine ret_blk (g := R) rfl hp hRb Tryd.underlying101 (by show (Tryd.prog.info? 101).map (·.size) = some 8; kernel_rfl) hd ?_
  refine ⟨.slice LA ln lc, rfl, toy_fin hs hgw hT rfl (blk_fars hne _ 0 hb) h4, hgw, ⟨LA, ln, lc, rfl⟩, fun hk => ?_⟩
  obtain ⟨g, v, e1, e2, e3, e4⟩ := ho hk
  exact ⟨g, v, e1, e2, e3, blk_fars (e4.ne_ hR (by decide)) _ 0 e4⟩
set_option maxRecDepth 100000 in
theorem run_asks (w : World) (B T : Nat) (t : Ty) (h : ToyAt w B T t) (hT : B ≤ T) (ha : t.asks = true) :
    Calls Tryd.prog 107 #[.pointer (some ⟨T, 0, none⟩), .int .i64 1000] w (RunPost w B T t (otOf 1)) := by
  obtain ⟨A, c, LA, ln, lc, hb, hs, h4⟩ := h
  obtain ⟨sc, i, sum, self, waits, asks, ⟨kd, nm, tx, ⟨vk, vn⟩, ar⟩⟩ := t
  simp only at ha
  subst ha
  have c5 := hb.cell 5
  simp only [tyC, List.getElem?_cons_zero, List.getElem?_cons_succ] at c5
  have lT := hb.lt
  have HB := Lib.hid (And.intro hb (And.intro hs h4))
  clear hb hs h4
  go_enter Tryd.func107, Tryd.ntmps107
  go_wp2_with (fail)
  refine ret_blk (g := w.heap.size) rfl rfl (Blk.new w _ _) Tryd.underlying101 (by kernel_rfl) rfl ?_
  exact ⟨.slice none 0 0, rfl, toy_fin HB.out.2.1 (grown_box _ _ _) hT rfl (HB.out.1.alloc _) HB.out.2.2, grown_box _ _ _, ⟨_, _, _, rfl⟩, fun h => absurd h (by decide)⟩
set_option maxRecDepth 100000 in
theorem run_still (w : World) (B T : Nat) (t : Ty) (h : ToyAt w B T t) (hT : B ≤ T) (ha : t.asks = false) (hw : t.waits = true ∨ t.last.kd = 8 ∨ t.last.kd = 9) :
    Calls Tryd.prog 107 #[.pointer (some ⟨T, 0, none⟩), .int .i64 1000] w (RunPost w B T t t.last) := by
  obtain ⟨A, c, LA, ln, lc, hb, hs, h4⟩ := h
  obtain ⟨sc, i, sum, self, waits, asks, ⟨kd, nm, tx, ⟨vk, vn⟩, ar⟩⟩ := t
  simp only at ha hw
  subst ha
  have hk4 : kd ≠ 4 := by
    rcases hw with hw | hw | hw
    · exact h4 hw
    · omega
    · omega
  have c4 := hb.cell 4
  have c5 := hb.cell 5
  have c6 := hb.cell 6
  have c7 := hb.cell 7
  have c8 := hb.cell 8
  have c9 := hb.cell 9
  have c10 := hb.cell 10
  have c11 := hb.cell 11
  have c12 := hb.cell 12
  have c13 := hb.cell 13
  simp only [tyC, bst, List.getElem?_cons_zero, List.getElem?_cons_succ] at c4 c5 c6 c7 c8 c9 c10 c11 c12 c13
  have lT := hb.lt
  have HB := Lib.hid (And.intro hb (And.intro hs h4))
  have H4 := Lib.hid hk4
  clear hb hs h4 hk4
  have fin : ∀ W, W = w.alloc (.cells #[.int .i64 kd, .int .i64 nm, .string ⟨tx.toArray⟩, .int .i64 vk, .int .i64 vn, .string ⟨#[]⟩, .slice none 0 0, .slice LA ln lc] 101) → RunPost w B T ⟨sc, i, sum, self, waits, false, ⟨kd, nm, tx, ⟨vk, vn⟩, ar⟩⟩ ⟨kd, nm, tx, ⟨vk, vn⟩, ar⟩ (.returned (.agg #[.int .i64 kd, .int .i64 nm, .string ⟨tx.toArray⟩, .int .i64 vk, .int .i64 vn, .string ⟨#[]⟩, .slice none 0 0, .slice LA ln lc])) W := fun W hW => by
    subst hW
    exact ⟨.slice LA ln lc, rfl, toy_fin HB.out.2.1 (grown_box _ _ _) hT rfl (HB.out.1.alloc _) HB.out.2.2, grown_box _ _ _, ⟨_, _, _, rfl⟩, fun h => absurd h H4.out⟩
  have FIN := Lib.hid fin
  clear fin
  generalize hs : ByteArray.mk tx.toArray = S at FIN c8
  clear hs
  by_cases h1 : waits = true
  · subst h1
    clear hw
    go_enter Tryd.func107, Tryd.ntmps107
    go_wp2_with (fail)
    refine ret_blk (g := w.heap.size) rfl rfl (Blk.new w _ _) Tryd.underlying101 (by kernel_rfl) rfl ?_
    exact FIN.out _ rfl
  · have h1' : waits = false := by simpa using h1
    subst h1'
    by_cases h2 : kd = 8
    · subst h2
      clear hw h1
      go_enter Tryd.func107, Tryd.ntmps107
      go_wp2_with (fail)
      refine ret_blk (g := w.heap.size) rfl rfl (Blk.new w _ _) Tryd.underlying101 (by kernel_rfl) rfl ?_
      exact FIN.out _ rfl
    · have h3 : kd = 9 := by
        rcases hw with hw | hw | hw
        · cases hw
        · exact absurd hw h2
        · exact hw
      subst h3
      clear hw h1 h2
      go_enter Tryd.func107, Tryd.ntmps107
      go_wp2_with (fail)
      refine ret_blk (g := w.heap.size) rfl rfl (Blk.new w _ _) Tryd.underlying101 (by kernel_rfl) rfl ?_
      exact FIN.out _ rfl
set_option maxRecDepth 100000 in
theorem run_end (w : World) (B T : Nat) (t : Ty) (h : ToyAt w B T t) (hT : B ≤ T) (ha : t.asks = false) (hw : ¬ (t.waits = true ∨ t.last.kd = 8 ∨ t.last.kd = 9)) (hi : t.sc.length ≤ t.i) :
    Calls Tryd.prog 107 #[.pointer (some ⟨T, 0, none⟩), .int .i64 1000] w (RunPost w B T { t with last := otOf 8 } (otOf 8)) := by
  obtain ⟨A, c, LA, ln, lc, hb, hs, h4⟩ := h
  obtain ⟨sc, i, sum, self, waits, asks, ⟨kd, nm, tx, ⟨vk, vn⟩, ar⟩⟩ := t
  simp only at ha hw hi
  subst ha
  obtain rfl : waits = false := by
    cases waits with
    | false => rfl
    | true => exact absurd (.inl rfl) hw
  have k8 : (kd == 8) = false := by simpa using fun h => hw (.inr (.inl h))
  have k9 : (kd == 9) = false := by simpa using fun h => hw (.inr (.inr h))
  have c0 := hb.cell 0
  have c1 := hb.cell 1
  have c2 := hb.cell 2
  have c3 := hb.cell 3
  have c4 := hb.cell 4
  have c5 := hb.cell 5
  have c6 := hb.cell 6
  have c7 := hb.cell 7
  have c8 := hb.cell 8
  have c9 := hb.cell 9
  have c10 := hb.cell 10
  have c11 := hb.cell 11
  have c12 := hb.cell 12
  have c13 := hb.cell 13
  simp only [tyC, bst, List.getElem?_cons_zero, List.getElem?_cons_succ] at c0 c1 c2 c3 c4 c5 c6 c7 c8 c9 c10 c11 c12 c13
  have f0 := hb.frozen 0
  have f1 := hb.frozen 1
  have f2 := hb.frozen 2
  have f3 := hb.frozen 3
  have f4 := hb.frozen 4
  have f5 := hb.frozen 5
  have f6 := hb.frozen 6
  have f7 := hb.frozen 7
  have f8 := hb.frozen 8
  have f9 := hb.frozen 9
  have f10 := hb.frozen 10
  have f11 := hb.frozen 11
  have f12 := hb.frozen 12
  have f13 := hb.frozen 13
  have lT := hb.lt
  have HB := Lib.hid (And.intro hb (And.intro hs h4))
  clear hb hs h4 hw
  generalize hL : sc.length = L at c0 hi
  have hi' : (L : Int) ≤ (i : Int) := by omega
  have HL := Lib.hid hL
  clear hL hi
  go_enter Tryd.func107, Tryd.ntmps107
  go_wp2_with (fail)
  go_quiet (fail)
  go_wp2_with (fail)
  have hne : w.heap.size ≠ T := by omega
  refine run_ret (w1 := ((w.alloc (.cells #[.int .i64 0, .int .i64 0, .string ⟨#[]⟩, .int .i64 0, .int .i64 0, .string ⟨#[]⟩, .slice none 0 0, .slice none 0 0] 101)).drewN nq).setCells T 6 [.int .i64 8, .int .i64 0, .string ⟨#[]⟩, .int .i64 0, .int .i64 0, .string ⟨#[]⟩, .slice none 0 0, .slice none 0 0]) (R := w.heap.size) (LA := none) (ln := 0) (lc := 0) (A := A) (c := c) rfl rfl rfl ?_ (blk_fars hne _ _ ((Blk.new w _ _).drewN nq)) rfl ?_ HB.out.2.1 hT lT (Nat.le_refl _) (fun h => by cases h) (fun h => absurd h (by decide))
  · exact ⟨none, 0, 0, ((HB.out.1.alloc _).drewN nq).puts _ 6⟩
  · exact grownBy_trans (grownBy_drewN (grown_box _ _ _) nq) (grownBy_setCells T _ _ _)
theorem run_num (x : Int) (m : Nat) (hm : m < 1000) (hx : uns x % 1000 = (m : Int)) : wrap64 ((IntKind.u64.wrap x).tmod 1000) = (m : Int) := by
  have e : IntKind.u64.wrap x = uns x := rfl
  have h0 : 0 ≤ uns x := Int.emod_nonneg _ (by omega)
  rw [e, Int.tmod_eq_emod_of_nonneg h0, hx]
  unfold wrap64
  omega
theorem setCells_size (R : Nat) : ∀ (o : Nat) (vs : List Value) (w : World), (w.setCells R o vs).heap.size = w.heap.size
  | o, [], w => rfl
  | o, v :: r, w => by
    show ((w.setCell ⟨R, o, none⟩ v).setCells R (o + 1) r).heap.size = _
    rw [setCells_size R (o + 1) r]
    simp
theorem run_ret2 {w w1 W : World} {a : Act} {B T R c : Nat} {A : Option Addr} {t' : Ty} {o : Ot} {v1 : Vl} {o1 : Obj} {os : List Value}
    (hp : a.tmps.getD 4 undef = .pointer (some ⟨R, 0, none⟩)) (hd : a.defers = []) (hW : W = ((w1.setCells R 0 (outC o (.slice (some ⟨w.heap.size + 1 + 1, 0, none⟩) 1 1))).alloc o1).alloc (.cells (vlC v1).toArray 56))
    (hb : ∃ LA' ln' lc', Blk w1 T 168 (tyC A c t' (.slice LA' ln' lc'))) (hR : Blk w1 R 101 os) (hos : os.length = 8) (hg : w.grownBy w1 (some T)) (hs : ScAt w B A c t'.sc) (hT : B ≤ T) (hlt : T < w.heap.size) (hRw : w.heap.size ≤ R)
    (hsz : w1.heap.size = w.heap.size + 1) (h4 : t'.waits = true → t'.last.kd ≠ 4) (ho : o.ar = [v1]) :
    bodyPost Tryd.prog Tryd.f107 (RunPost w B T t' o) .ret a W := by
  subst hW
  obtain ⟨LA', ln', lc', hb⟩ := hb
  have hg2 := grownBy_setCells R (outC o (.slice (some ⟨w.heap.size + 1 + 1, 0, none⟩) 1 1)) 0 w1
  have hsz2 : (w1.setCells R 0 (outC o (.slice (some ⟨w.heap.size + 1 + 1, 0, none⟩) 1 1))).heap.size = w.heap.size + 1 := by rw [← hsz]; exact setCells_size _ _ _ _
  have hgw : w.grownBy (w1.setCells R 0 (outC o (.slice (some ⟨w.heap.size + 1 + 1, 0, none⟩) 1 1))) (some T) := grownBy_far hg hg2 fun i hi => by injection hi; omega
  have hgw2 := grownBy_alloc (grownBy_alloc hgw o1) (.cells (vlC v1).toArray 56)
  have hne : T ≠ R := by omega
  have hRb := hR.puts (outC o (.slice (some ⟨w.heap.size + 1 + 1, 0, none⟩) 1 1)) 0
  rw [sets_all os (outC o (.slice (some ⟨w.heap.size + 1 + 1, 0, none⟩) 1 1)) (by rw [hos]; rfl)] at hRb
  refine ret_blk (g := R) rfl hp ((hRb.alloc o1).alloc _) Tryd.underlying101 (by show (Tryd.prog.info? 101).map (·.size) = some 8; kernel_rfl) hd ?_
  refine ⟨.slice (some ⟨w.heap.size + 1 + 1, 0, none⟩) 1 1, rfl, toy_fin hs hgw2 hT rfl (((blk_fars hne _ 0 hb).alloc o1).alloc _) h4, hgw2, ⟨_, _, _, rfl⟩, fun _ => ⟨_, v1, rfl, ho, by omega, ?_⟩⟩
  have := Blk.new ((w1.setCells R 0 (outC o (.slice (some ⟨w.heap.size + 1 + 1, 0, none⟩) 1 1))).alloc o1) 56 (vlC v1)
  rwa [show ((w1.setCells R 0 (outC o (.slice (some ⟨w.heap.size + 1 + 1, 0, none⟩) 1 1))).alloc o1).heap.size = w.heap.size + 1 + 1 by simp [hsz2]] at this
theorem conv_one (W : World) (g : Nat) (k : Int) (q : UInt8) (hb : Blk W g 5 [.int .u8 k]) (hq : ((q.toNat : Nat) : Int) = k) : (convert 53 9 (.slice (some ⟨g, 0, none⟩) 1 1)).run Tryd.prog W = .ok (.string ⟨#[q]⟩) W := by
  have hr : Reads W Any 1 (some ⟨g, 0, none⟩) 1 (u8s [q]) := ⟨rfl, fun _ => ⟨g, 0, rfl, trivial, fun j u hu => by
    rw [Nat.zero_add, hb.cell, ← hq]
    exact hu⟩⟩
  exact run_convert_reads W 53 9 5 Tryd.underlying53 Tryd.underlying5 Tryd.underlying9 hr
set_option maxRecDepth 100000 in
set_option maxHeartbeats 8000000 in
theorem run_say0 (w : World) (B T : Nat) (t : Ty) (x : Int) (m : Nat) (h : ToyAt w B T t) (hT : B ≤ T) (ha : t.asks = false) (hw : ¬ (t.waits = true ∨ t.last.kd = 8 ∨ t.last.kd = 9)) (hi : t.sc[t.i]? = some x) (hm : m < 1000) (hx : uns x % 1000 = (m : Int)) (hr : m % 8 = 0) :
    Calls Tryd.prog 107 #[.pointer (some ⟨T, 0, none⟩), .int .i64 1000] w (RunPost w B T { t with i := t.i + 1, last := { otOf 2 with nm := wr (t.sum + (m : Int)) } } ({ otOf 2 with nm := wr (t.sum + (m : Int)) })) := by
  obtain ⟨A, c, LA, ln, lc, hb, hs, h4⟩ := h
  obtain ⟨sc, i, sum, self, waits, asks, ⟨kd, nm, tx, ⟨vk, vn⟩, ar⟩⟩ := t
  simp only at ha hw hi
  subst ha
  obtain rfl : waits = false := by
    cases waits with
    | false => rfl
    | true => exact absurd (.inl rfl) hw
  have k8 : (kd == 8) = false := by simpa using fun h => hw (.inr (.inl h))
  have k9 : (kd == 9) = false := by simpa using fun h => hw (.inr (.inr h))
  have c0 := hb.cell 0
  have c1 := hb.cell 1
  have c2 := hb.cell 2
  have c3 := hb.cell 3
  have c4 := hb.cell 4
  have c5 := hb.cell 5
  have c6 := hb.cell 6
  have c7 := hb.cell 7
  have c8 := hb.cell 8
  have c9 := hb.cell 9
  have c10 := hb.cell 10
  have c11 := hb.cell 11
  have c12 := hb.cell 12
  have c13 := hb.cell 13
  simp only [tyC, bst, List.getElem?_cons_zero, List.getElem?_cons_succ] at c0 c1 c2 c3 c4 c5 c6 c7 c8 c9 c10 c11 c12 c13
  have f0 := hb.frozen 0
  have f1 := hb.frozen 1
  have f2 := hb.frozen 2
  have f3 := hb.frozen 3
  have f4 := hb.frozen 4
  have f5 := hb.frozen 5
  have f6 := hb.frozen 6
  have f7 := hb.frozen 7
  have f8 := hb.frozen 8
  have f9 := hb.frozen 9
  have f10 := hb.frozen 10
  have f11 := hb.frozen 11
  have f12 := hb.frozen 12
  have f13 := hb.frozen 13
  have lT := hb.lt
  have HB := Lib.hid (And.intro hb (And.intro hs h4))
  have hil := (List.getElem?_eq_some_iff.1 hi).1
  obtain ⟨b, off, rfl, hbB, hc⟩ := hs.1.2 (show 0 < sc.length by omega)
  have cx := hc i (.int .i64 x) (by rw [nums, List.getElem?_map, hi]; rfl)
  have lb := lt_of_cell cx
  have hbT : b ≠ T := by have : b < B := hbB; omega
  have hTb : T ≠ b := fun e => hbT e.symm
  have hmx : sc.length ≤ 9223372036854775807 := Nat.le_trans (Nat.le_trans hs.2.1 hs.2.2) (Nat.le_of_eq rfl)
  have hn := run_num x m hm hx
  have HN := Lib.hid hn
  have hr8 : ((m : Int).tmod 8) = 0 := by rw [Int.tmod_eq_emod_of_nonneg (by omega)]; omega
  clear hb hs h4 hw hc hi hx hn
  generalize hL : sc.length = L at c0 hil hmx
  have hi' : (i : Int) < (L : Int) := by omega
  have hi'' : ¬ (L : Int) ≤ (i : Int) := by omega
  have HL := Lib.hid hL
  clear hL
  go_enter Tryd.func107, Tryd.ntmps107
  go_wp2_with (fail)
  go_quiet (fail)
  generalize nq = nq1
  go_wp2_with (fail)
  go_quiet (fail)
  go_upto_region 10 with (fail)
  rw [HN.out]
  go_wp2_with (fail)
  have hne : w.heap.size ≠ T := by omega
  refine run_ret (w1 := (((w.alloc (.cells #[.int .i64 0, .int .i64 0, .string ⟨#[]⟩, .int .i64 0, .int .i64 0, .string ⟨#[]⟩, .slice none 0 0, .slice none 0 0] 101)).drewN (nq1 + nq)).setCell ⟨T, 1, none⟩ (.int .i64 ((i : Int) + 1))).setCells T 6 [.int .i64 2, .int .i64 (wrap64 (sum + (m : Int))), .string ⟨#[]⟩, .int .i64 0, .int .i64 0, .string ⟨#[]⟩, .slice none 0 0, .slice none 0 0]) (R := w.heap.size) (LA := none) (ln := 0) (lc := 0) (A := some ⟨b, off, none⟩) (c := c) rfl rfl rfl ?_ (blk_fars hne _ _ (((Blk.new w _ _).drewN _).far hne _)) rfl ?_ HB.out.2.1 hT lT (Nat.le_refl _) (fun h => by cases h) (fun h => absurd (show (2 : Int) = 4 from h) (by decide))
  · exact ⟨none, 0, 0, (((HB.out.1.alloc _).drewN _).put 1 _).puts _ 6⟩
  · exact grownBy_trans (grown_put (grownBy_drewN (grown_box _ _ _) _) 1 _) (grownBy_setCells T _ _ _)
set_option maxRecDepth 100000 in
set_option maxHeartbeats 8000000 in
theorem run_say1 (w : World) (B T : Nat) (t : Ty) (x : Int) (m : Nat) (h : ToyAt w B T t) (hT : B ≤ T) (ha : t.asks = false) (hw : ¬ (t.waits = true ∨ t.last.kd = 8 ∨ t.last.kd = 9)) (hi : t.sc[t.i]? = some x) (hm : m < 1000) (hx : uns x % 1000 = (m : Int)) (hr : m % 8 = 1) :
    Calls Tryd.prog 107 #[.pointer (some ⟨T, 0, none⟩), .int .i64 1000] w (RunPost w B T { t with i := t.i + 1, last := { otOf 2 with nm := wr (t.sum + (m : Int)) } } ({ otOf 2 with nm := wr (t.sum + (m : Int)) })) := by
  obtain ⟨A, c, LA, ln, lc, hb, hs, h4⟩ := h
  obtain ⟨sc, i, sum, self, waits, asks, ⟨kd, nm, tx, ⟨vk, vn⟩, ar⟩⟩ := t
  simp only at ha hw hi
  subst ha
  obtain rfl : waits = false := by
    cases waits with
    | false => rfl
    | true => exact absurd (.inl rfl) hw
  have k8 : (kd == 8) = false := by simpa using fun h => hw (.inr (.inl h))
  have k9 : (kd == 9) = false := by simpa using fun h => hw (.inr (.inr h))
  have c0 := hb.cell 0
  have c1 := hb.cell 1
  have c2 := hb.cell 2
  have c3 := hb.cell 3
  have c4 := hb.cell 4
  have c5 := hb.cell 5
  have c6 := hb.cell 6
  have c7 := hb.cell 7
  have c8 := hb.cell 8
  have c9 := hb.cell 9
  have c10 := hb.cell 10
  have c11 := hb.cell 11
  have c12 := hb.cell 12
  have c13 := hb.cell 13
  simp only [tyC, bst, List.getElem?_cons_zero, List.getElem?_cons_succ] at c0 c1 c2 c3 c4 c5 c6 c7 c8 c9 c10 c11 c12 c13
  have f0 := hb.frozen 0
  have f1 := hb.frozen 1
  have f2 := hb.frozen 2
  have f3 := hb.frozen 3
  have f4 := hb.frozen 4
  have f5 := hb.frozen 5
  have f6 := hb.frozen 6
  have f7 := hb.frozen 7
  have f8 := hb.frozen 8
  have f9 := hb.frozen 9
  have f10 := hb.frozen 10
  have f11 := hb.frozen 11
  have f12 := hb.frozen 12
  have f13 := hb.frozen 13
  have lT := hb.lt
  have HB := Lib.hid (And.intro hb (And.intro hs h4))
  have hil := (List.getElem?_eq_some_iff.1 hi).1
  obtain ⟨b, off, rfl, hbB, hc⟩ := hs.1.2 (show 0 < sc.length by omega)
  have cx := hc i (.int .i64 x) (by rw [nums, List.getElem?_map, hi]; rfl)
  have lb := lt_of_cell cx
  have hbT : b ≠ T := by have : b < B := hbB; omega
  have hTb : T ≠ b := fun e => hbT e.symm
  have hmx : sc.length ≤ 9223372036854775807 := Nat.le_trans (Nat.le_trans hs.2.1 hs.2.2) (Nat.le_of_eq rfl)
  have hn := run_num x m hm hx
  have HN := Lib.hid hn
  have hr8 : ((m : Int).tmod 8) = 1 := by rw [Int.tmod_eq_emod_of_nonneg (by omega)]; omega
  clear hb hs h4 hw hc hi hx hn
  generalize hL : sc.length = L at c0 hil hmx
  have hi' : (i : Int) < (L : Int) := by omega
  have hi'' : ¬ (L : Int) ≤ (i : Int) := by omega
  have HL := Lib.hid hL
  clear hL
  go_enter Tryd.func107, Tryd.ntmps107
  go_wp2_with (fail)
  go_quiet (fail)
  generalize nq = nq1
  go_wp2_with (fail)
  go_quiet (fail)
  go_upto_region 10 with (fail)
  rw [HN.out]
  go_wp2_with (fail)
  have hne : w.heap.size ≠ T := by omega
  refine run_ret (w1 := (((w.alloc (.cells #[.int .i64 0, .int .i64 0, .string ⟨#[]⟩, .int .i64 0, .int .i64 0, .string ⟨#[]⟩, .slice none 0 0, .slice none 0 0] 101)).drewN (nq1 + nq)).setCell ⟨T, 1, none⟩ (.int .i64 ((i : Int) + 1))).setCells T 6 [.int .i64 2, .int .i64 (wrap64 (sum + (m : Int))), .string ⟨#[]⟩, .int .i64 0, .int .i64 0, .string ⟨#[]⟩, .slice none 0 0, .slice none 0 0]) (R := w.heap.size) (LA := none) (ln := 0) (lc := 0) (A := some ⟨b, off, none⟩) (c := c) rfl rfl rfl ?_ (blk_fars hne _ _ (((Blk.new w _ _).drewN _).far hne _)) rfl ?_ HB.out.2.1 hT lT (Nat.le_refl _) (fun h => by cases h) (fun h => absurd (show (2 : Int) = 4 from h) (by decide))
  · exact ⟨none, 0, 0, (((HB.out.1.alloc _).drewN _).put 1 _).puts _ 6⟩
  · exact grownBy_trans (grown_put (grownBy_drewN (grown_box _ _ _) _) 1 _) (grownBy_setCells T _ _ _)
set_option maxRecDepth 100000 in
set_option maxHeartbeats 8000000 in
theorem run_send2 (w : World) (B T : Nat) (t : Ty) (x : Int) (m : Nat) (h : ToyAt w B T t) (hT : B ≤ T) (ha : t.asks = false) (hw : ¬ (t.waits = true ∨ t.last.kd = 8 ∨ t.last.kd = 9)) (hi : t.sc[t.i]? = some x) (hm : m < 1000) (hx : uns x % 1000 = (m : Int)) (hr : m % 8 = 2) :
    Calls Tryd.prog 107 #[.pointer (some ⟨T, 0, none⟩), .int .i64 1000] w (RunPost w B T { t with i := t.i + 1, last := { otOf 3 with nm := (m : Int) / 8 % 5, vl := ⟨2, wr ((m : Int) + t.sum)⟩ } } ({ otOf 3 with nm := (m : Int) / 8 % 5, vl := ⟨2, wr ((m : Int) + t.sum)⟩ })) := by
  obtain ⟨A, c, LA, ln, lc, hb, hs, h4⟩ := h
  obtain ⟨sc, i, sum, self, waits, asks, ⟨kd, nm, tx, ⟨vk, vn⟩, ar⟩⟩ := t
  simp only at ha hw hi
  subst ha
  obtain rfl : waits = false := by
    cases waits with
    | false => rfl
    | true => exact absurd (.inl rfl) hw
  have k8 : (kd == 8) = false := by simpa using fun h => hw (.inr (.inl h))
  have k9 : (kd == 9) = false := by simpa using fun h => hw (.inr (.inr h))
  have c0 := hb.cell 0
  have c1 := hb.cell 1
  have c2 := hb.cell 2
  have c3 := hb.cell 3
  have c4 := hb.cell 4
  have c5 := hb.cell 5
  have c6 := hb.cell 6
  have c7 := hb.cell 7
  have c8 := hb.cell 8
  have c9 := hb.cell 9
  have c10 := hb.cell 10
  have c11 := hb.cell 11
  have c12 := hb.cell 12
  have c13 := hb.cell 13
  simp only [tyC, bst, List.getElem?_cons_zero, List.getElem?_cons_succ] at c0 c1 c2 c3 c4 c5 c6 c7 c8 c9 c10 c11 c12 c13
  have f0 := hb.frozen 0
  have f1 := hb.frozen 1
  have f2 := hb.frozen 2
  have f3 := hb.frozen 3
  have f4 := hb.frozen 4
  have f5 := hb.frozen 5
  have f6 := hb.frozen 6
  have f7 := hb.frozen 7
  have f8 := hb.frozen 8
  have f9 := hb.frozen 9
  have f10 := hb.frozen 10
  have f11 := hb.frozen 11
  have f12 := hb.frozen 12
  have f13 := hb.frozen 13
  have lT := hb.lt
  have HB := Lib.hid (And.intro hb (And.intro hs h4))
  have hil := (List.getElem?_eq_some_iff.1 hi).1
  obtain ⟨b, off, rfl, hbB, hc⟩ := hs.1.2 (show 0 < sc.length by omega)
  have cx := hc i (.int .i64 x) (by rw [nums, List.getElem?_map, hi]; rfl)
  have lb := lt_of_cell cx
  have hbT : b ≠ T := by have : b < B := hbB; omega
  have hTb : T ≠ b := fun e => hbT e.symm
  have hmx : sc.length ≤ 9223372036854775807 := Nat.le_trans (Nat.le_trans hs.2.1 hs.2.2) (Nat.le_of_eq rfl)
  have hn := run_num x m hm hx
  have HN := Lib.hid hn
  have hr8 : ((m : Int).tmod 8) = 2 := by rw [Int.tmod_eq_emod_of_nonneg (by omega)]; omega
  clear hb hs h4 hw hc hi hx hn
  generalize hL : sc.length = L at c0 hil hmx
  have hi' : (i : Int) < (L : Int) := by omega
  have hi'' : ¬ (L : Int) ≤ (i : Int) := by omega
  have HL := Lib.hid hL
  clear hL
  go_enter Tryd.func107, Tryd.ntmps107
  go_wp2_with (fail)
  go_quiet (fail)
  generalize nq = nq1
  go_wp2_with (fail)
  go_quiet (fail)
  go_upto_region 10 with (fail)
  rw [HN.out]
  have hq : ((m : Int).tdiv 8).tmod 5 = (m : Int) / 8 % 5 := by rw [Int.tmod_eq_emod_of_nonneg (Int.tdiv_nonneg (by omega) (by omega)), Int.tdiv_eq_ediv_of_nonneg (by omega)]
  go_wp2_with (fail)
  have hne : w.heap.size ≠ T := by omega
  refine run_ret (w1 := (((w.alloc (.cells #[.int .i64 0, .int .i64 0, .string ⟨#[]⟩, .int .i64 0, .int .i64 0, .string ⟨#[]⟩, .slice none 0 0, .slice none 0 0] 101)).drewN (nq1 + nq)).setCell ⟨T, 1, none⟩ (.int .i64 ((i : Int) + 1))).setCells T 6 [.int .i64 3, .int .i64 ((m : Int) / 8 % 5), .string ⟨#[]⟩, .int .i64 2, .int .i64 (wrap64 ((m : Int) + sum)), .string ⟨#[]⟩, .slice none 0 0, .slice none 0 0]) (R := w.heap.size) (LA := none) (ln := 0) (lc := 0) (A := some ⟨b, off, none⟩) (c := c) rfl rfl rfl ?_ (blk_fars hne _ _ (((Blk.new w _ _).drewN _).far hne _)) rfl ?_ HB.out.2.1 hT lT (Nat.le_refl _) (fun h => by cases h) (fun h => absurd (show (3 : Int) = 4 from h) (by decide))
  · exact ⟨none, 0, 0, (((HB.out.1.alloc _).drewN _).put 1 _).puts _ 6⟩
  · exact grownBy_trans (grown_put (grownBy_drewN (grown_box _ _ _) _) 1 _) (grownBy_setCells T _ _ _)
set_option maxRecDepth 100000 in
set_option maxHeartbeats 8000000 in
theorem run_send3 (w : World) (B T : Nat) (t : Ty) (x : Int) (m : Nat) (h : ToyAt w B T t) (hT : B ≤ T) (ha : t.asks = false) (hw : ¬ (t.waits = true ∨ t.last.kd = 8 ∨ t.last.kd = 9)) (hi : t.sc[t.i]? = some x) (hm : m < 1000) (hx : uns x % 1000 = (m : Int)) (hr : m % 8 = 3) :
    Calls Tryd.prog 107 #[.pointer (some ⟨T, 0, none⟩), .int .i64 1000] w (RunPost w B T { t with i := t.i + 1, last := { otOf 3 with nm := (m : Int) / 8 % 5, vl := ⟨2, wr ((m : Int) + t.sum)⟩ } } ({ otOf 3 with nm := (m : Int) / 8 % 5, vl := ⟨2, wr ((m : Int) + t.sum)⟩ })) := by
  obtain ⟨A, c, LA, ln, lc, hb, hs, h4⟩ := h
  obtain ⟨sc, i, sum, self, waits, asks, ⟨kd, nm, tx, ⟨vk, vn⟩, ar⟩⟩ := t
  simp only at ha hw hi
  subst ha
  obtain rfl : waits = false := by
    cases waits with
    | false => rfl
    | true => exact absurd (.inl rfl) hw
  have k8 : (kd == 8) = false := by simpa using fun h => hw (.inr (.inl h))
  have k9 : (kd == 9) = false := by simpa using fun h => hw (.inr (.inr h))
  have c0 := hb.cell 0
  have c1 := hb.cell 1
  have c2 := hb.cell 2
  have c3 := hb.cell 3
  have c4 := hb.cell 4
  have c5 := hb.cell 5
  have c6 := hb.cell 6
  have c7 := hb.cell 7
  have c8 := hb.cell 8
  have c9 := hb.cell 9
  have c10 := hb.cell 10
  have c11 := hb.cell 11
  have c12 := hb.cell 12
  have c13 := hb.cell 13
  simp only [tyC, bst, List.getElem?_cons_zero, List.getElem?_cons_succ] at c0 c1 c2 c3 c4 c5 c6 c7 c8 c9 c10 c11 c12 c13
  have f0 := hb.frozen 0
  have f1 := hb.frozen 1
  have f2 := hb.frozen 2
  have f3 := hb.frozen 3
  have f4 := hb.frozen 4
  have f5 := hb.frozen 5
  have f6 := hb.frozen 6
  have f7 := hb.frozen 7
  have f8 := hb.frozen 8
  have f9 := hb.frozen 9
  have f10 := hb.frozen 10
  have f11 := hb.frozen 11
  have f12 := hb.frozen 12
  have f13 := hb.frozen 13
  have lT := hb.lt
  have HB := Lib.hid (And.intro hb (And.intro hs h4))
  have hil := (List.getElem?_eq_some_iff.1 hi).1
  obtain ⟨b, off, rfl, hbB, hc⟩ := hs.1.2 (show 0 < sc.length by omega)
  have cx := hc i (.int .i64 x) (by rw [nums, List.getElem?_map, hi]; rfl)
  have lb := lt_of_cell cx
  have hbT : b ≠ T := by have : b < B := hbB; omega
  have hTb : T ≠ b := fun e => hbT e.symm
  have hmx : sc.length ≤ 9223372036854775807 := Nat.le_trans (Nat.le_trans hs.2.1 hs.2.2) (Nat.le_of_eq rfl)
  have hn := run_num x m hm hx
  have HN := Lib.hid hn
  have hr8 : ((m : Int).tmod 8) = 3 := by rw [Int.tmod_eq_emod_of_nonneg (by omega)]; omega
  clear hb hs h4 hw hc hi hx hn
  generalize hL : sc.length = L at c0 hil hmx
  have hi' : (i : Int) < (L : Int) := by omega
  have hi'' : ¬ (L : Int) ≤ (i : Int) := by omega
  have HL := Lib.hid hL
  clear hL
  go_enter Tryd.func107, Tryd.ntmps107
  go_wp2_with (fail)
  go_quiet (fail)
  generalize nq = nq1
  go_wp2_with (fail)
  go_quiet (fail)
  go_upto_region 10 with (fail)
  rw [HN.out]
  have hq : ((m : Int).tdiv 8).tmod 5 = (m : Int) / 8 % 5 := by rw [Int.tmod_eq_emod_of_nonneg (Int.tdiv_nonneg (by omega) (by omega)), Int.tdiv_eq_ediv_of_nonneg (by omega)]
  go_wp2_with (fail)
  have hne : w.heap.size ≠ T := by omega
  refine run_ret (w1 := (((w.alloc (.cells #[.int .i64 0, .int .i64 0, .string ⟨#[]⟩, .int .i64 0, .int .i64 0, .string ⟨#[]⟩, .slice none 0 0, .slice none 0 0] 101)).drewN (nq1 + nq)).setCell ⟨T, 1, none⟩ (.int .i64 ((i : Int) + 1))).setCells T 6 [.int .i64 3, .int .i64 ((m : Int) / 8 % 5), .string ⟨#[]⟩, .int .i64 2, .int .i64 (wrap64 ((m : Int) + sum)), .string ⟨#[]⟩, .slice none 0 0, .slice none 0 0]) (R := w.heap.size) (LA := none) (ln := 0) (lc := 0) (A := some ⟨b, off, none⟩) (c := c) rfl rfl rfl ?_ (blk_fars hne _ _ (((Blk.new w _ _).drewN _).far hne _)) rfl ?_ HB.out.2.1 hT lT (Nat.le_refl _) (fun h => by cases h) (fun h => absurd (show (3 : Int) = 4 from h) (by decide))
  · exact ⟨none, 0, 0, (((HB.out.1.alloc _).drewN _).put 1 _).puts _ 6⟩
  · exact grownBy_trans (grown_put (grownBy_drewN (grown_box _ _ _) _) 1 _) (grownBy_setCells T _ _ _)
set_option maxRecDepth 100000 in
set_option maxHeartbeats 8000000 in
theorem run_spawn (w : World) (B T : Nat) (t : Ty) (x : Int) (m : Nat) (h : ToyAt w B T t) (hT : B ≤ T) (ha : t.asks = false) (hw : ¬ (t.waits = true ∨ t.last.kd = 8 ∨ t.last.kd = 9)) (hi : t.sc[t.i]? = some x) (hm : m < 1000) (hx : uns x % 1000 = (m : Int)) (hr : m % 8 = 4) (q : UInt8) (hq0 : ((q.toNat : Nat) : Int) = 97 + (m : Int) / 8 % 5) :
    Calls Tryd.prog 107 #[.pointer (some ⟨T, 0, none⟩), .int .i64 1000] w (RunPost w B T { t with i := t.i + 1, asks := true, last := { otOf 4 with tx := [q], ar := [⟨2, (m : Int)⟩] } } ({ otOf 4 with tx := [q], ar := [⟨2, (m : Int)⟩] })) := by
  obtain ⟨A, c, LA, ln, lc, hb, hs, h4⟩ := h
  obtain ⟨sc, i, sum, self, waits, asks, ⟨kd, nm, tx, ⟨vk, vn⟩, ar⟩⟩ := t
  simp only at ha hw hi
  subst ha
  obtain rfl : waits = false := by
    cases waits with
    | false => rfl
    | true => exact absurd (.inl rfl) hw
  have k8 : (kd == 8) = false := by simpa using fun h => hw (.inr (.inl h))
  have k9 : (kd == 9) = false := by simpa using fun h => hw (.inr (.inr h))
  have c0 := hb.cell 0
  have c1 := hb.cell 1
  have c2 := hb.cell 2
  have c3 := hb.cell 3
  have c4 := hb.cell 4
  have c5 := hb.cell 5
  have c6 := hb.cell 6
  have c7 := hb.cell 7
  have c8 := hb.cell 8
  have c9 := hb.cell 9
  have c10 := hb.cell 10
  have c11 := hb.cell 11
  have c12 := hb.cell 12
  have c13 := hb.cell 13
  simp only [tyC, bst, List.getElem?_cons_zero, List.getElem?_cons_succ] at c0 c1 c2 c3 c4 c5 c6 c7 c8 c9 c10 c11 c12 c13
  have f0 := hb.frozen 0
  have f1 := hb.frozen 1
  have f2 := hb.frozen 2
  have f3 := hb.frozen 3
  have f4 := hb.frozen 4
  have f5 := hb.frozen 5
  have f6 := hb.frozen 6
  have f7 := hb.frozen 7
  have f8 := hb.frozen 8
  have f9 := hb.frozen 9
  have f10 := hb.frozen 10
  have f11 := hb.frozen 11
  have f12 := hb.frozen 12
  have f13 := hb.frozen 13
  have lT := hb.lt
  have HB := Lib.hid (And.intro hb (And.intro hs h4))
  have hil := (List.getElem?_eq_some_iff.1 hi).1
  obtain ⟨b, off, rfl, hbB, hc⟩ := hs.1.2 (show 0 < sc.length by omega)
  have cx := hc i (.int .i64 x) (by rw [nums, List.getElem?_map, hi]; rfl)
  have lb := lt_of_cell cx
  have hbT : b ≠ T := by have : b < B := hbB; omega
  have hTb : T ≠ b := fun e => hbT e.symm
  have hmx : sc.length ≤ 9223372036854775807 := Nat.le_trans (Nat.le_trans hs.2.1 hs.2.2) (Nat.le_of_eq rfl)
  have hn := run_num x m hm hx
  have HN := Lib.hid hn
  have hr8 : ((m : Int).tmod 8) = 4 := by rw [Int.tmod_eq_emod_of_nonneg (by omega)]; omega
  clear hb hs h4 hw hc hi hx hn
  generalize hL : sc.length = L at c0 hil hmx
  have hi' : (i : Int) < (L : Int) := by omega
  have hi'' : ¬ (L : Int) ≤ (i : Int) := by omega
  have HL := Lib.hid hL
  clear hL
  go_enter Tryd.func107, Tryd.ntmps107
  go_wp2_with (fail)
  go_quiet (fail)
  generalize nq = nq1
  go_wp2_with (fail)
  go_quiet (fail)
  go_upto_region 10 with (fail)
  rw [HN.out]
  have hq : ((m : Int).tdiv 8).tmod 5 = (m : Int) / 8 % 5 := by rw [Int.tmod_eq_emod_of_nonneg (Int.tdiv_nonneg (by omega) (by omega)), Int.tdiv_eq_ediv_of_nonneg (by omega)]
  have hW1 : Blk ((((w.alloc (.cells #[.int .i64 0, .int .i64 0, .string ⟨#[]⟩, .int .i64 0, .int .i64 0, .string ⟨#[]⟩, .slice none 0 0, .slice none 0 0] 101)).drewN (nq1 + nq)).setCell ⟨T, 1, none⟩ (.int .i64 ((i : Int) + 1))).alloc (.cells #[.int .u8 (97 + (m : Int) / 8 % 5)] 5)) (w.heap.size + 1) 5 [.int .u8 (97 + (m : Int) / 8 % 5)] := by
    have := Blk.new (((w.alloc (.cells #[.int .i64 0, .int .i64 0, .string ⟨#[]⟩, .int .i64 0, .int .i64 0, .string ⟨#[]⟩, .slice none 0 0, .slice none 0 0] 101)).drewN (nq1 + nq)).setCell ⟨T, 1, none⟩ (.int .i64 ((i : Int) + 1))) 5 [.int .u8 (97 + (m : Int) / 8 % 5)]
    simpa using this
  have hcv := conv_one _ _ _ q hW1 hq0
  have HQ := Lib.hid hq0
  clear hW1 hq0
  have lT1 : T < w.heap.size + 1 := by omega
  have lT2 : T < w.heap.size + 1 + 1 := by omega
  go_wp2_with (fail)
  clear hcv
  have hne : w.heap.size ≠ T := by omega
  refine run_ret2 (w1 := ((((w.alloc (.cells #[.int .i64 0, .int .i64 0, .string ⟨#[]⟩, .int .i64 0, .int .i64 0, .string ⟨#[]⟩, .slice none 0 0, .slice none 0 0] 101)).drewN (nq1 + nq)).setCell ⟨T, 1, none⟩ (.int .i64 ((i : Int) + 1))).setCells T 6 [.int .i64 4, .int .i64 0, .string ⟨#[q]⟩, .int .i64 0, .int .i64 0, .string ⟨#[]⟩, .slice none 0 0, .slice (some ⟨w.heap.size + 1 + 1, 0, none⟩) 1 1]).setCell ⟨T, 5, none⟩ (.bool true)) (R := w.heap.size) (o1 := (.cells #[.int .u8 (97 + (m : Int) / 8 % 5)] 5)) (v1 := ⟨2, (m : Int)⟩) (A := some ⟨b, off, none⟩) (c := c) rfl rfl rfl ?_ ((blk_fars hne _ _ (((Blk.new w _ _).drewN _).far hne _)).far hne _) rfl ?_ ?_ hT lT (Nat.le_refl _) ?_ ?_ rfl
  · exact ⟨some ⟨w.heap.size + 1 + 1, 0, none⟩, 1, 1, ((((HB.out.1.alloc _).drewN _).put 1 _).puts _ 6).put 5 _⟩
  · exact grown_put (grownBy_trans (grown_put (grownBy_drewN (grown_box _ _ _) _) 1 _) (grownBy_setCells T _ _ _)) 5 _
  · exact HB.out.2.1
  · simp [setCells_size]
  · exact fun h => by cases h
set_option maxRecDepth 100000 in
set_option maxHeartbeats 8000000 in
theorem run_wait5 (w : World) (B T : Nat) (t : Ty) (x : Int) (m : Nat) (h : ToyAt w B T t) (hT : B ≤ T) (ha : t.asks = false) (hw : ¬ (t.waits = true ∨ t.last.kd = 8 ∨ t.last.kd = 9)) (hi : t.sc[t.i]? = some x) (hm : m < 1000) (hx : uns x % 1000 = (m : Int)) (hr : m % 8 = 5) :
    Calls Tryd.prog 107 #[.pointer (some ⟨T, 0, none⟩), .int .i64 1000] w (RunPost w B T { t with i := t.i + 1, waits := true, last := { otOf 7 with nm := (m : Int) / 8 % 3 - 1 } } ({ otOf 7 with nm := (m : Int) / 8 % 3 - 1 })) := by
  obtain ⟨A, c, LA, ln, lc, hb, hs, h4⟩ := h
  obtain ⟨sc, i, sum, self, waits, asks, ⟨kd, nm, tx, ⟨vk, vn⟩, ar⟩⟩ := t
  simp only at ha hw hi
  subst ha
  obtain rfl : waits = false := by
    cases waits with
    | false => rfl
    | true => exact absurd (.inl rfl) hw
  have k8 : (kd == 8) = false := by simpa using fun h => hw (.inr (.inl h))
  have k9 : (kd == 9) = false := by simpa using fun h => hw (.inr (.inr h))
  have c0 := hb.cell 0
  have c1 := hb.cell 1
  have c2 := hb.cell 2
  have c3 := hb.cell 3
  have c4 := hb.cell 4
  have c5 := hb.cell 5
  have c6 := hb.cell 6
  have c7 := hb.cell 7
  have c8 := hb.cell 8
  have c9 := hb.cell 9
  have c10 := hb.cell 10
  have c11 := hb.cell 11
  have c12 := hb.cell 12
  have c13 := hb.cell 13
  simp only [tyC, bst, List.getElem?_cons_zero, List.getElem?_cons_succ] at c0 c1 c2 c3 c4 c5 c6 c7 c8 c9 c10 c11 c12 c13
  have f0 := hb.frozen 0
  have f1 := hb.frozen 1
  have f2 := hb.frozen 2
  have f3 := hb.frozen 3
  have f4 := hb.frozen 4
  have f5 := hb.frozen 5
  have f6 := hb.frozen 6
  have f7 := hb.frozen 7
  have f8 := hb.frozen 8
  have f9 := hb.frozen 9
  have f10 := hb.frozen 10
  have f11 := hb.frozen 11
  have f12 := hb.frozen 12
  have f13 := hb.frozen 13
  have lT := hb.lt
  have HB := Lib.hid (And.intro hb (And.intro hs h4))
  have hil := (List.getElem?_eq_some_iff.1 hi).1
  obtain ⟨b, off, rfl, hbB, hc⟩ := hs.1.2 (show 0 < sc.length by omega)
  have cx := hc i (.int .i64 x) (by rw [nums, List.getElem?_map, hi]; rfl)
  have lb := lt_of_cell cx
  have hbT : b ≠ T := by have : b < B := hbB; omega
  have hTb : T ≠ b := fun e => hbT e.symm
  have hmx : sc.length ≤ 9223372036854775807 := Nat.le_trans (Nat.le_trans hs.2.1 hs.2.2) (Nat.le_of_eq rfl)
  have hn := run_num x m hm hx
  have HN := Lib.hid hn
  have hr8 : ((m : Int).tmod 8) = 5 := by rw [Int.tmod_eq_emod_of_nonneg (by omega)]; omega
  clear hb hs h4 hw hc hi hx hn
  generalize hL : sc.length = L at c0 hil hmx
  have hi' : (i : Int) < (L : Int) := by omega
  have hi'' : ¬ (L : Int) ≤ (i : Int) := by omega
  have HL := Lib.hid hL
  clear hL
  go_enter Tryd.func107, Tryd.ntmps107
  go_wp2_with (fail)
  go_quiet (fail)
  generalize nq = nq1
  go_wp2_with (fail)
  go_quiet (fail)
  go_upto_region 10 with (fail)
  rw [HN.out]
  have hq : ((m : Int).tdiv 8).tmod 3 = (m : Int) / 8 % 3 := by rw [Int.tmod_eq_emod_of_nonneg (Int.tdiv_nonneg (by omega) (by omega)), Int.tdiv_eq_ediv_of_nonneg (by omega)]
  go_wp2_with (fail)
  have hne : w.heap.size ≠ T := by omega
  refine run_ret (w1 := ((((w.alloc (.cells #[.int .i64 0, .int .i64 0, .string ⟨#[]⟩, .int .i64 0, .int .i64 0, .string ⟨#[]⟩, .slice none 0 0, .slice none 0 0] 101)).drewN (nq1 + nq)).setCell ⟨T, 1, none⟩ (.int .i64 ((i : Int) + 1))).setCells T 6 [.int .i64 7, .int .i64 ((m : Int) / 8 % 3 - 1), .string ⟨#[]⟩, .int .i64 0, .int .i64 0, .string ⟨#[]⟩, .slice none 0 0, .slice none 0 0]).setCell ⟨T, 4, none⟩ (.bool true)) (R := w.heap.size) (LA := none) (ln := 0) (lc := 0) (A := some ⟨b, off, none⟩) (c := c) rfl rfl rfl ?_ ((blk_fars hne _ _ (((Blk.new w _ _).drewN _).far hne _)).far hne _) rfl ?_ HB.out.2.1 hT lT (Nat.le_refl _) (fun h h7 => absurd (show (7 : Int) = 4 from h7) (by decide)) (fun h => absurd (show (7 : Int) = 4 from h) (by decide))
  · exact ⟨none, 0, 0, ((((HB.out.1.alloc _).drewN _).put 1 _).puts _ 6).put 4 _⟩
  · exact grown_put (grownBy_trans (grown_put (grownBy_drewN (grown_box _ _ _) _) 1 _) (grownBy_setCells T _ _ _)) 4 _
set_option maxRecDepth 100000 in
set_option maxHeartbeats 8000000 in
theorem run_wait6 (w : World) (B T : Nat) (t : Ty) (x : Int) (m : Nat) (h : ToyAt w B T t) (hT : B ≤ T) (ha : t.asks = false) (hw : ¬ (t.waits = true ∨ t.last.kd = 8 ∨ t.last.kd = 9)) (hi : t.sc[t.i]? = some x) (hm : m < 1000) (hx : uns x % 1000 = (m : Int)) (hr : m % 8 = 6) :
    Calls Tryd.prog 107 #[.pointer (some ⟨T, 0, none⟩), .int .i64 1000] w (RunPost w B T { t with i := t.i + 1, waits := true, last := { otOf 7 with nm := (m : Int) / 8 % 3 - 1 } } ({ otOf 7 with nm := (m : Int) / 8 % 3 - 1 })) := by
  obtain ⟨A, c, LA, ln, lc, hb, hs, h4⟩ := h
  obtain ⟨sc, i, sum, self, waits, asks, ⟨kd, nm, tx, ⟨vk, vn⟩, ar⟩⟩ := t
  simp only at ha hw hi
  subst ha
  obtain rfl : waits = false := by
    cases waits with
    | false => rfl
    | true => exact absurd (.inl rfl) hw
  have k8 : (kd == 8) = false := by simpa using fun h => hw (.inr (.inl h))
  have k9 : (kd == 9) = false := by simpa using fun h => hw (.inr (.inr h))
  have c0 := hb.cell 0
  have c1 := hb.cell 1
  have c2 := hb.cell 2
  have c3 := hb.cell 3
  have c4 := hb.cell 4
  have c5 := hb.cell 5
  have c6 := hb.cell 6
  have c7 := hb.cell 7
  have c8 := hb.cell 8
  have c9 := hb.cell 9
  have c10 := hb.cell 10
  have c11 := hb.cell 11
  have c12 := hb.cell 12
  have c13 := hb.cell 13
  simp only [tyC, bst, List.getElem?_cons_zero, List.getElem?_cons_succ] at c0 c1 c2 c3 c4 c5 c6 c7 c8 c9 c10 c11 c12 c13
  have f0 := hb.frozen 0
  have f1 := hb.frozen 1
  have f2 := hb.frozen 2
  have f3 := hb.frozen 3
  have f4 := hb.frozen 4
  have f5 := hb.frozen 5
  have f6 := hb.frozen 6
  have f7 := hb.frozen 7
  have f8 := hb.frozen 8
  have f9 := hb.frozen 9
  have f10 := hb.frozen 10
  have f11 := hb.frozen 11
  have f12 := hb.frozen 12
  have f13 := hb.frozen 13
  have lT := hb.lt
  have HB := Lib.hid (And.intro hb (And.intro hs h4))
  have hil := (List.getElem?_eq_some_iff.1 hi).1
  obtain ⟨b, off, rfl, hbB, hc⟩ := hs.1.2 (show 0 < sc.length by omega)
  have cx := hc i (.int .i64 x) (by rw [nums, List.getElem?_map, hi]; rfl)
  have lb := lt_of_cell cx
  have hbT : b ≠ T := by have : b < B := hbB; omega
  have hTb : T ≠ b := fun e => hbT e.symm
  have hmx : sc.length ≤ 9223372036854775807 := Nat.le_trans (Nat.le_trans hs.2.1 hs.2.2) (Nat.le_of_eq rfl)
  have hn := run_num x m hm hx
  have HN := Lib.hid hn
  have hr8 : ((m : Int).tmod 8) = 6 := by rw [Int.tmod_eq_emod_of_nonneg (by omega)]; omega
  clear hb hs h4 hw hc hi hx hn
  generalize hL : sc.length = L at c0 hil hmx
  have hi' : (i : Int) < (L : Int) := by omega
  have hi'' : ¬ (L : Int) ≤ (i : Int) := by omega
  have HL := Lib.hid hL
  clear hL
  go_enter Tryd.func107, Tryd.ntmps107
  go_wp2_with (fail)
  go_quiet (fail)
  generalize nq = nq1
  go_wp2_with (fail)
  go_quiet (fail)
  go_upto_region 10 with (fail)
  rw [HN.out]
  have hq : ((m : Int).tdiv 8).tmod 3 = (m : Int) / 8 % 3 := by rw [Int.tmod_eq_emod_of_nonneg (Int.tdiv_nonneg (by omega) (by omega)), Int.tdiv_eq_ediv_of_nonneg (by omega)]
  go_wp2_with (fail)
  have hne : w.heap.size ≠ T := by omega
  refine run_ret (w1 := ((((w.alloc (.cells #[.int .i64 0, .int .i64 0, .string ⟨#[]⟩, .int .i64 0, .int .i64 0, .string ⟨#[]⟩, .slice none 0 0, .slice none 0 0] 101)).drewN (nq1 + nq)).setCell ⟨T, 1, none⟩ (.int .i64 ((i : Int) + 1))).setCells T 6 [.int .i64 7, .int .i64 ((m : Int) / 8 % 3 - 1), .string ⟨#[]⟩, .int .i64 0, .int .i64 0, .string ⟨#[]⟩, .slice none 0 0, .slice none 0 0]).setCell ⟨T, 4, none⟩ (.bool true)) (R := w.heap.size) (LA := none) (ln := 0) (lc := 0) (A := some ⟨b, off, none⟩) (c := c) rfl rfl rfl ?_ ((blk_fars hne _ _ (((Blk.new w _ _).drewN _).far hne _)).far hne _) rfl ?_ HB.out.2.1 hT lT (Nat.le_refl _) (fun h h7 => absurd (show (7 : Int) = 4 from h7) (by decide)) (fun h => absurd (show (7 : Int) = 4 from h) (by decide))
  · exact ⟨none, 0, 0, ((((HB.out.1.alloc _).drewN _).put 1 _).puts _ 6).put 4 _⟩
  · exact grown_put (grownBy_trans (grown_put (grownBy_drewN (grown_box _ _ _) _) 1 _) (grownBy_setCells T _ _ _)) 4 _
set_option maxRecDepth 100000 in
set_option maxHeartbeats 8000000 in
theorem run_fail (w : World) (B T : Nat) (t : Ty) (x : Int) (m : Nat) (h : ToyAt w B T t) (hT : B ≤ T) (ha : t.asks = false) (hw : ¬ (t.waits = true ∨ t.last.kd = 8 ∨ t.last.kd = 9)) (hi : t.sc[t.i]? = some x) (hm : m < 1000) (hx : uns x % 1000 = (m : Int)) (hr : m % 8 = 7) (h9 : 900 < m) :
    Calls Tryd.prog 107 #[.pointer (some ⟨T, 0, none⟩), .int .i64 1000] w (RunPost w B T { t with i := t.i + 1, last := { otOf 9 with tx := [116, 111, 121] } } ({ otOf 9 with tx := [116, 111, 121] })) := by
  obtain ⟨A, c, LA, ln, lc, hb, hs, h4⟩ := h
  obtain ⟨sc, i, sum, self, waits, asks, ⟨kd, nm, tx, ⟨vk, vn⟩, ar⟩⟩ := t
  simp only at ha hw hi
  subst ha
  obtain rfl : waits = false := by
    cases waits with
    | false => rfl
    | true => exact absurd (.inl rfl) hw
  have k8 : (kd == 8) = false := by simpa using fun h => hw (.inr (.inl h))
  have k9 : (kd == 9) = false := by simpa using fun h => hw (.inr (.inr h))
  have c0 := hb.cell 0
  have c1 := hb.cell 1
  have c2 := hb.cell 2
  have c3 := hb.cell 3
  have c4 := hb.cell 4
  have c5 := hb.cell 5
  have c6 := hb.cell 6
  have c7 := hb.cell 7
  have c8 := hb.cell 8
  have c9 := hb.cell 9
  have c10 := hb.cell 10
  have c11 := hb.cell 11
  have c12 := hb.cell 12
  have c13 := hb.cell 13
  simp only [tyC, bst, List.getElem?_cons_zero, List.getElem?_cons_succ] at c0 c1 c2 c3 c4 c5 c6 c7 c8 c9 c10 c11 c12 c13
  have f0 := hb.frozen 0
  have f1 := hb.frozen 1
  have f2 := hb.frozen 2
  have f3 := hb.frozen 3
  have f4 := hb.frozen 4
  have f5 := hb.frozen 5
  have f6 := hb.frozen 6
  have f7 := hb.frozen 7
  have f8 := hb.frozen 8
  have f9 := hb.frozen 9
  have f10 := hb.frozen 10
  have f11 := hb.frozen 11
  have f12 := hb.frozen 12
  have f13 := hb.frozen 13
  have lT := hb.lt
  have HB := Lib.hid (And.intro hb (And.intro hs h4))
  have hil := (List.getElem?_eq_some_iff.1 hi).1
  obtain ⟨b, off, rfl, hbB, hc⟩ := hs.1.2 (show 0 < sc.length by omega)
  have cx := hc i (.int .i64 x) (by rw [nums, List.getElem?_map, hi]; rfl)
  have lb := lt_of_cell cx
  have hbT : b ≠ T := by have : b < B := hbB; omega
  have hTb : T ≠ b := fun e => hbT e.symm
  have hmx : sc.length ≤ 9223372036854775807 := Nat.le_trans (Nat.le_trans hs.2.1 hs.2.2) (Nat.le_of_eq rfl)
  have hn := run_num x m hm hx
  have HN := Lib.hid hn
  have hr8 : ((m : Int).tmod 8) = 7 := by rw [Int.tmod_eq_emod_of_nonneg (by omega)]; omega
  clear hb hs h4 hw hc hi hx hn
  generalize hL : sc.length = L at c0 hil hmx
  have hi' : (i : Int) < (L : Int) := by omega
  have hi'' : ¬ (L : Int) ≤ (i : Int) := by omega
  have HL := Lib.hid hL
  clear hL
  go_enter Tryd.func107, Tryd.ntmps107
  go_wp2_with (fail)
  go_quiet (fail)
  generalize nq = nq1
  go_wp2_with (fail)
  go_quiet (fail)
  go_upto_region 10 with (fail)
  rw [HN.out]
  have h9' : (900 : Int) < (m : Int) := by omega
  go_wp2_with (fail)
  have hne : w.heap.size ≠ T := by omega
  refine run_ret (w1 := (((w.alloc (.cells #[.int .i64 0, .int .i64 0, .string ⟨#[]⟩, .int .i64 0, .int .i64 0, .string ⟨#[]⟩, .slice none 0 0, .slice none 0 0] 101)).drewN (nq1 + nq)).setCell ⟨T, 1, none⟩ (.int .i64 ((i : Int) + 1))).setCells T 6 [.int .i64 9, .int .i64 0, .string ⟨#[116, 111, 121]⟩, .int .i64 0, .int .i64 0, .string ⟨#[]⟩, .slice none 0 0, .slice none 0 0]) (R := w.heap.size) (LA := none) (ln := 0) (lc := 0) (A := some ⟨b, off, none⟩) (c := c) rfl rfl rfl ?_ (blk_fars hne _ _ (((Blk.new w _ _).drewN _).far hne _)) rfl ?_ HB.out.2.1 hT lT (Nat.le_refl _) (fun h => by cases h) (fun h => absurd (show (9 : Int) = 4 from h) (by decide))
  · exact ⟨none, 0, 0, (((HB.out.1.alloc _).drewN _).put 1 _).puts _ 6⟩
  · exact grownBy_trans (grown_put (grownBy_drewN (grown_box _ _ _) _) 1 _) (grownBy_setCells T _ _ _)
set_option maxRecDepth 100000 in
set_option maxHeartbeats 8000000 in
theorem run_fuel (w : World) (B T : Nat) (t : Ty) (x : Int) (m : Nat) (h : ToyAt w B T t) (hT : B ≤ T) (ha : t.asks = false) (hw : ¬ (t.waits = true ∨ t.last.kd = 8 ∨ t.last.kd = 9)) (hi : t.sc[t.i]? = some x) (hm : m < 1000) (hx : uns x % 1000 = (m : Int)) (hr : m % 8 = 7) (h9 : m ≤ 900) :
    Calls Tryd.prog 107 #[.pointer (some ⟨T, 0, none⟩), .int .i64 1000] w (RunPost w B T { t with i := t.i + 1, last := otOf 1 } (otOf 1)) := by
  obtain ⟨A, c, LA, ln, lc, hb, hs, h4⟩ := h
  obtain ⟨sc, i, sum, self, waits, asks, ⟨kd, nm, tx, ⟨vk, vn⟩, ar⟩⟩ := t
  simp only at ha hw hi
  subst ha
  obtain rfl : waits = false := by
    cases waits with
    | false => rfl
    | true => exact absurd (.inl rfl) hw
  have k8 : (kd == 8) = false := by simpa using fun h => hw (.inr (.inl h))
  have k9 : (kd == 9) = false := by simpa using fun h => hw (.inr (.inr h))
  have c0 := hb.cell 0
  have c1 := hb.cell 1
  have c2 := hb.cell 2
  have c3 := hb.cell 3
  have c4 := hb.cell 4
  have c5 := hb.cell 5
  have c6 := hb.cell 6
  have c7 := hb.cell 7
  have c8 := hb.cell 8
  have c9 := hb.cell 9
  have c10 := hb.cell 10
  have c11 := hb.cell 11
  have c12 := hb.cell 12
  have c13 := hb.cell 13
  simp only [tyC, bst, List.getElem?_cons_zero, List.getElem?_cons_succ] at c0 c1 c2 c3 c4 c5 c6 c7 c8 c9 c10 c11 c12 c13
  have f0 := hb.frozen 0
  have f1 := hb.frozen 1
  have f2 := hb.frozen 2
  have f3 := hb.frozen 3
  have f4 := hb.frozen 4
  have f5 := hb.frozen 5
  have f6 := hb.frozen 6
  have f7 := hb.frozen 7
  have f8 := hb.frozen 8
  have f9 := hb.frozen 9
  have f10 := hb.frozen 10
  have f11 := hb.frozen 11
  have f12 := hb.frozen 12
  have f13 := hb.frozen 13
  have lT := hb.lt
  have HB := Lib.hid (And.intro hb (And.intro hs h4))
  have hil := (List.getElem?_eq_some_iff.1 hi).1
  obtain ⟨b, off, rfl, hbB, hc⟩ := hs.1.2 (show 0 < sc.length by omega)
  have cx := hc i (.int .i64 x) (by rw [nums, List.getElem?_map, hi]; rfl)
  have lb := lt_of_cell cx
  have hbT : b ≠ T := by have : b < B := hbB; omega
  have hTb : T ≠ b := fun e => hbT e.symm
  have hmx : sc.length ≤ 9223372036854775807 := Nat.le_trans (Nat.le_trans hs.2.1 hs.2.2) (Nat.le_of_eq rfl)
  have hn := run_num x m hm hx
  have HN := Lib.hid hn
  have hr8 : ((m : Int).tmod 8) = 7 := by rw [Int.tmod_eq_emod_of_nonneg (by omega)]; omega
  clear hb hs h4 hw hc hi hx hn
  generalize hL : sc.length = L at c0 hil hmx
  have hi' : (i : Int) < (L : Int) := by omega
  have hi'' : ¬ (L : Int) ≤ (i : Int) := by omega
  have HL := Lib.hid hL
  clear hL
  go_enter Tryd.func107, Tryd.ntmps107
  go_wp2_with (fail)
  go_quiet (fail)
  generalize nq = nq1
  go_wp2_with (fail)
  go_quiet (fail)
  go_upto_region 10 with (fail)
  rw [HN.out]
  have h9' : ¬ (900 : Int) < (m : Int) := by omega
  go_wp2_with (fail)
  have hne : w.heap.size ≠ T := by omega
  refine run_ret (w1 := (((w.alloc (.cells #[.int .i64 0, .int .i64 0, .string ⟨#[]⟩, .int .i64 0, .int .i64 0, .string ⟨#[]⟩, .slice none 0 0, .slice none 0 0] 101)).drewN (nq1 + nq)).setCell ⟨T, 1, none⟩ (.int .i64 ((i : Int) + 1))).setCells T 6 [.int .i64 1, .int .i64 0, .string ⟨#[]⟩, .int .i64 0, .int .i64 0, .string ⟨#[]⟩, .slice none 0 0, .slice none 0 0]) (R := w.heap.size) (LA := none) (ln := 0) (lc := 0) (A := some ⟨b, off, none⟩) (c := c) rfl rfl rfl ?_ (blk_fars hne _ _ (((Blk.new w _ _).drewN _).far hne _)) rfl ?_ HB.out.2.1 hT lT (Nat.le_refl _) (fun h => by cases h) (fun h => absurd (show (1 : Int) = 4 from h) (by decide))
  · exact ⟨none, 0, 0, (((HB.out.1.alloc _).drewN _).put 1 _).puts _ 6⟩
  · exact grownBy_trans (grown_put (grownBy_drewN (grown_box _ _ _) _) 1 _) (grownBy_setCells T _ _ _)
theorem run_any (w : World) (B T : Nat) (t : Ty) (h : ToyAt w B T t) (hT : B ≤ T) :
    Calls Tryd.prog 107 #[.pointer (some ⟨T, 0, none⟩), .int .i64 1000] w (RunPost w B T (Go.Rp.runT t).1 (Go.Rp.runT t).2) := by
  by_cases ha : t.asks = true
  · have e : Go.Rp.runT t = (t, otOf 1) := by unfold Go.Rp.runT; rw [if_pos ha]
    rw [e]
    exact run_asks w B T t h hT ha
  have ha' : t.asks = false := by simpa using ha
  by_cases hw : t.waits = true ∨ t.last.kd = 8 ∨ t.last.kd = 9
  · have e : Go.Rp.runT t = (t, t.last) := by unfold Go.Rp.runT; rw [if_neg ha, if_pos hw]
    rw [e]
    exact run_still w B T t h hT ha' hw
  cases hi : t.sc[t.i]? with
  | none =>
    have e : Go.Rp.runT t = ({ t with last := otOf 8 }, otOf 8) := by unfold Go.Rp.runT; rw [if_neg ha, if_neg hw, hi]
    rw [e]
    exact run_end w B T t h hT ha' hw (List.getElem?_eq_none_iff.1 hi)
  | some x =>
    have e : Go.Rp.runT t = goT { t with i := t.i + 1 } (uns x % 1000) := by unfold Go.Rp.runT; rw [if_neg ha, if_neg hw, hi]
    have h0 : 0 ≤ uns x % 1000 := Int.emod_nonneg _ (by omega)
    have h1 : uns x % 1000 < 1000 := Int.emod_lt_of_pos _ (by omega)
    obtain ⟨m, hx⟩ := Int.eq_ofNat_of_zero_le h0
    have hm : m < 1000 := by omega
    rw [e, hx]
    clear e
    unfold goT
    rcases (show m % 8 = 0 ∨ m % 8 = 1 ∨ m % 8 = 2 ∨ m % 8 = 3 ∨ m % 8 = 4 ∨ m % 8 = 5 ∨ m % 8 = 6 ∨ m % 8 = 7 by omega) with hr | hr | hr | hr | hr | hr | hr | hr
    · rw [if_pos (by omega)]
      exact run_say0 w B T t x m h hT ha' hw hi hm hx hr
    · rw [if_pos (by omega)]
      exact run_say1 w B T t x m h hT ha' hw hi hm hx hr
    · rw [if_neg (by omega), if_pos (by omega)]
      exact run_send2 w B T t x m h hT ha' hw hi hm hx hr
    · rw [if_neg (by omega), if_pos (by omega)]
      exact run_send3 w B T t x m h hT ha' hw hi hm hx hr
    · rw [if_neg (by omega), if_neg (by omega), if_pos (by omega)]
      refine run_spawn w B T t x m h hT ha' hw hi hm hx hr _ ?_
      have : (97 + ((m : Int) / 8 % 5).toNat) < 256 := by omega
      rw [UInt8.toNat_ofNat', Nat.mod_eq_of_lt (by simpa using this)]
      omega
    · rw [if_neg (by omega), if_neg (by omega), if_neg (by omega), if_pos (by omega)]
      exact run_wait5 w B T t x m h hT ha' hw hi hm hx hr
    · rw [if_neg (by omega), if_neg (by omega), if_neg (by omega), if_pos (by omega)]
      exact run_wait6 w B T t x m h hT ha' hw hi hm hx hr
    · rw [if_neg (by omega), if_neg (by omega), if_neg (by omega), if_neg (by omega)]
      by_cases h9 : 900 < m
      · rw [if_pos (by omega)]
        exact run_fail w B T t x m h hT ha' hw hi hm hx hr h9
      · rw [if_neg (by omega)]
        exact run_fuel w B T t x m h hT ha' hw hi hm hx hr (by omega)
end Go.Proofs.YtlpkgheggbcidaaDoor
