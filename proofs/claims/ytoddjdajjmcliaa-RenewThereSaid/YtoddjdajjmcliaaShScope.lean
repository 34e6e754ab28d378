/- Scopes of types in memory; contracts of resolve, basic and under. -/
import Derived.Test.YtoddjdajjmcliaaShSame0
import Derived.Test.YtoddjdajjmcliaaShVal
set_option linter.unusedVariables false
namespace Go.Sh
open Go.RowKit Go.Mem
theorem _root_.Go.Mem.blks3 (w : World) (t1 t2 t3 : TypeId) (c1 c2 c3 : List Value) (W : World) (hW : W = ((w.alloc (.cells c1.toArray t1)).alloc (.cells c2.toArray t2)).alloc (.cells c3.toArray t3)) :
    Blk W w.heap.size t1 c1 ∧ Blk W (w.heap.size + 1) t2 c2 ∧ Blk W (w.heap.size + 1 + 1) t3 c3 ∧ Below w.heap.size w W ∧ W.heap.size = w.heap.size + 1 + 1 + 1 := by
  subst hW
  have b1 := Blk.new w t1 c1
  have b2 := Blk.new (w.alloc (.cells c1.toArray t1)) t2 c2
  have b3 := Blk.new ((w.alloc (.cells c1.toArray t1)).alloc (.cells c2.toArray t2)) t3 c3
  refine ⟨(b1.alloc _).alloc _, ?_, ?_, ?_, by simp⟩
  · simpa using b2.alloc (.cells c3.toArray t3)
  · simpa using b3
  · exact (((Below.refl _ _).alloc (Nat.le_refl _) _).alloc (by simp) _).alloc (by simp; omega) _
theorem _root_.Go.Mem.results_cell_tmp2 {fn : Func} {p u v : Tmp} {ty : TypeId} (h : fn.results = #[.cell p ty, .tmp u, .tmp v]) (tmps : Array Value) (P : Program) (w : World) :
    (results fn tmps).run P w = ((asAddr (tmps.getD p undef)).run P w).andThen fun a w₁ => ((loadVar ty a).run P w₁).andThen fun x w₂ => .ok (.tuple #[x, tmps.getD u undef, tmps.getD v undef]) w₂ := by
  simp only [results, h]
  simp [Sem.run_bind, Result.andThen]
theorem _root_.Go.Mem.ret_blk_tmp2 {P : Program} {fn : Func} {R : Ending → World → Prop} {a : Act} {w : World} {g : Nat} {te ty : TypeId} {p u v : Tmp} {cs : List Value} {fs : Array Field} (hres : fn.results = #[.cell p ty, .tmp u, .tmp v]) (hp : a.tmps.getD p undef = .pointer (some ⟨g, 0, none⟩)) (h : Blk w g te cs)
    (hu : P.underlying ty = some (.struct fs)) (hsz : (P.info? ty).map (·.size) = some cs.length) (hd : a.defers = []) (hR : R (.returned (.tuple #[.agg cs.toArray, a.tmps.getD u undef, a.tmps.getD v undef])) w) : bodyPost P fn R .ret a w := by
  refine bodyPost_ret (v := .tuple #[.agg cs.toArray, a.tmps.getD u undef, a.tmps.getD v undef]) ?_ hd hR
  have := run_loadVar_blk (P := P) h hu hsz
  rw [results_cell_tmp2 hres, hp]
  simp [asAddr, this]
theorem TCells.more : ∀ {d : Nat} {w : World} {D : Nat → Prop} {cs : List Value} {t : Ty}, TCells d w D cs t → TCells (d + 1) w D cs t
  | 0, _, _, _, _, h => h.elim
  | d + 1, w, D, cs, .mk k n ts, h => by
    obtain ⟨A, c, vss, e, h1, h2, h3, h4, h5, hr, ha⟩ := h
    exact ⟨A, c, vss, e, h1, h2, h3, h4, h5, hr, ha.imp fun x y hxy => hxy.more⟩
theorem TsAt.more {d : Nat} {w : World} {D : Nat → Prop} {A : Option Addr} {n c : Nat} {ts : List Ty} (h : TsAt d w D A n c ts) : TsAt (d + 1) w D A n c ts := by
  obtain ⟨vss, h1, h2, h3, h4, hr, ha⟩ := h
  exact ⟨vss, h1, h2, h3, h4, hr, ha.imp fun x y hxy => hxy.more⟩
theorem TyAt.args {d : Nat} {w : World} {D : Nat → Prop} {k : Nat} {n : Nm} {A : Option Addr} {m c : Nat} {t : Ty} (h : TyAt d w D k n A m c t) : TsAt d w D A m c t.args := by
  obtain ⟨_, _, _, _, e, rfl, h⟩ := h
  exact h.more
def ptrN : Value → Nat
  | .pointer (some a) => a.block + 1
  | _ => 0
end Go.Sh
namespace Go.Proofs.Ytoddjdajjmcliaa
open Go.RowKit Go.Mem Go.Sh Go.Maps
/-- a scope in memory -/
def ScAt (d : Nat) (w : World) : Option Addr → Sc → Prop
  | v, .nil => v = none
  | v, .mk ps us o => ∃ b X cx A n c ov, v = some ⟨b, 0, none⟩ ∧ Blk w b 159 [.slice X ps.length cx, .slice A n c, .pointer ov] ∧ Reads w Any 1 X ps.length (strs ps) ∧ ps.length ≤ 1000 ∧ TsAt d w Any A n c us ∧ ptrN (.pointer ov) ≤ b ∧ ScAt d w ov o
theorem ScAt.keep {d : Nat} {w w' : World} (hk : Same Any w w') : ∀ {s : Sc} {v : Option Addr}, ScAt d w v s → ScAt d w' v s
  | .nil, v, h => h
  | .mk ps us o, v, h => by
    obtain ⟨b, X, cx, A, n, c, ov, e, h1, h2, h3, h4, h5, h6⟩ := h
    exact ⟨b, X, cx, A, n, c, ov, e, h1.same hk trivial, h2.keep hk, h3, h4.keep hk, h5, h6.keep hk⟩
theorem ScAt.lt {d : Nat} {w : World} {s : Sc} {v : Option Addr} (h : ScAt d w v s) : ptrN (.pointer v) ≤ w.heap.size := by
  cases s with
  | nil => unfold ScAt at h; subst h; exact Nat.zero_le _
  | mk ps us o =>
    obtain ⟨b, X, cx, A, n, c, ov, rfl, h1, _⟩ := h
    exact h1.lt
-- BEGIN
set_option maxRecDepth 100000 in
theorem basic_any (k : Nat) (w : World) (hk : k ≤ 9) : Calls Try.prog 51 #[.int .i64 (k : Nat)] w fun e w' => e = .returned (.int .i64 (basicF k : Nat)) ∧ w = w' := by
  obtain rfl | rfl | rfl | rfl | rfl | rfl | rfl | rfl | rfl | rfl : k = 0 ∨ k = 1 ∨ k = 2 ∨ k = 3 ∨ k = 4 ∨ k = 5 ∨ k = 6 ∨ k = 7 ∨ k = 8 ∨ k = 9 := by omega
  all_goals
    go_enter Try.func51, Try.ntmps51
    go_wp2_with (fail)
    go_ret
    exact ⟨rfl, rfl⟩
/-- what resolve hands back is of a kind up to 9 -/
theorem TsAt.kinds {d : Nat} {w : World} {A : Option Addr} {n c : Nat} {us : List Ty} (h : TsAt d w Any A n c us) {j : Nat} {u : Ty} (hu : us[j]? = some u) : u.kind ≤ 9 := by
  obtain ⟨hj, rfl⟩ := List.getElem?_eq_some_iff.1 hu
  obtain ⟨_, _, _, _, _, _, _, _, _, _, _, _, h9, _⟩ := h.cells (by have := h; obtain ⟨_, q, _⟩ := this; omega) hj
  exact h9
theorem resolve_le {d : Nat} {w : World} : ∀ (s : Sc) {sv : Option Addr} (t : Ty) {A : Option Addr} {m c : Nat}, TyAt d w Any t.kind t.name A m c t → ScAt d w sv s → (resolveF s t).1.kind ≤ 9
  | .nil, _, t, _, _, _, ht, _ => ht.2.2.1
  | .mk ps us o, _, t, _, _, _, ht, hs => by
    obtain ⟨b, X, cx, A3, n3, c3, ov, rfl, _, _, _, hus, _, hso⟩ := hs
    unfold resolveF
    split
    · split
      · split
        · rename_i u hu
          obtain ⟨hj, rfl⟩ := List.getElem?_eq_some_iff.1 hu
          obtain ⟨_, _, B, m5, e5, _, _, _, _, _, hty⟩ := hus.cells (by have := hus; obtain ⟨_, q, _⟩ := this; omega) hj
          exact resolve_le o _ hty hso
        · exact ht.2.2.1
      · exact ht.2.2.1
    · exact ht.2.2.1
/-- what resolve hands back -/
def ResPost (d : Nat) (w0 w : World) (r : Ty × Sc) : Ending → World → Prop := fun e w' => Below w.heap.size w w' ∧ ∃ A m c sv, e = .returned (.tuple #[.agg #[.int .i64 (r.1.kind : Nat), str r.1.name, .slice A m c], .pointer sv]) ∧ TyAt d w0 Any r.1.kind r.1.name A m c r.1 ∧ ScAt d w0 sv r.2
theorem ixG_ge (n : Nm) : ∀ (l : List Nm) (k : Nat), -1 ≤ ixG n l k
  | [], k => by simp [ixG]
  | a :: l, k => by
    unfold ixG
    split
    · omega
    · exact ixG_ge n l (k + 1)
theorem ixG_lt (n : Nm) : ∀ (l : List Nm) (k : Nat), ixG n l k < (k + l.length : Nat)
  | [], k => by simp [ixG]; omega
  | a :: l, k => by
    unfold ixG
    have := ixG_lt n l (k + 1)
    simp only [List.length_cons]
    split
    · omega
    · omega
theorem below_drewN {N : Nat} {w w' : World} (h : Below N w w') (n : Nat) : Below N w (w'.drewN n) := ⟨h.os, h.tape, h.output, h.size, h.block⟩
theorem res_end {d : Nat} {w0 w wr : World} {RB : Nat} {k : Nat} {n : Nm} {l : List Ty} {s2 : Sc} {A : Option Addr} {m c : Nat} {sv : Option Addr} {r : Ty × Sc} (hr : r = (.mk k n l, s2)) (h1 : TyAt d w0 Any k n A m c (.mk k n l)) (h2 : ScAt d w0 sv s2) (hb : Blk wr RB 34 [.int .i64 0, str [], .slice none 0 0]) (hbe : Below w.heap.size w wr) (hRB : w.heap.size ≤ RB) :
    Blk (((wr.setCell ⟨RB, 0, none⟩ (.int .i64 (k : Nat))).setCell ⟨RB, 1, none⟩ (str n)).setCell ⟨RB, 2, none⟩ (.slice A m c)) RB 34 [.int .i64 (k : Nat), str n, .slice A m c] ∧
    ResPost d w0 w r (.returned (.tuple #[.agg #[.int .i64 (k : Nat), str n, .slice A m c], .pointer sv])) (((wr.setCell ⟨RB, 0, none⟩ (.int .i64 (k : Nat))).setCell ⟨RB, 1, none⟩ (str n)).setCell ⟨RB, 2, none⟩ (.slice A m c)) := by
  have hb2 := (((hb.put 0 (.int .i64 (k : Nat))).put 1 (str n)).put 2 (.slice A m c))
  have hbe2 := ((hbe.setCell (p := ⟨RB, 0, none⟩) hRB (.int .i64 (k : Nat))).setCell (p := ⟨RB, 1, none⟩) hRB (str n)).setCell (p := ⟨RB, 2, none⟩) hRB (.slice A m c)
  subst hr
  exact ⟨hb2, hbe2, A, m, c, sv, rfl, h1, h2⟩
set_option maxRecDepth 100000 in
set_option maxHeartbeats 1000000 in
theorem resolve_any (d : Nat) (w0 w : World) (t : Ty) (A : Option Addr) (m c : Nat) (s : Sc) (sv : Option Addr) (hb0 : Below w0.heap.size w0 w) (ht : TyAt d w0 Any t.kind t.name A m c t) (hs : ScAt d w0 sv s) :
    Calls Try.prog 47 #[.agg #[.int .i64 (t.kind : Nat), str t.name, .slice A m c], .pointer sv] w (ResPost d w0 w (resolveF s t)) := by
  have HT := Lib.hid (And.intro ht hs)
  have HB0 := Lib.hid hb0
  clear ht hs hb0
  obtain ⟨F, hF⟩ : ∃ F, F = w.heap.size := ⟨_, rfl⟩
  have HF := Lib.hid hF
  clear hF
  go_enter Try.func47, Try.ntmps47
  go_wp2_with (fail)
  obtain ⟨RB, hRB⟩ : ∃ RB, RB = w.heap.size + 1 := ⟨_, rfl⟩
  rw [← hRB, ← HF.out]
  have HG := Lib.hid hRB
  obtain ⟨W1, hW1⟩ : ∃ W1, W1 = (w.alloc (.cells #[.int .i64 (t.kind : Nat), str t.name, .slice A m c] 34)).alloc (.cells #[.int .i64 0, .string ⟨#[]⟩, .slice none 0 0] 34) := ⟨_, rfl⟩
  have hst : Blk W1 F 34 [.int .i64 (t.kind : Nat), str t.name, .slice A m c] ∧ Blk W1 RB 34 [.int .i64 0, str [], .slice none 0 0] ∧ Below w.heap.size w W1 := by
    rw [hW1, HF.out, hRB]
    refine ⟨(Blk.new w 34 [.int .i64 (t.kind : Nat), str t.name, .slice A m c]).alloc _, ?_, ((Below.refl _ _).alloc (Nat.le_refl _) _).alloc (by simp) _⟩
    have := Blk.new (w.alloc (.cells #[.int .i64 (t.kind : Nat), str t.name, .slice A m c] 34)) 34 [.int .i64 0, str [], .slice none 0 0]
    rw [show (w.alloc (.cells #[.int .i64 (t.kind : Nat), str t.name, .slice A m c] 34)).heap.size = w.heap.size + 1 by simp] at this
    exact this
  rw [← hW1]
  have HS := Lib.hid hst
  clear hst hW1 hRB
  go_loopw [1, 6] (fun v _ wr => ∃ t2 s2 A2 m2 c2 q2, v = .pointer q2 ∧ Hid (TyAt d w0 Any t2.kind t2.name A2 m2 c2 t2 ∧ ScAt d w0 q2 s2 ∧ resolveF s2 t2 = resolveF s t) ∧ Hid (Blk wr F 34 [.int .i64 (t2.kind : Nat), str t2.name, .slice A2 m2 c2] ∧ Blk wr RB 34 [.int .i64 0, str [], .slice none 0 0] ∧ Below w.heap.size w wr)) (fun v _ _ => ptrN v)
  case atStart => exact ⟨t, s, A, m, c, sv, rfl, Lib.hid ⟨HT.out.1, HT.out.2, rfl⟩, HS⟩
  case round =>
    obtain ⟨t2, s2, A2, m2, c2, q2, rfl, HT2, HW⟩ := hrel
    obtain ⟨k2, n2, l2⟩ := t2
    simp only [Ty.kind, Ty.name] at HT2 HW
    have f0 := HW.out.1.cell 0
    have f1 := HW.out.1.cell 1
    have f2 := HW.out.1.cell 2
    have r0 := HW.out.2.1.cell 0
    have r1 := HW.out.2.1.cell 1
    have r2 := HW.out.2.1.cell 2
    have z0 := HW.out.2.1.frozen 0
    have z1 := HW.out.2.1.frozen 1
    have z2 := HW.out.2.1.frozen 2
    have y0 := HW.out.1.frozen 0
    have y1 := HW.out.1.frozen 1
    have y2 := HW.out.1.frozen 2
    simp only [List.getElem?_cons_zero, List.getElem?_cons_succ] at f0 f1 f2 r0 r1 r2
    have lF := HW.out.1.lt
    have lR := HW.out.2.1.lt
    have nFR : ¬ F = RB := by have := HG.out; have := HF.out; omega
    have HRB := Lib.hid (show w.heap.size ≤ RB by have := HG.out; omega)
    by_cases h5 : k2 = 5
    · subst h5
      cases s2 with
      | nil =>
        have e := HT2.out.2.1
        unfold ScAt at e
        subst e
        have fin := Lib.hid (res_end (hr := (HT2.out.2.2.symm.trans rfl)) HT2.out.1 HT2.out.2.1 HW.out.2.1 HW.out.2.2 HRB.out)
        go_wp2_with (fail)
        exact ret_blk_tmp rfl rfl fin.out.1 Try.underlying34 (by kernel_rfl) rfl fin.out.2
      | mk ps us o =>
        obtain ⟨b, X, cx, A3, n3, c3, ov, rfl, hbs, hrx, hps, hus, hov, hso⟩ := HT2.out.2.1
        have hb2 := hbs.same (Same.any (HB0.out.trans (HW.out.2.2.mono HB0.out.size)) : Same Any w0 wr) trivial
        have b0 := hb2.cell 0
        have b1 := hb2.cell 1
        have b2 := hb2.cell 2
        simp only [List.getElem?_cons_zero, List.getElem?_cons_succ] at b0 b1 b2
        have lb := hb2.lt
        have nbF : ¬ b = F := hb2.ne_ HW.out.1 (by decide)
        have nbR : ¬ b = RB := hb2.ne_ HW.out.2.1 (by decide)
        have hrx2 := Lib.hid (hrx.keep (Same.any (HB0.out.trans (HW.out.2.2.mono HB0.out.size)) : Same Any w0 wr))
        have hlen : n3 = us.length ∧ n3 ≤ 1000 ∧ n3 ≤ c3 ∧ c3 ≤ maxLen := by obtain ⟨_, q1, q2, q3, q4, _⟩ := hus; exact ⟨q1, q2, q3, q4⟩
        have HU := Lib.hid (And.intro hus (And.intro hov hso))
        have HL := Lib.hid hlen
        have n31 := hlen.2.1
        have n32 := hlen.2.2.1
        have n33 := hlen.2.2.2
        unfold maxLen at n33
        have hres : resolveF (.mk ps us o) (.mk 5 n2 l2) = if 0 ≤ ixG n2 ps 0 then match us[(ixG n2 ps 0).toNat]? with
          | some u => resolveF o u
          | none => (.mk 5 n2 l2, .mk ps us o)
          else (.mk 5 n2 l2, .mk ps us o) := rfl
        have HR := Lib.hid hres
        clear hres hrx hus hov hso hlen hb2 hbs
        obtain ⟨ix, hix⟩ : ∃ ix, ix = ixG n2 ps 0 := ⟨_, rfl⟩
        have hbd : ix ≤ 1000 ∧ -1 ≤ ix := by rw [hix]; exact ⟨by have := ixG_lt n2 ps 0; omega, ixG_ge n2 ps 0⟩
        have HX := Lib.hid hix
        rw [← hix] at HR
        have IX := Lib.hid (fun W h => indexS_any X ps.length cx ps n2 W h rfl hps)
        rw [← hix] at IX
        clear hix
        by_cases hneg : ix < 0
        · have hr := HR.out
          rw [if_neg (by omega)] at hr
          have fin := Lib.hid (fun nq => res_end (hr := (HT2.out.2.2.symm.trans hr)) HT2.out.1 HT2.out.2.1 (HW.out.2.1.drewN nq) (below_drewN HW.out.2.2 nq) HRB.out)
          clear hr
          go_wp2_with (fail)
          go_quiet (first | (go_at_call 37; exact Calls.quiet_of_same ((IX.out _ (hrx2.out.drewN _)).mono fun e w2 h => ⟨h.1, h.2.symm⟩)))
          go_wp2_with (fail)
          exact ret_blk_tmp rfl rfl (fin.out _).1 Try.underlying34 (by kernel_rfl) rfl (fin.out _).2
        · obtain ⟨i, rfl⟩ : ∃ i : Nat, ix = i := ⟨ix.toNat, by omega⟩
          have hr := HR.out
          rw [if_pos (by omega), Int.toNat_natCast] at hr
          by_cases hlt : i < n3
          · have hil : i < us.length := by have := HL.out; omega
            rw [List.getElem?_eq_getElem hil] at hr
            obtain ⟨bb, off, B, m5, e5, rfl, _, p0, p1, p2, hty⟩ := HU.out.1.cells hlt hil
            have p0 := (Same.any (HB0.out.trans (HW.out.2.2.mono HB0.out.size)) : Same Any w0 wr).cell trivial p0
            have p1 := (Same.any (HB0.out.trans (HW.out.2.2.mono HB0.out.size)) : Same Any w0 wr).cell trivial p1
            have p2 := (Same.any (HB0.out.trans (HW.out.2.2.mono HB0.out.size)) : Same Any w0 wr).cell trivial p2
            generalize us[i] = u at p0 p1 p2 hty hr
            obtain ⟨k4, n4, l4⟩ := u
            simp only [Ty.kind, Ty.name] at p0 p1 p2 hty hr
            have lbb := lt_of_cell p0
            have HN := Lib.hid (And.intro hty (And.intro HU.out.2.2 (HT2.out.2.2.symm.trans hr)))
            have HB := Lib.hid (And.intro HU.out.2.1 HRB.out)
            have hFg : w.heap.size ≤ F := by have := HF.out; omega
            have HBl := Lib.hid (show ∀ nq : Nat, _ ∧ _ ∧ _ from fun nq => ⟨((HW.out.1.drewN nq).put 0 (.int .i64 (k4 : Nat))).put 1 (str n4) |>.put 2 (.slice B m5 e5), ((HW.out.2.1.drewN nq).far (p := ⟨F, 0, none⟩) (fun e => nFR e.symm) (.int .i64 (k4 : Nat))).far (p := ⟨F, 1, none⟩) (fun e => nFR e.symm) (str n4) |>.far (p := ⟨F, 2, none⟩) (fun e => nFR e.symm) (.slice B m5 e5), ((below_drewN HW.out.2.2 nq).setCell (p := ⟨F, 0, none⟩) hFg (.int .i64 (k4 : Nat))).setCell (p := ⟨F, 1, none⟩) hFg (str n4) |>.setCell (p := ⟨F, 2, none⟩) hFg (.slice B m5 e5)⟩)
            clear hr hty
            go_wp2_with (fail)
            go_quiet (first | (go_at_call 37; exact Calls.quiet_of_same ((IX.out _ (hrx2.out.drewN _)).mono fun e w2 h => ⟨h.1, h.2.symm⟩)))
            go_wp2_with (fail)
            go_region
            all_goals go_wp2_with (fail)
            all_goals exact ⟨⟨.mk k4 n4 l4, o, B, m5, e5, ov, rfl, Lib.hid ⟨HN.out.1, HN.out.2.1, HN.out.2.2.symm⟩, Lib.hid (HBl.out _)⟩, Nat.lt_succ_of_le HB.out.1⟩
          · rw [List.getElem?_eq_none (by have := HL.out; omega)] at hr
            have fin := Lib.hid (fun nq => res_end (hr := (HT2.out.2.2.symm.trans hr)) HT2.out.1 HT2.out.2.1 (HW.out.2.1.drewN nq) (below_drewN HW.out.2.2 nq) HRB.out)
            clear hr
            go_wp2_with (fail)
            go_quiet (first | (go_at_call 37; exact Calls.quiet_of_same ((IX.out _ (hrx2.out.drewN _)).mono fun e w2 h => ⟨h.1, h.2.symm⟩)))
            go_wp2_with (fail)
            exact ret_blk_tmp rfl rfl (fin.out _).1 Try.underlying34 (by kernel_rfl) rfl (fin.out _).2
    · have q5 : ((k2 : Int) == 5) = false := by simp; omega
      have hr : resolveF s2 (.mk k2 n2 l2) = (.mk k2 n2 l2, s2) := by
        cases s2
        · rfl
        · exact if_neg h5
      have fin := Lib.hid (res_end (hr := (HT2.out.2.2.symm.trans hr)) HT2.out.1 HT2.out.2.1 HW.out.2.1 HW.out.2.2 HRB.out)
      clear h5 hr
      go_wp2_with (fail)
      exact ret_blk_tmp rfl rfl fin.out.1 Try.underlying34 (by kernel_rfl) rfl fin.out.2
/-- what under hands back, where there is such a Data -/
def UnderPost (d : Nat) (w : World) (s : Sc) (t : Ty) (R : Dt) : Ending → World → Prop := fun e w' => Below w.heap.size w w' ∧ ∃ X cx A n c sv, e = .returned (.tuple #[.agg #[str R.name, .slice X R.params.length cx, .slice A n c], .pointer sv, .bool true]) ∧ MksAt d w' Any A n c R.makes ∧ ScAt d w' sv (.mk R.params t.args s)
set_option maxRecDepth 100000 in
set_option maxHeartbeats 1000000 in
theorem under_any (d : Nat) (w : World) (p : Pg) (P : List Dt) (t : Ty) (R : Dt) (A : Option Addr) (m c : Nat) (s : Sc) (sv : Option Addr) (hp : DtsAt d w Any p.A p.n p.c P) (ht : TyAt d w Any t.kind t.name A m c t) (hs : ScAt d w sv s) (hR : dataOf P t.name = some R) (hl : R.params.length = t.args.length) :
    Calls Try.prog 52 #[.agg p.cells.toArray, .agg #[.int .i64 (t.kind : Nat), str t.name, .slice A m c], .pointer sv] w (UnderPost d w s t R) := by
  have HT := Lib.hid (And.intro hp (And.intro ht hs))
  have HR := Lib.hid (And.intro hR hl)
  clear hp ht hs hR hl
  unfold Pg.cells pvs
  go_enter Try.func52, Try.ntmps52
  go_upto_region 1 with (fail)
  obtain ⟨W3, hW3⟩ : ∃ W3, W3 = ((w.alloc (.cells #[str [109], .int .i64 1, .slice none 0 0, .slice p.A p.n p.c, .slice none 0 0, .slice none 0 0, .slice none 0 0, .slice p.B p.m p.e] 29)).alloc (.cells #[.int .i64 (t.kind : Nat), str t.name, .slice A m c] 34)).alloc (.cells #[.string ⟨#[]⟩, .slice none 0 0, .slice none 0 0] 83) := ⟨_, rfl⟩
  have hb := blks3 w 29 34 83 [str [109], .int .i64 1, .slice none 0 0, .slice p.A p.n p.c, .slice none 0 0, .slice none 0 0, .slice none 0 0, .slice p.B p.m p.e] [.int .i64 (t.kind : Nat), str t.name, .slice A m c] [str [], .slice none 0 0, .slice none 0 0] W3 hW3
  rw [← hW3]
  clear hW3
  obtain ⟨FA, hFA⟩ : ∃ FA, FA = w.heap.size := ⟨_, rfl⟩
  obtain ⟨FB, hFB⟩ : ∃ FB, FB = w.heap.size + 1 := ⟨_, rfl⟩
  obtain ⟨FC, hFC⟩ : ∃ FC, FC = w.heap.size + 1 + 1 := ⟨_, rfl⟩
  have HFs := Lib.hid (show FA = w.heap.size ∧ FB = w.heap.size + 1 ∧ FC = w.heap.size + 1 + 1 from ⟨hFA, hFB, hFC⟩)
  rw [← hFC, ← hFB, ← hFA] at hb
  rw [← hFC, ← hFB, ← hFA]
  have HB := Lib.hid hb
  have a0 := hb.1.cell 0
  have a1 := hb.1.cell 1
  have a2 := hb.1.cell 2
  have a3 := hb.1.cell 3
  have a4 := hb.1.cell 4
  have a5 := hb.1.cell 5
  have a6 := hb.1.cell 6
  have a7 := hb.1.cell 7
  have c1 := hb.2.1.cell 1
  have lA := hb.1.lt
  have lB := hb.2.1.lt
  simp only [List.getElem?_cons_zero, List.getElem?_cons_succ] at a0 a1 a2 a3 a4 a5 a6 a7 c1
  have hlt : ∀ b, Any b → b < w.heap.size → b ≠ FC := fun b _ hl => by have := HFs.out; omega
  have KD := Lib.hid (kindData_any d (fun b => b ≠ FC) p.A p.n p.c p.B p.m p.e P t.name W3 ((HT.out.1.imp hlt).keep (Same.any (by rw [← hFA]; exact hb.2.2.2.1))))
  rw [HR.out.1] at KD
  clear hb hFA hFB hFC
  go_upto_region 2 with (go_at_call 66; refine KD.out.mono ?_; unfold KindPost; rintro e w4 ⟨hb4, X, cx, A4, n4, c4, rfl, hx, hrx, hma⟩; have HK := Lib.hid (And.intro hb4 (And.intro hx (And.intro hrx hma))); clear a0 a1 a2 a3 a4 a5 a6 a7 c1 lA lB hb4 hx hrx hma)
  obtain ⟨w5, hw5⟩ : ∃ w5, w5 = w4.alloc (.cells #[str R.name, .slice X R.params.length cx, .slice A4 n4 c4] 83) := ⟨_, rfl⟩
  have hd : Blk w5 w4.heap.size 83 [str R.name, .slice X R.params.length cx, .slice A4 n4 c4] := by rw [hw5]; exact Blk.new _ _ _
  have hb5 : Below W3.heap.size W3 w5 := by rw [hw5]; exact HK.out.1.alloc HK.out.1.size _
  rw [← hw5]
  obtain ⟨BD, hBD⟩ : ∃ BD, BD = w4.heap.size := ⟨_, rfl⟩
  rw [← hBD] at hd ⊢
  have hBD2 : W3.heap.size ≤ BD := by rw [hBD]; exact HK.out.1.size
  have gB := HB.out.2.1.below hb5 HB.out.2.1.lt
  have gC := HB.out.2.2.1.below hb5 HB.out.2.2.1.lt
  have lB := gB.lt
  have lC := gC.lt
  have lD := hd.lt
  have d0 := hd.cell 0
  have d1 := hd.cell 1
  have d2 := hd.cell 2
  have e2 := gB.cell 2
  have z0 := gC.frozen 0
  have z1 := gC.frozen 1
  have z2 := gC.frozen 2
  have k0 := gC.cell 0
  have k1 := gC.cell 1
  have k2 := gC.cell 2
  simp only [List.getElem?_cons_zero, List.getElem?_cons_succ] at d0 d1 d2 e2 k0 k1 k2
  have nCB : ¬ FC = FB := by have := HFs.out; omega
  have nCD : ¬ FC = BD := by have := HB.out.2.2.1.lt; omega
  have hml : m = t.args.length := by obtain ⟨_, q1, _⟩ := HT.out.2.1.args; exact q1
  have ne1 : ((R.params.length : Int) != (m : Int)) = false := by have := HR.out.2; simp; omega
  have hbw : Below w.heap.size w w5 := by
    have h := HB.out.2.2.2.1
    rw [HFs.out.1] at h
    exact h.trans (hb5.mono (by have := HB.out.2.2.2.2; have := HFs.out; omega))
  have hgC : w.heap.size ≤ FC := by have := HFs.out; omega
  have HW := Lib.hid (And.intro hbw (And.intro gC hgC))
  have h45 : Same (fun b => b ≠ FC) w4 w5 := by rw [hw5]; exact Same.alloc _ _ _
  have HM := Lib.hid (And.intro (HK.out.2.2.1.keep h45) (HK.out.2.2.2.keep h45))
  have HML := Lib.hid hml
  clear hw5 hd hb5 hBD hBD2 gB gC hml hbw hgC h45
  go_wp2_with (fail)
  go_region
  all_goals go_wp2_with (fail)
  have hR1 := (((HW.out.2.1.put 0 (str R.name)).put 1 (.slice X R.params.length cx)).put 2 (.slice A4 n4 c4)).alloc (.cells #[.slice X R.params.length cx, .slice A m c, .pointer sv] 159)
  have hb1 := (((HW.out.1.setCell (p := ⟨FC, 0, none⟩) HW.out.2.2 (str R.name)).setCell (p := ⟨FC, 1, none⟩) HW.out.2.2 (.slice X R.params.length cx)).setCell (p := ⟨FC, 2, none⟩) HW.out.2.2 (.slice A4 n4 c4))
  have hs1 := Blk.new (((w5.setCell ⟨FC, 0, none⟩ (str R.name)).setCell ⟨FC, 1, none⟩ (.slice X R.params.length cx)).setCell ⟨FC, 2, none⟩ (.slice A4 n4 c4)) 159 [.slice X R.params.length cx, .slice A m c, .pointer sv]
  have hz : (((w5.setCell ⟨FC, 0, none⟩ (str R.name)).setCell ⟨FC, 1, none⟩ (.slice X R.params.length cx)).setCell ⟨FC, 2, none⟩ (.slice A4 n4 c4)).heap.size = w5.heap.size := by simp [World.setCell]
  rw [hz] at hs1
  have hb2 := hb1.alloc hb1.size (.cells #[.slice X R.params.length cx, .slice A m c, .pointer sv] 159)
  refine ret_blk_tmp2 rfl rfl (hR1.drew) Try.underlying83 (by kernel_rfl) rfl ?_
  have hk : Same (fun b => b ≠ FC) w5 ((((w5.setCell ⟨FC, 0, none⟩ (str R.name)).setCell ⟨FC, 1, none⟩ (.slice X R.params.length cx)).setCell ⟨FC, 2, none⟩ (.slice A4 n4 c4)).alloc (.cells #[.slice X R.params.length cx, .slice A m c, .pointer sv] 159)) := fun b hb hl => (Below.heap_alloc _ _ b (by rw [hz]; exact hl)).trans ((Below.heap_setCell _ ⟨FC, 2, none⟩ _ b hb).trans ((Below.heap_setCell _ ⟨FC, 1, none⟩ _ b hb).trans (Below.heap_setCell _ ⟨FC, 0, none⟩ _ b hb)))
  refine ⟨hb2.drew, X, cx, A4, n4, c4, some ⟨w5.heap.size, 0, none⟩, rfl, ?_, w5.heap.size, X, cx, A, m, c, sv, rfl, hs1, ?_, HK.out.2.1, ?_, ?_, ?_⟩
  · exact MksAt.imp (D := fun b => b ≠ FC) (MksAt.keep HM.out.2 (fun b hb hl => hk b hb hl)) fun _ _ _ => trivial
  · exact Reads.imp (D := fun b => b ≠ FC) (Reads.keep HM.out.1 (fun b hb hl => hk b hb hl)) (by omega) fun _ _ _ => trivial
  · exact HT.out.2.1.args.keep (Same.any hb2.drew)
  · exact Nat.le_trans HT.out.2.2.lt HW.out.1.size
  · exact HT.out.2.2.keep (Same.any hb2.drew)
end Go.Proofs.Ytoddjdajjmcliaa
