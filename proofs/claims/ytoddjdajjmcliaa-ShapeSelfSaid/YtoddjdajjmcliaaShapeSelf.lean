/- ShapeSelf's walk. -/
import Derived.Test.YtoddjdajjmcliaaPgOf
import Derived.Test.YtoddjdajjmcliaaShSelfLaw
import Derived.Deep.DeepCutAuto
import Derived.Deep.CutBlock
import Derived.Test.YtoddjdajjmcliaaHeldG
set_option linter.unusedVariables false
namespace Go.Proofs.Ytoddjdajjmcliaa
open Go.RowKit Go.Mem Go.Sh Go.Maps
/-- a program of the laws, told by what the laws read of it -/
structure PgIn (w : World) (A : Option Addr) (n c bc e : Nat) (P : List Dt) (An : Option Addr) (cn : Nat) (At : Option Addr) (ct q m : Nat) (T : List Ty) : Prop where
  dts : DtsAt 4 w Any A n c P
  act : Blk w bc 40 (acell An m cn At ct q)
  ts : TsAt 4 w Any At m ct T
  sub : ∀ t ∈ T, t ∈ typesF
  mem : P ∈ progs
  pos : 0 < m ∧ m ≤ 6 ∧ m = T.length
theorem PgIn.below {w w' : World} {A : Option Addr} {n c bc e : Nat} {P : List Dt} {An : Option Addr} {cn : Nat} {At : Option Addr} {ct q m : Nat} {T : List Ty} (h : PgIn w A n c bc e P An cn At ct q m T) (hb : Below w.heap.size w w') : PgIn w' A n c bc e P An cn At ct q m T :=
  ⟨h.dts.keep (Same.any hb), h.act.below hb h.act.lt, h.ts.keep (Same.any hb), h.sub, h.mem, h.pos⟩
theorem PgmAt.in_ {w : World} {p : Pg} {y : Nat} {bad : Bool} {q bits : Nat} (h : PgmAt w p y bad q (idxF bits 9)) (hy : 1 ≤ y ∧ y ≤ 2) (hb : 1 ≤ bits ∧ bits ≤ 511) : ∃ A n c bc e P An cn At ct m T, p = ⟨A, n, c, some ⟨bc, 0, none⟩, 1, e⟩ ∧ PgIn w A n c bc e P An cn At ct q m T := by
  obtain ⟨A, n, c, B, m, e⟩ := p
  obtain ⟨h1, h2, bc, An, cn, At, ct, h3, h4, h5, h6, h7, h8⟩ := h
  simp only at h1 h2 h3
  subst h2 h3
  refine ⟨A, n, c, bc, e, _, An, cn, At, ct, _, _, rfl, h1, h4, h8, fun t ht => ?_, pd_mem hy bad, idxF_pos hb, (idxF_le bits 9).1, by simp⟩
  obtain ⟨i, _, rfl⟩ := List.mem_map.1 ht
  exact tyF_mem i
theorem tyAt_tc {d : Nat} {w : World} {D : Nat → Prop} {k : Nat} {n : Nm} {A : Option Addr} {m c : Nat} {t : Ty} (h : TyAt d w D k n A m c t) : TCells d w D [.int .i64 (k : Nat), str n, .slice A m c] t := by
  obtain ⟨rfl, rfl, h3, h4, e, rfl, vss, rfl, h6, h7, h8, h9, h10⟩ := h
  obtain ⟨k, n, a⟩ := t
  exact ⟨A, c, vss, rfl, h3, h4, h6, h7, h8, h9, h10⟩
set_option maxRecDepth 100000 in
set_option maxHeartbeats 40000000 in
theorem shapeSelf_any (w : World) (x0 x1 x2 x3 : Int) (h0 : I64 x0) (h1 : I64 x1) (h2 : I64 x2) (h3 : I64 x3) :
    Calls Try.prog 3 #[.int .i64 x0, .int .i64 x1, .int .i64 x2, .int .i64 x3] w fun e w' => e = .returned (.bool true) ∧ Below w.heap.size w w' := by
  have P0 := Lib.hid (programOf_any x0 w h0)
  have P1 := Lib.hid (fun W => programOf_any x1 W h1)
  have HI := Lib.hid (And.intro h2 h3)
  clear h0 h1 h2 h3
  go_enter Try.func3, Try.ntmps3
  go_wp2_with (fail)
  refine P0.out.mono ?_
  unfold PgPost
  rintro e w1 ⟨hb1, p, y, bad, q, bits, rfl, hy, hq, hbits, hp⟩
  obtain ⟨A, n, c, bc, ea, P, An, cn, At, ct, m, T, rfl, hpi⟩ := hp.in_ hy hbits
  have HP := Lib.hid hpi
  have HB1 := Lib.hid hb1
  clear hp hpi hy hq hbits hb1 P0
  unfold Pg.cells pvs
  go_wp2_with (fail)
  refine (P1.out w1).mono ?_
  unfold PgPost
  rintro e w2 ⟨hb2, p', y', bad', q', bits', rfl, hy', hq', hbits', hp'⟩
  obtain ⟨A', n', c', bc', ea', P', An', cn', At', ct', m', T', rfl, hpj⟩ := hp'.in_ hy' hbits'
  have HP2 := Lib.hid (HP.out.below hb2)
  have HQ2 := Lib.hid hpj
  have HB2 := Lib.hid (HB1.out.trans (hb2.mono HB1.out.size))
  clear hp' hpj hy' hq' hbits' hb2 P1 HP
  unfold Pg.cells pvs
  go_upto_region 2 with (fail)
  have fp := (Blk.new w2 29 (pvs A n c (some ⟨bc, 0, none⟩) 1 ea)).alloc (.cells (pvs A' n' c' (some ⟨bc', 0, none⟩) 1 ea').toArray 29)
  have fq := Blk.new (w2.alloc (.cells (pvs A n c (some ⟨bc, 0, none⟩) 1 ea).toArray 29)) 29 (pvs A' n' c' (some ⟨bc', 0, none⟩) 1 ea')
  rw [show (w2.alloc (.cells (pvs A n c (some ⟨bc, 0, none⟩) 1 ea).toArray 29)).heap.size = w2.heap.size + 1 by simp] at fq
  have hb3 : Below w2.heap.size w2 ((w2.alloc (.cells (pvs A n c (some ⟨bc, 0, none⟩) 1 ea).toArray 29)).alloc (.cells (pvs A' n' c' (some ⟨bc', 0, none⟩) 1 ea').toArray 29)) := ((Below.refl _ _).alloc (Nat.le_refl _) _).alloc (by simp) _
  obtain ⟨W, hW⟩ : ∃ W, W = (w2.alloc (.cells (pvs A n c (some ⟨bc, 0, none⟩) 1 ea).toArray 29)).alloc (.cells (pvs A' n' c' (some ⟨bc', 0, none⟩) 1 ea').toArray 29) := ⟨_, rfl⟩
  rw [← hW] at fp fq hb3
  have hW' : W = (w2.alloc (.cells #[str [109], .int .i64 1, .slice none 0 0, .slice A n c, .slice none 0 0, .slice none 0 0, .slice none 0 0, .slice (some ⟨bc, 0, none⟩) 1 ea] 29)).alloc (.cells #[str [109], .int .i64 1, .slice none 0 0, .slice A' n' c', .slice none 0 0, .slice none 0 0, .slice none 0 0, .slice (some ⟨bc', 0, none⟩) 1 ea'] 29) := hW
  rw [← hW']
  obtain ⟨qb, hqb⟩ : ∃ b, b = w2.heap.size + 1 := ⟨_, rfl⟩
  obtain ⟨pb, hpb⟩ : ∃ b, b = w2.heap.size := ⟨_, rfl⟩
  rw [← hqb, ← hpb]
  rw [← hqb] at fq
  rw [← hpb] at fp
  have HP3 := Lib.hid (HP2.out.below hb3)
  have HQ3 := Lib.hid (HQ2.out.below hb3)
  have HB3 := Lib.hid (HB2.out.trans (hb3.mono HB2.out.size))
  have hmp := And.intro HP2.out.pos.1 HP2.out.pos.2.1
  have hmq := And.intro HQ2.out.pos.1 HQ2.out.pos.2.1
  have c7 := fp.cell 7
  have d7 := fq.cell 7
  have ap := HP3.out.act.cell 2
  have aq := HQ3.out.act.cell 2
  simp only [pvs, acell, List.getElem?_cons_zero, List.getElem?_cons_succ] at c7 d7 ap aq
  have gm : ((m : Int) == 0) = false := by simp; omega
  have gm' : (m == 0) = false := by simp; omega
  have gq : ((m' : Int) == 0) = false := by simp; omega
  have gq' : (m' == 0) = false := by simp; omega
  have FPQ := Lib.hid (And.intro fp fq)
  have lp := fp.lt
  have lq := fq.lt
  have la := HP3.out.act.lt
  have lb := HQ3.out.act.lt
  clear hW hW' hqb hpb hb3 HP2 HQ2 fp fq
  go_upto_region 4 with (fail)
  have R2 := Lib.hid (fun W => rest_q x2 (m : Int) W ((rsN x2 (m : Int) : Nat) : Int) HI.out.1 (by omega) (by omega) (rsN_eq _ _ (by omega)))
  have R3 := Lib.hid (fun W => rest_q x3 (m' : Int) W ((rsN x3 (m' : Int) : Nat) : Int) HI.out.2 (by omega) (by omega) (rsN_eq _ _ (by omega)))
  have b2 := rsN_lt x2 (m : Int) (by omega)
  have b3 := rsN_lt x3 (m' : Int) (by omega)
  generalize rsN x2 (m : Int) = i at R2 b2
  generalize rsN x3 (m' : Int) = j at R3 b3
  have hi : i < T.length := by have := HP3.out.pos.2.2; omega
  have hj : j < T'.length := by have := HQ3.out.pos.2.2; omega
  obtain ⟨b1, o1, B1, m1, e1, rfl, _, p0, p1, p2, ht⟩ := HP3.out.ts.cells (show i < m by omega) hi
  obtain ⟨b4, o4, B2, m2, e2, rfl, _, q0, q1, q2, hu⟩ := HQ3.out.ts.cells (show j < m' by omega) hj
  have HT := Lib.hid (And.intro (And.intro ht (HP3.out.sub _ (List.getElem_mem hi))) (And.intro hu (HQ3.out.sub _ (List.getElem_mem hj))))
  have i0 : (0 : Int) ≤ (i : Int) := by omega
  have i1 : (i : Int) < (m : Int) := by omega
  have j0 : (0 : Int) ≤ (j : Int) := by omega
  have j1 : (j : Int) < (m' : Int) := by omega
  have l1 := lt_of_cell p0
  have l4 := lt_of_cell q0
  clear ht hu
  generalize T[i] = ta at p0 p1 p2 HT
  generalize T'[j] = tb at q0 q1 q2 HT
  have HIJ := Lib.hid (And.intro hi hj)
  clear hi hj
  -- REGION 4
  have HTE := Lib.hid (show ∃ k n k' n', k = ta.kind ∧ n = ta.name ∧ k' = tb.kind ∧ n' = tb.name from ⟨_, _, _, _, rfl, rfl, rfl, rfl⟩)
  generalize hka : ta.kind = ka at p0
  generalize hna : ta.name = na at p1
  generalize hkb : tb.kind = kb at q0
  generalize hnb : tb.name = nb at q1
  have HKN := Lib.hid (And.intro hka (And.intro hna (And.intro hkb hnb)))
  clear hka hna hkb hnb HTE
  have mk : ∀ W', Below W.heap.size W W' → (W'.cell? ⟨pb, 7, none⟩ = some (.slice (some ⟨bc, 0, none⟩) 1 ea) ∧ W'.cell? ⟨qb, 7, none⟩ = some (.slice (some ⟨bc', 0, none⟩) 1 ea') ∧ W'.cell? ⟨bc, 2, none⟩ = some (.slice (some ⟨b1, o1, none⟩) m ct) ∧ W'.cell? ⟨bc', 2, none⟩ = some (.slice (some ⟨b4, o4, none⟩) m' ct') ∧ W'.cell? ⟨b1, o1 + i * 3, none⟩ = some (.int .i64 (ka : Nat)) ∧ W'.cell? ⟨b1, o1 + i * 3 + 1, none⟩ = some (str na) ∧ W'.cell? ⟨b1, o1 + i * 3 + 2, none⟩ = some (.slice B1 m1 e1) ∧ W'.cell? ⟨b4, o4 + j * 3, none⟩ = some (.int .i64 (kb : Nat)) ∧ W'.cell? ⟨b4, o4 + j * 3 + 1, none⟩ = some (str nb) ∧ W'.cell? ⟨b4, o4 + j * 3 + 2, none⟩ = some (.slice B2 m2 e2)) := fun W' h => ⟨(h.cell (p := ⟨pb, 7, none⟩) lp).trans c7, (h.cell (p := ⟨qb, 7, none⟩) lq).trans d7, (h.cell (p := ⟨bc, 2, none⟩) la).trans ap, (h.cell (p := ⟨bc', 2, none⟩) lb).trans aq, (h.cell (p := ⟨b1, o1 + i * 3, none⟩) l1).trans p0, (h.cell (p := ⟨b1, o1 + i * 3 + 1, none⟩) l1).trans p1, (h.cell (p := ⟨b1, o1 + i * 3 + 2, none⟩) l1).trans p2, (h.cell (p := ⟨b4, o4 + j * 3, none⟩) l4).trans q0, (h.cell (p := ⟨b4, o4 + j * 3 + 1, none⟩) l4).trans q1, (h.cell (p := ⟨b4, o4 + j * 3 + 2, none⟩) l4).trans q2⟩
  go_cut [11, 12] (fun s11 s12 wc => ∃ B11 B12, s11 = .pointer (some ⟨B11, 0, none⟩) ∧ s12 = .pointer (some ⟨B12, 0, none⟩) ∧ Hid (Below W.heap.size W wc ∧ Blk wc B11 34 [.int .i64 (ka : Nat), str na, .slice B1 m1 e1] ∧ Blk wc B12 34 [.int .i64 (kb : Nat), str nb, .slice B2 m2 e2] ∧ W.heap.size ≤ B11 ∧ W.heap.size ≤ B12))
  case first =>
    have MK := Lib.hid mk
    clear mk
    refine wp_region_g (S := fun w' => w'.cell? ⟨pb, 7, none⟩ = some (.slice (some ⟨bc, 0, none⟩) 1 ea) ∧ w'.cell? ⟨qb, 7, none⟩ = some (.slice (some ⟨bc', 0, none⟩) 1 ea') ∧ w'.cell? ⟨bc, 2, none⟩ = some (.slice (some ⟨b1, o1, none⟩) m ct) ∧ w'.cell? ⟨bc', 2, none⟩ = some (.slice (some ⟨b4, o4, none⟩) m' ct') ∧ w'.cell? ⟨b1, o1 + i * 3, none⟩ = some (.int .i64 (ka : Nat)) ∧ w'.cell? ⟨b1, o1 + i * 3 + 1, none⟩ = some (str na) ∧ w'.cell? ⟨b1, o1 + i * 3 + 2, none⟩ = some (.slice B1 m1 e1) ∧ w'.cell? ⟨b4, o4 + j * 3, none⟩ = some (.int .i64 (kb : Nat)) ∧ w'.cell? ⟨b4, o4 + j * 3 + 1, none⟩ = some (str nb) ∧ w'.cell? ⟨b4, o4 + j * 3 + 2, none⟩ = some (.slice B2 m2 e2)) (m := 34) (by kernel_rfl) ?_
    have HB : Below W.heap.size W (World.drew W) := ⟨rfl, rfl, rfl, Nat.le_refl _, fun _ _ => rfl⟩
    have hS := MK.out _ HB
    clear c7 d7 ap aq p0 p1 p2 q0 q1 q2
    generalize World.drew W = W0 at *
    repeat (first | (refine wpAnyG_take (i := 0) (v := .pointer (some ⟨pb, 7, none⟩)) rfl ?_ ?_ ?_ (fun _ _ _ h => h) (Or.inl ⟨by rfl, ?_⟩) hS ?_; (· decide +kernel); (· decide +kernel); (· decide +kernel); (· (intro w' hS'; obtain ⟨hS0, hS1, hS2, hS3, hS4, hS5, hS6, hS7, hS8, hS9⟩ := hS'; go_simp))) | (refine wpAnyG_take (i := 1) (v := .slice (some ⟨bc, 0, none⟩) 1 ea) rfl ?_ ?_ ?_ (fun _ _ _ h => h) (Or.inl ⟨by rfl, ?_⟩) hS ?_; (· decide +kernel); (· decide +kernel); (· decide +kernel); (· (intro w' hS'; obtain ⟨hS0, hS1, hS2, hS3, hS4, hS5, hS6, hS7, hS8, hS9⟩ := hS'; go_simp))) | (refine wpAnyG_take (i := 2) (v := .pointer (some ⟨bc, 0, none⟩)) rfl ?_ ?_ ?_ (fun _ _ _ h => h) (Or.inl ⟨by rfl, ?_⟩) hS ?_; (· decide +kernel); (· decide +kernel); (· decide +kernel); (· (intro w' hS'; obtain ⟨hS0, hS1, hS2, hS3, hS4, hS5, hS6, hS7, hS8, hS9⟩ := hS'; go_simp))) | (refine wpAnyG_take (i := 3) (v := .pointer (some ⟨bc, 2, none⟩)) rfl ?_ ?_ ?_ (fun _ _ _ h => h) (Or.inl ⟨by rfl, ?_⟩) hS ?_; (· decide +kernel); (· decide +kernel); (· decide +kernel); (· (intro w' hS'; obtain ⟨hS0, hS1, hS2, hS3, hS4, hS5, hS6, hS7, hS8, hS9⟩ := hS'; go_simp))) | (refine wpAnyG_take (i := 4) (v := .slice (some ⟨b1, o1, none⟩) m ct) rfl ?_ ?_ ?_ (fun _ _ _ h => h) (Or.inl ⟨by rfl, ?_⟩) hS ?_; (· decide +kernel); (· decide +kernel); (· decide +kernel); (· (intro w' hS'; obtain ⟨hS0, hS1, hS2, hS3, hS4, hS5, hS6, hS7, hS8, hS9⟩ := hS'; go_simp))) | (refine wpAnyG_take (i := 5) (v := .int .i64 x2) rfl ?_ ?_ ?_ (fun _ _ _ h => h) (Or.inl ⟨by rfl, ?_⟩) hS ?_; (· decide +kernel); (· decide +kernel); (· decide +kernel); (· (intro w' hS'; obtain ⟨hS0, hS1, hS2, hS3, hS4, hS5, hS6, hS7, hS8, hS9⟩ := hS'; go_simp))) | (refine wpAnyG_take (i := 6) (v := .pointer (some ⟨pb, 7, none⟩)) rfl ?_ ?_ ?_ (fun _ _ _ h => h) (Or.inl ⟨by rfl, ?_⟩) hS ?_; (· decide +kernel); (· decide +kernel); (· decide +kernel); (· (intro w' hS'; obtain ⟨hS0, hS1, hS2, hS3, hS4, hS5, hS6, hS7, hS8, hS9⟩ := hS'; go_simp))) | (refine wpAnyG_take (i := 7) (v := .slice (some ⟨bc, 0, none⟩) 1 ea) rfl ?_ ?_ ?_ (fun _ _ _ h => h) (Or.inl ⟨by rfl, ?_⟩) hS ?_; (· decide +kernel); (· decide +kernel); (· decide +kernel); (· (intro w' hS'; obtain ⟨hS0, hS1, hS2, hS3, hS4, hS5, hS6, hS7, hS8, hS9⟩ := hS'; go_simp))) | (refine wpAnyG_take (i := 8) (v := .pointer (some ⟨bc, 0, none⟩)) rfl ?_ ?_ ?_ (fun _ _ _ h => h) (Or.inl ⟨by rfl, ?_⟩) hS ?_; (· decide +kernel); (· decide +kernel); (· decide +kernel); (· (intro w' hS'; obtain ⟨hS0, hS1, hS2, hS3, hS4, hS5, hS6, hS7, hS8, hS9⟩ := hS'; go_simp))) | (refine wpAnyG_take (i := 9) (v := .pointer (some ⟨bc, 2, none⟩)) rfl ?_ ?_ ?_ (fun _ _ _ h => h) (Or.inl ⟨by rfl, ?_⟩) hS ?_; (· decide +kernel); (· decide +kernel); (· decide +kernel); (· (intro w' hS'; obtain ⟨hS0, hS1, hS2, hS3, hS4, hS5, hS6, hS7, hS8, hS9⟩ := hS'; go_simp))) | (refine wpAnyG_take (i := 10) (v := .slice (some ⟨b1, o1, none⟩) m ct) rfl ?_ ?_ ?_ (fun _ _ _ h => h) (Or.inl ⟨by rfl, ?_⟩) hS ?_; (· decide +kernel); (· decide +kernel); (· decide +kernel); (· (intro w' hS'; obtain ⟨hS0, hS1, hS2, hS3, hS4, hS5, hS6, hS7, hS8, hS9⟩ := hS'; go_simp))) | (refine wpAnyG_take (i := 11) (v := .int .i64 (m : Nat)) rfl ?_ ?_ ?_ (fun _ _ _ h => h) (Or.inl ⟨by rfl, ?_⟩) hS ?_; (· decide +kernel); (· decide +kernel); (· decide +kernel); (· (intro w' hS'; obtain ⟨hS0, hS1, hS2, hS3, hS4, hS5, hS6, hS7, hS8, hS9⟩ := hS'; go_simp))) | (refine wpAnyG_take (i := 15) (v := .pointer (some ⟨qb, 7, none⟩)) rfl ?_ ?_ ?_ (fun _ _ _ h => h) (Or.inl ⟨by rfl, ?_⟩) hS ?_; (· decide +kernel); (· decide +kernel); (· decide +kernel); (· (intro w' hS'; obtain ⟨hS0, hS1, hS2, hS3, hS4, hS5, hS6, hS7, hS8, hS9⟩ := hS'; go_simp))) | (refine wpAnyG_take (i := 16) (v := .slice (some ⟨bc', 0, none⟩) 1 ea') rfl ?_ ?_ ?_ (fun _ _ _ h => h) (Or.inl ⟨by rfl, ?_⟩) hS ?_; (· decide +kernel); (· decide +kernel); (· decide +kernel); (· (intro w' hS'; obtain ⟨hS0, hS1, hS2, hS3, hS4, hS5, hS6, hS7, hS8, hS9⟩ := hS'; go_simp))) | (refine wpAnyG_take (i := 17) (v := .pointer (some ⟨bc', 0, none⟩)) rfl ?_ ?_ ?_ (fun _ _ _ h => h) (Or.inl ⟨by rfl, ?_⟩) hS ?_; (· decide +kernel); (· decide +kernel); (· decide +kernel); (· (intro w' hS'; obtain ⟨hS0, hS1, hS2, hS3, hS4, hS5, hS6, hS7, hS8, hS9⟩ := hS'; go_simp))) | (refine wpAnyG_take (i := 18) (v := .pointer (some ⟨bc', 2, none⟩)) rfl ?_ ?_ ?_ (fun _ _ _ h => h) (Or.inl ⟨by rfl, ?_⟩) hS ?_; (· decide +kernel); (· decide +kernel); (· decide +kernel); (· (intro w' hS'; obtain ⟨hS0, hS1, hS2, hS3, hS4, hS5, hS6, hS7, hS8, hS9⟩ := hS'; go_simp))) | (refine wpAnyG_take (i := 19) (v := .slice (some ⟨b4, o4, none⟩) m' ct') rfl ?_ ?_ ?_ (fun _ _ _ h => h) (Or.inl ⟨by rfl, ?_⟩) hS ?_; (· decide +kernel); (· decide +kernel); (· decide +kernel); (· (intro w' hS'; obtain ⟨hS0, hS1, hS2, hS3, hS4, hS5, hS6, hS7, hS8, hS9⟩ := hS'; go_simp))) | (refine wpAnyG_take (i := 20) (v := .int .i64 x3) rfl ?_ ?_ ?_ (fun _ _ _ h => h) (Or.inl ⟨by rfl, ?_⟩) hS ?_; (· decide +kernel); (· decide +kernel); (· decide +kernel); (· (intro w' hS'; obtain ⟨hS0, hS1, hS2, hS3, hS4, hS5, hS6, hS7, hS8, hS9⟩ := hS'; go_simp))) | (refine wpAnyG_take (i := 21) (v := .pointer (some ⟨qb, 7, none⟩)) rfl ?_ ?_ ?_ (fun _ _ _ h => h) (Or.inl ⟨by rfl, ?_⟩) hS ?_; (· decide +kernel); (· decide +kernel); (· decide +kernel); (· (intro w' hS'; obtain ⟨hS0, hS1, hS2, hS3, hS4, hS5, hS6, hS7, hS8, hS9⟩ := hS'; go_simp))) | (refine wpAnyG_take (i := 22) (v := .slice (some ⟨bc', 0, none⟩) 1 ea') rfl ?_ ?_ ?_ (fun _ _ _ h => h) (Or.inl ⟨by rfl, ?_⟩) hS ?_; (· decide +kernel); (· decide +kernel); (· decide +kernel); (· (intro w' hS'; obtain ⟨hS0, hS1, hS2, hS3, hS4, hS5, hS6, hS7, hS8, hS9⟩ := hS'; go_simp))) | (refine wpAnyG_take (i := 23) (v := .pointer (some ⟨bc', 0, none⟩)) rfl ?_ ?_ ?_ (fun _ _ _ h => h) (Or.inl ⟨by rfl, ?_⟩) hS ?_; (· decide +kernel); (· decide +kernel); (· decide +kernel); (· (intro w' hS'; obtain ⟨hS0, hS1, hS2, hS3, hS4, hS5, hS6, hS7, hS8, hS9⟩ := hS'; go_simp))) | (refine wpAnyG_take (i := 24) (v := .pointer (some ⟨bc', 2, none⟩)) rfl ?_ ?_ ?_ (fun _ _ _ h => h) (Or.inl ⟨by rfl, ?_⟩) hS ?_; (· decide +kernel); (· decide +kernel); (· decide +kernel); (· (intro w' hS'; obtain ⟨hS0, hS1, hS2, hS3, hS4, hS5, hS6, hS7, hS8, hS9⟩ := hS'; go_simp))) | (refine wpAnyG_take (i := 25) (v := .slice (some ⟨b4, o4, none⟩) m' ct') rfl ?_ ?_ ?_ (fun _ _ _ h => h) (Or.inl ⟨by rfl, ?_⟩) hS ?_; (· decide +kernel); (· decide +kernel); (· decide +kernel); (· (intro w' hS'; obtain ⟨hS0, hS1, hS2, hS3, hS4, hS5, hS6, hS7, hS8, hS9⟩ := hS'; go_simp))) | (refine wpAnyG_take (i := 26) (v := .int .i64 (m' : Nat)) rfl ?_ ?_ ?_ (fun _ _ _ h => h) (Or.inl ⟨by rfl, ?_⟩) hS ?_; (· decide +kernel); (· decide +kernel); (· decide +kernel); (· (intro w' hS'; obtain ⟨hS0, hS1, hS2, hS3, hS4, hS5, hS6, hS7, hS8, hS9⟩ := hS'; go_simp))))
    refine wpAnyG_ready (rs := [12, 30, 31]) (by decide +kernel) (by simp) ?_
    refine AllReadyG.cons rfl (fun K hK => ?_) (AllReadyG.cons rfl (fun K hK => ?_) (AllReadyG.cons rfl (fun K hK => ?_) AllReadyG.nil))
    · go_simp
      refine (R2.out _).mono ?_
      rintro e w' ⟨rfl, rfl⟩
      try dsimp only
      refine hK _ _ (fun _ => hS) ?_
      clear hK K
      repeat (first | (refine wpAnyG_take (i := 13) (v := .pointer (some ⟨b1, o1 + i * 3, none⟩)) rfl ?_ ?_ ?_ (fun _ _ _ h => h) (Or.inl ⟨by rfl, ?_⟩) hS ?_; (· decide +kernel); (· decide +kernel); (· decide +kernel); (· (intro w' hS'; obtain ⟨hS0, hS1, hS2, hS3, hS4, hS5, hS6, hS7, hS8, hS9⟩ := hS'; go_simp))) | (refine wpAnyG_take (i := 14) (v := .agg #[.int .i64 (ka : Nat), str na, .slice B1 m1 e1]) rfl ?_ ?_ ?_ (fun _ _ _ h => h) (Or.inl ⟨by rfl, ?_⟩) hS ?_; (· decide +kernel); (· decide +kernel); (· decide +kernel); (· (intro w' hS'; obtain ⟨hS0, hS1, hS2, hS3, hS4, hS5, hS6, hS7, hS8, hS9⟩ := hS'; go_simp))))
      refine wpAnyG_ready (rs := [27, 30, 31]) (by decide +kernel) (by simp) ?_
      refine AllReadyG.cons rfl (fun K hK => ?_) (AllReadyG.cons rfl (fun K hK => ?_) (AllReadyG.cons rfl (fun K hK => ?_) AllReadyG.nil))
      · go_simp
        refine (R3.out _).mono ?_
        rintro e w' ⟨rfl, rfl⟩
        try dsimp only
        refine hK _ _ (fun _ => hS) ?_
        clear hK K
        repeat (first | (refine wpAnyG_take (i := 28) (v := .pointer (some ⟨b4, o4 + j * 3, none⟩)) rfl ?_ ?_ ?_ (fun _ _ _ h => h) (Or.inl ⟨by rfl, ?_⟩) hS ?_; (· decide +kernel); (· decide +kernel); (· decide +kernel); (· (intro w' hS'; obtain ⟨hS0, hS1, hS2, hS3, hS4, hS5, hS6, hS7, hS8, hS9⟩ := hS'; go_simp))) | (refine wpAnyG_take (i := 29) (v := .agg #[.int .i64 (kb : Nat), str nb, .slice B2 m2 e2]) rfl ?_ ?_ ?_ (fun _ _ _ h => h) (Or.inl ⟨by rfl, ?_⟩) hS ?_; (· decide +kernel); (· decide +kernel); (· decide +kernel); (· (intro w' hS'; obtain ⟨hS0, hS1, hS2, hS3, hS4, hS5, hS6, hS7, hS8, hS9⟩ := hS'; go_simp))))
        refine wpAnyG_ready (rs := [30, 31]) (by decide +kernel) (by simp) ?_
        refine AllReadyG.cons rfl (fun K hK => ?_) (AllReadyG.cons rfl (fun K hK => ?_) AllReadyG.nil)
        · go_simp
          have fB11 := Blk.new W0 34 [.int .i64 0, .string ⟨#[]⟩, .slice none 0 0]
          have nB11 : W.heap.size ≤ W0.heap.size := HB.size
          replace HB := HB.alloc HB.size (.cells #[.int .i64 0, .string ⟨#[]⟩, .slice none 0 0] 34)
          clear hS
          generalize W0.alloc (.cells #[.int .i64 0, .string ⟨#[]⟩, .slice none 0 0] 34) = W1 at *
          generalize W0.heap.size = B11 at *
          have hS := MK.out _ HB
          refine hK _ _ (fun _ => hS) ?_
          clear hK K
          refine wpAnyG_ready (rs := [31]) (by decide +kernel) (by simp) ?_
          refine AllReadyG.cons rfl (fun K hK => ?_) AllReadyG.nil
          go_simp
          have fB12 := Blk.new W1 34 [.int .i64 0, .string ⟨#[]⟩, .slice none 0 0]
          have nB12 : W.heap.size ≤ W1.heap.size := HB.size
          have neB11 : B11 < W1.heap.size := fB11.lt
          replace fB11 := fB11.alloc (.cells #[.int .i64 0, .string ⟨#[]⟩, .slice none 0 0] 34)
          replace HB := HB.alloc HB.size (.cells #[.int .i64 0, .string ⟨#[]⟩, .slice none 0 0] 34)
          clear hS
          generalize W1.alloc (.cells #[.int .i64 0, .string ⟨#[]⟩, .slice none 0 0] 34) = W2 at *
          generalize W1.heap.size = B12 at *
          have hS := MK.out _ HB
          refine hK _ _ (fun _ => hS) ?_
          clear hK K
          have hne : B11 ≠ B12 := by omega
          have u0 := fB11.cell 0
          have u1 := fB11.cell 1
          have u2 := fB11.cell 2
          have y0 := fB12.cell 0
          have y1 := fB12.cell 1
          have y2 := fB12.cell 2
          have g0 := fB11.frozen 0
          have g1 := fB11.frozen 1
          have g2 := fB11.frozen 2
          have z0 := fB12.frozen 0
          have z1 := fB12.frozen 1
          have z2 := fB12.frozen 2
          have lu := fB11.lt
          have ly := fB12.lt
          have hne' : B12 ≠ B11 := fun e => hne e.symm
          simp only [List.getElem?_cons_zero, List.getElem?_cons_succ] at u0 u1 u2 y0 y1 y2
          have h11 := ((fB11.put 0 (.int .i64 (ka : Nat))).put 1 (str na)).put 2 (.slice B1 m1 e1)
          have h12 : Blk (((W2.setCell ⟨B11, 0, none⟩ (.int .i64 (ka : Nat))).setCell ⟨B11, 1, none⟩ (str na)).setCell ⟨B11, 2, none⟩ (.slice B1 m1 e1)) B12 34 [.int .i64 0, .string ⟨#[]⟩, .slice none 0 0] := ((Below.heap_setCell _ ⟨B11, 2, none⟩ _ B12 hne').trans ((Below.heap_setCell _ ⟨B11, 1, none⟩ _ B12 hne').trans (Below.heap_setCell W2 ⟨B11, 0, none⟩ _ B12 hne'))).trans fB12
          have g12 := ((h12.put 0 (.int .i64 (kb : Nat))).put 1 (str nb)).put 2 (.slice B2 m2 e2)
          have g11 : Blk (((((W2.setCell ⟨B11, 0, none⟩ (.int .i64 (ka : Nat))).setCell ⟨B11, 1, none⟩ (str na)).setCell ⟨B11, 2, none⟩ (.slice B1 m1 e1)).setCell ⟨B12, 0, none⟩ (.int .i64 (kb : Nat))).setCell ⟨B12, 1, none⟩ (str nb) |>.setCell ⟨B12, 2, none⟩ (.slice B2 m2 e2)) B11 34 [.int .i64 (ka : Nat), str na, .slice B1 m1 e1] := ((Below.heap_setCell _ ⟨B12, 2, none⟩ _ B11 hne).trans ((Below.heap_setCell _ ⟨B12, 1, none⟩ _ B11 hne).trans (Below.heap_setCell _ ⟨B12, 0, none⟩ _ B11 hne))).trans h11
          have HB32 := ((HB.setCell (p := ⟨B11, 0, none⟩) nB11 (.int .i64 (ka : Nat))).setCell (p := ⟨B11, 1, none⟩) nB11 (str na)).setCell (p := ⟨B11, 2, none⟩) nB11 (.slice B1 m1 e1)
          have HBf := ((HB32.setCell (p := ⟨B12, 0, none⟩) nB12 (.int .i64 (kb : Nat))).setCell (p := ⟨B12, 1, none⟩) nB12 (str nb)).setCell (p := ⟨B12, 2, none⟩) nB12 (.slice B2 m2 e2)
          have fin := Lib.hid (And.intro HBf (And.intro g11 (And.intro g12 (And.intro nB11 nB12))))
          clear h11 g12 g11
          have hS := MK.out _ HB32
          refine wpAnyG_ready (rs := [32]) (by decide +kernel) (by simp) ?_
          refine AllReadyG.cons rfl (fun K hK => ?_) AllReadyG.nil
          go_simp
          refine hK _ _ (fun _ => hS) ?_
          clear hK K hS
          have hS := MK.out _ HBf
          have v0 := h12.cell 0
          have v1 := h12.cell 1
          have v2 := h12.cell 2
          have k0 := h12.frozen 0
          have k1 := h12.frozen 1
          have k2 := h12.frozen 2
          have lv := h12.lt
          simp only [List.getElem?_cons_zero, List.getElem?_cons_succ] at v0 v1 v2
          refine wpAnyG_ready (rs := [33]) (by decide +kernel) (by simp) ?_
          refine AllReadyG.cons rfl (fun K hK => ?_) AllReadyG.nil
          go_simp
          refine hK _ _ (fun _ => hS) ?_
          clear hK K
          refine wpAnyG_done (by decide +kernel) ?_ _
          clear u0 u1 u2 y0 y1 y2 g0 g1 g2 z0 z1 z2 lu ly h12 v0 v1 v2 k0 k1 k2 lv fB11 fB12 HB hS
          go_wp2_with (fail)
          go_meet
          exact ⟨B11, B12, rfl, rfl, fin⟩
        · go_simp
          have fB12 := Blk.new W0 34 [.int .i64 0, .string ⟨#[]⟩, .slice none 0 0]
          have nB12 : W.heap.size ≤ W0.heap.size := HB.size
          replace HB := HB.alloc HB.size (.cells #[.int .i64 0, .string ⟨#[]⟩, .slice none 0 0] 34)
          clear hS
          generalize W0.alloc (.cells #[.int .i64 0, .string ⟨#[]⟩, .slice none 0 0] 34) = W1 at *
          generalize W0.heap.size = B12 at *
          have hS := MK.out _ HB
          refine hK _ _ (fun _ => hS) ?_
          clear hK K
          refine wpAnyG_ready (rs := [30]) (by decide +kernel) (by simp) ?_
          refine AllReadyG.cons rfl (fun K hK => ?_) AllReadyG.nil
          go_simp
          have fB11 := Blk.new W1 34 [.int .i64 0, .string ⟨#[]⟩, .slice none 0 0]
          have nB11 : W.heap.size ≤ W1.heap.size := HB.size
          have neB12 : B12 < W1.heap.size := fB12.lt
          replace fB12 := fB12.alloc (.cells #[.int .i64 0, .string ⟨#[]⟩, .slice none 0 0] 34)
          replace HB := HB.alloc HB.size (.cells #[.int .i64 0, .string ⟨#[]⟩, .slice none 0 0] 34)
          clear hS
          generalize W1.alloc (.cells #[.int .i64 0, .string ⟨#[]⟩, .slice none 0 0] 34) = W2 at *
          generalize W1.heap.size = B11 at *
          have hS := MK.out _ HB
          refine hK _ _ (fun _ => hS) ?_
          clear hK K
          have hne : B11 ≠ B12 := by omega
          have u0 := fB11.cell 0
          have u1 := fB11.cell 1
          have u2 := fB11.cell 2
          have y0 := fB12.cell 0
          have y1 := fB12.cell 1
          have y2 := fB12.cell 2
          have g0 := fB11.frozen 0
          have g1 := fB11.frozen 1
          have g2 := fB11.frozen 2
          have z0 := fB12.frozen 0
          have z1 := fB12.frozen 1
          have z2 := fB12.frozen 2
          have lu := fB11.lt
          have ly := fB12.lt
          have hne' : B12 ≠ B11 := fun e => hne e.symm
          simp only [List.getElem?_cons_zero, List.getElem?_cons_succ] at u0 u1 u2 y0 y1 y2
          have h11 := ((fB11.put 0 (.int .i64 (ka : Nat))).put 1 (str na)).put 2 (.slice B1 m1 e1)
          have h12 : Blk (((W2.setCell ⟨B11, 0, none⟩ (.int .i64 (ka : Nat))).setCell ⟨B11, 1, none⟩ (str na)).setCell ⟨B11, 2, none⟩ (.slice B1 m1 e1)) B12 34 [.int .i64 0, .string ⟨#[]⟩, .slice none 0 0] := ((Below.heap_setCell _ ⟨B11, 2, none⟩ _ B12 hne').trans ((Below.heap_setCell _ ⟨B11, 1, none⟩ _ B12 hne').trans (Below.heap_setCell W2 ⟨B11, 0, none⟩ _ B12 hne'))).trans fB12
          have g12 := ((h12.put 0 (.int .i64 (kb : Nat))).put 1 (str nb)).put 2 (.slice B2 m2 e2)
          have g11 : Blk (((((W2.setCell ⟨B11, 0, none⟩ (.int .i64 (ka : Nat))).setCell ⟨B11, 1, none⟩ (str na)).setCell ⟨B11, 2, none⟩ (.slice B1 m1 e1)).setCell ⟨B12, 0, none⟩ (.int .i64 (kb : Nat))).setCell ⟨B12, 1, none⟩ (str nb) |>.setCell ⟨B12, 2, none⟩ (.slice B2 m2 e2)) B11 34 [.int .i64 (ka : Nat), str na, .slice B1 m1 e1] := ((Below.heap_setCell _ ⟨B12, 2, none⟩ _ B11 hne).trans ((Below.heap_setCell _ ⟨B12, 1, none⟩ _ B11 hne).trans (Below.heap_setCell _ ⟨B12, 0, none⟩ _ B11 hne))).trans h11
          have HB32 := ((HB.setCell (p := ⟨B11, 0, none⟩) nB11 (.int .i64 (ka : Nat))).setCell (p := ⟨B11, 1, none⟩) nB11 (str na)).setCell (p := ⟨B11, 2, none⟩) nB11 (.slice B1 m1 e1)
          have HBf := ((HB32.setCell (p := ⟨B12, 0, none⟩) nB12 (.int .i64 (kb : Nat))).setCell (p := ⟨B12, 1, none⟩) nB12 (str nb)).setCell (p := ⟨B12, 2, none⟩) nB12 (.slice B2 m2 e2)
          have fin := Lib.hid (And.intro HBf (And.intro g11 (And.intro g12 (And.intro nB11 nB12))))
          clear h11 g12 g11
          have hS := MK.out _ HB32
          refine wpAnyG_ready (rs := [32]) (by decide +kernel) (by simp) ?_
          refine AllReadyG.cons rfl (fun K hK => ?_) AllReadyG.nil
          go_simp
          refine hK _ _ (fun _ => hS) ?_
          clear hK K hS
          have hS := MK.out _ HBf
          have v0 := h12.cell 0
          have v1 := h12.cell 1
          have v2 := h12.cell 2
          have k0 := h12.frozen 0
          have k1 := h12.frozen 1
          have k2 := h12.frozen 2
          have lv := h12.lt
          simp only [List.getElem?_cons_zero, List.getElem?_cons_succ] at v0 v1 v2
          refine wpAnyG_ready (rs := [33]) (by decide +kernel) (by simp) ?_
          refine AllReadyG.cons rfl (fun K hK => ?_) AllReadyG.nil
          go_simp
          refine hK _ _ (fun _ => hS) ?_
          clear hK K
          refine wpAnyG_done (by decide +kernel) ?_ _
          clear u0 u1 u2 y0 y1 y2 g0 g1 g2 z0 z1 z2 lu ly h12 v0 v1 v2 k0 k1 k2 lv fB11 fB12 HB hS
          go_wp2_with (fail)
          go_meet
          exact ⟨B11, B12, rfl, rfl, fin⟩
      · go_simp
        have fB11 := Blk.new W0 34 [.int .i64 0, .string ⟨#[]⟩, .slice none 0 0]
        have nB11 : W.heap.size ≤ W0.heap.size := HB.size
        replace HB := HB.alloc HB.size (.cells #[.int .i64 0, .string ⟨#[]⟩, .slice none 0 0] 34)
        clear hS
        generalize W0.alloc (.cells #[.int .i64 0, .string ⟨#[]⟩, .slice none 0 0] 34) = W1 at *
        generalize W0.heap.size = B11 at *
        have hS := MK.out _ HB
        refine hK _ _ (fun _ => hS) ?_
        clear hK K
        refine wpAnyG_ready (rs := [27, 31]) (by decide +kernel) (by simp) ?_
        refine AllReadyG.cons rfl (fun K hK => ?_) (AllReadyG.cons rfl (fun K hK => ?_) AllReadyG.nil)
        · go_simp
          refine (R3.out _).mono ?_
          rintro e w' ⟨rfl, rfl⟩
          try dsimp only
          refine hK _ _ (fun _ => hS) ?_
          clear hK K
          repeat (first | (refine wpAnyG_take (i := 28) (v := .pointer (some ⟨b4, o4 + j * 3, none⟩)) rfl ?_ ?_ ?_ (fun _ _ _ h => h) (Or.inl ⟨by rfl, ?_⟩) hS ?_; (· decide +kernel); (· decide +kernel); (· decide +kernel); (· (intro w' hS'; obtain ⟨hS0, hS1, hS2, hS3, hS4, hS5, hS6, hS7, hS8, hS9⟩ := hS'; go_simp))) | (refine wpAnyG_take (i := 29) (v := .agg #[.int .i64 (kb : Nat), str nb, .slice B2 m2 e2]) rfl ?_ ?_ ?_ (fun _ _ _ h => h) (Or.inl ⟨by rfl, ?_⟩) hS ?_; (· decide +kernel); (· decide +kernel); (· decide +kernel); (· (intro w' hS'; obtain ⟨hS0, hS1, hS2, hS3, hS4, hS5, hS6, hS7, hS8, hS9⟩ := hS'; go_simp))))
          refine wpAnyG_ready (rs := [31]) (by decide +kernel) (by simp) ?_
          refine AllReadyG.cons rfl (fun K hK => ?_) AllReadyG.nil
          go_simp
          have fB12 := Blk.new W1 34 [.int .i64 0, .string ⟨#[]⟩, .slice none 0 0]
          have nB12 : W.heap.size ≤ W1.heap.size := HB.size
          have neB11 : B11 < W1.heap.size := fB11.lt
          replace fB11 := fB11.alloc (.cells #[.int .i64 0, .string ⟨#[]⟩, .slice none 0 0] 34)
          replace HB := HB.alloc HB.size (.cells #[.int .i64 0, .string ⟨#[]⟩, .slice none 0 0] 34)
          clear hS
          generalize W1.alloc (.cells #[.int .i64 0, .string ⟨#[]⟩, .slice none 0 0] 34) = W2 at *
          generalize W1.heap.size = B12 at *
          have hS := MK.out _ HB
          refine hK _ _ (fun _ => hS) ?_
          clear hK K
          have hne : B11 ≠ B12 := by omega
          have u0 := fB11.cell 0
          have u1 := fB11.cell 1
          have u2 := fB11.cell 2
          have y0 := fB12.cell 0
          have y1 := fB12.cell 1
          have y2 := fB12.cell 2
          have g0 := fB11.frozen 0
          have g1 := fB11.frozen 1
          have g2 := fB11.frozen 2
          have z0 := fB12.frozen 0
          have z1 := fB12.frozen 1
          have z2 := fB12.frozen 2
          have lu := fB11.lt
          have ly := fB12.lt
          have hne' : B12 ≠ B11 := fun e => hne e.symm
          simp only [List.getElem?_cons_zero, List.getElem?_cons_succ] at u0 u1 u2 y0 y1 y2
          have h11 := ((fB11.put 0 (.int .i64 (ka : Nat))).put 1 (str na)).put 2 (.slice B1 m1 e1)
          have h12 : Blk (((W2.setCell ⟨B11, 0, none⟩ (.int .i64 (ka : Nat))).setCell ⟨B11, 1, none⟩ (str na)).setCell ⟨B11, 2, none⟩ (.slice B1 m1 e1)) B12 34 [.int .i64 0, .string ⟨#[]⟩, .slice none 0 0] := ((Below.heap_setCell _ ⟨B11, 2, none⟩ _ B12 hne').trans ((Below.heap_setCell _ ⟨B11, 1, none⟩ _ B12 hne').trans (Below.heap_setCell W2 ⟨B11, 0, none⟩ _ B12 hne'))).trans fB12
          have g12 := ((h12.put 0 (.int .i64 (kb : Nat))).put 1 (str nb)).put 2 (.slice B2 m2 e2)
          have g11 : Blk (((((W2.setCell ⟨B11, 0, none⟩ (.int .i64 (ka : Nat))).setCell ⟨B11, 1, none⟩ (str na)).setCell ⟨B11, 2, none⟩ (.slice B1 m1 e1)).setCell ⟨B12, 0, none⟩ (.int .i64 (kb : Nat))).setCell ⟨B12, 1, none⟩ (str nb) |>.setCell ⟨B12, 2, none⟩ (.slice B2 m2 e2)) B11 34 [.int .i64 (ka : Nat), str na, .slice B1 m1 e1] := ((Below.heap_setCell _ ⟨B12, 2, none⟩ _ B11 hne).trans ((Below.heap_setCell _ ⟨B12, 1, none⟩ _ B11 hne).trans (Below.heap_setCell _ ⟨B12, 0, none⟩ _ B11 hne))).trans h11
          have HB32 := ((HB.setCell (p := ⟨B11, 0, none⟩) nB11 (.int .i64 (ka : Nat))).setCell (p := ⟨B11, 1, none⟩) nB11 (str na)).setCell (p := ⟨B11, 2, none⟩) nB11 (.slice B1 m1 e1)
          have HBf := ((HB32.setCell (p := ⟨B12, 0, none⟩) nB12 (.int .i64 (kb : Nat))).setCell (p := ⟨B12, 1, none⟩) nB12 (str nb)).setCell (p := ⟨B12, 2, none⟩) nB12 (.slice B2 m2 e2)
          have fin := Lib.hid (And.intro HBf (And.intro g11 (And.intro g12 (And.intro nB11 nB12))))
          clear h11 g12 g11
          have hS := MK.out _ HB32
          refine wpAnyG_ready (rs := [32]) (by decide +kernel) (by simp) ?_
          refine AllReadyG.cons rfl (fun K hK => ?_) AllReadyG.nil
          go_simp
          refine hK _ _ (fun _ => hS) ?_
          clear hK K hS
          have hS := MK.out _ HBf
          have v0 := h12.cell 0
          have v1 := h12.cell 1
          have v2 := h12.cell 2
          have k0 := h12.frozen 0
          have k1 := h12.frozen 1
          have k2 := h12.frozen 2
          have lv := h12.lt
          simp only [List.getElem?_cons_zero, List.getElem?_cons_succ] at v0 v1 v2
          refine wpAnyG_ready (rs := [33]) (by decide +kernel) (by simp) ?_
          refine AllReadyG.cons rfl (fun K hK => ?_) AllReadyG.nil
          go_simp
          refine hK _ _ (fun _ => hS) ?_
          clear hK K
          refine wpAnyG_done (by decide +kernel) ?_ _
          clear u0 u1 u2 y0 y1 y2 g0 g1 g2 z0 z1 z2 lu ly h12 v0 v1 v2 k0 k1 k2 lv fB11 fB12 HB hS
          go_wp2_with (fail)
          go_meet
          exact ⟨B11, B12, rfl, rfl, fin⟩
        · go_simp
          have fB12 := Blk.new W1 34 [.int .i64 0, .string ⟨#[]⟩, .slice none 0 0]
          have nB12 : W.heap.size ≤ W1.heap.size := HB.size
          have neB11 : B11 < W1.heap.size := fB11.lt
          replace fB11 := fB11.alloc (.cells #[.int .i64 0, .string ⟨#[]⟩, .slice none 0 0] 34)
          replace HB := HB.alloc HB.size (.cells #[.int .i64 0, .string ⟨#[]⟩, .slice none 0 0] 34)
          clear hS
          generalize W1.alloc (.cells #[.int .i64 0, .string ⟨#[]⟩, .slice none 0 0] 34) = W2 at *
          generalize W1.heap.size = B12 at *
          have hS := MK.out _ HB
          refine hK _ _ (fun _ => hS) ?_
          clear hK K
          refine wpAnyG_ready (rs := [27]) (by decide +kernel) (by simp) ?_
          refine AllReadyG.cons rfl (fun K hK => ?_) AllReadyG.nil
          go_simp
          refine (R3.out _).mono ?_
          rintro e w' ⟨rfl, rfl⟩
          try dsimp only
          refine hK _ _ (fun _ => hS) ?_
          clear hK K
          repeat (first | (refine wpAnyG_take (i := 28) (v := .pointer (some ⟨b4, o4 + j * 3, none⟩)) rfl ?_ ?_ ?_ (fun _ _ _ h => h) (Or.inl ⟨by rfl, ?_⟩) hS ?_; (· decide +kernel); (· decide +kernel); (· decide +kernel); (· (intro w' hS'; obtain ⟨hS0, hS1, hS2, hS3, hS4, hS5, hS6, hS7, hS8, hS9⟩ := hS'; go_simp))) | (refine wpAnyG_take (i := 29) (v := .agg #[.int .i64 (kb : Nat), str nb, .slice B2 m2 e2]) rfl ?_ ?_ ?_ (fun _ _ _ h => h) (Or.inl ⟨by rfl, ?_⟩) hS ?_; (· decide +kernel); (· decide +kernel); (· decide +kernel); (· (intro w' hS'; obtain ⟨hS0, hS1, hS2, hS3, hS4, hS5, hS6, hS7, hS8, hS9⟩ := hS'; go_simp))))
          have hne : B11 ≠ B12 := by omega
          have u0 := fB11.cell 0
          have u1 := fB11.cell 1
          have u2 := fB11.cell 2
          have y0 := fB12.cell 0
          have y1 := fB12.cell 1
          have y2 := fB12.cell 2
          have g0 := fB11.frozen 0
          have g1 := fB11.frozen 1
          have g2 := fB11.frozen 2
          have z0 := fB12.frozen 0
          have z1 := fB12.frozen 1
          have z2 := fB12.frozen 2
          have lu := fB11.lt
          have ly := fB12.lt
          have hne' : B12 ≠ B11 := fun e => hne e.symm
          simp only [List.getElem?_cons_zero, List.getElem?_cons_succ] at u0 u1 u2 y0 y1 y2
          have h11 := ((fB11.put 0 (.int .i64 (ka : Nat))).put 1 (str na)).put 2 (.slice B1 m1 e1)
          have h12 : Blk (((W2.setCell ⟨B11, 0, none⟩ (.int .i64 (ka : Nat))).setCell ⟨B11, 1, none⟩ (str na)).setCell ⟨B11, 2, none⟩ (.slice B1 m1 e1)) B12 34 [.int .i64 0, .string ⟨#[]⟩, .slice none 0 0] := ((Below.heap_setCell _ ⟨B11, 2, none⟩ _ B12 hne').trans ((Below.heap_setCell _ ⟨B11, 1, none⟩ _ B12 hne').trans (Below.heap_setCell W2 ⟨B11, 0, none⟩ _ B12 hne'))).trans fB12
          have g12 := ((h12.put 0 (.int .i64 (kb : Nat))).put 1 (str nb)).put 2 (.slice B2 m2 e2)
          have g11 : Blk (((((W2.setCell ⟨B11, 0, none⟩ (.int .i64 (ka : Nat))).setCell ⟨B11, 1, none⟩ (str na)).setCell ⟨B11, 2, none⟩ (.slice B1 m1 e1)).setCell ⟨B12, 0, none⟩ (.int .i64 (kb : Nat))).setCell ⟨B12, 1, none⟩ (str nb) |>.setCell ⟨B12, 2, none⟩ (.slice B2 m2 e2)) B11 34 [.int .i64 (ka : Nat), str na, .slice B1 m1 e1] := ((Below.heap_setCell _ ⟨B12, 2, none⟩ _ B11 hne).trans ((Below.heap_setCell _ ⟨B12, 1, none⟩ _ B11 hne).trans (Below.heap_setCell _ ⟨B12, 0, none⟩ _ B11 hne))).trans h11
          have HB32 := ((HB.setCell (p := ⟨B11, 0, none⟩) nB11 (.int .i64 (ka : Nat))).setCell (p := ⟨B11, 1, none⟩) nB11 (str na)).setCell (p := ⟨B11, 2, none⟩) nB11 (.slice B1 m1 e1)
          have HBf := ((HB32.setCell (p := ⟨B12, 0, none⟩) nB12 (.int .i64 (kb : Nat))).setCell (p := ⟨B12, 1, none⟩) nB12 (str nb)).setCell (p := ⟨B12, 2, none⟩) nB12 (.slice B2 m2 e2)
          have fin := Lib.hid (And.intro HBf (And.intro g11 (And.intro g12 (And.intro nB11 nB12))))
          clear h11 g12 g11
          have hS := MK.out _ HB32
          refine wpAnyG_ready (rs := [32]) (by decide +kernel) (by simp) ?_
          refine AllReadyG.cons rfl (fun K hK => ?_) AllReadyG.nil
          go_simp
          refine hK _ _ (fun _ => hS) ?_
          clear hK K hS
          have hS := MK.out _ HBf
          have v0 := h12.cell 0
          have v1 := h12.cell 1
          have v2 := h12.cell 2
          have k0 := h12.frozen 0
          have k1 := h12.frozen 1
          have k2 := h12.frozen 2
          have lv := h12.lt
          simp only [List.getElem?_cons_zero, List.getElem?_cons_succ] at v0 v1 v2
          refine wpAnyG_ready (rs := [33]) (by decide +kernel) (by simp) ?_
          refine AllReadyG.cons rfl (fun K hK => ?_) AllReadyG.nil
          go_simp
          refine hK _ _ (fun _ => hS) ?_
          clear hK K
          refine wpAnyG_done (by decide +kernel) ?_ _
          clear u0 u1 u2 y0 y1 y2 g0 g1 g2 z0 z1 z2 lu ly h12 v0 v1 v2 k0 k1 k2 lv fB11 fB12 HB hS
          go_wp2_with (fail)
          go_meet
          exact ⟨B11, B12, rfl, rfl, fin⟩
      · go_simp
        have fB12 := Blk.new W0 34 [.int .i64 0, .string ⟨#[]⟩, .slice none 0 0]
        have nB12 : W.heap.size ≤ W0.heap.size := HB.size
        replace HB := HB.alloc HB.size (.cells #[.int .i64 0, .string ⟨#[]⟩, .slice none 0 0] 34)
        clear hS
        generalize W0.alloc (.cells #[.int .i64 0, .string ⟨#[]⟩, .slice none 0 0] 34) = W1 at *
        generalize W0.heap.size = B12 at *
        have hS := MK.out _ HB
        refine hK _ _ (fun _ => hS) ?_
        clear hK K
        refine wpAnyG_ready (rs := [27, 30]) (by decide +kernel) (by simp) ?_
        refine AllReadyG.cons rfl (fun K hK => ?_) (AllReadyG.cons rfl (fun K hK => ?_) AllReadyG.nil)
        · go_simp
          refine (R3.out _).mono ?_
          rintro e w' ⟨rfl, rfl⟩
          try dsimp only
          refine hK _ _ (fun _ => hS) ?_
          clear hK K
          repeat (first | (refine wpAnyG_take (i := 28) (v := .pointer (some ⟨b4, o4 + j * 3, none⟩)) rfl ?_ ?_ ?_ (fun _ _ _ h => h) (Or.inl ⟨by rfl, ?_⟩) hS ?_; (· decide +kernel); (· decide +kernel); (· decide +kernel); (· (intro w' hS'; obtain ⟨hS0, hS1, hS2, hS3, hS4, hS5, hS6, hS7, hS8, hS9⟩ := hS'; go_simp))) | (refine wpAnyG_take (i := 29) (v := .agg #[.int .i64 (kb : Nat), str nb, .slice B2 m2 e2]) rfl ?_ ?_ ?_ (fun _ _ _ h => h) (Or.inl ⟨by rfl, ?_⟩) hS ?_; (· decide +kernel); (· decide +kernel); (· decide +kernel); (· (intro w' hS'; obtain ⟨hS0, hS1, hS2, hS3, hS4, hS5, hS6, hS7, hS8, hS9⟩ := hS'; go_simp))))
          refine wpAnyG_ready (rs := [30]) (by decide +kernel) (by simp) ?_
          refine AllReadyG.cons rfl (fun K hK => ?_) AllReadyG.nil
          go_simp
          have fB11 := Blk.new W1 34 [.int .i64 0, .string ⟨#[]⟩, .slice none 0 0]
          have nB11 : W.heap.size ≤ W1.heap.size := HB.size
          have neB12 : B12 < W1.heap.size := fB12.lt
          replace fB12 := fB12.alloc (.cells #[.int .i64 0, .string ⟨#[]⟩, .slice none 0 0] 34)
          replace HB := HB.alloc HB.size (.cells #[.int .i64 0, .string ⟨#[]⟩, .slice none 0 0] 34)
          clear hS
          generalize W1.alloc (.cells #[.int .i64 0, .string ⟨#[]⟩, .slice none 0 0] 34) = W2 at *
          generalize W1.heap.size = B11 at *
          have hS := MK.out _ HB
          refine hK _ _ (fun _ => hS) ?_
          clear hK K
          have hne : B11 ≠ B12 := by omega
          have u0 := fB11.cell 0
          have u1 := fB11.cell 1
          have u2 := fB11.cell 2
          have y0 := fB12.cell 0
          have y1 := fB12.cell 1
          have y2 := fB12.cell 2
          have g0 := fB11.frozen 0
          have g1 := fB11.frozen 1
          have g2 := fB11.frozen 2
          have z0 := fB12.frozen 0
          have z1 := fB12.frozen 1
          have z2 := fB12.frozen 2
          have lu := fB11.lt
          have ly := fB12.lt
          have hne' : B12 ≠ B11 := fun e => hne e.symm
          simp only [List.getElem?_cons_zero, List.getElem?_cons_succ] at u0 u1 u2 y0 y1 y2
          have h11 := ((fB11.put 0 (.int .i64 (ka : Nat))).put 1 (str na)).put 2 (.slice B1 m1 e1)
          have h12 : Blk (((W2.setCell ⟨B11, 0, none⟩ (.int .i64 (ka : Nat))).setCell ⟨B11, 1, none⟩ (str na)).setCell ⟨B11, 2, none⟩ (.slice B1 m1 e1)) B12 34 [.int .i64 0, .string ⟨#[]⟩, .slice none 0 0] := ((Below.heap_setCell _ ⟨B11, 2, none⟩ _ B12 hne').trans ((Below.heap_setCell _ ⟨B11, 1, none⟩ _ B12 hne').trans (Below.heap_setCell W2 ⟨B11, 0, none⟩ _ B12 hne'))).trans fB12
          have g12 := ((h12.put 0 (.int .i64 (kb : Nat))).put 1 (str nb)).put 2 (.slice B2 m2 e2)
          have g11 : Blk (((((W2.setCell ⟨B11, 0, none⟩ (.int .i64 (ka : Nat))).setCell ⟨B11, 1, none⟩ (str na)).setCell ⟨B11, 2, none⟩ (.slice B1 m1 e1)).setCell ⟨B12, 0, none⟩ (.int .i64 (kb : Nat))).setCell ⟨B12, 1, none⟩ (str nb) |>.setCell ⟨B12, 2, none⟩ (.slice B2 m2 e2)) B11 34 [.int .i64 (ka : Nat), str na, .slice B1 m1 e1] := ((Below.heap_setCell _ ⟨B12, 2, none⟩ _ B11 hne).trans ((Below.heap_setCell _ ⟨B12, 1, none⟩ _ B11 hne).trans (Below.heap_setCell _ ⟨B12, 0, none⟩ _ B11 hne))).trans h11
          have HB32 := ((HB.setCell (p := ⟨B11, 0, none⟩) nB11 (.int .i64 (ka : Nat))).setCell (p := ⟨B11, 1, none⟩) nB11 (str na)).setCell (p := ⟨B11, 2, none⟩) nB11 (.slice B1 m1 e1)
          have HBf := ((HB32.setCell (p := ⟨B12, 0, none⟩) nB12 (.int .i64 (kb : Nat))).setCell (p := ⟨B12, 1, none⟩) nB12 (str nb)).setCell (p := ⟨B12, 2, none⟩) nB12 (.slice B2 m2 e2)
          have fin := Lib.hid (And.intro HBf (And.intro g11 (And.intro g12 (And.intro nB11 nB12))))
          clear h11 g12 g11
          have hS := MK.out _ HB32
          refine wpAnyG_ready (rs := [32]) (by decide +kernel) (by simp) ?_
          refine AllReadyG.cons rfl (fun K hK => ?_) AllReadyG.nil
          go_simp
          refine hK _ _ (fun _ => hS) ?_
          clear hK K hS
          have hS := MK.out _ HBf
          have v0 := h12.cell 0
          have v1 := h12.cell 1
          have v2 := h12.cell 2
          have k0 := h12.frozen 0
          have k1 := h12.frozen 1
          have k2 := h12.frozen 2
          have lv := h12.lt
          simp only [List.getElem?_cons_zero, List.getElem?_cons_succ] at v0 v1 v2
          refine wpAnyG_ready (rs := [33]) (by decide +kernel) (by simp) ?_
          refine AllReadyG.cons rfl (fun K hK => ?_) AllReadyG.nil
          go_simp
          refine hK _ _ (fun _ => hS) ?_
          clear hK K
          refine wpAnyG_done (by decide +kernel) ?_ _
          clear u0 u1 u2 y0 y1 y2 g0 g1 g2 z0 z1 z2 lu ly h12 v0 v1 v2 k0 k1 k2 lv fB11 fB12 HB hS
          go_wp2_with (fail)
          go_meet
          exact ⟨B11, B12, rfl, rfl, fin⟩
        · go_simp
          have fB11 := Blk.new W1 34 [.int .i64 0, .string ⟨#[]⟩, .slice none 0 0]
          have nB11 : W.heap.size ≤ W1.heap.size := HB.size
          have neB12 : B12 < W1.heap.size := fB12.lt
          replace fB12 := fB12.alloc (.cells #[.int .i64 0, .string ⟨#[]⟩, .slice none 0 0] 34)
          replace HB := HB.alloc HB.size (.cells #[.int .i64 0, .string ⟨#[]⟩, .slice none 0 0] 34)
          clear hS
          generalize W1.alloc (.cells #[.int .i64 0, .string ⟨#[]⟩, .slice none 0 0] 34) = W2 at *
          generalize W1.heap.size = B11 at *
          have hS := MK.out _ HB
          refine hK _ _ (fun _ => hS) ?_
          clear hK K
          refine wpAnyG_ready (rs := [27]) (by decide +kernel) (by simp) ?_
          refine AllReadyG.cons rfl (fun K hK => ?_) AllReadyG.nil
          go_simp
          refine (R3.out _).mono ?_
          rintro e w' ⟨rfl, rfl⟩
          try dsimp only
          refine hK _ _ (fun _ => hS) ?_
          clear hK K
          repeat (first | (refine wpAnyG_take (i := 28) (v := .pointer (some ⟨b4, o4 + j * 3, none⟩)) rfl ?_ ?_ ?_ (fun _ _ _ h => h) (Or.inl ⟨by rfl, ?_⟩) hS ?_; (· decide +kernel); (· decide +kernel); (· decide +kernel); (· (intro w' hS'; obtain ⟨hS0, hS1, hS2, hS3, hS4, hS5, hS6, hS7, hS8, hS9⟩ := hS'; go_simp))) | (refine wpAnyG_take (i := 29) (v := .agg #[.int .i64 (kb : Nat), str nb, .slice B2 m2 e2]) rfl ?_ ?_ ?_ (fun _ _ _ h => h) (Or.inl ⟨by rfl, ?_⟩) hS ?_; (· decide +kernel); (· decide +kernel); (· decide +kernel); (· (intro w' hS'; obtain ⟨hS0, hS1, hS2, hS3, hS4, hS5, hS6, hS7, hS8, hS9⟩ := hS'; go_simp))))
          have hne : B11 ≠ B12 := by omega
          have u0 := fB11.cell 0
          have u1 := fB11.cell 1
          have u2 := fB11.cell 2
          have y0 := fB12.cell 0
          have y1 := fB12.cell 1
          have y2 := fB12.cell 2
          have g0 := fB11.frozen 0
          have g1 := fB11.frozen 1
          have g2 := fB11.frozen 2
          have z0 := fB12.frozen 0
          have z1 := fB12.frozen 1
          have z2 := fB12.frozen 2
          have lu := fB11.lt
          have ly := fB12.lt
          have hne' : B12 ≠ B11 := fun e => hne e.symm
          simp only [List.getElem?_cons_zero, List.getElem?_cons_succ] at u0 u1 u2 y0 y1 y2
          have h11 := ((fB11.put 0 (.int .i64 (ka : Nat))).put 1 (str na)).put 2 (.slice B1 m1 e1)
          have h12 : Blk (((W2.setCell ⟨B11, 0, none⟩ (.int .i64 (ka : Nat))).setCell ⟨B11, 1, none⟩ (str na)).setCell ⟨B11, 2, none⟩ (.slice B1 m1 e1)) B12 34 [.int .i64 0, .string ⟨#[]⟩, .slice none 0 0] := ((Below.heap_setCell _ ⟨B11, 2, none⟩ _ B12 hne').trans ((Below.heap_setCell _ ⟨B11, 1, none⟩ _ B12 hne').trans (Below.heap_setCell W2 ⟨B11, 0, none⟩ _ B12 hne'))).trans fB12
          have g12 := ((h12.put 0 (.int .i64 (kb : Nat))).put 1 (str nb)).put 2 (.slice B2 m2 e2)
          have g11 : Blk (((((W2.setCell ⟨B11, 0, none⟩ (.int .i64 (ka : Nat))).setCell ⟨B11, 1, none⟩ (str na)).setCell ⟨B11, 2, none⟩ (.slice B1 m1 e1)).setCell ⟨B12, 0, none⟩ (.int .i64 (kb : Nat))).setCell ⟨B12, 1, none⟩ (str nb) |>.setCell ⟨B12, 2, none⟩ (.slice B2 m2 e2)) B11 34 [.int .i64 (ka : Nat), str na, .slice B1 m1 e1] := ((Below.heap_setCell _ ⟨B12, 2, none⟩ _ B11 hne).trans ((Below.heap_setCell _ ⟨B12, 1, none⟩ _ B11 hne).trans (Below.heap_setCell _ ⟨B12, 0, none⟩ _ B11 hne))).trans h11
          have HB32 := ((HB.setCell (p := ⟨B11, 0, none⟩) nB11 (.int .i64 (ka : Nat))).setCell (p := ⟨B11, 1, none⟩) nB11 (str na)).setCell (p := ⟨B11, 2, none⟩) nB11 (.slice B1 m1 e1)
          have HBf := ((HB32.setCell (p := ⟨B12, 0, none⟩) nB12 (.int .i64 (kb : Nat))).setCell (p := ⟨B12, 1, none⟩) nB12 (str nb)).setCell (p := ⟨B12, 2, none⟩) nB12 (.slice B2 m2 e2)
          have fin := Lib.hid (And.intro HBf (And.intro g11 (And.intro g12 (And.intro nB11 nB12))))
          clear h11 g12 g11
          have hS := MK.out _ HB32
          refine wpAnyG_ready (rs := [32]) (by decide +kernel) (by simp) ?_
          refine AllReadyG.cons rfl (fun K hK => ?_) AllReadyG.nil
          go_simp
          refine hK _ _ (fun _ => hS) ?_
          clear hK K hS
          have hS := MK.out _ HBf
          have v0 := h12.cell 0
          have v1 := h12.cell 1
          have v2 := h12.cell 2
          have k0 := h12.frozen 0
          have k1 := h12.frozen 1
          have k2 := h12.frozen 2
          have lv := h12.lt
          simp only [List.getElem?_cons_zero, List.getElem?_cons_succ] at v0 v1 v2
          refine wpAnyG_ready (rs := [33]) (by decide +kernel) (by simp) ?_
          refine AllReadyG.cons rfl (fun K hK => ?_) AllReadyG.nil
          go_simp
          refine hK _ _ (fun _ => hS) ?_
          clear hK K
          refine wpAnyG_done (by decide +kernel) ?_ _
          clear u0 u1 u2 y0 y1 y2 g0 g1 g2 z0 z1 z2 lu ly h12 v0 v1 v2 k0 k1 k2 lv fB11 fB12 HB hS
          go_wp2_with (fail)
          go_meet
          exact ⟨B11, B12, rfl, rfl, fin⟩
    · go_simp
      have fB11 := Blk.new W0 34 [.int .i64 0, .string ⟨#[]⟩, .slice none 0 0]
      have nB11 : W.heap.size ≤ W0.heap.size := HB.size
      replace HB := HB.alloc HB.size (.cells #[.int .i64 0, .string ⟨#[]⟩, .slice none 0 0] 34)
      clear hS
      generalize W0.alloc (.cells #[.int .i64 0, .string ⟨#[]⟩, .slice none 0 0] 34) = W1 at *
      generalize W0.heap.size = B11 at *
      have hS := MK.out _ HB
      refine hK _ _ (fun _ => hS) ?_
      clear hK K
      refine wpAnyG_ready (rs := [12, 31]) (by decide +kernel) (by simp) ?_
      refine AllReadyG.cons rfl (fun K hK => ?_) (AllReadyG.cons rfl (fun K hK => ?_) AllReadyG.nil)
      · go_simp
        refine (R2.out _).mono ?_
        rintro e w' ⟨rfl, rfl⟩
        try dsimp only
        refine hK _ _ (fun _ => hS) ?_
        clear hK K
        repeat (first | (refine wpAnyG_take (i := 13) (v := .pointer (some ⟨b1, o1 + i * 3, none⟩)) rfl ?_ ?_ ?_ (fun _ _ _ h => h) (Or.inl ⟨by rfl, ?_⟩) hS ?_; (· decide +kernel); (· decide +kernel); (· decide +kernel); (· (intro w' hS'; obtain ⟨hS0, hS1, hS2, hS3, hS4, hS5, hS6, hS7, hS8, hS9⟩ := hS'; go_simp))) | (refine wpAnyG_take (i := 14) (v := .agg #[.int .i64 (ka : Nat), str na, .slice B1 m1 e1]) rfl ?_ ?_ ?_ (fun _ _ _ h => h) (Or.inl ⟨by rfl, ?_⟩) hS ?_; (· decide +kernel); (· decide +kernel); (· decide +kernel); (· (intro w' hS'; obtain ⟨hS0, hS1, hS2, hS3, hS4, hS5, hS6, hS7, hS8, hS9⟩ := hS'; go_simp))))
        refine wpAnyG_ready (rs := [27, 31]) (by decide +kernel) (by simp) ?_
        refine AllReadyG.cons rfl (fun K hK => ?_) (AllReadyG.cons rfl (fun K hK => ?_) AllReadyG.nil)
        · go_simp
          refine (R3.out _).mono ?_
          rintro e w' ⟨rfl, rfl⟩
          try dsimp only
          refine hK _ _ (fun _ => hS) ?_
          clear hK K
          repeat (first | (refine wpAnyG_take (i := 28) (v := .pointer (some ⟨b4, o4 + j * 3, none⟩)) rfl ?_ ?_ ?_ (fun _ _ _ h => h) (Or.inl ⟨by rfl, ?_⟩) hS ?_; (· decide +kernel); (· decide +kernel); (· decide +kernel); (· (intro w' hS'; obtain ⟨hS0, hS1, hS2, hS3, hS4, hS5, hS6, hS7, hS8, hS9⟩ := hS'; go_simp))) | (refine wpAnyG_take (i := 29) (v := .agg #[.int .i64 (kb : Nat), str nb, .slice B2 m2 e2]) rfl ?_ ?_ ?_ (fun _ _ _ h => h) (Or.inl ⟨by rfl, ?_⟩) hS ?_; (· decide +kernel); (· decide +kernel); (· decide +kernel); (· (intro w' hS'; obtain ⟨hS0, hS1, hS2, hS3, hS4, hS5, hS6, hS7, hS8, hS9⟩ := hS'; go_simp))))
          refine wpAnyG_ready (rs := [31]) (by decide +kernel) (by simp) ?_
          refine AllReadyG.cons rfl (fun K hK => ?_) AllReadyG.nil
          go_simp
          have fB12 := Blk.new W1 34 [.int .i64 0, .string ⟨#[]⟩, .slice none 0 0]
          have nB12 : W.heap.size ≤ W1.heap.size := HB.size
          have neB11 : B11 < W1.heap.size := fB11.lt
          replace fB11 := fB11.alloc (.cells #[.int .i64 0, .string ⟨#[]⟩, .slice none 0 0] 34)
          replace HB := HB.alloc HB.size (.cells #[.int .i64 0, .string ⟨#[]⟩, .slice none 0 0] 34)
          clear hS
          generalize W1.alloc (.cells #[.int .i64 0, .string ⟨#[]⟩, .slice none 0 0] 34) = W2 at *
          generalize W1.heap.size = B12 at *
          have hS := MK.out _ HB
          refine hK _ _ (fun _ => hS) ?_
          clear hK K
          have hne : B11 ≠ B12 := by omega
          have u0 := fB11.cell 0
          have u1 := fB11.cell 1
          have u2 := fB11.cell 2
          have y0 := fB12.cell 0
          have y1 := fB12.cell 1
          have y2 := fB12.cell 2
          have g0 := fB11.frozen 0
          have g1 := fB11.frozen 1
          have g2 := fB11.frozen 2
          have z0 := fB12.frozen 0
          have z1 := fB12.frozen 1
          have z2 := fB12.frozen 2
          have lu := fB11.lt
          have ly := fB12.lt
          have hne' : B12 ≠ B11 := fun e => hne e.symm
          simp only [List.getElem?_cons_zero, List.getElem?_cons_succ] at u0 u1 u2 y0 y1 y2
          have h11 := ((fB11.put 0 (.int .i64 (ka : Nat))).put 1 (str na)).put 2 (.slice B1 m1 e1)
          have h12 : Blk (((W2.setCell ⟨B11, 0, none⟩ (.int .i64 (ka : Nat))).setCell ⟨B11, 1, none⟩ (str na)).setCell ⟨B11, 2, none⟩ (.slice B1 m1 e1)) B12 34 [.int .i64 0, .string ⟨#[]⟩, .slice none 0 0] := ((Below.heap_setCell _ ⟨B11, 2, none⟩ _ B12 hne').trans ((Below.heap_setCell _ ⟨B11, 1, none⟩ _ B12 hne').trans (Below.heap_setCell W2 ⟨B11, 0, none⟩ _ B12 hne'))).trans fB12
          have g12 := ((h12.put 0 (.int .i64 (kb : Nat))).put 1 (str nb)).put 2 (.slice B2 m2 e2)
          have g11 : Blk (((((W2.setCell ⟨B11, 0, none⟩ (.int .i64 (ka : Nat))).setCell ⟨B11, 1, none⟩ (str na)).setCell ⟨B11, 2, none⟩ (.slice B1 m1 e1)).setCell ⟨B12, 0, none⟩ (.int .i64 (kb : Nat))).setCell ⟨B12, 1, none⟩ (str nb) |>.setCell ⟨B12, 2, none⟩ (.slice B2 m2 e2)) B11 34 [.int .i64 (ka : Nat), str na, .slice B1 m1 e1] := ((Below.heap_setCell _ ⟨B12, 2, none⟩ _ B11 hne).trans ((Below.heap_setCell _ ⟨B12, 1, none⟩ _ B11 hne).trans (Below.heap_setCell _ ⟨B12, 0, none⟩ _ B11 hne))).trans h11
          have HB32 := ((HB.setCell (p := ⟨B11, 0, none⟩) nB11 (.int .i64 (ka : Nat))).setCell (p := ⟨B11, 1, none⟩) nB11 (str na)).setCell (p := ⟨B11, 2, none⟩) nB11 (.slice B1 m1 e1)
          have HBf := ((HB32.setCell (p := ⟨B12, 0, none⟩) nB12 (.int .i64 (kb : Nat))).setCell (p := ⟨B12, 1, none⟩) nB12 (str nb)).setCell (p := ⟨B12, 2, none⟩) nB12 (.slice B2 m2 e2)
          have fin := Lib.hid (And.intro HBf (And.intro g11 (And.intro g12 (And.intro nB11 nB12))))
          clear h11 g12 g11
          have hS := MK.out _ HB32
          refine wpAnyG_ready (rs := [32]) (by decide +kernel) (by simp) ?_
          refine AllReadyG.cons rfl (fun K hK => ?_) AllReadyG.nil
          go_simp
          refine hK _ _ (fun _ => hS) ?_
          clear hK K hS
          have hS := MK.out _ HBf
          have v0 := h12.cell 0
          have v1 := h12.cell 1
          have v2 := h12.cell 2
          have k0 := h12.frozen 0
          have k1 := h12.frozen 1
          have k2 := h12.frozen 2
          have lv := h12.lt
          simp only [List.getElem?_cons_zero, List.getElem?_cons_succ] at v0 v1 v2
          refine wpAnyG_ready (rs := [33]) (by decide +kernel) (by simp) ?_
          refine AllReadyG.cons rfl (fun K hK => ?_) AllReadyG.nil
          go_simp
          refine hK _ _ (fun _ => hS) ?_
          clear hK K
          refine wpAnyG_done (by decide +kernel) ?_ _
          clear u0 u1 u2 y0 y1 y2 g0 g1 g2 z0 z1 z2 lu ly h12 v0 v1 v2 k0 k1 k2 lv fB11 fB12 HB hS
          go_wp2_with (fail)
          go_meet
          exact ⟨B11, B12, rfl, rfl, fin⟩
        · go_simp
          have fB12 := Blk.new W1 34 [.int .i64 0, .string ⟨#[]⟩, .slice none 0 0]
          have nB12 : W.heap.size ≤ W1.heap.size := HB.size
          have neB11 : B11 < W1.heap.size := fB11.lt
          replace fB11 := fB11.alloc (.cells #[.int .i64 0, .string ⟨#[]⟩, .slice none 0 0] 34)
          replace HB := HB.alloc HB.size (.cells #[.int .i64 0, .string ⟨#[]⟩, .slice none 0 0] 34)
          clear hS
          generalize W1.alloc (.cells #[.int .i64 0, .string ⟨#[]⟩, .slice none 0 0] 34) = W2 at *
          generalize W1.heap.size = B12 at *
          have hS := MK.out _ HB
          refine hK _ _ (fun _ => hS) ?_
          clear hK K
          refine wpAnyG_ready (rs := [27]) (by decide +kernel) (by simp) ?_
          refine AllReadyG.cons rfl (fun K hK => ?_) AllReadyG.nil
          go_simp
          refine (R3.out _).mono ?_
          rintro e w' ⟨rfl, rfl⟩
          try dsimp only
          refine hK _ _ (fun _ => hS) ?_
          clear hK K
          repeat (first | (refine wpAnyG_take (i := 28) (v := .pointer (some ⟨b4, o4 + j * 3, none⟩)) rfl ?_ ?_ ?_ (fun _ _ _ h => h) (Or.inl ⟨by rfl, ?_⟩) hS ?_; (· decide +kernel); (· decide +kernel); (· decide +kernel); (· (intro w' hS'; obtain ⟨hS0, hS1, hS2, hS3, hS4, hS5, hS6, hS7, hS8, hS9⟩ := hS'; go_simp))) | (refine wpAnyG_take (i := 29) (v := .agg #[.int .i64 (kb : Nat), str nb, .slice B2 m2 e2]) rfl ?_ ?_ ?_ (fun _ _ _ h => h) (Or.inl ⟨by rfl, ?_⟩) hS ?_; (· decide +kernel); (· decide +kernel); (· decide +kernel); (· (intro w' hS'; obtain ⟨hS0, hS1, hS2, hS3, hS4, hS5, hS6, hS7, hS8, hS9⟩ := hS'; go_simp))))
          have hne : B11 ≠ B12 := by omega
          have u0 := fB11.cell 0
          have u1 := fB11.cell 1
          have u2 := fB11.cell 2
          have y0 := fB12.cell 0
          have y1 := fB12.cell 1
          have y2 := fB12.cell 2
          have g0 := fB11.frozen 0
          have g1 := fB11.frozen 1
          have g2 := fB11.frozen 2
          have z0 := fB12.frozen 0
          have z1 := fB12.frozen 1
          have z2 := fB12.frozen 2
          have lu := fB11.lt
          have ly := fB12.lt
          have hne' : B12 ≠ B11 := fun e => hne e.symm
          simp only [List.getElem?_cons_zero, List.getElem?_cons_succ] at u0 u1 u2 y0 y1 y2
          have h11 := ((fB11.put 0 (.int .i64 (ka : Nat))).put 1 (str na)).put 2 (.slice B1 m1 e1)
          have h12 : Blk (((W2.setCell ⟨B11, 0, none⟩ (.int .i64 (ka : Nat))).setCell ⟨B11, 1, none⟩ (str na)).setCell ⟨B11, 2, none⟩ (.slice B1 m1 e1)) B12 34 [.int .i64 0, .string ⟨#[]⟩, .slice none 0 0] := ((Below.heap_setCell _ ⟨B11, 2, none⟩ _ B12 hne').trans ((Below.heap_setCell _ ⟨B11, 1, none⟩ _ B12 hne').trans (Below.heap_setCell W2 ⟨B11, 0, none⟩ _ B12 hne'))).trans fB12
          have g12 := ((h12.put 0 (.int .i64 (kb : Nat))).put 1 (str nb)).put 2 (.slice B2 m2 e2)
          have g11 : Blk (((((W2.setCell ⟨B11, 0, none⟩ (.int .i64 (ka : Nat))).setCell ⟨B11, 1, none⟩ (str na)).setCell ⟨B11, 2, none⟩ (.slice B1 m1 e1)).setCell ⟨B12, 0, none⟩ (.int .i64 (kb : Nat))).setCell ⟨B12, 1, none⟩ (str nb) |>.setCell ⟨B12, 2, none⟩ (.slice B2 m2 e2)) B11 34 [.int .i64 (ka : Nat), str na, .slice B1 m1 e1] := ((Below.heap_setCell _ ⟨B12, 2, none⟩ _ B11 hne).trans ((Below.heap_setCell _ ⟨B12, 1, none⟩ _ B11 hne).trans (Below.heap_setCell _ ⟨B12, 0, none⟩ _ B11 hne))).trans h11
          have HB32 := ((HB.setCell (p := ⟨B11, 0, none⟩) nB11 (.int .i64 (ka : Nat))).setCell (p := ⟨B11, 1, none⟩) nB11 (str na)).setCell (p := ⟨B11, 2, none⟩) nB11 (.slice B1 m1 e1)
          have HBf := ((HB32.setCell (p := ⟨B12, 0, none⟩) nB12 (.int .i64 (kb : Nat))).setCell (p := ⟨B12, 1, none⟩) nB12 (str nb)).setCell (p := ⟨B12, 2, none⟩) nB12 (.slice B2 m2 e2)
          have fin := Lib.hid (And.intro HBf (And.intro g11 (And.intro g12 (And.intro nB11 nB12))))
          clear h11 g12 g11
          have hS := MK.out _ HB32
          refine wpAnyG_ready (rs := [32]) (by decide +kernel) (by simp) ?_
          refine AllReadyG.cons rfl (fun K hK => ?_) AllReadyG.nil
          go_simp
          refine hK _ _ (fun _ => hS) ?_
          clear hK K hS
          have hS := MK.out _ HBf
          have v0 := h12.cell 0
          have v1 := h12.cell 1
          have v2 := h12.cell 2
          have k0 := h12.frozen 0
          have k1 := h12.frozen 1
          have k2 := h12.frozen 2
          have lv := h12.lt
          simp only [List.getElem?_cons_zero, List.getElem?_cons_succ] at v0 v1 v2
          refine wpAnyG_ready (rs := [33]) (by decide +kernel) (by simp) ?_
          refine AllReadyG.cons rfl (fun K hK => ?_) AllReadyG.nil
          go_simp
          refine hK _ _ (fun _ => hS) ?_
          clear hK K
          refine wpAnyG_done (by decide +kernel) ?_ _
          clear u0 u1 u2 y0 y1 y2 g0 g1 g2 z0 z1 z2 lu ly h12 v0 v1 v2 k0 k1 k2 lv fB11 fB12 HB hS
          go_wp2_with (fail)
          go_meet
          exact ⟨B11, B12, rfl, rfl, fin⟩
      · go_simp
        have fB12 := Blk.new W1 34 [.int .i64 0, .string ⟨#[]⟩, .slice none 0 0]
        have nB12 : W.heap.size ≤ W1.heap.size := HB.size
        have neB11 : B11 < W1.heap.size := fB11.lt
        replace fB11 := fB11.alloc (.cells #[.int .i64 0, .string ⟨#[]⟩, .slice none 0 0] 34)
        replace HB := HB.alloc HB.size (.cells #[.int .i64 0, .string ⟨#[]⟩, .slice none 0 0] 34)
        clear hS
        generalize W1.alloc (.cells #[.int .i64 0, .string ⟨#[]⟩, .slice none 0 0] 34) = W2 at *
        generalize W1.heap.size = B12 at *
        have hS := MK.out _ HB
        refine hK _ _ (fun _ => hS) ?_
        clear hK K
        refine wpAnyG_ready (rs := [12]) (by decide +kernel) (by simp) ?_
        refine AllReadyG.cons rfl (fun K hK => ?_) AllReadyG.nil
        go_simp
        refine (R2.out _).mono ?_
        rintro e w' ⟨rfl, rfl⟩
        try dsimp only
        refine hK _ _ (fun _ => hS) ?_
        clear hK K
        repeat (first | (refine wpAnyG_take (i := 13) (v := .pointer (some ⟨b1, o1 + i * 3, none⟩)) rfl ?_ ?_ ?_ (fun _ _ _ h => h) (Or.inl ⟨by rfl, ?_⟩) hS ?_; (· decide +kernel); (· decide +kernel); (· decide +kernel); (· (intro w' hS'; obtain ⟨hS0, hS1, hS2, hS3, hS4, hS5, hS6, hS7, hS8, hS9⟩ := hS'; go_simp))) | (refine wpAnyG_take (i := 14) (v := .agg #[.int .i64 (ka : Nat), str na, .slice B1 m1 e1]) rfl ?_ ?_ ?_ (fun _ _ _ h => h) (Or.inl ⟨by rfl, ?_⟩) hS ?_; (· decide +kernel); (· decide +kernel); (· decide +kernel); (· (intro w' hS'; obtain ⟨hS0, hS1, hS2, hS3, hS4, hS5, hS6, hS7, hS8, hS9⟩ := hS'; go_simp))))
        refine wpAnyG_ready (rs := [27]) (by decide +kernel) (by simp) ?_
        refine AllReadyG.cons rfl (fun K hK => ?_) AllReadyG.nil
        go_simp
        refine (R3.out _).mono ?_
        rintro e w' ⟨rfl, rfl⟩
        try dsimp only
        refine hK _ _ (fun _ => hS) ?_
        clear hK K
        repeat (first | (refine wpAnyG_take (i := 28) (v := .pointer (some ⟨b4, o4 + j * 3, none⟩)) rfl ?_ ?_ ?_ (fun _ _ _ h => h) (Or.inl ⟨by rfl, ?_⟩) hS ?_; (· decide +kernel); (· decide +kernel); (· decide +kernel); (· (intro w' hS'; obtain ⟨hS0, hS1, hS2, hS3, hS4, hS5, hS6, hS7, hS8, hS9⟩ := hS'; go_simp))) | (refine wpAnyG_take (i := 29) (v := .agg #[.int .i64 (kb : Nat), str nb, .slice B2 m2 e2]) rfl ?_ ?_ ?_ (fun _ _ _ h => h) (Or.inl ⟨by rfl, ?_⟩) hS ?_; (· decide +kernel); (· decide +kernel); (· decide +kernel); (· (intro w' hS'; obtain ⟨hS0, hS1, hS2, hS3, hS4, hS5, hS6, hS7, hS8, hS9⟩ := hS'; go_simp))))
        have hne : B11 ≠ B12 := by omega
        have u0 := fB11.cell 0
        have u1 := fB11.cell 1
        have u2 := fB11.cell 2
        have y0 := fB12.cell 0
        have y1 := fB12.cell 1
        have y2 := fB12.cell 2
        have g0 := fB11.frozen 0
        have g1 := fB11.frozen 1
        have g2 := fB11.frozen 2
        have z0 := fB12.frozen 0
        have z1 := fB12.frozen 1
        have z2 := fB12.frozen 2
        have lu := fB11.lt
        have ly := fB12.lt
        have hne' : B12 ≠ B11 := fun e => hne e.symm
        simp only [List.getElem?_cons_zero, List.getElem?_cons_succ] at u0 u1 u2 y0 y1 y2
        have h11 := ((fB11.put 0 (.int .i64 (ka : Nat))).put 1 (str na)).put 2 (.slice B1 m1 e1)
        have h12 : Blk (((W2.setCell ⟨B11, 0, none⟩ (.int .i64 (ka : Nat))).setCell ⟨B11, 1, none⟩ (str na)).setCell ⟨B11, 2, none⟩ (.slice B1 m1 e1)) B12 34 [.int .i64 0, .string ⟨#[]⟩, .slice none 0 0] := ((Below.heap_setCell _ ⟨B11, 2, none⟩ _ B12 hne').trans ((Below.heap_setCell _ ⟨B11, 1, none⟩ _ B12 hne').trans (Below.heap_setCell W2 ⟨B11, 0, none⟩ _ B12 hne'))).trans fB12
        have g12 := ((h12.put 0 (.int .i64 (kb : Nat))).put 1 (str nb)).put 2 (.slice B2 m2 e2)
        have g11 : Blk (((((W2.setCell ⟨B11, 0, none⟩ (.int .i64 (ka : Nat))).setCell ⟨B11, 1, none⟩ (str na)).setCell ⟨B11, 2, none⟩ (.slice B1 m1 e1)).setCell ⟨B12, 0, none⟩ (.int .i64 (kb : Nat))).setCell ⟨B12, 1, none⟩ (str nb) |>.setCell ⟨B12, 2, none⟩ (.slice B2 m2 e2)) B11 34 [.int .i64 (ka : Nat), str na, .slice B1 m1 e1] := ((Below.heap_setCell _ ⟨B12, 2, none⟩ _ B11 hne).trans ((Below.heap_setCell _ ⟨B12, 1, none⟩ _ B11 hne).trans (Below.heap_setCell _ ⟨B12, 0, none⟩ _ B11 hne))).trans h11
        have HB32 := ((HB.setCell (p := ⟨B11, 0, none⟩) nB11 (.int .i64 (ka : Nat))).setCell (p := ⟨B11, 1, none⟩) nB11 (str na)).setCell (p := ⟨B11, 2, none⟩) nB11 (.slice B1 m1 e1)
        have HBf := ((HB32.setCell (p := ⟨B12, 0, none⟩) nB12 (.int .i64 (kb : Nat))).setCell (p := ⟨B12, 1, none⟩) nB12 (str nb)).setCell (p := ⟨B12, 2, none⟩) nB12 (.slice B2 m2 e2)
        have fin := Lib.hid (And.intro HBf (And.intro g11 (And.intro g12 (And.intro nB11 nB12))))
        clear h11 g12 g11
        have hS := MK.out _ HB32
        refine wpAnyG_ready (rs := [32]) (by decide +kernel) (by simp) ?_
        refine AllReadyG.cons rfl (fun K hK => ?_) AllReadyG.nil
        go_simp
        refine hK _ _ (fun _ => hS) ?_
        clear hK K hS
        have hS := MK.out _ HBf
        have v0 := h12.cell 0
        have v1 := h12.cell 1
        have v2 := h12.cell 2
        have k0 := h12.frozen 0
        have k1 := h12.frozen 1
        have k2 := h12.frozen 2
        have lv := h12.lt
        simp only [List.getElem?_cons_zero, List.getElem?_cons_succ] at v0 v1 v2
        refine wpAnyG_ready (rs := [33]) (by decide +kernel) (by simp) ?_
        refine AllReadyG.cons rfl (fun K hK => ?_) AllReadyG.nil
        go_simp
        refine hK _ _ (fun _ => hS) ?_
        clear hK K
        refine wpAnyG_done (by decide +kernel) ?_ _
        clear u0 u1 u2 y0 y1 y2 g0 g1 g2 z0 z1 z2 lu ly h12 v0 v1 v2 k0 k1 k2 lv fB11 fB12 HB hS
        go_wp2_with (fail)
        go_meet
        exact ⟨B11, B12, rfl, rfl, fin⟩
    · go_simp
      have fB12 := Blk.new W0 34 [.int .i64 0, .string ⟨#[]⟩, .slice none 0 0]
      have nB12 : W.heap.size ≤ W0.heap.size := HB.size
      replace HB := HB.alloc HB.size (.cells #[.int .i64 0, .string ⟨#[]⟩, .slice none 0 0] 34)
      clear hS
      generalize W0.alloc (.cells #[.int .i64 0, .string ⟨#[]⟩, .slice none 0 0] 34) = W1 at *
      generalize W0.heap.size = B12 at *
      have hS := MK.out _ HB
      refine hK _ _ (fun _ => hS) ?_
      clear hK K
      refine wpAnyG_ready (rs := [12, 30]) (by decide +kernel) (by simp) ?_
      refine AllReadyG.cons rfl (fun K hK => ?_) (AllReadyG.cons rfl (fun K hK => ?_) AllReadyG.nil)
      · go_simp
        refine (R2.out _).mono ?_
        rintro e w' ⟨rfl, rfl⟩
        try dsimp only
        refine hK _ _ (fun _ => hS) ?_
        clear hK K
        repeat (first | (refine wpAnyG_take (i := 13) (v := .pointer (some ⟨b1, o1 + i * 3, none⟩)) rfl ?_ ?_ ?_ (fun _ _ _ h => h) (Or.inl ⟨by rfl, ?_⟩) hS ?_; (· decide +kernel); (· decide +kernel); (· decide +kernel); (· (intro w' hS'; obtain ⟨hS0, hS1, hS2, hS3, hS4, hS5, hS6, hS7, hS8, hS9⟩ := hS'; go_simp))) | (refine wpAnyG_take (i := 14) (v := .agg #[.int .i64 (ka : Nat), str na, .slice B1 m1 e1]) rfl ?_ ?_ ?_ (fun _ _ _ h => h) (Or.inl ⟨by rfl, ?_⟩) hS ?_; (· decide +kernel); (· decide +kernel); (· decide +kernel); (· (intro w' hS'; obtain ⟨hS0, hS1, hS2, hS3, hS4, hS5, hS6, hS7, hS8, hS9⟩ := hS'; go_simp))))
        refine wpAnyG_ready (rs := [27, 30]) (by decide +kernel) (by simp) ?_
        refine AllReadyG.cons rfl (fun K hK => ?_) (AllReadyG.cons rfl (fun K hK => ?_) AllReadyG.nil)
        · go_simp
          refine (R3.out _).mono ?_
          rintro e w' ⟨rfl, rfl⟩
          try dsimp only
          refine hK _ _ (fun _ => hS) ?_
          clear hK K
          repeat (first | (refine wpAnyG_take (i := 28) (v := .pointer (some ⟨b4, o4 + j * 3, none⟩)) rfl ?_ ?_ ?_ (fun _ _ _ h => h) (Or.inl ⟨by rfl, ?_⟩) hS ?_; (· decide +kernel); (· decide +kernel); (· decide +kernel); (· (intro w' hS'; obtain ⟨hS0, hS1, hS2, hS3, hS4, hS5, hS6, hS7, hS8, hS9⟩ := hS'; go_simp))) | (refine wpAnyG_take (i := 29) (v := .agg #[.int .i64 (kb : Nat), str nb, .slice B2 m2 e2]) rfl ?_ ?_ ?_ (fun _ _ _ h => h) (Or.inl ⟨by rfl, ?_⟩) hS ?_; (· decide +kernel); (· decide +kernel); (· decide +kernel); (· (intro w' hS'; obtain ⟨hS0, hS1, hS2, hS3, hS4, hS5, hS6, hS7, hS8, hS9⟩ := hS'; go_simp))))
          refine wpAnyG_ready (rs := [30]) (by decide +kernel) (by simp) ?_
          refine AllReadyG.cons rfl (fun K hK => ?_) AllReadyG.nil
          go_simp
          have fB11 := Blk.new W1 34 [.int .i64 0, .string ⟨#[]⟩, .slice none 0 0]
          have nB11 : W.heap.size ≤ W1.heap.size := HB.size
          have neB12 : B12 < W1.heap.size := fB12.lt
          replace fB12 := fB12.alloc (.cells #[.int .i64 0, .string ⟨#[]⟩, .slice none 0 0] 34)
          replace HB := HB.alloc HB.size (.cells #[.int .i64 0, .string ⟨#[]⟩, .slice none 0 0] 34)
          clear hS
          generalize W1.alloc (.cells #[.int .i64 0, .string ⟨#[]⟩, .slice none 0 0] 34) = W2 at *
          generalize W1.heap.size = B11 at *
          have hS := MK.out _ HB
          refine hK _ _ (fun _ => hS) ?_
          clear hK K
          have hne : B11 ≠ B12 := by omega
          have u0 := fB11.cell 0
          have u1 := fB11.cell 1
          have u2 := fB11.cell 2
          have y0 := fB12.cell 0
          have y1 := fB12.cell 1
          have y2 := fB12.cell 2
          have g0 := fB11.frozen 0
          have g1 := fB11.frozen 1
          have g2 := fB11.frozen 2
          have z0 := fB12.frozen 0
          have z1 := fB12.frozen 1
          have z2 := fB12.frozen 2
          have lu := fB11.lt
          have ly := fB12.lt
          have hne' : B12 ≠ B11 := fun e => hne e.symm
          simp only [List.getElem?_cons_zero, List.getElem?_cons_succ] at u0 u1 u2 y0 y1 y2
          have h11 := ((fB11.put 0 (.int .i64 (ka : Nat))).put 1 (str na)).put 2 (.slice B1 m1 e1)
          have h12 : Blk (((W2.setCell ⟨B11, 0, none⟩ (.int .i64 (ka : Nat))).setCell ⟨B11, 1, none⟩ (str na)).setCell ⟨B11, 2, none⟩ (.slice B1 m1 e1)) B12 34 [.int .i64 0, .string ⟨#[]⟩, .slice none 0 0] := ((Below.heap_setCell _ ⟨B11, 2, none⟩ _ B12 hne').trans ((Below.heap_setCell _ ⟨B11, 1, none⟩ _ B12 hne').trans (Below.heap_setCell W2 ⟨B11, 0, none⟩ _ B12 hne'))).trans fB12
          have g12 := ((h12.put 0 (.int .i64 (kb : Nat))).put 1 (str nb)).put 2 (.slice B2 m2 e2)
          have g11 : Blk (((((W2.setCell ⟨B11, 0, none⟩ (.int .i64 (ka : Nat))).setCell ⟨B11, 1, none⟩ (str na)).setCell ⟨B11, 2, none⟩ (.slice B1 m1 e1)).setCell ⟨B12, 0, none⟩ (.int .i64 (kb : Nat))).setCell ⟨B12, 1, none⟩ (str nb) |>.setCell ⟨B12, 2, none⟩ (.slice B2 m2 e2)) B11 34 [.int .i64 (ka : Nat), str na, .slice B1 m1 e1] := ((Below.heap_setCell _ ⟨B12, 2, none⟩ _ B11 hne).trans ((Below.heap_setCell _ ⟨B12, 1, none⟩ _ B11 hne).trans (Below.heap_setCell _ ⟨B12, 0, none⟩ _ B11 hne))).trans h11
          have HB32 := ((HB.setCell (p := ⟨B11, 0, none⟩) nB11 (.int .i64 (ka : Nat))).setCell (p := ⟨B11, 1, none⟩) nB11 (str na)).setCell (p := ⟨B11, 2, none⟩) nB11 (.slice B1 m1 e1)
          have HBf := ((HB32.setCell (p := ⟨B12, 0, none⟩) nB12 (.int .i64 (kb : Nat))).setCell (p := ⟨B12, 1, none⟩) nB12 (str nb)).setCell (p := ⟨B12, 2, none⟩) nB12 (.slice B2 m2 e2)
          have fin := Lib.hid (And.intro HBf (And.intro g11 (And.intro g12 (And.intro nB11 nB12))))
          clear h11 g12 g11
          have hS := MK.out _ HB32
          refine wpAnyG_ready (rs := [32]) (by decide +kernel) (by simp) ?_
          refine AllReadyG.cons rfl (fun K hK => ?_) AllReadyG.nil
          go_simp
          refine hK _ _ (fun _ => hS) ?_
          clear hK K hS
          have hS := MK.out _ HBf
          have v0 := h12.cell 0
          have v1 := h12.cell 1
          have v2 := h12.cell 2
          have k0 := h12.frozen 0
          have k1 := h12.frozen 1
          have k2 := h12.frozen 2
          have lv := h12.lt
          simp only [List.getElem?_cons_zero, List.getElem?_cons_succ] at v0 v1 v2
          refine wpAnyG_ready (rs := [33]) (by decide +kernel) (by simp) ?_
          refine AllReadyG.cons rfl (fun K hK => ?_) AllReadyG.nil
          go_simp
          refine hK _ _ (fun _ => hS) ?_
          clear hK K
          refine wpAnyG_done (by decide +kernel) ?_ _
          clear u0 u1 u2 y0 y1 y2 g0 g1 g2 z0 z1 z2 lu ly h12 v0 v1 v2 k0 k1 k2 lv fB11 fB12 HB hS
          go_wp2_with (fail)
          go_meet
          exact ⟨B11, B12, rfl, rfl, fin⟩
        · go_simp
          have fB11 := Blk.new W1 34 [.int .i64 0, .string ⟨#[]⟩, .slice none 0 0]
          have nB11 : W.heap.size ≤ W1.heap.size := HB.size
          have neB12 : B12 < W1.heap.size := fB12.lt
          replace fB12 := fB12.alloc (.cells #[.int .i64 0, .string ⟨#[]⟩, .slice none 0 0] 34)
          replace HB := HB.alloc HB.size (.cells #[.int .i64 0, .string ⟨#[]⟩, .slice none 0 0] 34)
          clear hS
          generalize W1.alloc (.cells #[.int .i64 0, .string ⟨#[]⟩, .slice none 0 0] 34) = W2 at *
          generalize W1.heap.size = B11 at *
          have hS := MK.out _ HB
          refine hK _ _ (fun _ => hS) ?_
          clear hK K
          refine wpAnyG_ready (rs := [27]) (by decide +kernel) (by simp) ?_
          refine AllReadyG.cons rfl (fun K hK => ?_) AllReadyG.nil
          go_simp
          refine (R3.out _).mono ?_
          rintro e w' ⟨rfl, rfl⟩
          try dsimp only
          refine hK _ _ (fun _ => hS) ?_
          clear hK K
          repeat (first | (refine wpAnyG_take (i := 28) (v := .pointer (some ⟨b4, o4 + j * 3, none⟩)) rfl ?_ ?_ ?_ (fun _ _ _ h => h) (Or.inl ⟨by rfl, ?_⟩) hS ?_; (· decide +kernel); (· decide +kernel); (· decide +kernel); (· (intro w' hS'; obtain ⟨hS0, hS1, hS2, hS3, hS4, hS5, hS6, hS7, hS8, hS9⟩ := hS'; go_simp))) | (refine wpAnyG_take (i := 29) (v := .agg #[.int .i64 (kb : Nat), str nb, .slice B2 m2 e2]) rfl ?_ ?_ ?_ (fun _ _ _ h => h) (Or.inl ⟨by rfl, ?_⟩) hS ?_; (· decide +kernel); (· decide +kernel); (· decide +kernel); (· (intro w' hS'; obtain ⟨hS0, hS1, hS2, hS3, hS4, hS5, hS6, hS7, hS8, hS9⟩ := hS'; go_simp))))
          have hne : B11 ≠ B12 := by omega
          have u0 := fB11.cell 0
          have u1 := fB11.cell 1
          have u2 := fB11.cell 2
          have y0 := fB12.cell 0
          have y1 := fB12.cell 1
          have y2 := fB12.cell 2
          have g0 := fB11.frozen 0
          have g1 := fB11.frozen 1
          have g2 := fB11.frozen 2
          have z0 := fB12.frozen 0
          have z1 := fB12.frozen 1
          have z2 := fB12.frozen 2
          have lu := fB11.lt
          have ly := fB12.lt
          have hne' : B12 ≠ B11 := fun e => hne e.symm
          simp only [List.getElem?_cons_zero, List.getElem?_cons_succ] at u0 u1 u2 y0 y1 y2
          have h11 := ((fB11.put 0 (.int .i64 (ka : Nat))).put 1 (str na)).put 2 (.slice B1 m1 e1)
          have h12 : Blk (((W2.setCell ⟨B11, 0, none⟩ (.int .i64 (ka : Nat))).setCell ⟨B11, 1, none⟩ (str na)).setCell ⟨B11, 2, none⟩ (.slice B1 m1 e1)) B12 34 [.int .i64 0, .string ⟨#[]⟩, .slice none 0 0] := ((Below.heap_setCell _ ⟨B11, 2, none⟩ _ B12 hne').trans ((Below.heap_setCell _ ⟨B11, 1, none⟩ _ B12 hne').trans (Below.heap_setCell W2 ⟨B11, 0, none⟩ _ B12 hne'))).trans fB12
          have g12 := ((h12.put 0 (.int .i64 (kb : Nat))).put 1 (str nb)).put 2 (.slice B2 m2 e2)
          have g11 : Blk (((((W2.setCell ⟨B11, 0, none⟩ (.int .i64 (ka : Nat))).setCell ⟨B11, 1, none⟩ (str na)).setCell ⟨B11, 2, none⟩ (.slice B1 m1 e1)).setCell ⟨B12, 0, none⟩ (.int .i64 (kb : Nat))).setCell ⟨B12, 1, none⟩ (str nb) |>.setCell ⟨B12, 2, none⟩ (.slice B2 m2 e2)) B11 34 [.int .i64 (ka : Nat), str na, .slice B1 m1 e1] := ((Below.heap_setCell _ ⟨B12, 2, none⟩ _ B11 hne).trans ((Below.heap_setCell _ ⟨B12, 1, none⟩ _ B11 hne).trans (Below.heap_setCell _ ⟨B12, 0, none⟩ _ B11 hne))).trans h11
          have HB32 := ((HB.setCell (p := ⟨B11, 0, none⟩) nB11 (.int .i64 (ka : Nat))).setCell (p := ⟨B11, 1, none⟩) nB11 (str na)).setCell (p := ⟨B11, 2, none⟩) nB11 (.slice B1 m1 e1)
          have HBf := ((HB32.setCell (p := ⟨B12, 0, none⟩) nB12 (.int .i64 (kb : Nat))).setCell (p := ⟨B12, 1, none⟩) nB12 (str nb)).setCell (p := ⟨B12, 2, none⟩) nB12 (.slice B2 m2 e2)
          have fin := Lib.hid (And.intro HBf (And.intro g11 (And.intro g12 (And.intro nB11 nB12))))
          clear h11 g12 g11
          have hS := MK.out _ HB32
          refine wpAnyG_ready (rs := [32]) (by decide +kernel) (by simp) ?_
          refine AllReadyG.cons rfl (fun K hK => ?_) AllReadyG.nil
          go_simp
          refine hK _ _ (fun _ => hS) ?_
          clear hK K hS
          have hS := MK.out _ HBf
          have v0 := h12.cell 0
          have v1 := h12.cell 1
          have v2 := h12.cell 2
          have k0 := h12.frozen 0
          have k1 := h12.frozen 1
          have k2 := h12.frozen 2
          have lv := h12.lt
          simp only [List.getElem?_cons_zero, List.getElem?_cons_succ] at v0 v1 v2
          refine wpAnyG_ready (rs := [33]) (by decide +kernel) (by simp) ?_
          refine AllReadyG.cons rfl (fun K hK => ?_) AllReadyG.nil
          go_simp
          refine hK _ _ (fun _ => hS) ?_
          clear hK K
          refine wpAnyG_done (by decide +kernel) ?_ _
          clear u0 u1 u2 y0 y1 y2 g0 g1 g2 z0 z1 z2 lu ly h12 v0 v1 v2 k0 k1 k2 lv fB11 fB12 HB hS
          go_wp2_with (fail)
          go_meet
          exact ⟨B11, B12, rfl, rfl, fin⟩
      · go_simp
        have fB11 := Blk.new W1 34 [.int .i64 0, .string ⟨#[]⟩, .slice none 0 0]
        have nB11 : W.heap.size ≤ W1.heap.size := HB.size
        have neB12 : B12 < W1.heap.size := fB12.lt
        replace fB12 := fB12.alloc (.cells #[.int .i64 0, .string ⟨#[]⟩, .slice none 0 0] 34)
        replace HB := HB.alloc HB.size (.cells #[.int .i64 0, .string ⟨#[]⟩, .slice none 0 0] 34)
        clear hS
        generalize W1.alloc (.cells #[.int .i64 0, .string ⟨#[]⟩, .slice none 0 0] 34) = W2 at *
        generalize W1.heap.size = B11 at *
        have hS := MK.out _ HB
        refine hK _ _ (fun _ => hS) ?_
        clear hK K
        refine wpAnyG_ready (rs := [12]) (by decide +kernel) (by simp) ?_
        refine AllReadyG.cons rfl (fun K hK => ?_) AllReadyG.nil
        go_simp
        refine (R2.out _).mono ?_
        rintro e w' ⟨rfl, rfl⟩
        try dsimp only
        refine hK _ _ (fun _ => hS) ?_
        clear hK K
        repeat (first | (refine wpAnyG_take (i := 13) (v := .pointer (some ⟨b1, o1 + i * 3, none⟩)) rfl ?_ ?_ ?_ (fun _ _ _ h => h) (Or.inl ⟨by rfl, ?_⟩) hS ?_; (· decide +kernel); (· decide +kernel); (· decide +kernel); (· (intro w' hS'; obtain ⟨hS0, hS1, hS2, hS3, hS4, hS5, hS6, hS7, hS8, hS9⟩ := hS'; go_simp))) | (refine wpAnyG_take (i := 14) (v := .agg #[.int .i64 (ka : Nat), str na, .slice B1 m1 e1]) rfl ?_ ?_ ?_ (fun _ _ _ h => h) (Or.inl ⟨by rfl, ?_⟩) hS ?_; (· decide +kernel); (· decide +kernel); (· decide +kernel); (· (intro w' hS'; obtain ⟨hS0, hS1, hS2, hS3, hS4, hS5, hS6, hS7, hS8, hS9⟩ := hS'; go_simp))))
        refine wpAnyG_ready (rs := [27]) (by decide +kernel) (by simp) ?_
        refine AllReadyG.cons rfl (fun K hK => ?_) AllReadyG.nil
        go_simp
        refine (R3.out _).mono ?_
        rintro e w' ⟨rfl, rfl⟩
        try dsimp only
        refine hK _ _ (fun _ => hS) ?_
        clear hK K
        repeat (first | (refine wpAnyG_take (i := 28) (v := .pointer (some ⟨b4, o4 + j * 3, none⟩)) rfl ?_ ?_ ?_ (fun _ _ _ h => h) (Or.inl ⟨by rfl, ?_⟩) hS ?_; (· decide +kernel); (· decide +kernel); (· decide +kernel); (· (intro w' hS'; obtain ⟨hS0, hS1, hS2, hS3, hS4, hS5, hS6, hS7, hS8, hS9⟩ := hS'; go_simp))) | (refine wpAnyG_take (i := 29) (v := .agg #[.int .i64 (kb : Nat), str nb, .slice B2 m2 e2]) rfl ?_ ?_ ?_ (fun _ _ _ h => h) (Or.inl ⟨by rfl, ?_⟩) hS ?_; (· decide +kernel); (· decide +kernel); (· decide +kernel); (· (intro w' hS'; obtain ⟨hS0, hS1, hS2, hS3, hS4, hS5, hS6, hS7, hS8, hS9⟩ := hS'; go_simp))))
        have hne : B11 ≠ B12 := by omega
        have u0 := fB11.cell 0
        have u1 := fB11.cell 1
        have u2 := fB11.cell 2
        have y0 := fB12.cell 0
        have y1 := fB12.cell 1
        have y2 := fB12.cell 2
        have g0 := fB11.frozen 0
        have g1 := fB11.frozen 1
        have g2 := fB11.frozen 2
        have z0 := fB12.frozen 0
        have z1 := fB12.frozen 1
        have z2 := fB12.frozen 2
        have lu := fB11.lt
        have ly := fB12.lt
        have hne' : B12 ≠ B11 := fun e => hne e.symm
        simp only [List.getElem?_cons_zero, List.getElem?_cons_succ] at u0 u1 u2 y0 y1 y2
        have h11 := ((fB11.put 0 (.int .i64 (ka : Nat))).put 1 (str na)).put 2 (.slice B1 m1 e1)
        have h12 : Blk (((W2.setCell ⟨B11, 0, none⟩ (.int .i64 (ka : Nat))).setCell ⟨B11, 1, none⟩ (str na)).setCell ⟨B11, 2, none⟩ (.slice B1 m1 e1)) B12 34 [.int .i64 0, .string ⟨#[]⟩, .slice none 0 0] := ((Below.heap_setCell _ ⟨B11, 2, none⟩ _ B12 hne').trans ((Below.heap_setCell _ ⟨B11, 1, none⟩ _ B12 hne').trans (Below.heap_setCell W2 ⟨B11, 0, none⟩ _ B12 hne'))).trans fB12
        have g12 := ((h12.put 0 (.int .i64 (kb : Nat))).put 1 (str nb)).put 2 (.slice B2 m2 e2)
        have g11 : Blk (((((W2.setCell ⟨B11, 0, none⟩ (.int .i64 (ka : Nat))).setCell ⟨B11, 1, none⟩ (str na)).setCell ⟨B11, 2, none⟩ (.slice B1 m1 e1)).setCell ⟨B12, 0, none⟩ (.int .i64 (kb : Nat))).setCell ⟨B12, 1, none⟩ (str nb) |>.setCell ⟨B12, 2, none⟩ (.slice B2 m2 e2)) B11 34 [.int .i64 (ka : Nat), str na, .slice B1 m1 e1] := ((Below.heap_setCell _ ⟨B12, 2, none⟩ _ B11 hne).trans ((Below.heap_setCell _ ⟨B12, 1, none⟩ _ B11 hne).trans (Below.heap_setCell _ ⟨B12, 0, none⟩ _ B11 hne))).trans h11
        have HB32 := ((HB.setCell (p := ⟨B11, 0, none⟩) nB11 (.int .i64 (ka : Nat))).setCell (p := ⟨B11, 1, none⟩) nB11 (str na)).setCell (p := ⟨B11, 2, none⟩) nB11 (.slice B1 m1 e1)
        have HBf := ((HB32.setCell (p := ⟨B12, 0, none⟩) nB12 (.int .i64 (kb : Nat))).setCell (p := ⟨B12, 1, none⟩) nB12 (str nb)).setCell (p := ⟨B12, 2, none⟩) nB12 (.slice B2 m2 e2)
        have fin := Lib.hid (And.intro HBf (And.intro g11 (And.intro g12 (And.intro nB11 nB12))))
        clear h11 g12 g11
        have hS := MK.out _ HB32
        refine wpAnyG_ready (rs := [32]) (by decide +kernel) (by simp) ?_
        refine AllReadyG.cons rfl (fun K hK => ?_) AllReadyG.nil
        go_simp
        refine hK _ _ (fun _ => hS) ?_
        clear hK K hS
        have hS := MK.out _ HBf
        have v0 := h12.cell 0
        have v1 := h12.cell 1
        have v2 := h12.cell 2
        have k0 := h12.frozen 0
        have k1 := h12.frozen 1
        have k2 := h12.frozen 2
        have lv := h12.lt
        simp only [List.getElem?_cons_zero, List.getElem?_cons_succ] at v0 v1 v2
        refine wpAnyG_ready (rs := [33]) (by decide +kernel) (by simp) ?_
        refine AllReadyG.cons rfl (fun K hK => ?_) AllReadyG.nil
        go_simp
        refine hK _ _ (fun _ => hS) ?_
        clear hK K
        refine wpAnyG_done (by decide +kernel) ?_ _
        clear u0 u1 u2 y0 y1 y2 g0 g1 g2 z0 z1 z2 lu ly h12 v0 v1 v2 k0 k1 k2 lv fB11 fB12 HB hS
        go_wp2_with (fail)
        go_meet
        exact ⟨B11, B12, rfl, rfl, fin⟩
  case rest =>
    obtain ⟨B11, B12, rfl, rfl, HR⟩ := hcut
    clear mk c7 d7 ap aq p0 p1 p2 q0 q1 q2 i0 i1 j0 j1 l1 l4 la lb b2 b3 gm gm' gq gq' hmp hmq R2 R3 HIJ HI
    have HPC := Lib.hid (HP3.out.below HR.out.1)
    have HQC := Lib.hid (HQ3.out.below HR.out.1)
    have HBC := Lib.hid (HB3.out.trans (HR.out.1.mono HB3.out.size))
    have HTC := Lib.hid (And.intro (And.intro (HT.out.1.1.keep (Same.any HR.out.1)) HT.out.1.2) (And.intro (HT.out.2.1.keep (Same.any HR.out.1)) HT.out.2.2))
    have FC := Lib.hid (And.intro (FPQ.out.1.below HR.out.1 lp) (And.intro (FPQ.out.2.below HR.out.1 lq) (And.intro HR.out.2.1 HR.out.2.2.1)))
    clear HP3 HQ3 HB3 HT FPQ HR lp lq
    have f0 := FC.out.2.2.1
    have u0 := f0.cell 0
    have u1 := f0.cell 1
    have u2 := f0.cell 2
    have lu := f0.lt
    have gu := f0.frozen 0
    simp only [List.getElem?_cons_zero, List.getElem?_cons_succ] at u0 u1 u2
    clear f0
    go_upto_region 6 with (fail)
    have hb6 : Below wc.heap.size wc ((wc.alloc (.cells #[.int .i64 (ka : Nat), str na, .slice B1 m1 e1] 34)).alloc (.cells #[.int .i64 7, .string ⟨#[]⟩, .slice (some ⟨wc.heap.size, 0, none⟩) 1 1] 34)) := ((Below.refl _ _).alloc (Nat.le_refl _) _).alloc (by simp) _
    have f6 := (Blk.new wc 34 [.int .i64 (ka : Nat), str na, .slice B1 m1 e1]).alloc (.cells #[.int .i64 7, .string ⟨#[]⟩, .slice (some ⟨wc.heap.size, 0, none⟩) 1 1] 34)
    have g5 := Blk.new (wc.alloc (.cells #[.int .i64 (ka : Nat), str na, .slice B1 m1 e1] 34)) 34 [.int .i64 7, .string ⟨#[]⟩, .slice (some ⟨wc.heap.size, 0, none⟩) 1 1]
    rw [show (wc.alloc (.cells #[.int .i64 (ka : Nat), str na, .slice B1 m1 e1] 34)).heap.size = wc.heap.size + 1 by simp] at g5
    have g1 := FC.out.1.below hb6 FC.out.1.lt
    have g2 := FC.out.2.1.below hb6 FC.out.2.1.lt
    have g3 := FC.out.2.2.1.below hb6 FC.out.2.2.1.lt
    have g4 := FC.out.2.2.2.below hb6 FC.out.2.2.2.lt
    have hp6 := HPC.out.below hb6
    have hq6 := HQC.out.below hb6
    have ha6 := HTC.out.1.1.keep (Same.any hb6)
    have ht6 := HTC.out.2.1.keep (Same.any hb6)
    have HB6 := HBC.out.trans (hb6.mono HBC.out.size)
    have HM := Lib.hid (And.intro HTC.out.1.2 HTC.out.2.2)
    clear HPC HQC HTC HBC FC u0 u1 u2 lu gu hb6
    obtain ⟨B13, h13⟩ : ∃ b, b = wc.heap.size + 1 := ⟨_, rfl⟩
    obtain ⟨bx, hbx⟩ : ∃ b, b = wc.heap.size := ⟨_, rfl⟩
    rw [← h13] at g5 ⊢
    clear h13
    simp only [← hbx] at f6 g1 g2 g3 g4 g5 hp6 hq6 ha6 ht6 HB6 ⊢
    clear hbx
    generalize (wc.alloc (.cells #[.int .i64 (ka : Nat), str na, .slice B1 m1 e1] 34)).alloc (.cells #[.int .i64 7, .string ⟨#[]⟩, .slice (some ⟨bx, 0, none⟩) 1 1] 34) = W6 at f6 g1 g2 g3 g4 g5 hp6 hq6 ha6 ht6 HB6 ⊢
    have hf6 : TyAt 5 W6 Any 7 [] (some ⟨bx, 0, none⟩) 1 1 (.mk 7 [] [ta]) := by
      obtain ⟨e1, e2, e3, e4⟩ := HKN.out
      subst e1 e2 e3 e4
      exact ⟨rfl, rfl, by omega, by simp, 4, rfl, TsAt.row1 f6 trivial (tyAt_tc ha6)⟩
    obtain ⟨⟨s1, L1⟩, ⟨s2, L2⟩⟩ := self_law hp6.mem HM.out.1
    obtain ⟨r, ⟨s3, L3⟩, ⟨s4, L4⟩⟩ := sym_law hp6.mem hq6.mem HM.out.1 HM.out.2
    have HF := Lib.hid (And.intro L1 (And.intro L2 (And.intro L3 L4)))
    clear L1 L2 L3 L4
    have C1 := Lib.hid (show ∀ W', Below W6.heap.size W6 W' → Calls Try.prog 13 #[.agg #[str [109], .int .i64 1, .slice none 0 0, .slice A n c, .slice none 0 0, .slice none 0 0, .slice none 0 0, .slice (some ⟨bc, 0, none⟩) 1 ea], .agg #[str [109], .int .i64 1, .slice none 0 0, .slice A n c, .slice none 0 0, .slice none 0 0, .slice none 0 0, .slice (some ⟨bc, 0, none⟩) 1 ea], .agg #[.int .i64 (ka : Nat), str na, .slice B1 m1 e1], .agg #[.int .i64 (ka : Nat), str na, .slice B1 m1 e1]] W' (fun e w' => e = .returned (.bool true) ∧ Below W'.heap.size W' w') from fun W' hW => by
      obtain ⟨e1, e2, e3, e4⟩ := HKN.out
      subst e1 e2 e3 e4
      exact sameC_any 12 4 4 W' ⟨A, n, c, some ⟨bc, 0, none⟩, 1, ea⟩ P ⟨A, n, c, some ⟨bc, 0, none⟩, 1, ea⟩ P ta ta _ _ _ _ _ _ _ _ (hp6.dts.keep (Same.any hW)) (hp6.dts.keep (Same.any hW)) (TyAt.keep ha6 (Same.any hW)) (TyAt.keep ha6 (Same.any hW)) HF.out.1)
    have C2 := Lib.hid (show ∀ W', Below W6.heap.size W6 W' → Calls Try.prog 13 #[.agg #[str [109], .int .i64 1, .slice none 0 0, .slice A n c, .slice none 0 0, .slice none 0 0, .slice none 0 0, .slice (some ⟨bc, 0, none⟩) 1 ea], .agg #[str [109], .int .i64 1, .slice none 0 0, .slice A' n' c', .slice none 0 0, .slice none 0 0, .slice none 0 0, .slice (some ⟨bc', 0, none⟩) 1 ea'], .agg #[.int .i64 (ka : Nat), str na, .slice B1 m1 e1], .agg #[.int .i64 (kb : Nat), str nb, .slice B2 m2 e2]] W' (fun e w' => e = .returned (.bool r) ∧ Below W'.heap.size W' w') from fun W' hW => by
      obtain ⟨e1, e2, e3, e4⟩ := HKN.out
      subst e1 e2 e3 e4
      exact sameC_any 12 4 4 W' ⟨A, n, c, some ⟨bc, 0, none⟩, 1, ea⟩ P ⟨A', n', c', some ⟨bc', 0, none⟩, 1, ea'⟩ P' ta tb _ _ _ _ _ _ _ _ (hp6.dts.keep (Same.any hW)) (hq6.dts.keep (Same.any hW)) (TyAt.keep ha6 (Same.any hW)) (TyAt.keep ht6 (Same.any hW)) HF.out.2.2.1)
    have C3 := Lib.hid (show ∀ W', Below W6.heap.size W6 W' → Calls Try.prog 13 #[.agg #[str [109], .int .i64 1, .slice none 0 0, .slice A' n' c', .slice none 0 0, .slice none 0 0, .slice none 0 0, .slice (some ⟨bc', 0, none⟩) 1 ea'], .agg #[str [109], .int .i64 1, .slice none 0 0, .slice A n c, .slice none 0 0, .slice none 0 0, .slice none 0 0, .slice (some ⟨bc, 0, none⟩) 1 ea], .agg #[.int .i64 (kb : Nat), str nb, .slice B2 m2 e2], .agg #[.int .i64 (ka : Nat), str na, .slice B1 m1 e1]] W' (fun e w' => e = .returned (.bool r) ∧ Below W'.heap.size W' w') from fun W' hW => by
      obtain ⟨e1, e2, e3, e4⟩ := HKN.out
      subst e1 e2 e3 e4
      exact sameC_any 12 4 4 W' ⟨A', n', c', some ⟨bc', 0, none⟩, 1, ea'⟩ P' ⟨A, n, c, some ⟨bc, 0, none⟩, 1, ea⟩ P tb ta _ _ _ _ _ _ _ _ (hq6.dts.keep (Same.any hW)) (hp6.dts.keep (Same.any hW)) (TyAt.keep ht6 (Same.any hW)) (TyAt.keep ha6 (Same.any hW)) HF.out.2.2.2)
    have C4 := Lib.hid (show ∀ W', Below W6.heap.size W6 W' → Calls Try.prog 13 #[.agg #[str [109], .int .i64 1, .slice none 0 0, .slice A n c, .slice none 0 0, .slice none 0 0, .slice none 0 0, .slice (some ⟨bc, 0, none⟩) 1 ea], .agg #[str [109], .int .i64 1, .slice none 0 0, .slice A n c, .slice none 0 0, .slice none 0 0, .slice none 0 0, .slice (some ⟨bc, 0, none⟩) 1 ea], .agg #[.int .i64 7, .string ⟨#[]⟩, .slice (some ⟨bx, 0, none⟩) 1 1], .agg #[.int .i64 7, .string ⟨#[]⟩, .slice (some ⟨bx, 0, none⟩) 1 1]] W' (fun e w' => e = .returned (.bool false) ∧ Below W'.heap.size W' w') from fun W' hW => by
      obtain ⟨e1, e2, e3, e4⟩ := HKN.out
      subst e1 e2 e3 e4
      exact sameC_any 12 4 5 W' ⟨A, n, c, some ⟨bc, 0, none⟩, 1, ea⟩ P ⟨A, n, c, some ⟨bc, 0, none⟩, 1, ea⟩ P (.mk 7 [] [ta]) (.mk 7 [] [ta]) _ _ _ _ _ _ _ _ (hp6.dts.keep (Same.any hW)) (hp6.dts.keep (Same.any hW)) (TyAt.keep hf6 (Same.any hW)) (TyAt.keep hf6 (Same.any hW)) HF.out.2.1)
    have MK := Lib.hid (show ∀ W', Below W6.heap.size W6 W' → (W'.cell? ⟨pb, 0, none⟩ = some (str [109]) ∧ W'.cell? ⟨pb, 1, none⟩ = some (.int .i64 1) ∧ W'.cell? ⟨pb, 2, none⟩ = some (.slice none 0 0) ∧ W'.cell? ⟨pb, 3, none⟩ = some (.slice A n c) ∧ W'.cell? ⟨pb, 4, none⟩ = some (.slice none 0 0) ∧ W'.cell? ⟨pb, 5, none⟩ = some (.slice none 0 0) ∧ W'.cell? ⟨pb, 6, none⟩ = some (.slice none 0 0) ∧ W'.cell? ⟨pb, 7, none⟩ = some (.slice (some ⟨bc, 0, none⟩) 1 ea) ∧ W'.cell? ⟨qb, 0, none⟩ = some (str [109]) ∧ W'.cell? ⟨qb, 1, none⟩ = some (.int .i64 1) ∧ W'.cell? ⟨qb, 2, none⟩ = some (.slice none 0 0) ∧ W'.cell? ⟨qb, 3, none⟩ = some (.slice A' n' c') ∧ W'.cell? ⟨qb, 4, none⟩ = some (.slice none 0 0) ∧ W'.cell? ⟨qb, 5, none⟩ = some (.slice none 0 0) ∧ W'.cell? ⟨qb, 6, none⟩ = some (.slice none 0 0) ∧ W'.cell? ⟨qb, 7, none⟩ = some (.slice (some ⟨bc', 0, none⟩) 1 ea') ∧ W'.cell? ⟨B11, 0, none⟩ = some (.int .i64 (ka : Nat)) ∧ W'.cell? ⟨B11, 1, none⟩ = some (str na) ∧ W'.cell? ⟨B11, 2, none⟩ = some (.slice B1 m1 e1) ∧ W'.cell? ⟨B12, 0, none⟩ = some (.int .i64 (kb : Nat)) ∧ W'.cell? ⟨B12, 1, none⟩ = some (str nb) ∧ W'.cell? ⟨B12, 2, none⟩ = some (.slice B2 m2 e2) ∧ W'.cell? ⟨B13, 0, none⟩ = some (.int .i64 7) ∧ W'.cell? ⟨B13, 1, none⟩ = some (.string ⟨#[]⟩) ∧ W'.cell? ⟨B13, 2, none⟩ = some (.slice (some ⟨bx, 0, none⟩) 1 1)) from fun W' h => ⟨(h.cell (p := ⟨pb, 0, none⟩) g1.lt).trans (g1.cell 0), (h.cell (p := ⟨pb, 1, none⟩) g1.lt).trans (g1.cell 1), (h.cell (p := ⟨pb, 2, none⟩) g1.lt).trans (g1.cell 2), (h.cell (p := ⟨pb, 3, none⟩) g1.lt).trans (g1.cell 3), (h.cell (p := ⟨pb, 4, none⟩) g1.lt).trans (g1.cell 4), (h.cell (p := ⟨pb, 5, none⟩) g1.lt).trans (g1.cell 5), (h.cell (p := ⟨pb, 6, none⟩) g1.lt).trans (g1.cell 6), (h.cell (p := ⟨pb, 7, none⟩) g1.lt).trans (g1.cell 7), (h.cell (p := ⟨qb, 0, none⟩) g2.lt).trans (g2.cell 0), (h.cell (p := ⟨qb, 1, none⟩) g2.lt).trans (g2.cell 1), (h.cell (p := ⟨qb, 2, none⟩) g2.lt).trans (g2.cell 2), (h.cell (p := ⟨qb, 3, none⟩) g2.lt).trans (g2.cell 3), (h.cell (p := ⟨qb, 4, none⟩) g2.lt).trans (g2.cell 4), (h.cell (p := ⟨qb, 5, none⟩) g2.lt).trans (g2.cell 5), (h.cell (p := ⟨qb, 6, none⟩) g2.lt).trans (g2.cell 6), (h.cell (p := ⟨qb, 7, none⟩) g2.lt).trans (g2.cell 7), (h.cell (p := ⟨B11, 0, none⟩) g3.lt).trans (g3.cell 0), (h.cell (p := ⟨B11, 1, none⟩) g3.lt).trans (g3.cell 1), (h.cell (p := ⟨B11, 2, none⟩) g3.lt).trans (g3.cell 2), (h.cell (p := ⟨B12, 0, none⟩) g4.lt).trans (g4.cell 0), (h.cell (p := ⟨B12, 1, none⟩) g4.lt).trans (g4.cell 1), (h.cell (p := ⟨B12, 2, none⟩) g4.lt).trans (g4.cell 2), (h.cell (p := ⟨B13, 0, none⟩) g5.lt).trans (g5.cell 0), (h.cell (p := ⟨B13, 1, none⟩) g5.lt).trans (g5.cell 1), (h.cell (p := ⟨B13, 2, none⟩) g5.lt).trans (g5.cell 2)⟩)
    have HB6h := Lib.hid HB6
    clear g1 g2 g3 g4 g5 hp6 hq6 ha6 ht6 HB6 hf6 f6 HF HM HKN
    refine wp_region_g (S := fun w' => w'.cell? ⟨pb, 0, none⟩ = some (str [109]) ∧ w'.cell? ⟨pb, 1, none⟩ = some (.int .i64 1) ∧ w'.cell? ⟨pb, 2, none⟩ = some (.slice none 0 0) ∧ w'.cell? ⟨pb, 3, none⟩ = some (.slice A n c) ∧ w'.cell? ⟨pb, 4, none⟩ = some (.slice none 0 0) ∧ w'.cell? ⟨pb, 5, none⟩ = some (.slice none 0 0) ∧ w'.cell? ⟨pb, 6, none⟩ = some (.slice none 0 0) ∧ w'.cell? ⟨pb, 7, none⟩ = some (.slice (some ⟨bc, 0, none⟩) 1 ea) ∧ w'.cell? ⟨qb, 0, none⟩ = some (str [109]) ∧ w'.cell? ⟨qb, 1, none⟩ = some (.int .i64 1) ∧ w'.cell? ⟨qb, 2, none⟩ = some (.slice none 0 0) ∧ w'.cell? ⟨qb, 3, none⟩ = some (.slice A' n' c') ∧ w'.cell? ⟨qb, 4, none⟩ = some (.slice none 0 0) ∧ w'.cell? ⟨qb, 5, none⟩ = some (.slice none 0 0) ∧ w'.cell? ⟨qb, 6, none⟩ = some (.slice none 0 0) ∧ w'.cell? ⟨qb, 7, none⟩ = some (.slice (some ⟨bc', 0, none⟩) 1 ea') ∧ w'.cell? ⟨B11, 0, none⟩ = some (.int .i64 (ka : Nat)) ∧ w'.cell? ⟨B11, 1, none⟩ = some (str na) ∧ w'.cell? ⟨B11, 2, none⟩ = some (.slice B1 m1 e1) ∧ w'.cell? ⟨B12, 0, none⟩ = some (.int .i64 (kb : Nat)) ∧ w'.cell? ⟨B12, 1, none⟩ = some (str nb) ∧ w'.cell? ⟨B12, 2, none⟩ = some (.slice B2 m2 e2) ∧ w'.cell? ⟨B13, 0, none⟩ = some (.int .i64 7) ∧ w'.cell? ⟨B13, 1, none⟩ = some (.string ⟨#[]⟩) ∧ w'.cell? ⟨B13, 2, none⟩ = some (.slice (some ⟨bx, 0, none⟩) 1 1)) (m := 27) (by kernel_rfl) ?_
    have HB : Below W6.heap.size W6 (World.drew W6) := ⟨rfl, rfl, rfl, Nat.le_refl _, fun _ _ => rfl⟩
    have hS := MK.out _ HB
    generalize World.drew W6 = W0 at *
    refine wpAnyG_take (i := 0) (v := .agg #[str [109], .int .i64 1, .slice none 0 0, .slice A n c, .slice none 0 0, .slice none 0 0, .slice none 0 0, .slice (some ⟨bc, 0, none⟩) 1 ea]) rfl ?_ ?_ ?_ (fun _ _ _ h => h) (Or.inl ⟨?_, ?_⟩) hS ?_
    iterate 3 (· decide +kernel)
    · rfl
    · intro w' hS'; obtain ⟨hS0, hS1, hS2, hS3, hS4, hS5, hS6, hS7, hS8, hS9, hS10, hS11, hS12, hS13, hS14, hS15, hS16, hS17, hS18, hS19, hS20, hS21, hS22, hS23, hS24⟩ := hS'; go_simp
    refine wpAnyG_take (i := 1) (v := .agg #[str [109], .int .i64 1, .slice none 0 0, .slice A n c, .slice none 0 0, .slice none 0 0, .slice none 0 0, .slice (some ⟨bc, 0, none⟩) 1 ea]) rfl ?_ ?_ ?_ (fun _ _ _ h => h) (Or.inl ⟨?_, ?_⟩) hS ?_
    iterate 3 (· decide +kernel)
    · rfl
    · intro w' hS'; obtain ⟨hS0, hS1, hS2, hS3, hS4, hS5, hS6, hS7, hS8, hS9, hS10, hS11, hS12, hS13, hS14, hS15, hS16, hS17, hS18, hS19, hS20, hS21, hS22, hS23, hS24⟩ := hS'; go_simp
    refine wpAnyG_take (i := 2) (v := .agg #[.int .i64 (ka : Nat), str na, .slice B1 m1 e1]) rfl ?_ ?_ ?_ (fun _ _ _ h => h) (Or.inl ⟨?_, ?_⟩) hS ?_
    iterate 3 (· decide +kernel)
    · rfl
    · intro w' hS'; obtain ⟨hS0, hS1, hS2, hS3, hS4, hS5, hS6, hS7, hS8, hS9, hS10, hS11, hS12, hS13, hS14, hS15, hS16, hS17, hS18, hS19, hS20, hS21, hS22, hS23, hS24⟩ := hS'; go_simp
    refine wpAnyG_take (i := 3) (v := .agg #[.int .i64 (ka : Nat), str na, .slice B1 m1 e1]) rfl ?_ ?_ ?_ (fun _ _ _ h => h) (Or.inl ⟨?_, ?_⟩) hS ?_
    iterate 3 (· decide +kernel)
    · rfl
    · intro w' hS'; obtain ⟨hS0, hS1, hS2, hS3, hS4, hS5, hS6, hS7, hS8, hS9, hS10, hS11, hS12, hS13, hS14, hS15, hS16, hS17, hS18, hS19, hS20, hS21, hS22, hS23, hS24⟩ := hS'; go_simp
    refine wpAnyG_ready (rs := [4]) (by decide +kernel) (by simp) ?_
    refine AllReadyG.cons rfl (fun K hK => ?_) AllReadyG.nil
    go_simp
    refine (C1.out _ HB).mono ?_
    rintro e w' ⟨rfl, hbn⟩
    try dsimp only
    replace HB := HB.trans (hbn.mono HB.size)
    clear hS hbn
    rename_i W9
    have hS := MK.out _ HB
    refine hK _ _ (fun _ => hS) ?_
    clear hK K
    refine wpAnyG_take (i := 5) (v := .bool true) rfl ?_ ?_ ?_ (fun _ _ _ h => h) (Or.inl ⟨?_, ?_⟩) hS ?_
    iterate 3 (· decide +kernel)
    · rfl
    · intro w' hS'; obtain ⟨hS0, hS1, hS2, hS3, hS4, hS5, hS6, hS7, hS8, hS9, hS10, hS11, hS12, hS13, hS14, hS15, hS16, hS17, hS18, hS19, hS20, hS21, hS22, hS23, hS24⟩ := hS'; go_simp
    refine wpAnyG_take (i := 6) (v := .agg #[str [109], .int .i64 1, .slice none 0 0, .slice A n c, .slice none 0 0, .slice none 0 0, .slice none 0 0, .slice (some ⟨bc, 0, none⟩) 1 ea]) rfl ?_ ?_ ?_ (fun _ _ _ h => h) (Or.inl ⟨?_, ?_⟩) hS ?_
    iterate 3 (· decide +kernel)
    · go_simp
    · intro w' hS'; obtain ⟨hS0, hS1, hS2, hS3, hS4, hS5, hS6, hS7, hS8, hS9, hS10, hS11, hS12, hS13, hS14, hS15, hS16, hS17, hS18, hS19, hS20, hS21, hS22, hS23, hS24⟩ := hS'; go_simp
    refine wpAnyG_take (i := 7) (v := .agg #[str [109], .int .i64 1, .slice none 0 0, .slice A' n' c', .slice none 0 0, .slice none 0 0, .slice none 0 0, .slice (some ⟨bc', 0, none⟩) 1 ea']) rfl ?_ ?_ ?_ (fun _ _ _ h => h) (Or.inl ⟨?_, ?_⟩) hS ?_
    iterate 3 (· decide +kernel)
    · go_simp
    · intro w' hS'; obtain ⟨hS0, hS1, hS2, hS3, hS4, hS5, hS6, hS7, hS8, hS9, hS10, hS11, hS12, hS13, hS14, hS15, hS16, hS17, hS18, hS19, hS20, hS21, hS22, hS23, hS24⟩ := hS'; go_simp
    refine wpAnyG_take (i := 8) (v := .agg #[.int .i64 (ka : Nat), str na, .slice B1 m1 e1]) rfl ?_ ?_ ?_ (fun _ _ _ h => h) (Or.inl ⟨?_, ?_⟩) hS ?_
    iterate 3 (· decide +kernel)
    · go_simp
    · intro w' hS'; obtain ⟨hS0, hS1, hS2, hS3, hS4, hS5, hS6, hS7, hS8, hS9, hS10, hS11, hS12, hS13, hS14, hS15, hS16, hS17, hS18, hS19, hS20, hS21, hS22, hS23, hS24⟩ := hS'; go_simp
    refine wpAnyG_take (i := 9) (v := .agg #[.int .i64 (kb : Nat), str nb, .slice B2 m2 e2]) rfl ?_ ?_ ?_ (fun _ _ _ h => h) (Or.inl ⟨?_, ?_⟩) hS ?_
    iterate 3 (· decide +kernel)
    · go_simp
    · intro w' hS'; obtain ⟨hS0, hS1, hS2, hS3, hS4, hS5, hS6, hS7, hS8, hS9, hS10, hS11, hS12, hS13, hS14, hS15, hS16, hS17, hS18, hS19, hS20, hS21, hS22, hS23, hS24⟩ := hS'; go_simp
    refine wpAnyG_take (i := 11) (v := .agg #[str [109], .int .i64 1, .slice none 0 0, .slice A' n' c', .slice none 0 0, .slice none 0 0, .slice none 0 0, .slice (some ⟨bc', 0, none⟩) 1 ea']) rfl ?_ ?_ ?_ (fun _ _ _ h => h) (Or.inl ⟨?_, ?_⟩) hS ?_
    iterate 3 (· decide +kernel)
    · go_simp
    · intro w' hS'; obtain ⟨hS0, hS1, hS2, hS3, hS4, hS5, hS6, hS7, hS8, hS9, hS10, hS11, hS12, hS13, hS14, hS15, hS16, hS17, hS18, hS19, hS20, hS21, hS22, hS23, hS24⟩ := hS'; go_simp
    refine wpAnyG_take (i := 12) (v := .agg #[str [109], .int .i64 1, .slice none 0 0, .slice A n c, .slice none 0 0, .slice none 0 0, .slice none 0 0, .slice (some ⟨bc, 0, none⟩) 1 ea]) rfl ?_ ?_ ?_ (fun _ _ _ h => h) (Or.inl ⟨?_, ?_⟩) hS ?_
    iterate 3 (· decide +kernel)
    · go_simp
    · intro w' hS'; obtain ⟨hS0, hS1, hS2, hS3, hS4, hS5, hS6, hS7, hS8, hS9, hS10, hS11, hS12, hS13, hS14, hS15, hS16, hS17, hS18, hS19, hS20, hS21, hS22, hS23, hS24⟩ := hS'; go_simp
    refine wpAnyG_take (i := 13) (v := .agg #[.int .i64 (kb : Nat), str nb, .slice B2 m2 e2]) rfl ?_ ?_ ?_ (fun _ _ _ h => h) (Or.inl ⟨?_, ?_⟩) hS ?_
    iterate 3 (· decide +kernel)
    · go_simp
    · intro w' hS'; obtain ⟨hS0, hS1, hS2, hS3, hS4, hS5, hS6, hS7, hS8, hS9, hS10, hS11, hS12, hS13, hS14, hS15, hS16, hS17, hS18, hS19, hS20, hS21, hS22, hS23, hS24⟩ := hS'; go_simp
    refine wpAnyG_take (i := 14) (v := .agg #[.int .i64 (ka : Nat), str na, .slice B1 m1 e1]) rfl ?_ ?_ ?_ (fun _ _ _ h => h) (Or.inl ⟨?_, ?_⟩) hS ?_
    iterate 3 (· decide +kernel)
    · go_simp
    · intro w' hS'; obtain ⟨hS0, hS1, hS2, hS3, hS4, hS5, hS6, hS7, hS8, hS9, hS10, hS11, hS12, hS13, hS14, hS15, hS16, hS17, hS18, hS19, hS20, hS21, hS22, hS23, hS24⟩ := hS'; go_simp
    refine wpAnyG_ready (rs := [10]) (by decide +kernel) (by simp) ?_
    refine AllReadyG.cons rfl (fun K hK => ?_) AllReadyG.nil
    go_simp
    refine (C2.out _ HB).mono ?_
    rintro e w' ⟨rfl, hbn⟩
    try dsimp only
    replace HB := HB.trans (hbn.mono HB.size)
    clear hS hbn
    rename_i W9
    have hS := MK.out _ HB
    refine hK _ _ (fun _ => hS) ?_
    clear hK K
    refine wpAnyG_ready (rs := [15]) (by decide +kernel) (by simp) ?_
    refine AllReadyG.cons rfl (fun K hK => ?_) AllReadyG.nil
    go_simp
    refine (C3.out _ HB).mono ?_
    rintro e w' ⟨rfl, hbn⟩
    try dsimp only
    replace HB := HB.trans (hbn.mono HB.size)
    clear hS hbn
    rename_i W9
    have hS := MK.out _ HB
    refine hK _ _ (fun _ => hS) ?_
    clear hK K
    refine wpAnyG_take (i := 16) (v := .bool true) rfl ?_ ?_ ?_ (fun _ _ _ h => h) (Or.inl ⟨?_, ?_⟩) hS ?_
    iterate 3 (· decide +kernel)
    · go_simp
    · intro w' hS'; obtain ⟨hS0, hS1, hS2, hS3, hS4, hS5, hS6, hS7, hS8, hS9, hS10, hS11, hS12, hS13, hS14, hS15, hS16, hS17, hS18, hS19, hS20, hS21, hS22, hS23, hS24⟩ := hS'; go_simp
    refine wpAnyG_take (i := 17) (v := .bool true) rfl ?_ ?_ ?_ (fun _ _ _ h => h) (Or.inl ⟨?_, ?_⟩) hS ?_
    iterate 3 (· decide +kernel)
    · rfl
    · intro w' hS'; obtain ⟨hS0, hS1, hS2, hS3, hS4, hS5, hS6, hS7, hS8, hS9, hS10, hS11, hS12, hS13, hS14, hS15, hS16, hS17, hS18, hS19, hS20, hS21, hS22, hS23, hS24⟩ := hS'; go_simp
    refine wpAnyG_take (i := 18) (v := .bool true) rfl ?_ ?_ ?_ (fun _ _ _ h => h) (Or.inl ⟨?_, ?_⟩) hS ?_
    iterate 3 (· decide +kernel)
    · rfl
    · intro w' hS'; obtain ⟨hS0, hS1, hS2, hS3, hS4, hS5, hS6, hS7, hS8, hS9, hS10, hS11, hS12, hS13, hS14, hS15, hS16, hS17, hS18, hS19, hS20, hS21, hS22, hS23, hS24⟩ := hS'; go_simp
    refine wpAnyG_take (i := 19) (v := .agg #[str [109], .int .i64 1, .slice none 0 0, .slice A n c, .slice none 0 0, .slice none 0 0, .slice none 0 0, .slice (some ⟨bc, 0, none⟩) 1 ea]) rfl ?_ ?_ ?_ (fun _ _ _ h => h) (Or.inl ⟨?_, ?_⟩) hS ?_
    iterate 3 (· decide +kernel)
    · go_simp
    · intro w' hS'; obtain ⟨hS0, hS1, hS2, hS3, hS4, hS5, hS6, hS7, hS8, hS9, hS10, hS11, hS12, hS13, hS14, hS15, hS16, hS17, hS18, hS19, hS20, hS21, hS22, hS23, hS24⟩ := hS'; go_simp
    refine wpAnyG_take (i := 20) (v := .agg #[str [109], .int .i64 1, .slice none 0 0, .slice A n c, .slice none 0 0, .slice none 0 0, .slice none 0 0, .slice (some ⟨bc, 0, none⟩) 1 ea]) rfl ?_ ?_ ?_ (fun _ _ _ h => h) (Or.inl ⟨?_, ?_⟩) hS ?_
    iterate 3 (· decide +kernel)
    · go_simp
    · intro w' hS'; obtain ⟨hS0, hS1, hS2, hS3, hS4, hS5, hS6, hS7, hS8, hS9, hS10, hS11, hS12, hS13, hS14, hS15, hS16, hS17, hS18, hS19, hS20, hS21, hS22, hS23, hS24⟩ := hS'; go_simp
    refine wpAnyG_take (i := 21) (v := .agg #[.int .i64 7, .string ⟨#[]⟩, .slice (some ⟨bx, 0, none⟩) 1 1]) rfl ?_ ?_ ?_ (fun _ _ _ h => h) (Or.inl ⟨?_, ?_⟩) hS ?_
    iterate 3 (· decide +kernel)
    · go_simp
    · intro w' hS'; obtain ⟨hS0, hS1, hS2, hS3, hS4, hS5, hS6, hS7, hS8, hS9, hS10, hS11, hS12, hS13, hS14, hS15, hS16, hS17, hS18, hS19, hS20, hS21, hS22, hS23, hS24⟩ := hS'; go_simp
    refine wpAnyG_take (i := 22) (v := .agg #[.int .i64 7, .string ⟨#[]⟩, .slice (some ⟨bx, 0, none⟩) 1 1]) rfl ?_ ?_ ?_ (fun _ _ _ h => h) (Or.inl ⟨?_, ?_⟩) hS ?_
    iterate 3 (· decide +kernel)
    · go_simp
    · intro w' hS'; obtain ⟨hS0, hS1, hS2, hS3, hS4, hS5, hS6, hS7, hS8, hS9, hS10, hS11, hS12, hS13, hS14, hS15, hS16, hS17, hS18, hS19, hS20, hS21, hS22, hS23, hS24⟩ := hS'; go_simp
    refine wpAnyG_ready (rs := [23]) (by decide +kernel) (by simp) ?_
    refine AllReadyG.cons rfl (fun K hK => ?_) AllReadyG.nil
    go_simp
    refine (C4.out _ HB).mono ?_
    rintro e w' ⟨rfl, hbn⟩
    try dsimp only
    replace HB := HB.trans (hbn.mono HB.size)
    clear hS hbn
    rename_i W9
    have hS := MK.out _ HB
    refine hK _ _ (fun _ => hS) ?_
    clear hK K
    refine wpAnyG_take (i := 24) (v := .bool true) rfl ?_ ?_ ?_ (fun _ _ _ h => h) (Or.inl ⟨?_, ?_⟩) hS ?_
    iterate 3 (· decide +kernel)
    · go_simp
    · intro w' hS'; obtain ⟨hS0, hS1, hS2, hS3, hS4, hS5, hS6, hS7, hS8, hS9, hS10, hS11, hS12, hS13, hS14, hS15, hS16, hS17, hS18, hS19, hS20, hS21, hS22, hS23, hS24⟩ := hS'; go_simp
    refine wpAnyG_take (i := 25) (v := .bool true) rfl ?_ ?_ ?_ (fun _ _ _ h => h) (Or.inl ⟨?_, ?_⟩) hS ?_
    iterate 3 (· decide +kernel)
    · rfl
    · intro w' hS'; obtain ⟨hS0, hS1, hS2, hS3, hS4, hS5, hS6, hS7, hS8, hS9, hS10, hS11, hS12, hS13, hS14, hS15, hS16, hS17, hS18, hS19, hS20, hS21, hS22, hS23, hS24⟩ := hS'; go_simp
    refine wpAnyG_take (i := 26) (v := .bool true) rfl ?_ ?_ ?_ (fun _ _ _ h => h) (Or.inl ⟨?_, ?_⟩) hS ?_
    iterate 3 (· decide +kernel)
    · rfl
    · intro w' hS'; obtain ⟨hS0, hS1, hS2, hS3, hS4, hS5, hS6, hS7, hS8, hS9, hS10, hS11, hS12, hS13, hS14, hS15, hS16, hS17, hS18, hS19, hS20, hS21, hS22, hS23, hS24⟩ := hS'; go_simp
    refine wpAnyG_done (by decide +kernel) ?_ _
    clear hS
    go_wp2_with (fail)
    go_ret
    exact ⟨rfl, HB6h.out.trans (HB.mono HB6h.out.size)⟩
  -- END
end Go.Proofs.Ytoddjdajjmcliaa
