/- Contract of ShapeDeep's inner function: the value, its node of a place a reference. -/
import Derived.Test.YtoddjdajjmcliaaShVf0
import Derived.Test.YtoddjdajjmcliaaShDeepLaw
import Derived.Deep.RegionLaw
import Derived.Deep.DeepCutAuto
import Derived.Deep.LoopGhost
set_option linter.unusedVariables false
namespace Go.Proofs.Ytoddjdajjmcliaa
open Go.RowKit Go.Mem Go.Sh Go.Maps Go.Val
abbrev SpVal (ab sb : Nat) : Value := .func (.func 16) #[] #[.pointer (some ⟨ab, 0, none⟩), .pointer (some ⟨sb, 0, none⟩)]
def SpPost (d : Nat) (v : V) (q : Int) (ab : Nat) (w : World) : Ending → World → Prop := fun e w' =>
  (∃ A c, e = .returned (.agg #[.int .i64 (spoilF d v q).1.kind, .int .i64 (spoilF d v q).1.num, .string (spoilF d v q).1.text, .slice A (spoilF d v q).1.args.length c]) ∧ VCells d w' (fun b => w.heap.size ≤ b) (vl (spoilF d v q).1 A c) (spoilF d v q).1) ∧ Blk w' ab 3 [.int .i64 (spoilF d v q).2] ∧ w.grownBy w' (some ab)
def SpTo (d : Nat) : Prop := ∀ (ab sb : Nat) (v : V) (q : Int) (w : World) (A : Option Addr) (c : Nat), VCells d w (fun b => b ≠ ab) [.int .i64 v.kind, .int .i64 v.num, .string v.text, .slice A v.args.length c] v → 0 ≤ q → q ≤ 1000 →
  Blk w ab 3 [.int .i64 q] → Blk w sb 50 [SpVal ab sb] →
  Calls Try.prog 16 #[.agg #[.int .i64 v.kind, .int .i64 v.num, .string v.text, .slice A v.args.length c], .pointer (some ⟨ab, 0, none⟩), .pointer (some ⟨sb, 0, none⟩)] w (SpPost d v q ab w)
def SpRows (d : Nat) (vk vn : Int) (vt : ByteArray) (va : List V) (q : Int) (w wr : World) (ab j : Nat) : Prop :=
  ∃ A c, Blk wr (w.heap.size + 1 + 1) 47 [.int .i64 vk, .int .i64 vn, .string vt, .slice A j c] ∧ OwnList 47 4 (VCells d) wr (w.heap.size + 3) (.slice A j c) (spoilsF (spoilF d) (va.take j) (q - 1)).1 ∧
    Blk wr (w.heap.size + 1) 47 [.int .i64 0, .int .i64 0, .string ⟨#[]⟩, .slice none 0 0] ∧ Blk wr ab 3 [.int .i64 (spoilsF (spoilF d) (va.take j) (q - 1)).2] ∧ w.grownBy wr (some ab)
theorem SpRows.step {d : Nat} {vk vn : Int} {vt : ByteArray} {va : List V} {q : Int} {w w6 w1 w2 : World} {ab j : Nat} {A3 A4 A5 : Option Addr} {c3 c4 c5 : Nat} {yk yn n : Int} {yt : ByteArray} {ya L : List V} {vs1 : List (List Value)}
    (l1 : ab < w.heap.size) (cv : Blk w6 (w.heap.size + 1 + 1) 47 [.int .i64 vk, .int .i64 vn, .string vt, .slice A3 j c3]) (hown : OwnList 47 4 (VCells d) w6 (w.heap.size + 3) (.slice A3 j c3) L)
    (cres : Blk w6 (w.heap.size + 1) 47 [.int .i64 0, .int .i64 0, .string ⟨#[]⟩, .slice none 0 0]) (hgr : w.grownBy w6 (some ab))
    (hstep : spoilsF (spoilF d) (va.take (j + 1)) (q - 1) = (L ++ [V.mk yk yn yt ya], n)) (hml : L.length = j)
    (hv4 : VCells d w1 (fun b => w6.drew.heap.size ≤ b) [.int .i64 yk, .int .i64 yn, .string yt, .slice A4 ya.length c4] (V.mk yk yn yt ya))
    (cat1 : Blk w1 ab 3 [.int .i64 n]) (hg1 : w6.drew.grownBy w1 (some ab))
    (ho1 : w1.ownsRow (w.heap.size + 3) 47 4 (.slice A3 j c3) L.length vs1.flatten)
    (ha1 : All2 (VCells d w1 (fun b => w.heap.size + 3 ≤ b ∧ (Value.slice A3 j c3).ownBlock ≠ some b)) vs1 L)
    (hown2 : w2.ownsRow (w.heap.size + 3) 47 4 (.slice A5 (L.length + 1) c5) (L.length + 1) (vs1.flatten ++ [.int .i64 yk, .int .i64 yn, .string yt, .slice A4 ya.length c4]))
    (hg2 : (w1.alloc (.cells #[.int .i64 yk, .int .i64 yn, .string yt, .slice A4 ya.length c4] 47)).grownBy w2 (Value.slice A3 j c3).ownBlock)
    (hat2 : (Value.slice A5 (L.length + 1) c5).ownBlock = (Value.slice A3 j c3).ownBlock ∨ (Value.slice A5 (L.length + 1) c5).ownBlock = some (w1.alloc (.cells #[.int .i64 yk, .int .i64 yn, .string yt, .slice A4 ya.length c4] 47)).heap.size) :
    SpRows d vk vn vt va q w (w2.setCell ⟨w.heap.size + 1 + 1, 3, none⟩ (.slice A5 (L.length + 1) c5)) ab (j + 1) := by
  have hlv := cv.lt
  have hlt := ho1.lt
  have hs1 : w6.heap.size ≤ w1.heap.size := hg1.size
  have hown3 : ∀ b, (Value.slice A3 j c3).ownBlock = some b → b < w6.heap.size := fun b hb => (hown.lt b hb).2
  have hfar : ∀ i, (Value.slice A3 j c3).ownBlock = some i → w.heap.size + 3 ≤ i := fun i hi => (hlt i hi).1
  have hy : VCells d w1 (fun b => w.heap.size + 3 ≤ b ∧ (Value.slice A3 j c3).ownBlock ≠ some b) [.int .i64 yk, .int .i64 yn, .string yt, .slice A4 ya.length c4] (V.mk yk yn yt ya) :=
    hv4.imp fun b hb _ => ⟨by have : w6.heap.size ≤ b := hb; omega, fun e => by have := hown3 b e; have : w6.heap.size ≤ b := hb; omega⟩
  have hpush := OwnList.push (VCells.stable d) ha1 hy hg2 hat2 hown2
  unfold SpRows
  rw [hstep]
  rw [hml] at hpush ⊢
  have hset : Same (fun b => w.heap.size + 3 ≤ b) w2 (w2.setCell ⟨w.heap.size + 1 + 1, 3, none⟩ (.slice A5 (j + 1) c5)) := fun b hb _ => Below.heap_setCell _ _ _ _ (by show b ≠ w.heap.size + 1 + 1; omega)
  refine ⟨A5, c5, ?_, ?_, ?_, ?_, ?_⟩
  · have := ((cv.drew.grown hg1 (by simp; omega)).alloc (.cells #[.int .i64 yk, .int .i64 yn, .string yt, .slice A4 ya.length c4] 47)).grown hg2 (fun e => by have := hfar _ e.symm; omega)
    exact this.put 3 _
  · exact hpush.keep (VCells.stable _) hset
  · exact (((cres.drew.grown hg1 (by simp; omega)).alloc _).grown hg2 (fun e => by have := hfar _ e.symm; omega)).far (by show w.heap.size + 1 ≠ w.heap.size + 1 + 1; omega) _
  · exact ((cat1.alloc _).grown hg2 (fun e => by have := hfar _ e.symm; omega)).far (by show ab ≠ w.heap.size + 1 + 1; omega) _
  · exact grownBy_setCell (grownBy_far (grownBy_alloc (grownBy_trans (grownBy_drew hgr) hg1) _) hg2 (fun i hi => by have := hfar i hi; omega)) (.inr (by show w.heap.size ≤ w.heap.size + 1 + 1; omega)) _
set_option maxRecDepth 100000 in
set_option maxHeartbeats 4000000 in
theorem spoil_succ (d : Nat) (IH0 : SpTo d) : SpTo (d + 1) := by
  intro ab sb v q w A c hv h0 h1 hba hbs
  obtain ⟨vk, vn, vt, va⟩ := v
  obtain ⟨A', c', vss, e0, hk, hn, ht, hal, hac, hcm, hr, ha⟩ := hv
  simp only [V.kind, V.num, V.text, V.args] at e0 ⊢
  obtain ⟨rfl, rfl⟩ : A = A' ∧ c = c' := by
    simp at e0
    exact e0
  clear e0
  unfold maxLen at hcm
  have IH := Lib.hid IH0
  have HK := Lib.hid (And.intro hk (And.intro hn ht))
  have HR := Lib.hid (And.intro hr ha)
  have c1 : w.cell? ⟨ab, 0, none⟩ = some (.int .i64 q) := hba.cell 0
  have f1 : w.frozen? ⟨ab, 0, none⟩ = false := hba.frozen 0
  have l1 := hba.lt
  have l2 := hbs.lt
  have n1 : ¬ sb = ab := hbs.ne_ hba (by decide)
  have hw1 : IntKind.i64.wrap (q - 1) = q - 1 := IntWalk.i64_in _ (by omega)
  clear IH0 hk hn ht hr ha
  by_cases hq : q - 1 < 0
  · have d1 : decide (q - 1 < 0) = true := decide_eq_true hq
    have hf : Hid (spoilF (d + 1) (.mk vk vn vt va) q = (.mk 6 1 ⟨#[]⟩ [], 1000)) := by
      unfold Hid
      have : spoilF (d + 1) (.mk vk vn vt va) q = if q - 1 < 0 then (.mk 6 1 ⟨#[]⟩ [], 1000) else (.mk vk vn vt (spoilsF (spoilF d) va (q - 1)).1, (spoilsF (spoilF d) va (q - 1)).2) := rfl
      rw [this, if_pos hq]
    have HBA := Lib.hid hba
    clear hq hba hbs
    go_enter Try.func16, Try.ntmps16
    go_wp2_with (fail)
    have hsz : (((w.setCell ⟨ab, 0, none⟩ (.int .i64 (q - 1))).setCell ⟨ab, 0, none⟩ (.int .i64 1000)).alloc (.cells #[.int .i64 vk, .int .i64 vn, .string vt, .slice A va.length c] 47)).heap.size = w.heap.size + 1 := by simp
    have hB := Blk.new (((w.setCell ⟨ab, 0, none⟩ (.int .i64 (q - 1))).setCell ⟨ab, 0, none⟩ (.int .i64 1000)).alloc (.cells #[.int .i64 vk, .int .i64 vn, .string vt, .slice A va.length c] 47)) 47 [.int .i64 6, .int .i64 1, .string ⟨#[]⟩, .slice none 0 0]
    rw [hsz] at hB
    refine ret_blk rfl rfl hB Try.underlying47 (by kernel_rfl) rfl ?_
    unfold SpPost
    rw [hf.out]
    exact ⟨⟨none, 0, rfl, none, 0, [], rfl, ⟨by omega, by omega⟩, ⟨by omega, by omega⟩, by decide, by decide, Nat.le_refl _, Nat.zero_le _, Reads.empty, All2.nil⟩, (((HBA.out.put 0 (.int .i64 (q - 1))).put 0 (.int .i64 1000)).alloc _).alloc _, grownBy_alloc (grownBy_alloc (grownBy_setCell (grownBy_setCell (World.grownBy.refl w _) (p := ⟨ab, 0, none⟩) (.inl rfl) _) (p := ⟨ab, 0, none⟩) (.inl rfl) _) _) _⟩
  · have d1 : decide (q - 1 < 0) = false := decide_eq_false hq
    have hf : Hid (spoilF (d + 1) (.mk vk vn vt va) q = (.mk vk vn vt (spoilsF (spoilF d) va (q - 1)).1, (spoilsF (spoilF d) va (q - 1)).2)) := by
      unfold Hid
      have : spoilF (d + 1) (.mk vk vn vt va) q = if q - 1 < 0 then (.mk 6 1 ⟨#[]⟩ [], 1000) else (.mk vk vn vt (spoilsF (spoilF d) va (q - 1)).1, (spoilsF (spoilF d) va (q - 1)).2) := rfl
      rw [this, if_neg hq]
    have HB := Lib.hid (And.intro hba hbs)
    have hq0 : 1 ≤ q := by omega
    clear hq hba hbs
    go_enter Try.func16, Try.ntmps16
    go_wp2_with (fail)
    have hsz1 : (w.setCell ⟨ab, 0, none⟩ (.int .i64 (q - 1))).heap.size = w.heap.size := by simp
    have hB2 : SpRows d vk vn vt va q w ((((w.setCell ⟨ab, 0, none⟩ (.int .i64 (q - 1))).alloc (.cells #[.int .i64 vk, .int .i64 vn, .string vt, .slice A va.length c] 47)).alloc (.cells #[.int .i64 0, .int .i64 0, .string ⟨#[]⟩, .slice none 0 0] 47)).alloc (.cells #[.int .i64 vk, .int .i64 vn, .string vt, .slice none 0 0] 47)) ab 0 := by
      have b1 := Blk.new ((w.setCell ⟨ab, 0, none⟩ (.int .i64 (q - 1))).alloc (.cells #[.int .i64 vk, .int .i64 vn, .string vt, .slice A va.length c] 47)) 47 [.int .i64 0, .int .i64 0, .string ⟨#[]⟩, .slice none 0 0]
      have b2 := Blk.new (((w.setCell ⟨ab, 0, none⟩ (.int .i64 (q - 1))).alloc (.cells #[.int .i64 vk, .int .i64 vn, .string vt, .slice A va.length c] 47)).alloc (.cells #[.int .i64 0, .int .i64 0, .string ⟨#[]⟩, .slice none 0 0] 47)) 47 [.int .i64 vk, .int .i64 vn, .string vt, .slice none 0 0]
      rw [show ((w.setCell ⟨ab, 0, none⟩ (.int .i64 (q - 1))).alloc (.cells #[.int .i64 vk, .int .i64 vn, .string vt, .slice A va.length c] 47)).heap.size = w.heap.size + 1 by simp] at b1
      rw [show (((w.setCell ⟨ab, 0, none⟩ (.int .i64 (q - 1))).alloc (.cells #[.int .i64 vk, .int .i64 vn, .string vt, .slice A va.length c] 47)).alloc (.cells #[.int .i64 0, .int .i64 0, .string ⟨#[]⟩, .slice none 0 0] 47)).heap.size = w.heap.size + 1 + 1 by simp] at b2
      exact ⟨none, 0, b2, OwnList.nil _ _ _ _, b1.alloc _, (((HB.out.1.put 0 (.int .i64 (q - 1))).alloc _).alloc _).alloc _, grownBy_alloc (grownBy_alloc (grownBy_alloc (grownBy_setCell (World.grownBy.refl w _) (p := ⟨ab, 0, none⟩) (.inl rfl) _) _) _) _⟩
    have HB2 := Lib.hid hB2
    clear hB2 hsz1
    generalize ((((w.setCell ⟨ab, 0, none⟩ (.int .i64 (q - 1))).alloc (.cells #[.int .i64 vk, .int .i64 vn, .string vt, .slice A va.length c] 47)).alloc (.cells #[.int .i64 0, .int .i64 0, .string ⟨#[]⟩, .slice none 0 0] 47)).alloc (.cells #[.int .i64 vk, .int .i64 vn, .string vt, .slice none 0 0] 47)) = W5 at HB2 ⊢
    go_loopw [23] (fun i wr => ∃ j : Nat, j ≤ va.length ∧ i = .int .i64 j ∧ Hid (SpRows d vk vn vt va q w wr ab j)) (fun i _ => va.length - (intOf i).toNat)
    case atStart => exact ⟨0, Nat.zero_le _, rfl, HB2.out⟩
    case round =>
      obtain ⟨j, hj, rfl, hrow⟩ := hrel
      obtain ⟨A3, c3, cv, hown, cres, cat, hgr⟩ := hrow.out
      have hbd := spoils_bd (g := spoilF d) (va.take j) (q - 1) (fun v k => spoil_bd d v k) (by omega) (by omega)
      by_cases hlt : j < va.length
      · obtain ⟨b, off, cs, rfl, hD, hv, hcell⟩ := HR.out.1.elem (VCells.stable d) HR.out.2 rfl hlt
        have hsame : Same (fun b => b ≠ ab) w wr := Same.of_grown hgr (fun b hb _ => by simpa using hb)
        have hv2 := hv.keep hsame
        have hstep : Hid (spoilsF (spoilF d) (va.take (j + 1)) (q - 1) = ((spoilsF (spoilF d) (va.take j) (q - 1)).1 ++ [(spoilF d va[j] (spoilsF (spoilF d) (va.take j) (q - 1)).2).1], (spoilF d va[j] (spoilsF (spoilF d) (va.take j) (q - 1)).2).2)) := by
          unfold Hid
          rw [List.take_succ_eq_append_getElem hlt, spoils_snoc]
        have hml : Hid ((spoilsF (spoilF d) (va.take j) (q - 1)).1.length = j) := by
          unfold Hid
          rw [spoils_len, List.length_take]
          omega
        generalize hxx : va[j] = X at hv hv2 hstep
        clear hxx
        obtain ⟨xk, xn, xt, xa⟩ := X
        obtain ⟨A4, c4, rfl⟩ := hv.form
        simp only [V.kind, V.num, V.text, V.args] at hcell hv hv2
        have g0 := hsame.cell hD (hcell 0 _ rfl)
        have g1 := hsame.cell hD (hcell 1 _ rfl)
        have g2 := hsame.cell hD (hcell 2 _ rfl)
        have g3 := hsame.cell hD (hcell 3 _ rfl)
        simp only [Nat.add_zero, ← Nat.add_assoc] at g0 g1 g2 g3
        have l4 := lt_of_cell g0
        clear hcell
        have hsz := hgr.size
        have hX5 : (wr.alloc (.cells #[.int .i64 xk, .int .i64 xn, .string xt, .slice A4 xa.length c4] 47)).heap.size = wr.heap.size + 1 := by simp
        have hcv5 := cv.alloc (.cells #[.int .i64 xk, .int .i64 xn, .string xt, .slice A4 xa.length c4] 47)
        have hbs5 := (HB.out.2.grown hgr (by simpa using n1)).alloc (.cells #[.int .i64 xk, .int .i64 xn, .string xt, .slice A4 xa.length c4] 47)
        have hca5 := cat.alloc (.cells #[.int .i64 xk, .int .i64 xn, .string xt, .slice A4 xa.length c4] 47)
        have hx5 := Blk.new wr 47 [.int .i64 xk, .int .i64 xn, .string xt, .slice A4 xa.length c4]
        have hv5 := hv2.keep (Same.alloc _ wr (.cells #[.int .i64 xk, .int .i64 xn, .string xt, .slice A4 xa.length c4] 47))
        have hg5 := grownBy_alloc hgr (.cells #[.int .i64 xk, .int .i64 xn, .string xt, .slice A4 xa.length c4] 47)
        have hw5 := hown.keep (VCells.stable d) (Same.alloc _ wr (.cells #[.int .i64 xk, .int .i64 xn, .string xt, .slice A4 xa.length c4] 47))
        obtain ⟨w6, hw6⟩ : ∃ w6, w6 = wr.alloc (.cells #[.int .i64 xk, .int .i64 xn, .string xt, .slice A4 xa.length c4] 47) := ⟨_, rfl⟩
        obtain ⟨XB, hXB⟩ : ∃ XB, XB = wr.heap.size := ⟨_, rfl⟩
        rw [← hw6] at hX5 hcv5 hbs5 hca5 hx5 hv5 hg5 hw5
        rw [← hXB] at hx5
        have HW6 := Lib.hid (And.intro hw6 hXB)
        have HS6 := Lib.hid (And.intro hcv5 (And.intro hbs5 (And.intro hca5 (And.intro hv5 (And.intro hg5 (And.intro hw5 (And.intro hx5 cres)))))))
        have g0' := g0
        clear hw6 hXB hcv5 hbs5 hca5 hx5 hv5 hg5 hw5 cv hown cres cat hv hv2 HB2 c1 f1
        go_upto_region 9 with (fail)
        rw [← HW6.out.1, ← HW6.out.2]
        have C := Lib.hid (fun (W : World) (hW : W.heap = w6.heap) => IH.out ab sb (V.mk xk xn xt xa) (spoilsF (spoilF d) (va.take j) (q - 1)).2 W A4 c4 (HS6.out.2.2.2.1.keep (Same.of_heap hW)) hbd.1 hbd.2 (HS6.out.2.2.1.of_heap hW) (HS6.out.2.1.of_heap hW))
        obtain ⟨cv6, cs6, _, _, hgr6, hown6, cx6, cr6⟩ := HS6.out
        have v3 := cv6.cell 3
        have k0 := cs6.cell 0
        have x0 := cx6.cell 0
        have x1 := cx6.cell 1
        have x2 := cx6.cell 2
        have x3 := cx6.cell 3
        have lv := cv6.lt
        have lx := cx6.lt
        have lk := cs6.lt
        simp only [List.getElem?_cons_succ, List.getElem?_cons_zero] at v3 k0 x0 x1 x2 x3
        have CV6 := Lib.hid cv6
        have CS6 := Lib.hid cs6
        have CR6 := Lib.hid (cr6.alloc (.cells #[.int .i64 xk, .int .i64 xn, .string xt, .slice A4 xa.length c4] 47))
        rw [← HW6.out.1] at CR6
        have hsz6 := hgr6.size
        have HGR := Lib.hid hgr6
        have HOW := Lib.hid hown6
        clear cv6 cs6 cx6 cr6 hgr6 hown6 hbd g0 g0' g1 g2 g3 l4 hsame HS6 hw1 hX5
        simp only [V.kind, V.num, V.text, V.args] at C
        go_region_law
          (first
            | (rw [if_pos (by simp [Region.wanted])]; unfold Oper.wp; go_simp; go_at_call 16; refine (C.out w6.drew rfl).mono ?_; unfold SpPost; rintro e w1 ⟨⟨A5, c5, rfl, hv4⟩, cat1, hg1⟩; dsimp only; generalize hvv : (spoilF d (V.mk xk xn xt xa) (spoilsF (spoilF d) (va.take j) (q - 1)).2).1 = vv at hv4 ⊢; have Hvv := Lib.hid hvv; clear hvv; obtain ⟨yk, yn, yt, ya⟩ := vv; simp only [V.kind, V.num, V.text, V.args, vl] at hv4 ⊢; have cv1 := CV6.out.drew.grown hg1 (by simp; omega); have cbn1 := CS6.out.drew.grown hg1 (by simpa using n1); have k1 : w1.cell? ⟨w.heap.size + 1 + 1, 3, none⟩ = some (.slice A3 j c3) := cv1.cell 3; have k2 := cbn1.cell 0; have k1a : ∀ o, (w1.alloc o).cell? ⟨w.heap.size + 1 + 1, 3, none⟩ = some (.slice A3 j c3) := fun o => (cv1.alloc o).cell 3; have k2a := fun o => (cbn1.alloc o).cell 0; have hown1 : OwnList 47 4 (VCells d) w1 (w.heap.size + 3) (.slice A3 j c3) (spoilsF (spoilF d) (va.take j) (q - 1)).1 := (HOW.out.keep (w' := w6.drew) (VCells.stable _) (Same.of_heap rfl)).keep (VCells.stable _) (Same.of_grown hg1 fun b hb _ => by simp; omega); have hs1 : w6.heap.size ≤ w1.heap.size := hg1.size; obtain ⟨vs1, ho1, ha1⟩ := hown1)
            | (refine step_app_Vl _ rfl (.tmp 28) (.tmp 32) (by rfl) (ho1.alloc _) rfl (Reads.new (D := Any) _ [.int .i64 yk, .int .i64 yn, .string yt, .slice A5 ya.length c5] 4 1 _ trivial rfl) rfl (by simp [Value.oneCell']) (by have := hml.out; omega) (by simp; omega) ?_; intro v2 w2 hown2 hg2 hat2; obtain ⟨A7, c7, rfl, hn5⟩ := own_form hown2; have cv2 := (cv1.alloc (.cells #[.int .i64 yk, .int .i64 yn, .string yt, .slice A5 ya.length c5] 47)).grown hg2 (fun e => by have := (ho1.lt _ e.symm).1; omega); have cbn2 := (cbn1.alloc (.cells #[.int .i64 yk, .int .i64 yn, .string yt, .slice A5 ya.length c5] 47)).grown hg2 (fun e => by have := (ho1.lt _ e.symm).1; omega); have k1c : w2.cell? ⟨w.heap.size + 1 + 1, 3, none⟩ = some (.slice A3 j c3) := cv2.cell 3; have k2c := cbn2.cell 0; have f1c := cv2.frozen 3))
        all_goals go_wp2_with (fail)
        all_goals
          have hst := hstep.out
          rw [Hvv.out] at hst
          exact ⟨⟨j + 1, by omega, by go_num, SpRows.step l1 CV6.out HOW.out CR6.out HGR.out hst hml.out hv4 cat1 hg1 ho1 ha1 hown2 hg2 hat2⟩, by simp [intOf]; omega⟩
      · obtain rfl : j = va.length := by omega
        have t0 := cv.cell 0
        have t1 := cv.cell 1
        have t2 := cv.cell 2
        have t3 := cv.cell 3
        have s0 := cres.frozen 0
        have s1 := cres.frozen 1
        have s2 := cres.frozen 2
        have s3 := cres.frozen 3
        have r0 := cres.cell 0
        have r1 := cres.cell 1
        have r2 := cres.cell 2
        have r3 := cres.cell 3
        have lv := cv.lt
        have lr := cres.lt
        simp only [List.getElem?_cons_succ, List.getElem?_cons_zero] at t0 t1 t2 t3 r0 r1 r2 r3
        have HCV := Lib.hid (And.intro cres (And.intro hown (And.intro cat hgr)))
        clear cv cres hown cat hgr hrow HB2 c1 f1 hw1
        go_wp2_with (fail)
        obtain ⟨cres, hown, cat, hgr⟩ := HCV.out
        have hB := (((cres.put 0 (.int .i64 vk)).put 1 (.int .i64 vn)).put 2 (.string vt)).put 3 (.slice A3 va.length c3)
        have hS : Same (fun b => w.heap.size + 3 ≤ b) wr ((((wr.setCell ⟨w.heap.size + 1, 0, none⟩ (.int .i64 vk)).setCell ⟨w.heap.size + 1, 1, none⟩ (.int .i64 vn)).setCell ⟨w.heap.size + 1, 2, none⟩ (.string vt)).setCell ⟨w.heap.size + 1, 3, none⟩ (.slice A3 va.length c3)) := by
          intro b hb hl
          have hne : b ≠ w.heap.size + 1 := by omega
          rw [Below.heap_setCell _ _ _ _ hne, Below.heap_setCell _ _ _ _ hne, Below.heap_setCell _ _ _ _ hne, Below.heap_setCell _ _ _ _ hne]
        have hC := (((cat.far (p := ⟨w.heap.size + 1, 0, none⟩) (by show ab ≠ w.heap.size + 1; omega) (.int .i64 vk)).far (p := ⟨w.heap.size + 1, 1, none⟩) (by show ab ≠ w.heap.size + 1; omega) (.int .i64 vn)).far (p := ⟨w.heap.size + 1, 2, none⟩) (by show ab ≠ w.heap.size + 1; omega) (.string vt)).far (p := ⟨w.heap.size + 1, 3, none⟩) (by show ab ≠ w.heap.size + 1; omega) (.slice A3 va.length c3)
        have hle : w.heap.size ≤ w.heap.size + 1 := by omega
        have hG := grownBy_setCell (grownBy_setCell (grownBy_setCell (grownBy_setCell hgr (p := ⟨w.heap.size + 1, 0, none⟩) (.inr hle) (.int .i64 vk)) (p := ⟨w.heap.size + 1, 1, none⟩) (.inr hle) (.int .i64 vn)) (p := ⟨w.heap.size + 1, 2, none⟩) (.inr hle) (.string vt)) (p := ⟨w.heap.size + 1, 3, none⟩) (.inr hle) (.slice A3 va.length c3)
        have hO := hown.keep (VCells.stable _) hS
        generalize ((((wr.setCell ⟨w.heap.size + 1, 0, none⟩ (.int .i64 vk)).setCell ⟨w.heap.size + 1, 1, none⟩ (.int .i64 vn)).setCell ⟨w.heap.size + 1, 2, none⟩ (.string vt)).setCell ⟨w.heap.size + 1, 3, none⟩ (.slice A3 va.length c3)) = W' at hB hC hG hO ⊢
        refine ret_blk rfl rfl hB Try.underlying47 (by kernel_rfl) rfl ?_
        rw [List.take_length] at hO hC
        have hlen := spoils_len (spoilF d) va (q - 1)
        unfold SpPost
        rw [hf.out]
        refine ⟨⟨A3, c3, by simp only [V.kind, V.num, V.text, V.args, hlen, List.set_cons_zero, List.set_cons_succ], ?_⟩, hC, hG⟩
        obtain ⟨vss, e1, h1, h2, hr, ha⟩ := hO.reads (VCells.stable _) (by omega)
        refine ⟨A3, c3, vss, rfl, HK.out.1, HK.out.2.1, HK.out.2.2, by omega, by omega, h2, ?_, ?_⟩
        · rw [hlen]
          exact hr.imp (by omega) fun b hb _ => by omega
        · exact ha.imp fun x y hxy => hxy.imp fun b hb _ => by omega
theorem spoil_any : ∀ d, SpTo d
  | 0 => fun ab sb v q w A c hv => hv.elim
  | d + 1 => spoil_succ d (spoil_any d)
end Go.Proofs.Ytoddjdajjmcliaa
