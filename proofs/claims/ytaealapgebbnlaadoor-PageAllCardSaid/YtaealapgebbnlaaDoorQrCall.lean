/- Contract of the laws' moduleOf's maker of bodies. (Printed by qrcall.py.) -/
import Derived.Test.YtaealapgebbnlaaDoorQrMem
import Derived.Test.YtaealapgebbnlaaDoorRegInv
import Derived.Deep.RegionHeld3
import Derived.Deep.RegionLaw
import Derived.Deep.DeepCutAuto
set_option linter.unusedVariables false
namespace Go.Proofs.YtaealapgebbnlaaDoor
open Go.RowKit Go.Mem Go.Md
/-- the letter that a number says -/
def letF (n : Int) : UInt8 := UInt8.ofNat (97 + (restI n 8).toNat)
def bodyF (n : Int) : Bd := if n.tmod 5 = 0 then none else some (letF n, letF (n.tdiv 8))
theorem heapA (w : World) (o : Obj) : (w.alloc o).heap = w.heap.push o := rfl
theorem heapD (w : World) : w.drew.heap = w.heap := rfl
theorem letF_nat (n : Int) : ((letF n).toNat : Int) = 97 + restI n 8 := by
  have h := restI_bd n 8 (by omega)
  unfold letF
  rw [UInt8.toNat_ofNat']
  have : (97 + (restI n 8).toNat) % 2 ^ 8 = 97 + (restI n 8).toNat := Nat.mod_eq_of_lt (by omega)
  rw [this]
  omega
theorem cv_one (w : World) (b : Nat) (x : UInt8) (q : Int) (hq : q = (x.toNat : Int)) (h : w.cell? ⟨b, 0, none⟩ = some (.int .u8 q)) : (convert 61 9 (.slice (some ⟨b, 0, none⟩) 1 1)).run Tryd.prog w = .ok (bst [x]) w := by
  subst hq
  exact run_convert_reads _ _ _ _ Tryd.underlying61 Tryd.underlying5 Tryd.underlying9 (bs := [x]) (D := Any) ⟨rfl, fun _ => ⟨b, 0, rfl, trivial, fun i u hu => by
    match i, hu with
    | 0, hu =>
      simp [u8s] at hu
      subst hu
      exact h⟩⟩
def slP (k p : Nat) (v : Value) : Value := if k ≤ p then v else undef
def slQ (k q : Nat) (v : Value) : Value := if k ≤ q then v else undef
def slB (b : Bool) (v : Value) : Value := if b then v else undef
def CaL (p q : Nat) (al u : Bool) : Array Bool := #[true, decide (1 ≤ p), decide (2 ≤ p), decide (3 ≤ p), decide (4 ≤ p), decide (5 ≤ p), true, true, decide (1 ≤ q), decide (2 ≤ q), decide (3 ≤ q), decide (4 ≤ q), decide (5 ≤ q), decide (6 ≤ q), decide (7 ≤ q), u, al, false]
def CaF (n r1 r2 : Int) (l1 l2 : UInt8) (R p q : Nat) (al u : Bool) (B1 B2 X F : Nat) : Act := { tmps := #[.int .i64 n, undef, .pointer (some ⟨R, 0, none⟩), slB al (.pointer (some ⟨F, 0, none⟩)), .int .i64 n, slP 1 p (.int .i64 r1), slP 2 p (.int .i64 (97 + r1)), slP 3 p (.int .u8 (97 + r1)), slP 4 p (.slice (some ⟨B1, 0, none⟩) 1 1), slP 5 p (bst [l1]), .int .i64 n, .int .i64 (n.tdiv 8), slQ 1 q (.int .i64 r2), slQ 2 q (.int .i64 (97 + r2)), slQ 3 q (.int .u8 (97 + r2)), slQ 4 q (.slice (some ⟨B2, 0, none⟩) 1 1), slQ 5 q (bst [l2]), slQ 6 q (.agg #[.int .i64 9, .int .i64 0, bst [l2], .slice none 0 0, .slice none 0 0, .slice none 0 0, .slice none 0 0, .int .i64 0]), slQ 7 q (.slice (some ⟨X, 0, none⟩) 1 1), slB u (.agg #[.int .i64 9, .int .i64 0, bst [l1], .slice none 0 0, .slice none 0 0, .slice (some ⟨X, 0, none⟩) 1 1, .slice none 0 0, .int .i64 0]), undef, undef, undef, undef, undef], defers := [] }
def CaI (W0 : World) (n r1 r2 : Int) (l1 l2 : UInt8) (R : Nat) (listed : Array Bool) (a : Act) (W : World) : Prop :=
  ∃ (p : Fin 6) (q : Fin 8) (al u : Bool) (B1 B2 X F : Nat), (u = true → p.val = 5 ∧ q.val = 7) ∧ listed = CaL p.val q.val al u ∧ a = CaF n r1 r2 l1 l2 R p.val q.val al u B1 B2 X F ∧ Below W0.heap.size W0 W ∧ (4 ≤ p.val → Blk W B1 5 [.int .u8 (97 + r1)]) ∧ (4 ≤ q.val → Blk W B2 5 [.int .u8 (97 + r2)]) ∧ (7 ≤ q.val → Blk W X 40 [.int .i64 9, .int .i64 0, bst [l2], .slice none 0 0, .slice none 0 0, .slice none 0 0, .slice none 0 0, .int .i64 0] ∧ W0.heap.size ≤ X) ∧ (al = true → Blk W F 40 [.int .i64 0, .int .i64 0, .string ⟨#[]⟩, .slice none 0 0, .slice none 0 0, .slice none 0 0, .slice none 0 0, .int .i64 0] ∧ W0.heap.size ≤ F)
theorem mem_allC {l : List Nat} {i : Nat} {p : Nat → Bool} (hi : i ∈ l) (h : l.all p = true) : p i = true := List.all_eq_true.1 h i hi
theorem CaL_fin : ∀ (p : Fin 6) (q : Fin 8) (al u : Bool), CaL p.val q.val al u = CaL 5 7 true true → p.val = 5 ∧ q.val = 7 ∧ al = true ∧ u = true := by decide +kernel
set_option maxRecDepth 100000 in
set_option maxHeartbeats 8000000 in
theorem call_any (n : Int) (hn : I64 n) (w : World) : Calls Tryd.prog 12 #[.int .i64 n] w fun e w' =>
    ∃ cs : List Value, e = .returned (.agg cs.toArray) ∧ BdCells w' (fun b => w.heap.size ≤ b) cs (bodyF n) ∧ Below w.heap.size w w' := by
  obtain ⟨r1, hr1⟩ : ∃ r, r = restI n 8 := ⟨_, rfl⟩
  obtain ⟨r2, hr2⟩ : ∃ r, r = restI (n.tdiv 8) 8 := ⟨_, rfl⟩
  have hb1 := restI_bd n 8 (by omega)
  have hb2 := restI_bd (n.tdiv 8) 8 (by omega)
  rw [← hr1] at hb1
  rw [← hr2] at hb2
  have hn8 : I64 (n.tdiv 8) := by
    obtain ⟨h1, h2⟩ := hn
    by_cases h0 : 0 ≤ n
    · rw [Int.tdiv_eq_ediv_of_nonneg h0]
      constructor <;> omega
    · have e : n.tdiv 8 = -((-n).tdiv 8) := by rw [Int.neg_tdiv, Int.neg_neg]
      rw [e, Int.tdiv_eq_ediv_of_nonneg (by omega)]
      constructor <;> omega
  have c1 := Lib.hid (fun (W : World) => rest_q n 8 W r1 hn (by omega) (by omega) hr1.symm)
  have c2 := Lib.hid (fun (W : World) => rest_q (n.tdiv 8) 8 W r2 hn8 (by omega) (by omega) hr2.symm)
  obtain ⟨l1, hl1⟩ : ∃ l, l = letF n := ⟨_, rfl⟩
  obtain ⟨l2, hl2⟩ : ∃ l, l = letF (n.tdiv 8) := ⟨_, rfl⟩
  have HL := Lib.hid (And.intro hl1 hl2)
  have hL1 : 97 + r1 = (l1.toNat : Int) := by rw [hl1, letF_nat, hr1]
  have hL2 : 97 + r2 = (l2.toNat : Int) := by rw [hl2, letF_nat, hr2]
  have CV1 := Lib.hid (fun (V : World) (b : Nat) (h : Blk V b 5 [.int .u8 (97 + r1)]) => cv_one V b l1 _ hL1 (h.cell 0))
  have CV2 := Lib.hid (fun (V : World) (b : Nat) (h : Blk V b 5 [.int .u8 (97 + r2)]) => cv_one V b l2 _ hL2 (h.cell 0))
  obtain ⟨h1, h2⟩ := hn
  obtain ⟨h3, h4⟩ := hn8
  have hw1 : IntKind.u8.wrap (97 + r1) = 97 + r1 := IntWalk.u8_in _ (by omega)
  have hw2 : IntKind.u8.wrap (97 + r2) = 97 + r2 := IntWalk.u8_in _ (by omega)
  have hv1 : IntKind.i64.wrap (97 + r1) = 97 + r1 := IntWalk.i64_in _ (by omega)
  have hv2 : IntKind.i64.wrap (97 + r2) = 97 + r2 := IntWalk.i64_in _ (by omega)
  have hvq : IntKind.i64.wrap (n.tdiv 8) = n.tdiv 8 := IntWalk.i64_in _ (by omega)
  clear hr1 hr2 hl1 hl2 hL1 hL2
  obtain ⟨W, hW⟩ : ∃ W, W = w.alloc (.cells #[.int .i64 0, .int .i64 0, .string ⟨#[]⟩, .slice none 0 0, .slice none 0 0, .slice none 0 0, .slice none 0 0, .int .i64 0] 40) := ⟨_, rfl⟩
  obtain ⟨R, hR⟩ : ∃ R, R = w.heap.size := ⟨_, rfl⟩
  have HR := Lib.hid (show Blk W R 40 [.int .i64 0, .int .i64 0, .string ⟨#[]⟩, .slice none 0 0, .slice none 0 0, .slice none 0 0, .slice none 0 0, .int .i64 0] ∧ Below w.heap.size w W ∧ R = w.heap.size ∧ R < W.heap.size from ⟨by rw [hW, hR]; exact Blk.new w _ _, by rw [hW]; exact (Below.refl _ _).alloc (Nat.le_refl _) _, hR, by rw [hW, hR]; simp⟩)
  go_enter Tryd.func12, Tryd.ntmps12
  go_upto_region 1 with (fail)
  rw [← hW, ← hR]
  clear hW hR
  go_cut [3] (fun v3 wc => ∃ F X, v3 = .pointer (some ⟨F, 0, none⟩) ∧ Hid (W.heap.size ≤ F ∧ W.heap.size ≤ X ∧ Blk wc F 40 [.int .i64 9, .int .i64 0, bst [l1], .slice none 0 0, .slice none 0 0, .slice (some ⟨X, 0, none⟩) 1 1, .slice none 0 0, .int .i64 0] ∧ Blk wc X 40 (leafC l2) ∧ Below W.heap.size W wc))
  case first =>
    refine wp_region_any (by kernel_rfl) ?_
    change wpAny _ _ _ _ _ _ _ (World.drew _)
    refine wpAny_take (i := 0) (v := .int .i64 n) rfl ?_ ?_ ?_ (fun _ _ _ h => h) (Or.inl ⟨by rfl, ?_⟩) ?_; (· decide +kernel); (· decide +kernel); (· decide +kernel); (· (intro w; go_simp))
    refine wpAny_take (i := 6) (v := .int .i64 n) rfl ?_ ?_ ?_ (fun _ _ _ h => h) (Or.inl ⟨by rfl, ?_⟩) ?_; (· decide +kernel); (· decide +kernel); (· decide +kernel); (· (intro w; go_simp))
    refine wpAny_take (i := 7) (v := .int .i64 (n.tdiv 8)) rfl ?_ ?_ ?_ (fun _ _ _ h => h) (Or.inl ⟨by rfl, ?_⟩) ?_; (· decide +kernel); (· decide +kernel); (· decide +kernel); (· (intro w; go_simp))
    refine wpAny_until (I := CaI W n r1 r2 l1 l2 R) (fin := CaL 5 7 true true) (k := 1) ?cnt ?step ?stuck ?after _ _ _ _ ?cnt2 ?start
    case cnt => decide +kernel
    case cnt2 => decide +kernel
    case start =>
      exact ⟨0, 0, false, false, 0, 0, 0, 0, by simp, rfl, rfl, (Below.refl _ _).drew, (by intro h; cases h), (by intro h; cases h), (by intro h; cases h), (by intro h; cases h)⟩
    case stuck =>
      rintro listed a V ⟨p, q, al, u, B1, B2, X, F, hu, rfl, h⟩ hne
      clear h
      revert hne hu
      clear CV1 CV2 c1 c2 HL HR hb1 hb2 hw1 hw2 hv1 hv2 hvq h1 h2 h3 h4
      revert p q al u
      decide +kernel
    case after =>
      rintro a V ⟨p, q, al, u, B1, B2, X, F, hu, hl, rfl, hb, f1, f2, f3, f4⟩
      obtain ⟨hp, hq, rfl, rfl⟩ := CaL_fin p q al u hl.symm
      have g3 := f3 (by omega)
      have g4 := f4 rfl
      have hFX : F ≠ X := fun e => by
        have := g3.1
        rw [← e] at this
        have h6 := this.symm.trans g4.1
        simp at h6
      have FIN := Lib.hid (show W.heap.size ≤ F ∧ W.heap.size ≤ X ∧ Blk V F 40 [.int .i64 0, .int .i64 0, .string ⟨#[]⟩, .slice none 0 0, .slice none 0 0, .slice none 0 0, .slice none 0 0, .int .i64 0] ∧ Blk V X 40 (leafC l2) ∧ Below W.heap.size W V ∧ F ≠ X from ⟨g4.2, g3.2, g4.1, g3.1, hb, hFX⟩)
      have e0 := g4.1.cell 0
      have e1 := g4.1.cell 1
      have e2 := g4.1.cell 2
      have e3 := g4.1.cell 3
      have e4 := g4.1.cell 4
      have e5 := g4.1.cell 5
      have e6 := g4.1.cell 6
      have e7 := g4.1.cell 7
      simp only [List.getElem?_cons_zero, List.getElem?_cons_succ] at e0 e1 e2 e3 e4 e5 e6 e7
      have lF := g4.1.lt
      have hfr := g4.1.frozen
      have k0 := hfr 0
      have k1 := hfr 1
      have k2 := hfr 2
      have k3 := hfr 3
      have k4 := hfr 4
      have k5 := hfr 5
      have k6 := hfr 6
      have k7 := hfr 7
      clear hfr
      clear hu hl hb f1 f2 f3 f4 g3 g4 hFX
      simp only [CaF, hp, hq, slP, slQ, slB, Nat.le_refl, ↓reduceIte, Nat.reduceLeDiff]
      refine wpAny_ready (rs := [17]) (by decide +kernel) (by simp) ?_; refine AllReady.cons rfl (fun K hK => ?_) AllReady.nil; go_simp; refine hK _ _ ?_; clear hK K
      refine wpAny_done (by decide +kernel) ?_ _
      go_wp2_with (fail)
      go_meet
      obtain ⟨g1, g2, g3, g4, g5, g6⟩ := FIN.out
      refine ⟨F, X, rfl, g1, g2, ?_, ?_, ?_⟩
      · exact (((((((g3.put 0 _).put 1 _).put 2 _).put 3 _).put 4 _).put 5 _).put 6 _).put 7 _
      · exact (((((((g4.far g6.symm _).far g6.symm _).far g6.symm _).far g6.symm _).far g6.symm _).far g6.symm _).far g6.symm _).far g6.symm _
      · exact (((((((g5.setCell g1 _).setCell g1 _).setCell g1 _).setCell g1 _).setCell g1 _).setCell g1 _).setCell g1 _).setCell g1 _
    case step =>
      rintro listed a V i ⟨p, q, al, u, B1, B2, X, F, hu, rfl, rfl, hb, f1, f2, f3, f4⟩ hne hi
      have hc := mem_allC (p := fun i => (i == p.val + 1 && decide (p.val < 5)) || (i == q.val + 8 && decide (q.val < 7)) || (i == 15 && !u && decide (p.val = 5) && decide (q.val = 7)) || (i == 16 && !al) || (i == 17 && al && u)) hi (by
        clear hb f1 f2 f3 f4 hne hi CV1 CV2 c1 c2 HL HR hb1 hb2 hw1 hw2 hv1 hv2 hvq h1 h2 h3 h4
        revert p q al u
        decide +kernel)
      obtain ⟨p, hp⟩ := p
      obtain ⟨q, hq⟩ := q
      dsimp only at hc hu f1 f2 f3 f4 hne
      have hcase : (i = p + 1 ∧ p < 5) ∨ (i = q + 8 ∧ q < 7) ∨ (i = 15 ∧ u = false ∧ p = 5 ∧ q = 7) ∨ (i = 16 ∧ al = false) := by
        simp only [Bool.or_eq_true, Bool.and_eq_true, beq_iff_eq, Bool.not_eq_true', decide_eq_true_eq] at hc
        rcases hc with (((h | h) | h) | h) | h
        · exact .inl h
        · exact .inr (.inl h)
        · exact .inr (.inr (.inl ⟨h.1.1.1, h.1.1.2, h.1.2, h.2⟩))
        · exact .inr (.inr (.inr h))
        · exfalso
          apply hne
          rw [(hu h.2).1, (hu h.2).2, h.1.2, h.2]
      clear hi hne hc
      rcases hcase with ⟨hi, hlt⟩ | ⟨hi, hlt⟩ | ⟨rfl, rfl, hp5, hq7⟩ | ⟨rfl, rfl⟩
      · have hu0 : u = false := by
          cases u
          · rfl
          · have := (hu rfl).1
            omega
        subst hu0
        rcases (show p = 0 ∨ p = 1 ∨ p = 2 ∨ p = 3 ∨ p = 4 by omega) with hpe | hpe | hpe | hpe | hpe <;> subst hpe <;> subst hi <;> clear hlt
        · refine wpOp_step rfl (fun K hK => ?_)
          simp only [CaF, slP, ↓reduceIte, Nat.reduceLeDiff]
          go_simp
          refine (c1.out _).mono ?_
          rintro e W1 ⟨rfl, rfl⟩
          try dsimp only
          refine hK _ _ ?_
          clear hK K
          exact ⟨⟨1, by omega⟩, ⟨q, by omega⟩, al, false, B1, B2, X, F, (by intro h; first | cases h | omega), rfl, rfl, hb, (fun h => (f1 (by first | omega | (dsimp only at h; omega)))), (fun h => (f2 (by first | omega | (dsimp only at h; omega)))), (fun h => ⟨(f3 (by first | omega | (dsimp only at h; omega))).1, (f3 (by dsimp only at h; omega)).2⟩), (fun h => ⟨(f4 h).1, (f4 h).2⟩)⟩
        · refine wpOp_step rfl (fun K hK => ?_)
          simp only [CaF, slP, Nat.le_refl, ↓reduceIte, Nat.reduceLeDiff]
          go_simp
          refine hK _ _ ?_
          clear hK K
          exact ⟨⟨2, by omega⟩, ⟨q, by omega⟩, al, false, B1, B2, X, F, (by intro h; first | cases h | omega), rfl, rfl, hb, (fun h => (f1 (by first | omega | (dsimp only at h; omega)))), (fun h => (f2 (by first | omega | (dsimp only at h; omega)))), (fun h => ⟨(f3 (by first | omega | (dsimp only at h; omega))).1, (f3 (by dsimp only at h; omega)).2⟩), (fun h => ⟨(f4 h).1, (f4 h).2⟩)⟩
        · refine wpOp_step rfl (fun K hK => ?_)
          simp only [CaF, slP, Nat.le_refl, ↓reduceIte, Nat.reduceLeDiff]
          go_simp
          refine hK _ _ ?_
          clear hK K
          exact ⟨⟨3, by omega⟩, ⟨q, by omega⟩, al, false, B1, B2, X, F, (by intro h; first | cases h | omega), rfl, rfl, hb, (fun h => (f1 (by first | omega | (dsimp only at h; omega)))), (fun h => (f2 (by first | omega | (dsimp only at h; omega)))), (fun h => ⟨(f3 (by first | omega | (dsimp only at h; omega))).1, (f3 (by dsimp only at h; omega)).2⟩), (fun h => ⟨(f4 h).1, (f4 h).2⟩)⟩
        · refine wpOp_step rfl (fun K hK => ?_)
          simp only [CaF, slP, Nat.le_refl, ↓reduceIte, Nat.reduceLeDiff]
          go_simp
          refine hK _ _ ?_
          clear hK K
          exact ⟨⟨4, by omega⟩, ⟨q, by omega⟩, al, false, V.heap.size, B2, X, F, (by intro h; first | cases h | omega), rfl, rfl, (hb.alloc hb.size _), (fun h => Blk.new V _ _), (fun h => (f2 (by first | omega | (dsimp only at h; omega))).alloc _), (fun h => ⟨(f3 (by first | omega | (dsimp only at h; omega))).1.alloc _, (f3 (by dsimp only at h; omega)).2⟩), (fun h => ⟨(f4 h).1.alloc _, (f4 h).2⟩)⟩
        · refine wpOp_step rfl (fun K hK => ?_)
          have cv := CV1.out V B1 (f1 (by omega))
          simp only [CaF, slP, Nat.le_refl, ↓reduceIte, Nat.reduceLeDiff]
          go_simp
          refine hK _ _ ?_
          clear hK K
          exact ⟨⟨5, by omega⟩, ⟨q, by omega⟩, al, false, B1, B2, X, F, (by intro h; first | cases h | omega), rfl, rfl, hb, (fun h => (f1 (by first | omega | (dsimp only at h; omega)))), (fun h => (f2 (by first | omega | (dsimp only at h; omega)))), (fun h => ⟨(f3 (by first | omega | (dsimp only at h; omega))).1, (f3 (by dsimp only at h; omega)).2⟩), (fun h => ⟨(f4 h).1, (f4 h).2⟩)⟩
      · have hu0 : u = false := by
          cases u
          · rfl
          · have := (hu rfl).2
            omega
        subst hu0
        rcases (show q = 0 ∨ q = 1 ∨ q = 2 ∨ q = 3 ∨ q = 4 ∨ q = 5 ∨ q = 6 by omega) with hqe | hqe | hqe | hqe | hqe | hqe | hqe <;> subst hqe <;> subst hi <;> clear hlt
        · refine wpOp_step rfl (fun K hK => ?_)
          simp only [CaF, slQ, ↓reduceIte, Nat.reduceLeDiff]
          go_simp
          refine (c2.out _).mono ?_
          rintro e W1 ⟨rfl, rfl⟩
          try dsimp only
          refine hK _ _ ?_
          clear hK K
          exact ⟨⟨p, by omega⟩, ⟨1, by omega⟩, al, false, B1, B2, X, F, (by intro h; first | cases h | omega), rfl, rfl, hb, (fun h => (f1 (by first | omega | (dsimp only at h; omega)))), (fun h => (f2 (by first | omega | (dsimp only at h; omega)))), (fun h => ⟨(f3 (by first | omega | (dsimp only at h; omega))).1, (f3 (by dsimp only at h; omega)).2⟩), (fun h => ⟨(f4 h).1, (f4 h).2⟩)⟩
        · refine wpOp_step rfl (fun K hK => ?_)
          simp only [CaF, slQ, Nat.le_refl, ↓reduceIte, Nat.reduceLeDiff]
          go_simp
          refine hK _ _ ?_
          clear hK K
          exact ⟨⟨p, by omega⟩, ⟨2, by omega⟩, al, false, B1, B2, X, F, (by intro h; first | cases h | omega), rfl, rfl, hb, (fun h => (f1 (by first | omega | (dsimp only at h; omega)))), (fun h => (f2 (by first | omega | (dsimp only at h; omega)))), (fun h => ⟨(f3 (by first | omega | (dsimp only at h; omega))).1, (f3 (by dsimp only at h; omega)).2⟩), (fun h => ⟨(f4 h).1, (f4 h).2⟩)⟩
        · refine wpOp_step rfl (fun K hK => ?_)
          simp only [CaF, slQ, Nat.le_refl, ↓reduceIte, Nat.reduceLeDiff]
          go_simp
          refine hK _ _ ?_
          clear hK K
          exact ⟨⟨p, by omega⟩, ⟨3, by omega⟩, al, false, B1, B2, X, F, (by intro h; first | cases h | omega), rfl, rfl, hb, (fun h => (f1 (by first | omega | (dsimp only at h; omega)))), (fun h => (f2 (by first | omega | (dsimp only at h; omega)))), (fun h => ⟨(f3 (by first | omega | (dsimp only at h; omega))).1, (f3 (by dsimp only at h; omega)).2⟩), (fun h => ⟨(f4 h).1, (f4 h).2⟩)⟩
        · refine wpOp_step rfl (fun K hK => ?_)
          simp only [CaF, slQ, Nat.le_refl, ↓reduceIte, Nat.reduceLeDiff]
          go_simp
          refine hK _ _ ?_
          clear hK K
          exact ⟨⟨p, by omega⟩, ⟨4, by omega⟩, al, false, B1, V.heap.size, X, F, (by intro h; first | cases h | omega), rfl, rfl, (hb.alloc hb.size _), (fun h => (f1 (by first | omega | (dsimp only at h; omega))).alloc _), (fun h => Blk.new V _ _), (fun h => ⟨(f3 (by first | omega | (dsimp only at h; omega))).1.alloc _, (f3 (by dsimp only at h; omega)).2⟩), (fun h => ⟨(f4 h).1.alloc _, (f4 h).2⟩)⟩
        · refine wpOp_step rfl (fun K hK => ?_)
          have cv := CV2.out V B2 (f2 (by omega))
          simp only [CaF, slQ, Nat.le_refl, ↓reduceIte, Nat.reduceLeDiff]
          go_simp
          refine hK _ _ ?_
          clear hK K
          exact ⟨⟨p, by omega⟩, ⟨5, by omega⟩, al, false, B1, B2, X, F, (by intro h; first | cases h | omega), rfl, rfl, hb, (fun h => (f1 (by first | omega | (dsimp only at h; omega)))), (fun h => (f2 (by first | omega | (dsimp only at h; omega)))), (fun h => ⟨(f3 (by first | omega | (dsimp only at h; omega))).1, (f3 (by dsimp only at h; omega)).2⟩), (fun h => ⟨(f4 h).1, (f4 h).2⟩)⟩
        · refine wpOp_step rfl (fun K hK => ?_)
          simp only [CaF, slQ, Nat.le_refl, ↓reduceIte, Nat.reduceLeDiff]
          go_simp
          refine hK _ _ ?_
          clear hK K
          exact ⟨⟨p, by omega⟩, ⟨6, by omega⟩, al, false, B1, B2, X, F, (by intro h; first | cases h | omega), rfl, rfl, hb, (fun h => (f1 (by first | omega | (dsimp only at h; omega)))), (fun h => (f2 (by first | omega | (dsimp only at h; omega)))), (fun h => ⟨(f3 (by first | omega | (dsimp only at h; omega))).1, (f3 (by dsimp only at h; omega)).2⟩), (fun h => ⟨(f4 h).1, (f4 h).2⟩)⟩
        · refine wpOp_step rfl (fun K hK => ?_)
          simp only [CaF, slQ, Nat.le_refl, ↓reduceIte, Nat.reduceLeDiff]
          go_simp
          refine hK _ _ ?_
          clear hK K
          exact ⟨⟨p, by omega⟩, ⟨7, by omega⟩, al, false, B1, B2, V.heap.size, F, (by intro h; first | cases h | omega), rfl, rfl, (hb.alloc hb.size _), (fun h => (f1 (by first | omega | (dsimp only at h; omega))).alloc _), (fun h => (f2 (by first | omega | (dsimp only at h; omega))).alloc _), (fun h => ⟨Blk.new V _ _, hb.size⟩), (fun h => ⟨(f4 h).1.alloc _, (f4 h).2⟩)⟩
      · subst hp5 hq7
        refine wpOp_step rfl (fun K hK => ?_)
        simp only [CaF, slP, slQ, slB, Nat.le_refl, ↓reduceIte, Nat.reduceLeDiff]
        go_simp
        refine hK _ _ ?_
        clear hK K
        exact ⟨5, 7, al, true, B1, B2, X, F, (fun _ => ⟨rfl, rfl⟩), rfl, rfl, hb, f1, f2, f3, f4⟩
      · refine wpOp_step rfl (fun K hK => ?_)
        simp only [CaF]
        go_simp
        refine hK _ _ ?_
        clear hK K
        exact ⟨⟨p, hp⟩, ⟨q, hq⟩, true, u, B1, B2, X, V.heap.size, hu, rfl, rfl, hb.alloc hb.size _, (fun h => (f1 h).alloc _), (fun h => (f2 h).alloc _), (fun h => ⟨(f3 h).1.alloc _, (f3 h).2⟩), fun _ => ⟨Blk.new V _ _, hb.size⟩⟩
  case rest =>
    obtain ⟨F, X, rfl, HC⟩ := hcut
    have FIN := Lib.hid (And.intro HC.out HR.out)
    have fR := HR.out.1.below HC.out.2.2.2.2 HR.out.2.2.2
    have fF := HC.out.2.2.1
    have hFR : F ≠ R := fun e => by have := HC.out.1; have := HR.out.2.2.2; omega
    have e0 := fF.cell 0
    have s0 := fR.cell 0
    have k0 := fR.frozen 0
    have m0 := fF.frozen 0
    have e1 := fF.cell 1
    have s1 := fR.cell 1
    have k1 := fR.frozen 1
    have m1 := fF.frozen 1
    have e2 := fF.cell 2
    have s2 := fR.cell 2
    have k2 := fR.frozen 2
    have m2 := fF.frozen 2
    have e3 := fF.cell 3
    have s3 := fR.cell 3
    have k3 := fR.frozen 3
    have m3 := fF.frozen 3
    have e4 := fF.cell 4
    have s4 := fR.cell 4
    have k4 := fR.frozen 4
    have m4 := fF.frozen 4
    have e5 := fF.cell 5
    have s5 := fR.cell 5
    have k5 := fR.frozen 5
    have m5 := fF.frozen 5
    have e6 := fF.cell 6
    have s6 := fR.cell 6
    have k6 := fR.frozen 6
    have m6 := fF.frozen 6
    have e7 := fF.cell 7
    have s7 := fR.cell 7
    have k7 := fR.frozen 7
    have m7 := fF.frozen 7
    simp only [List.getElem?_cons_zero, List.getElem?_cons_succ] at e0 e1 e2 e3 e4 e5 e6 e7 s0 s1 s2 s3 s4 s5 s6 s7
    have lF := fF.lt
    have lR := fR.lt
    clear fF fR HC HR CV1 CV2 c1 c2 hw1 hw2 hv1 hv2 hvq h3 h4
    by_cases h5 : n.tmod 5 = 0
    · have HB := Lib.hid (show bodyF n = none from by unfold bodyF; rw [if_pos h5])
      go_wp2_with (fail)
      obtain ⟨⟨g1, g2, g3, g4, g5⟩, q1, q2, q3, q4⟩ := FIN.out
      have b1 := q1.below g5 q4
      have b2 := ((((((((b1).far (p := ⟨F, 0, none⟩) hFR.symm (.int .i64 12)).far (p := ⟨F, 1, none⟩) hFR.symm (.int .i64 0)).far (p := ⟨F, 2, none⟩) hFR.symm (.string ⟨#[75]⟩)).far (p := ⟨F, 3, none⟩) hFR.symm (.slice none 0 0)).far (p := ⟨F, 4, none⟩) hFR.symm (.slice none 0 0)).far (p := ⟨F, 5, none⟩) hFR.symm (.slice none 0 0)).far (p := ⟨F, 6, none⟩) hFR.symm (.slice none 0 0)).far (p := ⟨F, 7, none⟩) hFR.symm (.int .i64 0)
      have b3 := ((((((((b2).put 0 (.int .i64 12)).put 1 (.int .i64 0)).put 2 (.string ⟨#[75]⟩)).put 3 (.slice none 0 0)).put 4 (.slice none 0 0)).put 5 (.slice none 0 0)).put 6 (.slice none 0 0)).put 7 (.int .i64 0)
      have hb := ((((((((((((((((q2.trans (g5.mono q2.size)).setCell (p := ⟨F, 0, none⟩) (Nat.le_trans q2.size g1) (.int .i64 12)).setCell (p := ⟨F, 1, none⟩) (Nat.le_trans q2.size g1) (.int .i64 0)).setCell (p := ⟨F, 2, none⟩) (Nat.le_trans q2.size g1) (.string ⟨#[75]⟩)).setCell (p := ⟨F, 3, none⟩) (Nat.le_trans q2.size g1) (.slice none 0 0)).setCell (p := ⟨F, 4, none⟩) (Nat.le_trans q2.size g1) (.slice none 0 0)).setCell (p := ⟨F, 5, none⟩) (Nat.le_trans q2.size g1) (.slice none 0 0)).setCell (p := ⟨F, 6, none⟩) (Nat.le_trans q2.size g1) (.slice none 0 0)).setCell (p := ⟨F, 7, none⟩) (Nat.le_trans q2.size g1) (.int .i64 0)).setCell (p := ⟨R, 0, none⟩) (Nat.le_of_eq q3.symm) (.int .i64 12)).setCell (p := ⟨R, 1, none⟩) (Nat.le_of_eq q3.symm) (.int .i64 0)).setCell (p := ⟨R, 2, none⟩) (Nat.le_of_eq q3.symm) (.string ⟨#[75]⟩)).setCell (p := ⟨R, 3, none⟩) (Nat.le_of_eq q3.symm) (.slice none 0 0)).setCell (p := ⟨R, 4, none⟩) (Nat.le_of_eq q3.symm) (.slice none 0 0)).setCell (p := ⟨R, 5, none⟩) (Nat.le_of_eq q3.symm) (.slice none 0 0)).setCell (p := ⟨R, 6, none⟩) (Nat.le_of_eq q3.symm) (.slice none 0 0)).setCell (p := ⟨R, 7, none⟩) (Nat.le_of_eq q3.symm) (.int .i64 0)
      refine ret_blk rfl rfl b3 Tryd.underlying40 (by kernel_rfl) rfl ?_
      exact ⟨_, rfl, by rw [HB.out]; exact .inl ⟨rfl, rfl⟩, hb⟩
    · have HB := Lib.hid (show bodyF n = some (l1, l2) from by unfold bodyF; rw [if_neg h5, HL.out.1, HL.out.2])
      go_wp2_with (fail)
      obtain ⟨⟨g1, g2, g3, g4, g5⟩, q1, q2, q3, q4⟩ := FIN.out
      have b1 := q1.below g5 q4
      have b3 := ((((((((b1).put 0 (.int .i64 9)).put 1 (.int .i64 0)).put 2 (bst [l1])).put 3 (.slice none 0 0)).put 4 (.slice none 0 0)).put 5 (.slice (some ⟨X, 0, none⟩) 1 1)).put 6 (.slice none 0 0)).put 7 (.int .i64 0)
      have hXR : X ≠ R := fun e => by omega
      have b4 := ((((((((g4).far (p := ⟨R, 0, none⟩) hXR (.int .i64 9)).far (p := ⟨R, 1, none⟩) hXR (.int .i64 0)).far (p := ⟨R, 2, none⟩) hXR (bst [l1])).far (p := ⟨R, 3, none⟩) hXR (.slice none 0 0)).far (p := ⟨R, 4, none⟩) hXR (.slice none 0 0)).far (p := ⟨R, 5, none⟩) hXR (.slice (some ⟨X, 0, none⟩) 1 1)).far (p := ⟨R, 6, none⟩) hXR (.slice none 0 0)).far (p := ⟨R, 7, none⟩) hXR (.int .i64 0)
      have hb := ((((((((q2.trans (g5.mono q2.size)).setCell (p := ⟨R, 0, none⟩) (Nat.le_of_eq q3.symm) (.int .i64 9)).setCell (p := ⟨R, 1, none⟩) (Nat.le_of_eq q3.symm) (.int .i64 0)).setCell (p := ⟨R, 2, none⟩) (Nat.le_of_eq q3.symm) (bst [l1])).setCell (p := ⟨R, 3, none⟩) (Nat.le_of_eq q3.symm) (.slice none 0 0)).setCell (p := ⟨R, 4, none⟩) (Nat.le_of_eq q3.symm) (.slice none 0 0)).setCell (p := ⟨R, 5, none⟩) (Nat.le_of_eq q3.symm) (.slice (some ⟨X, 0, none⟩) 1 1)).setCell (p := ⟨R, 6, none⟩) (Nat.le_of_eq q3.symm) (.slice none 0 0)).setCell (p := ⟨R, 7, none⟩) (Nat.le_of_eq q3.symm) (.int .i64 0)
      refine ret_blk rfl rfl b3 Tryd.underlying40 (by kernel_rfl) rfl ?_
      exact ⟨_, rfl, by rw [HB.out]; exact .inr ⟨l1, l2, some ⟨X, 0, none⟩, 1, rfl, rfl, Nat.le_refl _, by unfold maxLen; omega, rfl, fun _ => ⟨X, 0, rfl, by omega, fun i u hu => by rw [Nat.zero_add]; exact (b4.cell i).trans hu⟩⟩, hb⟩
end Go.Proofs.YtaealapgebbnlaaDoor
